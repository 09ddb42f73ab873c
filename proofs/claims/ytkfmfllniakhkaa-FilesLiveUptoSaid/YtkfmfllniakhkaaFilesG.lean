/- The program's disk: each method is the document's step. -/
import Derived.Test.YtkfmfllniakhkaaDkM
namespace Go.Proofs.Ytkfmfllniakhkaa
open Go.RowKit Go.Maps Go.Sort
set_option linter.unusedVariables false

section
variable {w w' : World} {S S' : Nat → Prop} {bd bm : Nat} {room short fuse room' short' fuse' : Int} {cs : List Fc} {D : Dk}

theorem DiskOk.fris (h : DiskOk w S bd bm room short fuse cs) : (cs.map Fc.fl).Pairwise (fun a b => a.name < b.name) := by
  rw [List.pairwise_map]
  exact h.ris
theorem at_none (h : DiskOk w S bd bm room short fuse cs) {nm : Nm} (hf : fnd (cs.map Fc.fl) nm = none) : (datS Fc.name Fc.ptr cs).atKey (.string nm) (.held (.pointer none)) = .held (.pointer none) :=
  datS_miss (fun c hc => fnd_none hf c.fl (List.mem_map_of_mem hc)) _
theorem at_some (h : DiskOk w S bd bm room short fuse cs) {nm : Nm} {f : Fl} (hf : fnd (cs.map Fc.fl) nm = some f) : ∃ c ∈ cs, c.fl = f ∧ c.name = nm ∧ (datS Fc.name Fc.ptr cs).atKey (.string nm) (.held (.pointer none)) = .held (.pointer (some ⟨c.blk, 0, none⟩)) := by
  obtain ⟨h1, h2⟩ := fnd_some hf
  obtain ⟨c, hc, rfl⟩ := List.mem_map.1 h1
  have hn : c.name = nm := h2
  exact ⟨c, hc, rfl, hn, by rw [← hn]; exact datS_hit h.ris hc _⟩

/-- one file of the disk has turned, in its block -/
theorem DiskOk.one (h : DiskOk w S bd bm room short fuse cs) {c c' : Fc} (hc : c ∈ cs) (hn : c'.name = c.name) (hb : c'.blk = c.blk) (ho : c'.row.ownBlock = c.row.ownBlock) (hdr' : Hd w' bd bm room' short' fuse')
    (hb' : Blk w' c.blk 49 #[c'.row, .int .i64 (c'.s : Int)]) (hr' : Row w' 0 5 1 c'.row c'.b.length (u8s c'.b)) (m : Mods (fun i => i = bd ∨ i = c.blk) w w') :
    DiskOk w' S bd bm room' short' fuse' (putS Fc.name c' cs) := by
  obtain ⟨n1, n2, n3, n4, n5, n6⟩ := h.ne hc hc
  have hd : datS Fc.name Fc.ptr (putS Fc.name c' cs) = datS Fc.name Fc.ptr cs := by
    rw [putS_turn (key := Fc.name) h.ris (x := c') hc hn.symm]
    refine datS_map (fun d => ?_) (fun d hd => ?_)
    · split
      · rename_i e; exact e.symm
      · rfl
    · split
      · rename_i e
        obtain rfl : d = c := keyS_inj h.ris hd hc (e.trans hn)
        unfold Fc.ptr
        rw [hb]
      · rfl
  refine h.put (w' := w') (S' := S) c' hdr' (k := cs.length) (by rw [hd]; exact map_mods h.map m (fun e => e.elim n6 n3)) ⟨hb ▸ hb', hr'⟩ ?_ ⟨h.ownd.1, h.ownd.2.1, hb ▸ (h.ownd.2.2 c hc).1, fun g hg => (h.ownd.2.2 c hc).2 g (ho ▸ hg), fun _ h => h⟩
  intro d hd hne
  rw [hn] at hne
  obtain ⟨q1, q2⟩ := h.apart hc hd hne
  obtain ⟨m1, m2, m3, m4, m5, m6⟩ := h.ne hc hd
  obtain ⟨_, k2, _, k4, _, _⟩ := h.ne hd hd
  exact ⟨⟨(h.con d hd).1.mods m (fun e => e.elim (fun e => k2 e.symm) q1), (h.con d hd).2.mods m (fun g hg e => e.elim (fun e => k4 (by rw [hg, e])) (fun e => m1 (by rw [hg, e])))⟩, hb ▸ q1, fun g hg => ho ▸ q2 g hg⟩

/-- a file has gone -/
theorem DiskOk.drop (h : DiskOk w S bd bm room short fuse cs) (nm : Nm) (hdr' : Hd w' bd bm room' short' fuse') {k : Nat} (hm : w'.ownsMap Try.prog 9 hld bm k ((datS Fc.name Fc.ptr cs).del (.string nm))) (m : Mods (fun i => i = bd ∨ i = bm) w w') :
    DiskOk w' S bd bm room' short' fuse' (cs.filter fun d => decide (d.name ≠ nm)) where
  hdr := hdr'
  map := by
    rw [datS_del] at hm
    have := own_size hm
    rwa [datS_size] at this
  con := fun d hd => by
    have hd := (List.mem_filter.1 hd).1
    obtain ⟨n1, n2, n3, n4, n5, n6⟩ := h.ne hd hd
    exact ⟨(h.con d hd).1.mods m (fun e => e.elim (fun e => n2 e.symm) (fun e => n3 e.symm)), (h.con d hd).2.mods m (fun g hg e => e.elim (fun e => n4 (by rw [hg, e])) (fun e => n5 (by rw [hg, e])))⟩
  ris := h.ris.sublist List.filter_sublist
  sep := h.sep.sublist List.filter_sublist
  ownd := ⟨h.ownd.1, h.ownd.2.1, fun d hd => h.ownd.2.2 d (List.mem_filter.1 hd).1⟩

/-- a file has another name -/
theorem DiskOk.move (h : DiskOk w S bd bm room short fuse cs) {c : Fc} (hc : c ∈ cs) (to : Nm) (hdr' : Hd w' bd bm room' short' fuse') {k : Nat} (hm : w'.ownsMap Try.prog 9 hld bm k (((datS Fc.name Fc.ptr cs).del (.string c.name)).put (.string to) (.held c.ptr))) (m : Mods (fun i => i = bd ∨ i = bm) w w') :
    DiskOk w' S bd bm room' short' fuse' (putS Fc.name ⟨to, c.b, c.s, c.blk, c.A, c.cap⟩ (cs.filter fun d => decide (d.name ≠ c.name))) := by
  have hput := datS_put (key := Fc.name) (val := Fc.ptr) (cs.filter fun d => decide (d.name ≠ c.name)) ⟨to, c.b, c.s, c.blk, c.A, c.cap⟩
  have hr := ris_putS (key := Fc.name) (x := ⟨to, c.b, c.s, c.blk, c.A, c.cap⟩) (ris_sub h.ris fun d => decide (d.name ≠ c.name))
  have hcon : ∀ d ∈ cs, Blk w' d.blk 49 #[d.row, .int .i64 (d.s : Int)] ∧ Row w' 0 5 1 d.row d.b.length (u8s d.b) := fun d hd => by
    obtain ⟨n1, n2, n3, n4, n5, n6⟩ := h.ne hd hd
    exact ⟨(h.con d hd).1.mods m (fun e => e.elim (fun e => n2 e.symm) (fun e => n3 e.symm)), (h.con d hd).2.mods m (fun g hg e => e.elim (fun e => n4 (by rw [hg, e])) (fun e => n5 (by rw [hg, e])))⟩
  have hmf : ∀ d, d ∈ cs.filter (fun d => decide (d.name ≠ c.name)) → d ∈ cs ∧ d.name ≠ c.name := fun d hd => by simpa using List.mem_filter.1 hd
  refine ⟨hdr', ?_, ?_, hr, ?_, h.ownd.1, h.ownd.2.1, ?_⟩
  · rw [datS_del] at hm
    have := own_size (by rw [← hput]; exact hm : w'.ownsMap Try.prog 9 hld bm k (datS Fc.name Fc.ptr (putS Fc.name ⟨to, c.b, c.s, c.blk, c.A, c.cap⟩ (cs.filter fun d => decide (d.name ≠ c.name)))))
    rwa [datS_size] at this
  · intro d hd
    rcases mem_putS.1 hd with rfl | ⟨hd, _⟩
    · exact hcon c hc
    · exact hcon d (hmf d hd).1
  · have hmem : ∀ x ∈ putS Fc.name ⟨to, c.b, c.s, c.blk, c.A, c.cap⟩ (cs.filter fun d => decide (d.name ≠ c.name)), ∀ y ∈ putS Fc.name ⟨to, c.b, c.s, c.blk, c.A, c.cap⟩ (cs.filter fun d => decide (d.name ≠ c.name)), x.name ≠ y.name → x.blk ≠ y.blk ∧ ∀ g, x.row.ownBlock = some g → y.row.ownBlock ≠ some g := by
      intro x hx y hy hne
      rcases mem_putS.1 hx with ex | ⟨hx, hxn⟩
      · rcases mem_putS.1 hy with ey | ⟨hy, hyn⟩
        · exact absurd (by rw [ex, ey]) hne
        · obtain ⟨h1, h2⟩ := h.apart hc (hmf y hy).1 (hmf y hy).2
          subst ex
          exact ⟨fun e => h1 e.symm, fun g hg hg' => h2 g hg' hg⟩
      · rcases mem_putS.1 hy with ey | ⟨hy, hyn⟩
        · have := h.apart (c := c) hc (hmf x hx).1 (hmf x hx).2
          rw [ey]; exact this
        · exact h.apart (hmf y hy).1 (hmf x hx).1 hne
    exact (List.Pairwise.and_mem.1 hr).imp fun {a b} ⟨ha, hb, hlt⟩ => hmem a ha b hb (fun e => by rw [e] at hlt; exact nm_irrefl _ hlt)
  · intro d hd
    rcases mem_putS.1 hd with rfl | ⟨hd, _⟩
    · exact h.ownd.2.2 c hc
    · exact h.ownd.2.2 d (hmf d hd).1

theorem DiskAt.same (h : DiskAt w S bd D) (hb : Below w.heap.size w w') : DiskAt w' (ext S w w') bd D := (h.below hb).more fun _ h => .inl h

theorem disk_sync (h : DiskAt w S bd D) (hD : DkOk D) {s : ByteArray} (hs : s.size ≤ maxLen) : Calls Try.prog 15 #[.pointer (some ⟨bd, 0, none⟩), .string s] w (StepPost S w bd (mSync D s.data.toList)) := by
  obtain ⟨l, room, short, fuse⟩ := D
  obtain ⟨bm, cs, h, rfl⟩ := h
  have hfu := hD.fuse
  dsimp only at h hfu
  unfold mSync
  dsimp only
  by_cases hf : fuse = 0
  · subst hf
    rw [if_pos rfl]
    refine (sync_dead bd bm room short w s h.hdr).mono ?_
    rintro e w' ⟨rfl, rfl⟩
    exact ⟨rfl, ⟨bm, cs, h.more fun _ h => .inl h, rfl⟩, Mods.refl _ _⟩
  · rw [if_neg hf]
    cases hfd : fnd (cs.map Fc.fl) s.data.toList with
    | none =>
      refine (sync_no bd bm _ room short fuse _ w s h.hdr h.map hs (at_none h hfd) hf hfu.1 hfu.2).mono ?_
      rintro e w' ⟨rfl, hh, hm⟩
      exact ⟨rfl, ⟨bm, cs, (h.head hh hm).more fun _ h => .inl h, rfl⟩, hm.mono fun i _ e => e ▸ h.ownd.1⟩
    | some f =>
      obtain ⟨c, hc, rfl, hcn, hat⟩ := at_some h hfd
      refine (sync_yes bd bm _ room short fuse _ w s c.blk c.b.length c.cap c.A c.s h.hdr h.map hs hat hf hfu.1 hfu.2 (h.con c hc).1).mono ?_
      rintro e w' ⟨rfl, hh, hb, hm⟩
      obtain ⟨n1, n2, n3, n4, n5, n6⟩ := h.ne hc hc
      refine ⟨rfl, ⟨bm, _, (h.one (c' := ⟨c.name, c.b, c.b.length, c.blk, c.A, c.cap⟩) hc rfl rfl rfl hh hb ((h.con c hc).2.mods hm (fun g hg e => e.elim (fun e => n4 (by rw [hg, e])) (fun e => n1 (by rw [hg, e])))) hm).more fun _ h => .inl h, ?_⟩, hm.mono fun i _ e => e.elim (fun e => e ▸ h.ownd.1) (fun e => e ▸ (h.ownd.2.2 c hc).1)⟩
      exact putS_mapf (key := Fc.name) (key' := Fl.name) Fc.fl (fun _ => rfl) _ cs

theorem disk_cut (h : DiskAt w S bd D) (hD : DkOk D) {s : ByteArray} (hs : s.size ≤ maxLen) (n : Int) : Calls Try.prog 17 #[.pointer (some ⟨bd, 0, none⟩), .string s, .int .i64 n] w (StepPost S w bd (mCut D s.data.toList n)) := by
  obtain ⟨l, room, short, fuse⟩ := D
  obtain ⟨bm, cs, h, rfl⟩ := h
  have hfu := hD.fuse
  dsimp only at h hfu
  unfold mCut
  dsimp only
  have hsame : ∀ (r : Int) e w', (e = .returned (.int .i64 r) ∧ w' = w) → StepPost S w bd (⟨cs.map Fc.fl, room, short, fuse⟩, r) e w' := by
    rintro r e w' ⟨rfl, rfl⟩
    exact ⟨rfl, ⟨bm, cs, h.more fun _ h => .inl h, rfl⟩, Mods.refl _ _⟩
  by_cases hn : n < 0
  · rw [if_pos hn]
    cases hfd : fnd (cs.map Fc.fl) s.data.toList with
    | none => exact (cut_neg bd bm _ room short fuse _ w s n none h.hdr h.map hs (at_none h hfd) hn).mono (hsame _)
    | some f =>
      obtain ⟨c, hc, rfl, hcn, hat⟩ := at_some h hfd
      exact (cut_neg bd bm _ room short fuse _ w s n _ h.hdr h.map hs hat hn).mono (hsame _)
  · rw [if_neg hn]
    obtain ⟨k, rfl⟩ : ∃ k : Nat, n = (k : Int) := ⟨n.toNat, by omega⟩
    cases hfd : fnd (cs.map Fc.fl) s.data.toList with
    | none =>
      have ht : tooLong (cs.map Fc.fl) s.data.toList (k : Int) = false := by unfold tooLong; rw [hfd]
      rw [if_neg (by rw [ht]; decide)]
      by_cases hf : fuse = 0
      · subst hf
        rw [if_pos rfl]
        exact (cut_dead_no bd bm _ room short _ w s k h.hdr h.map hs (at_none h hfd)).mono (hsame _)
      · rw [if_neg hf]
        refine (cut_no bd bm _ room short fuse _ w s k h.hdr h.map hs (at_none h hfd) hf hfu.1 hfu.2).mono ?_
        rintro e w' ⟨rfl, hh, hm⟩
        exact ⟨rfl, ⟨bm, cs, (h.head hh hm).more fun _ h => .inl h, rfl⟩, hm.mono fun i _ e => e ▸ h.ownd.1⟩
    | some f =>
      obtain ⟨c, hc, rfl, hcn, hat⟩ := at_some h hfd
      by_cases hk : (c.b.length : Int) < k
      · have ht : tooLong (cs.map Fc.fl) s.data.toList (k : Int) = true := by unfold tooLong; rw [hfd]; exact decide_eq_true hk
        rw [if_pos ht]
        exact (cut_long bd bm _ room short fuse _ w s k c.blk c.b.length c.cap c.A _ h.hdr h.map hs hat (h.con c hc).1 hk).mono (hsame _)
      · have ht : tooLong (cs.map Fc.fl) s.data.toList (k : Int) = false := by unfold tooLong; rw [hfd]; exact decide_eq_false hk
        rw [if_neg (by rw [ht]; decide)]
        have hkl : k ≤ c.b.length := by omega
        by_cases hf : fuse = 0
        · subst hf
          rw [if_pos rfl]
          exact (cut_dead bd bm _ room short _ w s k c.blk c.b.length c.cap c.A _ h.hdr h.map hs hat (h.con c hc).1 hkl).mono (hsame _)
        · rw [if_neg hf]
          obtain ⟨_, hcap, hcapm⟩ := (h.con c hc).2.cap
          have hA : c.A = none → c.cap = 0 := by
            intro e
            rcases (h.con c hc).2.2 with ⟨h1, _⟩ | ⟨g, cap, cur, h1, _⟩
            · unfold Fc.row at h1; injection h1
            · unfold Fc.row at h1; injection h1 with h1; rw [e] at h1; cases h1
          refine (cut_yes bd bm _ room short fuse _ w s k c.blk c.b.length c.cap c.A c.s h.hdr h.map hs hat hf hfu.1 hfu.2 (h.con c hc).1 hkl hcap (by simp only [maxLen] at hcapm; omega) hA).mono ?_
          rintro e w' ⟨rfl, hh, hb, hm⟩
          obtain ⟨n1, n2, n3, n4, n5, n6⟩ := h.ne hc hc
          have hcut := (h.con c hc).2.cut hkl
          rw [Nat.mul_one] at hcut
          have hlen : (c.b.take k).length = k := by rw [List.length_take]; omega
          have hob : (Value.slice c.A k k).ownBlock = c.row.ownBlock := by unfold Fc.row; cases c.A <;> rfl
          have hr' := hcut.mods hm (fun g hg e => e.elim (fun e => n4 (by rw [← hob, hg, e])) (fun e => n1 (by rw [← hob, hg, e])))
          have hrow : Fc.row ⟨c.name, c.b.take k, min c.s k, c.blk, c.A, k⟩ = .slice c.A k k := by unfold Fc.row; simp only [hlen]
          have hmin : ((min c.s k : Nat) : Int) = min (c.s : Int) (k : Int) := by omega
          have hb' : Blk w' c.blk 49 #[Fc.row ⟨c.name, c.b.take k, min c.s k, c.blk, c.A, k⟩, .int .i64 ((min c.s k : Nat) : Int)] := by rw [hrow, hmin]; exact hb
          have hr'' : Row w' 0 5 1 (Fc.row ⟨c.name, c.b.take k, min c.s k, c.blk, c.A, k⟩) (c.b.take k).length (u8s (c.b.take k)) := by rw [hrow, hlen]; simpa [u8s, List.map_take] using hr'
          refine ⟨rfl, ⟨bm, _, (h.one (c' := ⟨c.name, c.b.take k, min c.s k, c.blk, c.A, k⟩) hc rfl rfl (by rw [hrow, hob]) hh hb' hr'' hm).more fun _ h => .inl h, ?_⟩, hm.mono fun i _ e => e.elim (fun e => e ▸ h.ownd.1) (fun e => e ▸ (h.ownd.2.2 c hc).1)⟩
          exact putS_mapf (key := Fc.name) (key' := Fl.name) Fc.fl (fun _ => rfl) _ cs

theorem disk_remove (h : DiskAt w S bd D) (hD : DkOk D) {s : ByteArray} (hs : s.size ≤ maxLen) : Calls Try.prog 21 #[.pointer (some ⟨bd, 0, none⟩), .string s] w (StepPost S w bd (mRemove D s.data.toList)) := by
  obtain ⟨l, room, short, fuse⟩ := D
  obtain ⟨bm, cs, h, rfl⟩ := h
  have hfu := hD.fuse
  dsimp only at h hfu
  unfold mRemove
  dsimp only
  by_cases hf : fuse = 0
  · subst hf
    rw [if_pos rfl]
    refine (remove_dead bd bm room short w s h.hdr).mono ?_
    rintro e w' ⟨rfl, rfl⟩
    exact ⟨rfl, ⟨bm, cs, h.more fun _ h => .inl h, rfl⟩, Mods.refl _ _⟩
  · rw [if_neg hf]
    cases hfd : fnd (cs.map Fc.fl) s.data.toList with
    | none =>
      refine (remove_no bd bm _ room short fuse _ w s h.hdr h.map hs (at_none h hfd) hf hfu.1 hfu.2).mono ?_
      rintro e w' ⟨rfl, hh, hm⟩
      exact ⟨rfl, ⟨bm, cs, (h.head hh hm).more fun _ h => .inl h, rfl⟩, hm.mono fun i _ e => e ▸ h.ownd.1⟩
    | some f =>
      obtain ⟨c, hc, rfl, hcn, hat⟩ := at_some h hfd
      refine (remove_yes bd bm _ room short fuse _ w s _ h.hdr h.map hs hat hf hfu.1 hfu.2).mono ?_
      rintro e w' ⟨rfl, hh, hmp, hm⟩
      refine ⟨rfl, ⟨bm, _, (h.drop s.data.toList hh hmp hm).more fun _ h => .inl h, ?_⟩, hm.mono fun i _ e => e.elim (fun e => e ▸ h.ownd.1) (fun e => e ▸ h.ownd.2.1)⟩
      rw [List.filter_map]
      rfl

theorem disk_rename (h : DiskAt w S bd D) (hD : DkOk D) (hlen : D.l.length ≤ 1000000) {s to : ByteArray} (hs : s.size ≤ maxLen) (ht : to.size ≤ maxLen) : Calls Try.prog 19 #[.pointer (some ⟨bd, 0, none⟩), .string s, .string to] w (StepPost S w bd (mRename D s.data.toList to.data.toList)) := by
  obtain ⟨l, room, short, fuse⟩ := D
  obtain ⟨bm, cs, h, rfl⟩ := h
  have hfu := hD.fuse
  dsimp only at h hfu hlen
  rw [List.length_map] at hlen
  unfold mRename
  dsimp only
  have hsame : ∀ (r : Int) e w', SamePost w r e w' → StepPost S w bd (⟨cs.map Fc.fl, room, short, fuse⟩, r) e w' := by
    rintro r e w' ⟨rfl, hb⟩
    exact ⟨rfl, ⟨bm, cs, (h.below hb).more fun _ h => .inl h, rfl⟩, (Mods.refl _ _).below hb⟩
  cases hno : nameOk to.data.toList with
  | false =>
    rw [if_pos rfl]
    exact (rename_bad bd bm room short fuse w s to h.hdr ht hno).mono (hsame _)
  | true =>
    rw [if_neg (by decide)]
    by_cases hf : fuse = 0
    · subst hf
      rw [if_pos rfl]
      exact (rename_dead bd bm room short w s to h.hdr ht hno).mono (hsame _)
    · rw [if_neg hf]
      cases hfd : fnd (cs.map Fc.fl) s.data.toList with
      | none =>
        refine (rename_no bd bm _ room short fuse _ w s to h.hdr h.map hs ht hno (at_none h hfd) hf hfu.1 hfu.2).mono ?_
        rintro e w' ⟨rfl, hh, hm⟩
        exact ⟨rfl, ⟨bm, cs, (h.head hh hm).more fun _ h => .inl h, rfl⟩, hm.mono fun i _ e => e ▸ h.ownd.1⟩
      | some f =>
        obtain ⟨c, hc, rfl, hcn, hat⟩ := at_some h hfd
        refine (rename_yes bd bm _ room short fuse _ w s to _ h.hdr h.map (by simp only [maxLen]; omega) hs ht hno hat hf hfu.1 hfu.2).mono ?_
        rintro e w' ⟨rfl, hh, hmp, hm⟩
        rw [← hcn] at hmp
        refine ⟨rfl, ⟨bm, _, (h.move hc to.data.toList hh hmp hm).more fun _ h => .inl h, ?_⟩, hm.mono fun i _ e => e.elim (fun e => e ▸ h.ownd.1) (fun e => e ▸ h.ownd.2.1)⟩
        rw [putS_mapf (key := Fc.name) (key' := Fl.name) Fc.fl (fun _ => rfl), List.filter_map, ← hcn]
        rfl

theorem disk_short (h : DiskAt w S bd D) (n : Int) : Calls Try.prog 23 #[.pointer (some ⟨bd, 0, none⟩), .int .i64 n] w (StepPost S w bd (mShort D n)) := by
  obtain ⟨bm, cs, h, hl⟩ := h
  refine (short_any bd bm D.room D.short D.fuse w n h.hdr).mono ?_
  rintro e w' ⟨rfl, hh, hm⟩
  exact ⟨rfl, ⟨bm, cs, (h.head hh hm).more fun _ h => .inl h, hl⟩, hm.mono fun i _ e => e ▸ h.ownd.1⟩
theorem disk_fuse (h : DiskAt w S bd D) (n : Int) : Calls Try.prog 27 #[.pointer (some ⟨bd, 0, none⟩), .int .i64 n] w (StepPost S w bd (mFuse D n)) := by
  obtain ⟨bm, cs, h, hl⟩ := h
  refine (fuse_any bd bm D.room D.short D.fuse w n h.hdr).mono ?_
  rintro e w' ⟨rfl, hh, hm⟩
  exact ⟨rfl, ⟨bm, cs, (h.head hh hm).more fun _ h => .inl h, hl⟩, hm.mono fun i _ e => e ▸ h.ownd.1⟩
theorem disk_room (h : DiskAt w S bd D) (n : Int) : Calls Try.prog 25 #[.pointer (some ⟨bd, 0, none⟩), .int .i64 n] w (StepPost S w bd (mRoom D n)) := by
  obtain ⟨bm, cs, h, hl⟩ := h
  refine (room_any bd bm D.room D.short D.fuse w n h.hdr).mono ?_
  rintro e w' ⟨rfl, hh, hm⟩
  exact ⟨rfl, ⟨bm, cs, (h.head hh hm).more fun _ h => .inl h, hl⟩, hm.mono fun i _ e => e ▸ h.ownd.1⟩
theorem disk_crash (h : DiskAt w S bd D) (hD : DkOk D) (hlen : D.l.length ≤ 1000000) (ts : List Tl) (hts : ts.length ≤ 1000000000) (A : Option Addr) (cap : Nat) (hr : Reads w w.heap.size 3 A ts.length (tcells ts)) (hA : 0 < ts.length → ∀ ad, A = some ad → ¬ S ad.block) :
    Calls Try.prog 30 #[.pointer (some ⟨bd, 0, none⟩), .slice A ts.length cap] w (StepPost S w bd (mCrash D ts, 0)) := by
  obtain ⟨l, room, short, fuse⟩ := D
  obtain ⟨bm, cs, h, rfl⟩ := h
  have hfl := hD.fls
  dsimp only at h hfl hlen
  rw [List.length_map] at hlen
  refine (crash_any h hlen (fun c hc => (hfl c.fl (List.mem_map_of_mem hc)).2) ts hts A cap hr hA).mono ?_
  rintro e w' ⟨rfl, ⟨cs', hd', hl'⟩, hm⟩
  exact ⟨rfl, ⟨bm, cs', hd', hl'⟩, hm⟩

end
end Go.Proofs.Ytkfmfllniakhkaa
