/- Both disks side by side; SameDisks, Spoil: walks. -/
import Derived.Test.YtkfmfllniakhkaaRefF14
import Derived.Test.YtkfmfllniakhkaaShelf
namespace Go.Proofs.Ytkfmfllniakhkaa
open Go.RowKit Go.Maps Go.Sort
set_option linter.unusedVariables false

structure DP (W w : World) (S1 S2 : Nat → Prop) (bd xd : Nat) (D1 D2 : Dk) : Prop where
  d : DiskAt w S1 bd D1
  x : RdAt w S2 xd D2
  b1 : ∀ k, S1 k → W.heap.size ≤ k ∧ k < w.heap.size
  b2 : ∀ k, S2 k → W.heap.size ≤ k ∧ k < w.heap.size
  dj : ∀ k, S1 k → ¬ S2 k
  bel : Below W.heap.size W w

section
variable {W w w' : World} {S1 S2 : Nat → Prop} {bd xd : Nat} {D1 D2 D1' D2' : Dk}

theorem DP.stepD (h : DP W w S1 S2 bd xd D1 D2) (hn : DiskAt w' (ext S1 w w') bd D1') (hm : Mods S1 w w') : DP W w' (ext S1 w w') S2 bd xd D1' D2 where
  d := hn
  x := h.x.keep hm fun k h2 h1 => h.dj k h1 h2
  b1 := fun k hk => hk.elim (fun s => ⟨(h.b1 k s).1, Nat.lt_of_lt_of_le (h.b1 k s).2 hm.size⟩) fun ⟨x, y⟩ => ⟨Nat.le_trans h.bel.size x, y⟩
  b2 := fun k hk => ⟨(h.b2 k hk).1, Nat.lt_of_lt_of_le (h.b2 k hk).2 hm.size⟩
  dj := fun k hk h2 => hk.elim (fun s => h.dj k s h2) fun ⟨x, y⟩ => by have := (h.b2 k h2).2; omega
  bel := h.bel.trans (hm.below_of (fun k s => (h.b1 k s).1) h.bel.size)
theorem DP.stepX (h : DP W w S1 S2 bd xd D1 D2) (hn : RdAt w' (ext S2 w w') xd D2') (hm : Mods S2 w w') : DP W w' S1 (ext S2 w w') bd xd D1 D2' where
  d := h.d.keep hm h.dj
  x := hn
  b2 := fun k hk => hk.elim (fun s => ⟨(h.b2 k s).1, Nat.lt_of_lt_of_le (h.b2 k s).2 hm.size⟩) fun ⟨x, y⟩ => ⟨Nat.le_trans h.bel.size x, y⟩
  b1 := fun k hk => ⟨(h.b1 k hk).1, Nat.lt_of_lt_of_le (h.b1 k hk).2 hm.size⟩
  dj := fun k hk h2 => h2.elim (fun s => h.dj k hk s) fun ⟨x, y⟩ => by have := (h.b1 k hk).2; omega
  bel := h.bel.trans (hm.below_of (fun k s => (h.b2 k s).1) h.bel.size)
theorem DP.below (h : DP W w S1 S2 bd xd D1 D2) (hb : Below w.heap.size w w') : DP W w' S1 S2 bd xd D1 D2 where
  d := h.d.below hb
  x := h.x.below hb
  b1 := fun k hk => ⟨(h.b1 k hk).1, Nat.lt_of_lt_of_le (h.b1 k hk).2 hb.size⟩
  b2 := fun k hk => ⟨(h.b2 k hk).1, Nat.lt_of_lt_of_le (h.b2 k hk).2 hb.size⟩
  dj := h.dj
  bel := h.bel.trans (hb.mono h.bel.size)
theorem DP.alloc (h : DP W w S1 S2 bd xd D1 D2) (o : Obj) : DP W (w.alloc o) S1 S2 bd xd D1 D2 := h.below ((Below.refl _ _).alloc (Nat.le_refl _) _)
theorem DP.drew (h : DP W w S1 S2 bd xd D1 D2) : DP W w.drew S1 S2 bd xd D1 D2 := h.below ((Below.refl _ _).drew)
theorem DP.drewN (h : DP W w S1 S2 bd xd D1 D2) (n : Nat) : DP W (w.drewN n) S1 S2 bd xd D1 D2 := h.below (below_drewN (Below.refl _ _) n)
theorem DP.keep {T : Nat → Prop} (h : DP W w S1 S2 bd xd D1 D2) (m : Mods T w w') (hd : ∀ k, S1 k ∨ S2 k → ¬ T k) (hT : ∀ k, T k → W.heap.size ≤ k) : DP W w' S1 S2 bd xd D1 D2 where
  d := h.d.keep m fun k hk => hd k (.inl hk)
  x := h.x.keep m fun k hk => hd k (.inr hk)
  b1 := fun k hk => ⟨(h.b1 k hk).1, Nat.lt_of_lt_of_le (h.b1 k hk).2 m.size⟩
  b2 := fun k hk => ⟨(h.b2 k hk).1, Nat.lt_of_lt_of_le (h.b2 k hk).2 m.size⟩
  dj := h.dj
  bel := h.bel.trans (m.below_of hT h.bel.size)
/-- a block of the call's own that is neither's -/
theorem DP.blkD {g : Nat} {t : TypeId} {cs : Array Value} (h : DP W w S1 S2 bd xd D1 D2) (hb : Blk w g t cs) (hg : ¬ S1 g) (hm : Mods S1 w w') : Blk w' g t cs ∧ ¬ ext S1 w w' g :=
  ⟨hb.mods hm hg, fun e => e.elim hg fun ⟨x, _⟩ => by have := hb.lt; omega⟩
theorem DP.blkX {g : Nat} {t : TypeId} {cs : Array Value} (h : DP W w S1 S2 bd xd D1 D2) (hb : Blk w g t cs) (hg : ¬ S2 g) (hm : Mods S2 w w') : Blk w' g t cs ∧ ¬ ext S2 w w' g :=
  ⟨hb.mods hm hg, fun e => e.elim hg fun ⟨x, _⟩ => by have := hb.lt; omega⟩
theorem DP.fresh (h : DP W w S1 S2 bd xd D1 D2) {k : Nat} (hk : w.heap.size ≤ k) : ¬ S1 k ∧ ¬ S2 k := ⟨fun e => by have := (h.b1 k e).2; omega, fun e => by have := (h.b2 k e).2; omega⟩
theorem DP.old (h : DP W w S1 S2 bd xd D1 D2) {k : Nat} (hk : k < W.heap.size) : ¬ S1 k ∧ ¬ S2 k := ⟨fun e => by have := (h.b1 k e).1; omega, fun e => by have := (h.b2 k e).1; omega⟩
end

/-! rows that are equal -/
theorem add_at (g j : Nat) : (⟨g, 0, none⟩ : Addr).add j = ⟨g, j, none⟩ := by unfold Addr.add; by_cases h : j = 0 <;> simp [h]
theorem Row.bytesIn {w : World} {b : Nat} {A : Option Addr} {n c : Nat} {l : List UInt8} (h : Row w b 5 1 (.slice A n c) n (u8s l)) : Lib.BytesIn w A n (u8i l) := by
  intro h0
  obtain ⟨g, rfl⟩ := h.some_ h0
  have c1 := h.cells (g := g) rfl
  have hl : l.length = n := by have := h.1; simp [u8s_length] at this; exact this
  refine ⟨g, 0, rfl, fun i hi => ?_⟩
  have := c1 i _ (u8s_getD l i (by omega))
  rw [add_at] at this
  simpa using this
theorem equal_bytes {w : World} {b b' : Nat} {A A' : Option Addr} {n n' c c' : Nat} (l : List UInt8) (h1 : Row w b 5 1 (.slice A n c) n (u8s l)) (h2 : Row w b' 5 1 (.slice A' n' c') n' (u8s l)) :
    Calls Try.prog 38 #[.slice A n c, .slice A' n' c'] w fun e w' => e = .returned (.bool true) ∧ w' = w := by
  have l1 : n = l.length := by have := h1.1; simp [u8s_length] at this; exact this.symm
  have l2 : n' = l.length := by have := h2.1; simp [u8s_length] at this; exact this.symm
  subst l1
  subst l2
  exact (Try.bytes_Equal_all A A' l.length c l.length c' (u8i l) (u8i l) w (u8i_length l) (u8i_length l) h1.bytesIn h2.bytesIn).mono fun e w' ⟨he, hw⟩ => ⟨by rw [he]; simp, hw⟩
def bas (ns : List Nm) : List ByteArray := ns.map fun n => ⟨n.toArray⟩
theorem bas_enc (ns : List Nm) (j : Nat) (h : j < ns.length) : (ns.map encStr)[j]? = some (.string ((bas ns).getD j ByteArray.empty)) := by
  simp [bas, h, encStr]
theorem equal_names {w : World} {b b' : Nat} {A A' : Option Addr} {n n' c c' : Nat} (ns : List Nm) (h1 : Row w b 9 1 (.slice A n c) n (ns.map encStr)) (h2 : Row w b' 9 1 (.slice A' n' c') n' (ns.map encStr)) (hl : ns.length ≤ 1000000) :
    Calls Try.prog 32 #[.slice A n c, .slice A' n' c'] w fun e w' => e = .returned (.bool true) ∧ ∃ q, w' = w.drewN q := by
  have l1 : n = ns.length := by have := h1.1; simp at this; exact this.symm
  have l2 : n' = ns.length := by have := h2.1; simp at this; exact this.symm
  subst l1
  subst l2
  have hbl : (bas ns).length = ns.length := by simp [bas]
  rcases Nat.eq_zero_or_pos ns.length with h0 | h0
  · have hh := Try.slices_Equal_string_empty A A' c ns.length c' w (by omega)
    rw [h0] at hh ⊢
    exact hh.mono fun e w' ⟨he, hw⟩ => ⟨by rw [he]; rfl, 0, by rw [hw]; rfl⟩
  · obtain ⟨g, rfl⟩ := h1.some_ h0
    obtain ⟨g', rfl⟩ := h2.some_ h0
    have c1 := h1.cells (g := g) rfl
    have c2 := h2.cells (g := g') rfl
    refine (Try.slices_Equal_string g 0 ns.length c g' 0 ns.length c' (bas ns) (bas ns) w (by omega) (by omega) (by omega) (by omega) (fun j hj => ?_) (fun j hj => ?_)).mono fun e w' ⟨he, hw⟩ => ⟨by rw [he]; simp, hw⟩
    · have := c1 j _ (bas_enc ns j (by omega))
      rw [add_at] at this
      simpa using this
    · have := c2 j _ (bas_enc ns j (by omega))
      rw [add_at] at this
      simpa using this

def SamePost2 (w : World) (e : Ending) (w' : World) : Prop := e = .returned (.bool true) ∧ Below w.heap.size w w'

set_option maxRecDepth 10000 in
set_option maxHeartbeats 2000000 in
theorem samedisks_any {W w : World} {S1 S2 : Nat → Prop} {bd xd : Nat} {D : Dk} (h : DP W w S1 S2 bd xd D D) (hD : DkOk D) (hlen : D.l.length ≤ 1000000) :
    Calls Try.prog 9 #[.pointer (some ⟨bd, 0, none⟩), .pointer (some ⟨xd, 0, none⟩)] w (SamePost2 w) := by
  have HD := Lib.hid hD
  have hnl : (D.l.map Fl.name).length = D.l.length := by simp
  have HNL := Lib.hid hnl
  clear hnl
  have hL := Lib.hid (rdisk_list h.x hlen)
  go_enter Try.func9, Try.ntmps9
  go_wp2_with fail
  refine hL.out.mono ?_
  rintro e w1 ⟨v1, rfl, hr1, hb1⟩
  have h1 := h.below hb1
  rw [HNL.out] at hr1
  obtain ⟨A1, c1, rfl⟩ := hr1.slice
  have hL2 := Lib.hid (disk_list h1.d hlen)
  go_wp2_with fail
  refine hL2.out.mono ?_
  rintro e w2 ⟨v2, rfl, hr2, hb2⟩
  have h2 := h1.below hb2
  have hr2 := Row.of_own hr2
  rw [HNL.out] at hr2
  obtain ⟨A2, c2, rfl⟩ := hr2.slice
  have hr1 := hr1.below hb2 rfl
  go_wp2_with fail
  refine (equal_names (D.l.map Fl.name) hr2 hr1 (by rw [HNL.out]; exact hlen)).mono ?_
  rintro e w3 ⟨rfl, q, rfl⟩
  have h3 := h2.drewN q
  have hb3 : Below w.heap.size w (w2.drewN q) := below_drewN (hb1.trans (hb2.mono hb1.size)) q
  have hr3 := hr1.below (below_drewN (Below.refl _ w2) q) rfl
  generalize w2.drewN q = w3 at h3 hb3 hr3 ⊢
  have hU := Lib.hid (disk_used h3.d HD.out hlen)
  go_wp2_with fail
  refine hU.out.mono ?_
  rintro e w4 ⟨rfl, hb4⟩
  have h4 := h3.below hb4
  have hU := Lib.hid (rdisk_used h4.x HD.out hlen)
  go_wp2_with fail
  refine hU.out.mono ?_
  rintro e w5 ⟨rfl, hb5⟩
  have h5 := h4.below hb5
  have hr5 := (hr3.below hb4 rfl).below hb5 rfl
  have hbw5 := (hb3.trans (hb4.mono hb3.size)).trans (hb5.mono (Nat.le_trans hb3.size hb4.size))
  clear hr3 h3 h4 hb4 hb5 hr1 hr2 h1 h2
  go_wp2
  go_loopw [28] (fun i wr => ∃ k : Nat, k ≤ D.l.length ∧ i = .int .i64 k ∧ Below w5.heap.size w5 wr) (fun i _ => D.l.length - (intOf i).toNat)
  case atStart => exact ⟨0, Nat.zero_le _, rfl, Below.refl _ _⟩
  case round =>
    obtain ⟨k, hk, rfl, hbw⟩ := hrel
    have h6 := h5.below hbw
    have hr6 := hr5.below hbw rfl
    by_cases hlt : k < D.l.length
    · obtain ⟨g, rfl⟩ := hr6.some_ (by omega)
      obtain ⟨_, hcap, hcapm⟩ := hr6.cap
      have hsz := (HD.out.fls D.l[k] (List.getElem_mem hlt)).1
      have c0 : wr.cell? ⟨g, k, none⟩ = some (.string ⟨D.l[k].name.toArray⟩) := by
        have := hr6.cells (g := g) rfl k (encStr D.l[k].name) (by simp [hlt])
        rw [add_at] at this
        exact this
      generalize D.l[k].name = nm at c0 hsz
      have hs : (⟨nm.toArray⟩ : ByteArray).size ≤ maxLen := by show nm.toArray.size ≤ _; simp only [maxLen, List.size_toArray]; omega
      have ho1 := disk_read h6.d HD.out hs
      have ho2 := fun (w' : World) (hb : Below wr.heap.size wr w') => rdisk_read (h6.below hb).x HD.out hlen ⟨nm.toArray⟩
      generalize mRead D (⟨nm.toArray⟩ : ByteArray).data.toList = o at ho1 ho2
      obtain ⟨bs, er⟩ := o
      have HO1 := Lib.hid ho1
      have HO2 := Lib.hid ho2
      clear ho1 ho2
      go_wp2_with fail
      refine HO1.out.mono ?_
      rintro e w7 ⟨v7, rfl, hr7, hb7⟩
      obtain ⟨A7, c7, rfl⟩ := hr7.slice
      go_wp2_with fail
      refine (HO2.out w7 hb7).mono ?_
      rintro e w8 ⟨v8, rfl, hr8, hb8⟩
      obtain ⟨A8, c8, rfl⟩ := hr8.slice
      have h8 := (h6.below hb7).below hb8
      have hr7' := hr7.below hb8 rfl
      go_wp2_with fail
      refine (equal_bytes bs hr7' hr8).mono ?_
      rintro e w9 ⟨rfl, hw⟩
      obtain rfl := hw.symm
      have ho1 := disk_synced h8.d hs
      have ho2 := fun (w' : World) (hb : Below w8.heap.size w8 w') => rdisk_synced (h8.below hb).x hlen ⟨nm.toArray⟩
      generalize oldS D.l (⟨nm.toArray⟩ : ByteArray).data.toList = o at ho1 ho2
      have HO1 := Lib.hid ho1
      have HO2 := Lib.hid ho2
      clear ho1 ho2
      go_wp2_with fail
      refine HO1.out.mono ?_
      rintro e w10 ⟨rfl, hb10⟩
      go_wp2_with fail
      refine (HO2.out w10 hb10).mono ?_
      rintro e w11 ⟨rfl, hb11⟩
      have hbx : Below w5.heap.size w5 w11 := ((hbw.trans (hb7.mono hbw.size)).trans (hb8.mono (Nat.le_trans hbw.size hb7.size))).trans ((hb10.trans (hb11.mono hb10.size)).mono (Nat.le_trans hbw.size (Nat.le_trans hb7.size hb8.size)))
      go_wp2
      go_roundw
      case rel => exact ⟨k + 1, by omega, by go_num, hbx⟩
      case measure => simp [intOf]; omega
    · obtain rfl : k = D.l.length := by omega
      go_wp2
      go_ret
      exact ⟨rfl, hbw5.trans (hbw.mono hbw5.size)⟩

end Go.Proofs.Ytkfmfllniakhkaa
