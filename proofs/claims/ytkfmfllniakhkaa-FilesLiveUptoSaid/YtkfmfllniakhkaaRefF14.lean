/- The document's disk: Copy; Crash as a step. -/
import Derived.Test.YtkfmfllniakhkaaRefF13
import Derived.Test.YtkfmfllniakhkaaOrd
namespace Go.Proofs.Ytkfmfllniakhkaa
open Go.RowKit Go.Maps Go.Sort
set_option linter.unusedVariables false

theorem rdisk_crash {w : World} {S : Nat → Prop} {xd : Nat} {D : Dk} (h : RdAt w S xd D) (hD : DkOk D) (hlen : D.l.length ≤ 1000000) (ts : List Tl) (hts : ts.length ≤ 1000000000) (A : Option Addr) (cap : Nat) (hr : Reads w w.heap.size 3 A ts.length (tcells ts)) (hA : 0 < ts.length → ∀ ad, A = some ad → ¬ S ad.block) :
    Calls Try.prog 29 #[.pointer (some ⟨xd, 0, none⟩), .slice A ts.length cap] w (RCrashPost S w xd (mCrash D ts)) := by
  obtain ⟨l, room, short, fuse⟩ := D
  obtain ⟨A0, cap0, rs, h, rfl⟩ := h
  have hfl := hD.fls
  dsimp only at h hfl hlen
  rw [List.length_map] at hlen
  exact rcrash_any h hlen (fun r hr => (hfl r.fl (List.mem_map_of_mem hr)).2) ts hts A cap hr hA

/-- what a cell holds, whatever it is -/
noncomputable def peek (w : World) (a : Addr) : Value := (w.cell? a).getD undef
@[simp, go_sem] theorem peek_drew (w : World) (a : Addr) : peek w.drew a = peek w a := rfl
theorem peek_is {w : World} {a : Addr} {v : Value} (h : w.cell? a = some v) : peek w a = v := by unfold peek; rw [h]; rfl
theorem peek_some {w : World} {a : Addr} {v : Value} (h : w.cell? a = some v) : w.cell? a = some (peek w a) := by rw [peek_is h, h]

def RNewPost (w : World) (D : Dk) (e : Ending) (w' : World) : Prop := ∃ xc, e = .returned (.pointer (some ⟨xc, 0, none⟩)) ∧ RdAt w' (fun k => w.heap.size ≤ k ∧ k < w'.heap.size) xc D ∧ Below w.heap.size w w'

theorem copy_next {W : Nat} {wr w4 w9 : World} {xc cap cap4 cap9 : Nat} {room short fuse : Int} {A A4 A9 : Option Addr} {rsc : List Rf} {name : ByteArray} {b : List UInt8} {s : Nat}
    (h : RdOk wr (fun k => W ≤ k ∧ k < wr.heap.size) xc room short fuse A cap rsc) (hW : W ≤ wr.heap.size) (hb4 : Below wr.heap.size wr w4) (hown4 : Row w4 wr.heap.size 5 1 (.slice A4 b.length cap4) b.length (u8s b)) (hx9 : Xh w9 xc A9 (rsc.length + 1) cap9 room short fuse)
    (hr9 : Row w9 0 51 3 (.slice A9 (rsc.length + 1) cap9) (rsc.length + 1) (fcells rsc ++ fcells [⟨name, b, s, A4, cap4⟩])) (hm9 : Mods (fun i => i = xc ∨ (Value.slice A rsc.length cap).ownBlock = some i) w4 w9)
    (hat : ∀ g, (Value.slice A9 (rsc.length + 1) cap9).ownBlock = some g → (Value.slice A rsc.length cap).ownBlock = some g ∨ wr.heap.size ≤ g) (hris : (rsc ++ [(⟨name, b, s, A4, cap4⟩ : Rf)]).Pairwise (fun a b : Rf => a.nm < b.nm)) (hsm : name.size ≤ maxLen) :
    RdOk w9 (fun k => W ≤ k ∧ k < w9.heap.size) xc room short fuse A9 cap9 (rsc ++ [⟨name, b, s, A4, cap4⟩]) := by
  have hl : (rsc ++ [(⟨name, b, s, A4, cap4⟩ : Rf)]).length = rsc.length + 1 := by simp
  have hs4 := hb4.size
  have hs9 := hm9.size
  have hN : ∀ g, (Value.slice A4 b.length cap4).ownBlock = some g → ¬ (g = xc ∨ (Value.slice A rsc.length cap).ownBlock = some g) := by
    intro g hg e
    have hlt := (hown4.lt g hg).1
    rcases e with e | e
    · have := h.ownd.1.2; omega
    · have := (h.ownd.2.1 g e).2; omega
  refine ⟨by rw [hl]; exact hx9, by rw [hl, fcells_append]; exact hr9, fun r hr => ?_, hris, fun r hr => ?_, ⟨h.ownd.1.1, by have := h.ownd.1.2; omega⟩, fun g hg => ?_, fun r hr g hg => ?_⟩
  · rcases List.mem_append.1 hr with hr | hr
    · exact (((h.below hb4).con r hr).mods hm9 (fun g hg e => e.elim (fun e => (h.ne.2 r hr).1 (by rw [hg, e])) (fun e => (h.ne.2 r hr).2 g e hg)))
    · rw [List.mem_singleton] at hr
      subst hr
      exact (hown4.base_ (Nat.zero_le _)).mods hm9 hN
  · rcases List.mem_append.1 hr with hr | hr
    · exact h.small r hr
    · rw [List.mem_singleton] at hr
      subst hr
      exact hsm
  · rw [hl] at hg
    rcases hat g hg with e | e
    · have := h.ownd.2.1 g e; exact ⟨this.1, by omega⟩
    · exact ⟨by omega, (hr9.lt g hg).2⟩
  · rcases List.mem_append.1 hr with hr | hr
    · have := h.ownd.2.2 r hr g hg; exact ⟨this.1, by omega⟩
    · rw [List.mem_singleton] at hr
      subst hr
      have := hown4.lt g hg
      exact ⟨by omega, by omega⟩

theorem ris_take {rs rsc : List Rf} (h : rs.Pairwise (fun a b => a.nm < b.nm)) {k : Nat} (he : rsc.map Rf.fl = (rs.take k).map Rf.fl) : rsc.Pairwise (fun a b => a.nm < b.nm) := by
  have h1 : ((rs.take k).map Rf.fl).Pairwise (fun a b => a.name < b.name) := by rw [List.pairwise_map]; exact h.sublist (List.take_sublist _ _)
  rw [← he, List.pairwise_map] at h1
  exact h1

set_option maxRecDepth 10000 in
set_option maxHeartbeats 4000000 in
theorem rcopy_any {w : World} {S : Nat → Prop} {xd : Nat} {room short fuse : Int} {A : Option Addr} {cap : Nat} {rs : List Rf} (h : RdOk w S xd room short fuse A cap rs) (hlen : rs.length ≤ 1000000) (hbl : ∀ r ∈ rs, r.b.length ≤ 1048576) :
    Calls Try.prog 7 #[.pointer (some ⟨xd, 0, none⟩)] w (RNewPost w ⟨rs.map Rf.fl, room, short, fuse⟩) := by
  have H := Lib.hid h
  have HBL := Lib.hid hbl
  have hxl := h.hdr.lt
  obtain ⟨_, hcap, hcapm⟩ := h.row.cap
  obtain ⟨i0, hi0, hz0, hz1, hz2⟩ := info_parts info_u8
  obtain ⟨j0, hj0, jz0, jz1, jz2⟩ := info_parts info_rf
  have e0 : w.cell? ⟨xd, 0, none⟩ = some (.slice A rs.length cap) := h.hdr.cell 0
  have e1 : w.cell? ⟨xd, 1, none⟩ = some (.int .i64 room) := h.hdr.cell 1
  have e2 : w.cell? ⟨xd, 2, none⟩ = some (.int .i64 short) := h.hdr.cell 2
  have e3 : w.cell? ⟨xd, 3, none⟩ = some (.int .i64 fuse) := h.hdr.cell 3
  clear hbl h
  go_enter Try.func7, Try.ntmps7
  go_upto_region 1 with fail
  go_region_held3 (fun w' => w'.cell? ⟨xd, 1, none⟩ = some (.int .i64 room) ∧ w'.cell? ⟨xd, 2, none⟩ = some (.int .i64 short) ∧ w'.cell? ⟨xd, 3, none⟩ = some (.int .i64 fuse)) (go_keep) (first | fail)
  have hb1 : Below w.heap.size w (w.alloc (.cells #[.slice none 0 0, .int .i64 room, .int .i64 short, .int .i64 fuse] 44)).drew := ((Below.refl _ w).alloc (Nat.le_refl _) _).drew
  have hbx : Blk (w.alloc (.cells #[.slice none 0 0, .int .i64 room, .int .i64 short, .int .i64 fuse] 44)).drew w.heap.size 44 #[.slice none 0 0, .int .i64 room, .int .i64 short, .int .i64 fuse] := (Blk.new w _ _)
  have hs1 : (w.alloc (.cells #[.slice none 0 0, .int .i64 room, .int .i64 short, .int .i64 fuse] 44)).drew.heap.size = w.heap.size + 1 := by show (w.alloc _).heap.size = _; simp
  have hd1 := H.out.below hb1
  generalize (w.alloc (.cells #[.slice none 0 0, .int .i64 room, .int .i64 short, .int .i64 fuse] 44)).drew = w1 at hb1 hbx hs1 hd1 ⊢
  have e4 : w1.cell? ⟨xd, 0, none⟩ = some (.slice A rs.length cap) := hd1.hdr.cell 0
  clear e0 e1 e2 e3
  generalize hxc : w.heap.size = xc at hbx hs1 ⊢
  go_wp2
  go_loopw [25] (fun i wr => ∃ (k : Nat) (rsc : List Rf) (A' : Option Addr) (cap' : Nat), k ≤ rs.length ∧ i = .int .i64 k ∧ rsc.map Rf.fl = (rs.take k).map Rf.fl ∧ rsc.length = k ∧ RdOk wr (fun k => w.heap.size ≤ k ∧ k < wr.heap.size) xc room short fuse A' cap' rsc ∧ Below w.heap.size w wr) (fun i _ => rs.length - (intOf i).toNat)
  case atStart => exact ⟨0, [], none, 0, Nat.zero_le _, rfl, rfl, rfl, ⟨hbx, Row.nil _ _ _ _, by simp, by simp, by simp, ⟨by omega, by omega⟩, by simp [Value.ownBlock], by simp⟩, hb1⟩
  case round =>
    obtain ⟨k, rsc, A', cap', hk, rfl, hfl, hlr, hc, hbw⟩ := hrel
    have HFL := Lib.hid hfl
    clear hfl
    by_cases hlt : k < rs.length
    · obtain ⟨g, rfl⟩ := hd1.row.some_ (by omega)
      have hdw := H.out.below hbw
      have hk' : rs[k]? = some rs[k] := List.getElem?_eq_getElem hlt
      obtain ⟨d0, d1, d2⟩ := file3r hdw.row hk'
      have hbl := HBL.out rs[k] (List.getElem_mem hlt)
      have hcon := hdw.con rs[k] (List.getElem_mem hlt)
      have hsm := hdw.small rs[k] (List.getElem_mem hlt)
      have HT := Lib.hid (show (rs.take (k + 1)).map Rf.fl = (rs.take k).map Rf.fl ++ [rs[k].fl] by rw [List.take_succ_eq_append_getElem hlt, List.map_append]; rfl)
      clear hk' hdw
      generalize rs[k] = c at *
      obtain ⟨_, hccap, hccapm⟩ := hcon.cap
      subst hlr
      go_upto_region 5 with fail
      have hcb := hc.below ((Below.refl _ wr).alloc (Nat.le_refl _) (.cells #[.string c.name, .slice c.A c.b.length c.cap, .int .i64 (c.s : Int)] 51))
      have hbx2 : Blk (wr.alloc (.cells #[.string c.name, .slice c.A c.b.length c.cap, .int .i64 (c.s : Int)] 51)) wr.heap.size 51 #[.string c.name, .slice c.A c.b.length c.cap, .int .i64 (c.s : Int)] := Blk.new _ _ _
      have hcon2 := hcon.alloc (.cells #[.string c.name, .slice c.A c.b.length c.cap, .int .i64 (c.s : Int)] 51)
      have hb2 : Below wr.heap.size wr (wr.alloc (.cells #[.string c.name, .slice c.A c.b.length c.cap, .int .i64 (c.s : Int)] 51)) := (Below.refl _ wr).alloc (Nat.le_refl _) _
      have hs2 : wr.heap.size < (wr.alloc (.cells #[.string c.name, .slice c.A c.b.length c.cap, .int .i64 (c.s : Int)] 51)).heap.size := by simp
      generalize hfx : wr.heap.size = fx at hbx2 hs2 ⊢
      generalize wr.alloc (.cells #[.string c.name, .slice c.A c.b.length c.cap, .int .i64 (c.s : Int)] 51) = w2 at hcb hbx2 hcon2 hb2 hs2 ⊢
      have HFX := Lib.hid hfx
      clear hfx d0 d1 d2
      have c0 : w2.cell? ⟨xc, 0, none⟩ = some (.slice A' rsc.length cap') := hcb.hdr.cell 0
      have f0 : w2.cell? ⟨fx, 0, none⟩ = some (.string c.name) := hbx2.cell 0
      have f1 : w2.cell? ⟨fx, 1, none⟩ = some (.slice c.A c.b.length c.cap) := hbx2.cell 1
      have f2 : w2.cell? ⟨fx, 2, none⟩ = some (.int .i64 (c.s : Int)) := hbx2.cell 2
      have hb3 : Below w2.heap.size w2 (w2.alloc (.cells #[] 5)).drew := ((Below.refl _ w2).alloc (Nat.le_refl _) _).drew
      have hc3 := hcb.below hb3
      have hbx3 := hbx2.below hb3 hbx2.lt
      have g0 : (w2.alloc (.cells #[] 5)).cell? ⟨xc, 0, none⟩ = some (.slice A' rsc.length cap') := hc3.hdr.cell 0
      have g1 : (w2.alloc (.cells #[] 5)).cell? ⟨fx, 0, none⟩ = some (.string c.name) := hbx3.cell 0
      have g2 : (w2.alloc (.cells #[] 5)).cell? ⟨fx, 1, none⟩ = some (.slice c.A c.b.length c.cap) := hbx3.cell 1
      have g3 : (w2.alloc (.cells #[] 5)).cell? ⟨fx, 2, none⟩ = some (.int .i64 (c.s : Int)) := hbx3.cell 2
      have hemp : Row (w2.alloc (.cells #[] 5)).drew w2.heap.size 5 1 (.slice (some ⟨w2.heap.size, 0, none⟩) 0 0) 0 [] := Row.empty w2 w2.heap.size 5 (Nat.le_refl _)
      have hrd := (hcon2.below (w' := (w2.alloc (.cells #[] 5)).drew) hb3 rfl).reads
      have HRD := Lib.hid hrd
      clear hrd
      go_upto_region 5 with fail
      have hS : (fun w' : World => w'.cell? ⟨fx, 0, none⟩ = some (.string c.name) ∧ w'.cell? ⟨fx, 1, none⟩ = some (.slice c.A c.b.length c.cap) ∧ w'.cell? ⟨fx, 2, none⟩ = some (.int .i64 (c.s : Int)) ∧ w'.cell? ⟨xc, 0, none⟩ = some (.slice A' rsc.length cap')) w2.drew := ⟨f0, f1, f2, c0⟩
      refine region_ord [(0, true), (1, true), (2, true), (3, true), (4, true), (5, true), (6, true), (8, true), (9, true), (11, true), (12, true), (7, false), (10, false), (13, true), (14, false), (15, false), (16, false), (17, false), (18, false)] (fun w' : World => w'.cell? ⟨fx, 0, none⟩ = some (.string c.name) ∧ w'.cell? ⟨fx, 1, none⟩ = some (.slice c.A c.b.length c.cap) ∧ w'.cell? ⟨fx, 2, none⟩ = some (.int .i64 (c.s : Int)) ∧ w'.cell? ⟨xc, 0, none⟩ = some (.slice A' rsc.length cap')) 18 (by kernel_rfl) (by kernel_rfl) ?_
      refine ord_take (oi := ⟨some 29, _, _, _, _, _⟩) (v := ?_) rfl (fun _ _ _ h => h) (Or.inl ⟨by rfl, ?_⟩) hS ?_
      rotate_left
      focus
        intro w hSw
        go_simp
        first
          | done
          | exact rfl
      try simp only [Act.put, List.setIfInBounds_toArray, List.set_cons_zero, List.set_cons_succ]
      refine ord_take (oi := ⟨some 30, _, _, _, _, _⟩) (v := ?_) rfl (fun _ _ _ h => h) (Or.inl ⟨by rfl, ?_⟩) hS ?_
      rotate_left
      focus
        intro w hSw
        go_simp
        first
          | done
          | exact rfl
      try simp only [Act.put, List.setIfInBounds_toArray, List.set_cons_zero, List.set_cons_succ]
      refine ord_take (oi := ⟨some 31, _, _, _, _, _⟩) (v := ?_) rfl (fun _ _ _ h => h) (Or.inl ⟨by rfl, ?_⟩) hS ?_
      rotate_left
      focus
        intro w hSw
        go_simp
        first
          | done
          | exact rfl
      try simp only [Act.put, List.setIfInBounds_toArray, List.set_cons_zero, List.set_cons_succ]
      refine ord_take (oi := ⟨some 32, _, _, _, _, _⟩) (v := ?_) rfl (fun _ _ _ h => h) (Or.inl ⟨by rfl, ?_⟩) hS ?_
      rotate_left
      focus
        intro w hSw
        go_simp
        first
          | done
          | exact rfl
      try simp only [Act.put, List.setIfInBounds_toArray, List.set_cons_zero, List.set_cons_succ]
      refine ord_take (oi := ⟨some 33, _, _, _, _, _⟩) (v := ?_) rfl (fun _ _ _ h => h) (Or.inl ⟨by rfl, ?_⟩) hS ?_
      rotate_left
      focus
        intro w hSw
        go_simp
        first
          | done
          | exact rfl
      try simp only [Act.put, List.setIfInBounds_toArray, List.set_cons_zero, List.set_cons_succ]
      refine ord_take (oi := ⟨some 34, _, _, _, _, _⟩) (v := ?_) rfl (fun _ _ _ h => h) (Or.inl ⟨by rfl, ?_⟩) hS ?_
      rotate_left
      focus
        intro w hSw
        go_simp
        first
          | done
          | exact rfl
      try simp only [Act.put, List.setIfInBounds_toArray, List.set_cons_zero, List.set_cons_succ]
      refine ord_take (oi := ⟨some 35, _, _, _, _, _⟩) (v := ?_) rfl (fun _ _ _ h => h) (Or.inl ⟨by rfl, ?_⟩) hS ?_
      rotate_left
      focus
        intro w hSw
        go_simp
        first
          | done
          | exact rfl
      try simp only [Act.put, List.setIfInBounds_toArray, List.set_cons_zero, List.set_cons_succ]
      refine ord_take (oi := ⟨some 37, _, _, _, _, _⟩) (v := ?_) rfl (fun _ _ _ h => h) (Or.inl ⟨by rfl, ?_⟩) hS ?_
      rotate_left
      focus
        intro w hSw
        go_simp
        first
          | done
          | exact rfl
      try simp only [Act.put, List.setIfInBounds_toArray, List.set_cons_zero, List.set_cons_succ]
      refine ord_take (oi := ⟨some 38, _, _, _, _, _⟩) (v := ?_) rfl (fun _ _ _ h => h) (Or.inl ⟨by rfl, ?_⟩) hS ?_
      rotate_left
      focus
        intro w hSw
        go_simp
        first
          | done
          | exact rfl
      try simp only [Act.put, List.setIfInBounds_toArray, List.set_cons_zero, List.set_cons_succ]
      refine ord_take (oi := ⟨some 40, _, _, _, _, _⟩) (v := ?_) rfl (fun _ _ _ h => h) (Or.inl ⟨by rfl, ?_⟩) hS ?_
      rotate_left
      focus
        intro w hSw
        go_simp
        first
          | done
          | exact rfl
      try simp only [Act.put, List.setIfInBounds_toArray, List.set_cons_zero, List.set_cons_succ]
      refine ord_take (oi := ⟨some 41, _, _, _, _, _⟩) (v := ?_) rfl (fun _ _ _ h => h) (Or.inl ⟨by rfl, ?_⟩) hS ?_
      rotate_left
      focus
        intro w hSw
        go_simp
        first
          | done
          | exact rfl
      try simp only [Act.put, List.setIfInBounds_toArray, List.set_cons_zero, List.set_cons_succ]
      refine ord_do (o := ⟨some 36, _, _, _, _, _⟩) rfl (fun K hK => ?_)
      go_simp
      refine hK.out _ _ ⟨g1, g2, g3, g0⟩ ?_
      clear hK K
      try simp only [Act.put, List.setIfInBounds_toArray, List.set_cons_zero, List.set_cons_succ]
      refine ord_do (o := ⟨some 39, _, _, _, _, _⟩) rfl (fun K hK => ?_)
      refine step_append_row _ rfl (.tmp 36) (.tmp 38) 30 rfl w2.heap.size 5 i0 _ 1 1 Try.underlying30 hi0 hz0 hz1 hz2 rfl (by omega) (.slice (some ⟨w2.heap.size, 0, none⟩) 0 0) 0 [] rfl hemp _ c.A c.b.length c.cap (u8s c.b) rfl HRD.out (u8s_one _) (by simp only [maxLen]; omega) (by omega) (by show w2.heap.size ≤ (w2.alloc _).heap.size; simp) ?_
      intro v4 w4 hown4 hg4 hat4
      simp only [Nat.zero_add, List.nil_append] at hown4
      obtain ⟨A4, cap4, rfl⟩ := hown4.slice
      have hb4 : Below w2.heap.size w2 w4 := hb3.grown hg4 (by show w2.heap.size ≤ (w2.alloc _).heap.size; simp) (fun k hk => by simp [Value.ownBlock] at hk; omega)
      have hbx4 := hbx2.below hb4 hbx2.lt
      have hb5 : Below w2.heap.size w2 (w4.alloc (.cells #[.string c.name, .slice A4 c.b.length cap4, .int .i64 (c.s : Int)] 51)) := hb4.alloc hb4.size _
      have hbx5 := hbx2.below hb5 hbx2.lt
      refine hK.out _ _ ⟨hbx4.cell 0, hbx4.cell 1, hbx4.cell 2, (hcb.below hb4).hdr.cell 0⟩ ?_
      clear hK K
      try simp only [Act.put, List.setIfInBounds_toArray, List.set_cons_zero, List.set_cons_succ]
      have hS4 : (fun w' : World => w'.cell? ⟨fx, 0, none⟩ = some (.string c.name) ∧ w'.cell? ⟨fx, 1, none⟩ = some (.slice c.A c.b.length c.cap) ∧ w'.cell? ⟨fx, 2, none⟩ = some (.int .i64 (c.s : Int)) ∧ w'.cell? ⟨xc, 0, none⟩ = some (.slice A' rsc.length cap')) w4 := ⟨hbx4.cell 0, hbx4.cell 1, hbx4.cell 2, (hcb.below hb4).hdr.cell 0⟩
      refine ord_take (oi := ⟨some 42, _, _, _, _, _⟩) (v := ?_) rfl (fun _ _ _ h => h) (Or.inl ⟨by rfl, ?_⟩) hS4 ?_
      rotate_left
      focus
        intro w hSw
        go_simp
        first
          | done
          | exact rfl
      try simp only [Act.put, List.setIfInBounds_toArray, List.set_cons_zero, List.set_cons_succ]
      refine ord_do (o := ⟨some 43, _, _, _, _, _⟩) rfl (fun K hK => ?_)
      go_simp
      refine hK.out _ _ ⟨hbx5.cell 0, hbx5.cell 1, hbx5.cell 2, (hcb.below hb5).hdr.cell 0⟩ ?_
      clear hK K
      try simp only [Act.put, List.setIfInBounds_toArray, List.set_cons_zero, List.set_cons_succ]
      refine ord_do (o := ⟨some 44, _, _, _, _, _⟩) rfl (fun K hK => ?_)
      refine step_append_row _ rfl (.tmp 33) (.tmp 43) 42 rfl 0 51 j0 _ 3 48 Try.underlying42 hj0 jz0 jz1 jz2 rfl (by omega) (.slice A' rsc.length cap') rsc.length (fcells rsc) rfl (((hcb.below hb4).row).alloc _) _ (some ⟨w4.heap.size, 0, none⟩) 1 1 (fcells [⟨c.name, c.b, c.s, A4, cap4⟩]) rfl (one_more w4 ⟨c.name, c.b, c.s, A4, cap4⟩) (fcells_one _) (by simp only [maxLen]; omega) (by omega) (Nat.zero_le _) ?_
      intro v9 w9 hown9 hg9 hat9
      obtain ⟨A9, cap9, rfl⟩ := hown9.slice
      have hbx9 := ((hcb.below hb4).hdr.alloc (.cells #[.string c.name, .slice A4 c.b.length cap4, .int .i64 (c.s : Int)] 51)).grown hg9 (fun e => (hcb.below hb4).ne.1 e.symm)
      have l0 : w9.cell? ⟨xc, 0, none⟩ = some (.slice A' rsc.length cap') := hbx9.cell 0
      have l1 : w9.frozen? ⟨xc, 0, none⟩ = false := hbx9.frozen 0
      have hfx9 := hbx5.grown hg9 (fun e => by have := (hc.row.lt fx e.symm).2; have := HFX.out; omega)
      refine hK.out _ _ ⟨hfx9.cell 0, hfx9.cell 1, hfx9.cell 2, l0⟩ ?_
      clear hK K
      try simp only [Act.put, List.setIfInBounds_toArray, List.set_cons_zero, List.set_cons_succ]
      refine ord_do (o := ⟨some 45, _, _, _, _, _⟩) rfl (fun K hK => ?_)
      go_simp
      refine hK.out _ _ ⟨hfx9.cell 0, hfx9.cell 1, hfx9.cell 2, l0⟩ ?_
      clear hK K
      try simp only [Act.put, List.setIfInBounds_toArray, List.set_cons_zero, List.set_cons_succ]
      refine ord_do (o := ⟨some 46, _, _, _, _, _⟩) rfl (fun K hK => ?_)
      go_simp
      refine hK.out _ _ ⟨hfx9.cell 0, hfx9.cell 1, hfx9.cell 2, l0⟩ ?_
      clear hK K
      try simp only [Act.put, List.setIfInBounds_toArray, List.set_cons_zero, List.set_cons_succ]
      refine ord_last (o := ⟨none, _, _, _, _, _⟩) rfl (fun K hK => ?_)
      go_simp
      refine hK.out _ _ ?_
      clear hK K
      refine ord_end ?_
      go_wp2
      have hb24 : Below wr.heap.size wr w4 := hb2.trans (hb4.mono hb2.size)
      have hm9 : Mods (fun i => i = xc ∨ (Value.slice A' rsc.length cap').ownBlock = some i) w4 (w9.setCell ⟨xc, 0, none⟩ (.slice A9 (rsc.length + 1) cap9)) := (((Mods.refl _ w4).alloc _).grown hg9 (fun _ _ e => .inr e)).setCell (p := ⟨xc, 0, none⟩) (fun _ => .inl rfl) _
      have hfl9 : (rsc ++ [(⟨c.name, c.b, c.s, A4, cap4⟩ : Rf)]).map Rf.fl = (rs.take (rsc.length + 1)).map Rf.fl := by rw [HT.out, List.map_append, HFL.out]; rfl
      have hc9 := copy_next hc hbw.size hb24 (hown4.base_ hb2.size) (hbx9.set_ 0 _) (hown9.far (p := ⟨xc, 0, none⟩) (hown9.blk_ne hbx9 (by decide)) _) hm9
        (fun g hg => hat9.elim (fun e => .inl (e ▸ hg)) (fun e => .inr (by rw [e] at hg; injection hg with hg; have h1 := hb24.size; rw [World.size_alloc] at hg; omega))) (ris_take H.out.ris hfl9) hsm
      exact ⟨⟨rsc.length + 1, _, A9, cap9, by omega, by go_num, hfl9, by simp, hc9, (hbw.trans (hb24.mono hbw.size)).trans (hm9.below_of (B := w.heap.size) (fun i e => e.elim (fun e => by omega) (fun e => (hc.ownd.2.1 i e).1)) (by have := hbw.size; have := hb24.size; omega))⟩, by simp [intOf]; omega⟩
    · obtain rfl : k = rs.length := by omega
      go_wp2
      go_ret
      rw [List.take_length] at HFL
      exact ⟨xc, rfl, ⟨A', cap', rsc, hc, HFL.out⟩, hbw⟩

theorem rdisk_copy {w : World} {S : Nat → Prop} {xd : Nat} {D : Dk} (h : RdAt w S xd D) (hD : DkOk D) (hlen : D.l.length ≤ 1000000) : Calls Try.prog 7 #[.pointer (some ⟨xd, 0, none⟩)] w (RNewPost w D) := by
  obtain ⟨l, room, short, fuse⟩ := D
  obtain ⟨A0, cap0, rs, h, rfl⟩ := h
  have hfl := hD.fls
  dsimp only at h hfl hlen
  rw [List.length_map] at hlen
  exact rcopy_any h hlen fun r hr => (hfl r.fl (List.mem_map_of_mem hr)).2.1

end Go.Proofs.Ytkfmfllniakhkaa
