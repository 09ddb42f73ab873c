/- The document's disk as an object; Short, Room, Fuse, Sync: walks. -/
import Derived.Test.YtkfmfllniakhkaaRefF3
namespace Go.Proofs.Ytkfmfllniakhkaa
open Go.RowKit Go.Maps Go.Sort
set_option linter.unusedVariables false

structure RdOk (w : World) (S : Nat → Prop) (xd : Nat) (room short fuse : Int) (A : Option Addr) (cap : Nat) (rs : List Rf) : Prop where
  hdr : Xh w xd A rs.length cap room short fuse
  row : Row w 0 51 3 (.slice A rs.length cap) rs.length (fcells rs)
  con : ∀ r ∈ rs, Row w 0 5 1 r.row r.b.length (u8s r.b)
  ris : rs.Pairwise (fun a b => a.nm < b.nm)
  small : ∀ r ∈ rs, r.name.size ≤ maxLen
  ownd : S xd ∧ (∀ g, (Value.slice A rs.length cap).ownBlock = some g → S g) ∧ ∀ r ∈ rs, ∀ g, r.row.ownBlock = some g → S g
def RdAt (w : World) (S : Nat → Prop) (xd : Nat) (D : Dk) : Prop := ∃ A cap rs, RdOk w S xd D.room D.short D.fuse A cap rs ∧ rs.map Rf.fl = D.l

section
variable {w w' : World} {S T : Nat → Prop} {xd : Nat} {room short fuse room' short' fuse' : Int} {A : Option Addr} {cap : Nat} {rs : List Rf} {D : Dk}

theorem RdOk.keep (h : RdOk w S xd room short fuse A cap rs) (m : Mods T w w') (hd : ∀ k, S k → ¬ T k) : RdOk w' S xd room short fuse A cap rs :=
  ⟨h.hdr.mods m (hd _ h.ownd.1), h.row.mods m (fun g hg => hd _ (h.ownd.2.1 g hg)), fun r hr => (h.con r hr).mods m (fun g hg => hd _ (h.ownd.2.2 r hr g hg)), h.ris, h.small, h.ownd⟩
theorem RdOk.more (h : RdOk w S xd room short fuse A cap rs) (hS : ∀ k, S k → T k) : RdOk w T xd room short fuse A cap rs :=
  ⟨h.hdr, h.row, h.con, h.ris, h.small, hS _ h.ownd.1, fun g hg => hS _ (h.ownd.2.1 g hg), fun r hr g hg => hS _ (h.ownd.2.2 r hr g hg)⟩
theorem RdOk.below (h : RdOk w S xd room short fuse A cap rs) (hb : Below w.heap.size w w') : RdOk w' S xd room short fuse A cap rs := h.keep (Mods.below (Mods.refl (fun _ => False) w) hb) (fun _ _ h => h)
theorem RdAt.keep (h : RdAt w S xd D) (m : Mods T w w') (hd : ∀ k, S k → ¬ T k) : RdAt w' S xd D := by
  obtain ⟨A, cap, rs, h, e⟩ := h
  exact ⟨A, cap, rs, h.keep m hd, e⟩
theorem RdAt.more (h : RdAt w S xd D) (hS : ∀ k, S k → T k) : RdAt w T xd D := by
  obtain ⟨A, cap, rs, h, e⟩ := h
  exact ⟨A, cap, rs, h.more hS, e⟩
theorem RdAt.below (h : RdAt w S xd D) (hb : Below w.heap.size w w') : RdAt w' S xd D := h.keep (Mods.below (Mods.refl (fun _ => False) w) hb) (fun _ _ h => h)
theorem RdAt.same (h : RdAt w S xd D) (hb : Below w.heap.size w w') : RdAt w' (ext S w w') xd D := (h.below hb).more fun _ h => .inl h
theorem RdOk.ne (h : RdOk w S xd room short fuse A cap rs) : (Value.slice A rs.length cap).ownBlock ≠ some xd ∧ ∀ r ∈ rs, r.row.ownBlock ≠ some xd ∧ ∀ g, (Value.slice A rs.length cap).ownBlock = some g → r.row.ownBlock ≠ some g := by
  refine ⟨h.row.blk_ne h.hdr (by decide), fun r hr => ⟨(h.con r hr).blk_ne h.hdr (by decide), fun g hg => ?_⟩⟩
  rcases h.row.2 with ⟨e, _⟩ | ⟨g', c, cur, e, _, hh, _⟩
  · rw [e] at hg; cases hg
  · rw [e] at hg
    obtain rfl : g' = g := by simpa [Value.ownBlock] using hg
    exact (h.con r hr).blk_ne (g := g') hh (by decide)
theorem RdOk.head (h : RdOk w S xd room short fuse A cap rs) (hdr' : Xh w' xd A rs.length cap room' short' fuse') (m : Mods (· = xd) w w') : RdOk w' S xd room' short' fuse' A cap rs :=
  ⟨hdr', h.row.mods m (fun g hg e => h.ne.1 (by rw [hg, e])), fun r hr => (h.con r hr).mods m (fun g hg e => (h.ne.2 r hr).1 (by rw [hg, e])), h.ris, h.small, h.ownd⟩

/-- a step's answer, and what it leaves -/
def RStep (S : Nat → Prop) (w : World) (xd : Nat) (o : Dk × Int) (e : Ending) (w' : World) : Prop :=
  e = .returned (.int .i64 o.2) ∧ RdAt w' (ext S w w') xd o.1 ∧ Mods S w w'

def SetX (w : World) (xd : Nat) (A : Option Addr) (n cap : Nat) (room short fuse : Int) (r : Int) (e : Ending) (w' : World) : Prop :=
  e = .returned (.int .i64 r) ∧ Xh w' xd A n cap room short fuse ∧ Mods (· = xd) w w'

theorem rshort_any (n cp : Nat) (v : Int) (hb : Xh w xd A n cp room short fuse) : Calls Try.prog 24 #[.pointer (some ⟨xd, 0, none⟩), .int .i64 v] w (SetX w xd A n cp room (setVal v v short) fuse (setErr v v)) := by
  have c2 : w.cell? ⟨xd, 2, none⟩ = some (.int .i64 short) := hb.cell 2
  have f2 : w.frozen? ⟨xd, 2, none⟩ = false := hb.frozen 2
  by_cases hv : v < 0
  · have h1 := Lib.hid (show setVal v v short = short ∧ setErr v v = 1 by unfold setVal setErr; rw [if_neg (by omega), if_neg (by omega)]; exact ⟨rfl, rfl⟩)
    go_enter Try.func24, Try.ntmps24
    go_wp2
    go_ret
    rw [h1.out.1, h1.out.2]
    exact ⟨rfl, hb, Mods.refl _ _⟩
  · have h1 := Lib.hid (show setVal v v short = v ∧ setErr v v = 0 by unfold setVal setErr; rw [if_pos (by omega), if_pos (by omega)]; exact ⟨rfl, rfl⟩)
    go_enter Try.func24, Try.ntmps24
    go_wp2
    go_ret
    rw [h1.out.1, h1.out.2]
    exact ⟨rfl, hb.set_ 2 _, (Mods.refl (· = xd) _).setCell (p := ⟨xd, 2, none⟩) (fun _ => rfl) _⟩
theorem rfuse_any (n cp : Nat) (v : Int) (hb : Xh w xd A n cp room short fuse) : Calls Try.prog 28 #[.pointer (some ⟨xd, 0, none⟩), .int .i64 v] w (SetX w xd A n cp room short (setVal v v fuse) (setErr v v)) := by
  have c2 : w.cell? ⟨xd, 3, none⟩ = some (.int .i64 fuse) := hb.cell 3
  have f2 : w.frozen? ⟨xd, 3, none⟩ = false := hb.frozen 3
  by_cases hv : v < 0
  · have h1 := Lib.hid (show setVal v v fuse = fuse ∧ setErr v v = 1 by unfold setVal setErr; rw [if_neg (by omega), if_neg (by omega)]; exact ⟨rfl, rfl⟩)
    go_enter Try.func28, Try.ntmps28
    go_wp2
    go_ret
    rw [h1.out.1, h1.out.2]
    exact ⟨rfl, hb, Mods.refl _ _⟩
  · have h1 := Lib.hid (show setVal v v fuse = v ∧ setErr v v = 0 by unfold setVal setErr; rw [if_pos (by omega), if_pos (by omega)]; exact ⟨rfl, rfl⟩)
    go_enter Try.func28, Try.ntmps28
    go_wp2
    go_ret
    rw [h1.out.1, h1.out.2]
    exact ⟨rfl, hb.set_ 3 _, (Mods.refl (· = xd) _).setCell (p := ⟨xd, 3, none⟩) (fun _ => rfl) _⟩
theorem rroom_any (n cp : Nat) (v : Int) (hb : Xh w xd A n cp room short fuse) : Calls Try.prog 26 #[.pointer (some ⟨xd, 0, none⟩), .int .i64 v] w (SetX w xd A n cp (setVal v 1099511627776 room) short fuse (setErr v 1099511627776)) := by
  have c2 : w.cell? ⟨xd, 1, none⟩ = some (.int .i64 room) := hb.cell 1
  have f2 : w.frozen? ⟨xd, 1, none⟩ = false := hb.frozen 1
  by_cases hv : 0 ≤ v ∧ v ≤ 1099511627776
  · have h1 := Lib.hid (show setVal v 1099511627776 room = v ∧ setErr v 1099511627776 = 0 by unfold setVal setErr; rw [if_pos hv, if_pos hv]; exact ⟨rfl, rfl⟩)
    obtain ⟨hv0, hv1⟩ := hv
    have g0 : ¬ v < 0 := by omega
    have g1 : ¬ 1099511627776 < v := by omega
    go_enter Try.func26, Try.ntmps26
    go_wp2
    all_goals go_ret
    all_goals rw [h1.out.1, h1.out.2]
    all_goals exact ⟨rfl, hb.set_ 1 _, (Mods.refl (· = xd) _).setCell (p := ⟨xd, 1, none⟩) (fun _ => rfl) _⟩
  · have h1 := Lib.hid (show setVal v 1099511627776 room = room ∧ setErr v 1099511627776 = 1 by unfold setVal setErr; rw [if_neg hv, if_neg hv]; exact ⟨rfl, rfl⟩)
    rcases (show v < 0 ∨ (¬ v < 0 ∧ 1099511627776 < v) by omega) with hv | ⟨hv, hv1⟩
    · go_enter Try.func26, Try.ntmps26
      go_wp2
      all_goals go_ret
      all_goals rw [h1.out.1, h1.out.2]
      all_goals exact ⟨rfl, hb, Mods.refl _ _⟩
    · go_enter Try.func26, Try.ntmps26
      go_wp2
      all_goals go_ret
      all_goals rw [h1.out.1, h1.out.2]
      all_goals exact ⟨rfl, hb, Mods.refl _ _⟩
end

end Go.Proofs.Ytkfmfllniakhkaa
