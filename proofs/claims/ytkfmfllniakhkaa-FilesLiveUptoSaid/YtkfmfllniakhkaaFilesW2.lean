/- The program's disk: changes, numbers, Sync, Remove: walks. -/
import Derived.Test.YtkfmfllniakhkaaFilesW
namespace Go.Proofs.Ytkfmfllniakhkaa
open Go.RowKit Go.Maps
set_option linter.unusedVariables false

abbrev Hd (w : World) (bd bm : Nat) (room short fuse : Int) : Prop := Blk w bd 41 #[.map (some bm), .int .i64 room, .int .i64 short, .int .i64 fuse]
def burn (fuse : Int) : Int := if 0 < fuse then fuse - 1 else fuse

theorem new_ok (room : Int) (w : World) (h0 : 0 ≤ room) (h1 : room ≤ 1099511627776) : Calls Try.prog 4 #[.int .i64 room] w fun e w' => e = .returned (.tuple #[.pointer (some ⟨w.heap.size + 1, 0, none⟩), .int .i64 0]) ∧
    w' = (w.alloc (.map #[] 0)).alloc (.cells #[.map (some w.heap.size), .int .i64 room, .int .i64 (-1), .int .i64 (-1)] 41 (0, 0)) := by
  have hmm := @run_makeMap Try.prog
  have h0' : ¬ room < 0 := by omega
  have h1' : ¬ 1099511627776 < room := by omega
  go_enter Try.func4, Try.ntmps4
  go_wp2
  all_goals go_ret2
  all_goals exact ⟨rfl, rfl⟩

theorem new_bad (room : Int) (w : World) (h : room < 0 ∨ 1099511627776 < room) : Calls Try.prog 4 #[.int .i64 room] w fun e w' => e = .returned (.tuple #[.pointer none, .int .i64 1]) ∧ w' = w := by
  rcases h with h | h
  · go_enter Try.func4, Try.ntmps4
    go_wp2
    all_goals go_ret2
    all_goals exact ⟨rfl, rfl⟩
  · have h' : ¬ room < 0 := by omega
    go_enter Try.func4, Try.ntmps4
    go_wp2
    all_goals go_ret2
    all_goals exact ⟨rfl, rfl⟩

section
variable (bd bm : Nat) (room short fuse : Int) (w : World)

theorem made_yes (hb : Hd w bd bm room short fuse) : Calls Try.prog 10 #[.pointer (some ⟨bd, 0, none⟩)] w fun e w' => e = .returned (.bool true) ∧ w' = w := by
  have c0 : w.cell? ⟨bd, 0, none⟩ = some (.map (some bm)) := hb.cell 0
  have hmn := run_neq_map_nil (P := Try.prog) w 39 9 46 (some bm) Try.underlying39
  go_enter Try.func10, Try.ntmps10
  go_wp2
  go_ret
  exact ⟨rfl, rfl⟩

theorem change_bad (hb : Hd w bd bm room short fuse) : Calls Try.prog 41 #[.pointer (some ⟨bd, 0, none⟩), .bool false] w fun e w' => e = .returned (.int .i64 1) ∧ w' = w := by
  have hmd := Lib.hid (made_yes bd bm room short fuse w hb)
  go_enter Try.func41, Try.ntmps41
  go_wp2_with (go_at_call 10; refine hmd.out.mono ?_; rintro e w' ⟨rfl, rfl⟩)
  go_ret
  exact ⟨rfl, rfl⟩

theorem change_dead (hb : Hd w bd bm room short 0) : Calls Try.prog 41 #[.pointer (some ⟨bd, 0, none⟩), .bool true] w fun e w' => e = .returned (.int .i64 62) ∧ w' = w := by
  have hmd := Lib.hid (made_yes bd bm room short 0 w hb)
  have c3 : w.cell? ⟨bd, 3, none⟩ = some (.int .i64 0) := hb.cell 3
  go_enter Try.func41, Try.ntmps41
  go_wp2_with (go_at_call 10; refine hmd.out.mono ?_; rintro e w' ⟨rfl, rfl⟩)
  go_ret
  exact ⟨rfl, rfl⟩

theorem change_ok (hb : Hd w bd bm room short fuse) (hf : fuse ≠ 0) (hl : -1 ≤ fuse) (hh : fuse ≤ 9223372036854775807) : Calls Try.prog 41 #[.pointer (some ⟨bd, 0, none⟩), .bool true] w fun e w' =>
    e = .returned (.int .i64 0) ∧ Hd w' bd bm room short (burn fuse) ∧ Mods (· = bd) w w' ∧ w'.heap.size = w.heap.size := by
  have hmd := Lib.hid (made_yes bd bm room short fuse w hb)
  have c3 : w.cell? ⟨bd, 3, none⟩ = some (.int .i64 fuse) := hb.cell 3
  have f3 : w.frozen? ⟨bd, 3, none⟩ = false := hb.frozen 3
  have hz : (fuse == 0) = false := beq_eq_false_iff_ne.2 hf
  by_cases h0 : 0 < fuse
  · have hbn : burn fuse = fuse - 1 := by unfold burn; rw [if_pos h0]
    have HB := Lib.hid hbn
    clear hbn hf
    go_enter Try.func41, Try.ntmps41
    go_wp2_with (go_at_call 10; refine hmd.out.mono ?_; rintro e w' ⟨rfl, rfl⟩)
    go_ret
    refine ⟨rfl, ?_, (Mods.refl (· = bd) _).setCell (p := ⟨bd, 3, none⟩) (fun _ => rfl) _, by simp⟩
    rw [HB.out]
    exact hb.set_ 3 _
  · have hbn : burn fuse = fuse := by unfold burn; rw [if_neg h0]
    have HB := Lib.hid hbn
    clear hbn hf
    go_enter Try.func41, Try.ntmps41
    go_wp2_with (go_at_call 10; refine hmd.out.mono ?_; rintro e w' ⟨rfl, rfl⟩)
    go_ret
    refine ⟨rfl, ?_, Mods.refl _ _, rfl⟩
    rw [HB.out]
    exact hb

def setErr (n most : Int) : Int := if 0 ≤ n ∧ n ≤ most then 0 else 1
def setVal (n most old : Int) : Int := if 0 ≤ n ∧ n ≤ most then n else old
def SetW (w : World) (bd o : Nat) (n most : Int) (w' : World) : Prop := w' = if 0 ≤ n ∧ n ≤ most then w.setCell ⟨bd, o, none⟩ (.int .i64 n) else w
def SetP (w : World) (bd o : Nat) (n most : Int) (e : Ending) (w' : World) : Prop := e = .returned (.int .i64 (setErr n most)) ∧ SetW w bd o n most w'

theorem set_any (o : Nat) (n most v : Int) (t : TypeId) (cs : Array Value) (hb : Blk w bd t cs) (hc : w.cell? ⟨bd, o, none⟩ = some (.int .i64 v)) :
    Calls Try.prog 48 #[.pointer (some ⟨bd, 0, none⟩), .pointer (some ⟨bd, o, none⟩), .int .i64 n, .int .i64 most] w (SetP w bd o n most) := by
  have f3 : w.frozen? ⟨bd, o, none⟩ = false := hb.frozen o
  by_cases h : 0 ≤ n ∧ n ≤ most
  · have HE := Lib.hid (show setErr n most = 0 from if_pos h)
    have HW := Lib.hid (by unfold SetW; rw [if_pos h] : SetW w bd o n most (w.setCell ⟨bd, o, none⟩ (.int .i64 n)))
    obtain ⟨h0, h1⟩ := h
    have h0' : ¬ n < 0 := by omega
    have h1' : ¬ most < n := by omega
    go_enter Try.func48, Try.ntmps48
    go_wp2
    all_goals go_ret
    all_goals exact ⟨by rw [HE.out]; rfl, HW.out⟩
  · have HE := Lib.hid (show setErr n most = 1 from if_neg h)
    have HW := Lib.hid (by unfold SetW; rw [if_neg h] : SetW w bd o n most w)
    by_cases h0 : n < 0
    · clear h
      go_enter Try.func48, Try.ntmps48
      go_wp2
      all_goals go_ret
      all_goals exact ⟨by rw [HE.out]; rfl, HW.out⟩
    · have h1 : most < n := by omega
      clear h
      go_enter Try.func48, Try.ntmps48
      go_wp2
      all_goals go_ret
      all_goals exact ⟨by rw [HE.out]; rfl, HW.out⟩

def SetPost (w : World) (bd bm : Nat) (room short fuse : Int) (r : Int) (e : Ending) (w' : World) : Prop :=
  e = .returned (.int .i64 r) ∧ Hd w' bd bm room short fuse ∧ Mods (· = bd) w w'

theorem short_any (n : Int) (hb : Hd w bd bm room short fuse) : Calls Try.prog 23 #[.pointer (some ⟨bd, 0, none⟩), .int .i64 n] w (SetPost w bd bm room (setVal n n short) fuse (setErr n n)) := by
  have hmd := Lib.hid (made_yes bd bm room short fuse w hb)
  have c2 : w.cell? ⟨bd, 2, none⟩ = some (.int .i64 short) := hb.cell 2
  have hs := Lib.hid (set_any bd w 2 n n short _ _ hb c2)
  go_enter Try.func23, Try.ntmps23
  go_wp2_with (first
    | (go_at_call 10; refine hmd.out.mono ?_; rintro e w' ⟨rfl, rfl⟩)
    | (go_at_call 48; refine hs.out.mono ?_; rintro e w1 ⟨rfl, hw⟩))
  go_ret
  unfold SetW at hw
  by_cases h : 0 ≤ n ∧ n ≤ n
  · rw [if_pos h] at hw
    subst hw
    refine ⟨rfl, ?_, (Mods.refl (· = bd) _).setCell (p := ⟨bd, 2, none⟩) (fun _ => rfl) _⟩
    unfold setVal
    rw [if_pos h]
    exact hb.set_ 2 _
  · rw [if_neg h] at hw
    subst hw
    refine ⟨rfl, ?_, Mods.refl _ _⟩
    unfold setVal
    rw [if_neg h]
    exact hb

theorem fuse_any (n : Int) (hb : Hd w bd bm room short fuse) : Calls Try.prog 27 #[.pointer (some ⟨bd, 0, none⟩), .int .i64 n] w (SetPost w bd bm room short (setVal n n fuse) (setErr n n)) := by
  have hmd := Lib.hid (made_yes bd bm room short fuse w hb)
  have c2 : w.cell? ⟨bd, 3, none⟩ = some (.int .i64 fuse) := hb.cell 3
  have hs := Lib.hid (set_any bd w 3 n n fuse _ _ hb c2)
  go_enter Try.func27, Try.ntmps27
  go_wp2_with (first
    | (go_at_call 10; refine hmd.out.mono ?_; rintro e w' ⟨rfl, rfl⟩)
    | (go_at_call 48; refine hs.out.mono ?_; rintro e w1 ⟨rfl, hw⟩))
  go_ret
  unfold SetW at hw
  by_cases h : 0 ≤ n ∧ n ≤ n
  · rw [if_pos h] at hw
    subst hw
    refine ⟨rfl, ?_, (Mods.refl (· = bd) _).setCell (p := ⟨bd, 3, none⟩) (fun _ => rfl) _⟩
    unfold setVal
    rw [if_pos h]
    exact hb.set_ 3 _
  · rw [if_neg h] at hw
    subst hw
    refine ⟨rfl, ?_, Mods.refl _ _⟩
    unfold setVal
    rw [if_neg h]
    exact hb

theorem room_any (n : Int) (hb : Hd w bd bm room short fuse) : Calls Try.prog 25 #[.pointer (some ⟨bd, 0, none⟩), .int .i64 n] w (SetPost w bd bm (setVal n 1099511627776 room) short fuse (setErr n 1099511627776)) := by
  have hmd := Lib.hid (made_yes bd bm room short fuse w hb)
  have c2 : w.cell? ⟨bd, 1, none⟩ = some (.int .i64 room) := hb.cell 1
  have hs := Lib.hid (set_any bd w 1 n 1099511627776 room _ _ hb c2)
  go_enter Try.func25, Try.ntmps25
  go_wp2_with (first
    | (go_at_call 10; refine hmd.out.mono ?_; rintro e w' ⟨rfl, rfl⟩)
    | (go_at_call 48; refine hs.out.mono ?_; rintro e w1 ⟨rfl, hw⟩))
  go_ret
  unfold SetW at hw
  by_cases h : 0 ≤ n ∧ n ≤ 1099511627776
  · rw [if_pos h] at hw
    subst hw
    refine ⟨rfl, ?_, (Mods.refl (· = bd) _).setCell (p := ⟨bd, 1, none⟩) (fun _ => rfl) _⟩
    unfold setVal
    rw [if_pos h]
    exact hb.set_ 1 _
  · rw [if_neg h] at hw
    subst hw
    refine ⟨rfl, ?_, Mods.refl _ _⟩
    unfold setVal
    rw [if_neg h]
    exact hb
end

end Go.Proofs.Ytkfmfllniakhkaa
