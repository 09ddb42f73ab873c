/- The document's net: Drop: the walk. -/
import Derived.Test.YtfhilhfdgcdpfaaRefW3
namespace Go.Proofs.Ytfhilhfdgcdpfaa
open Go.RowKit Go.Maps
set_option linter.unusedVariables false

theorem rcells_take (l : List Rc) (k : Nat) : rcells (l.take k) = (rcells l).take (k * 3) := by
  induction l generalizing k with
  | nil => simp [rcells]
  | cons c l ih =>
    cases k with
    | zero => simp [rcells]
    | succ k =>
      show rcell c ++ rcells (l.take k) = (rcell c ++ rcells l).take _
      have h3 : (rcell c).length = 3 := rfl
      have h4 : (k + 1) * 3 = (rcell c).length + k * 3 := by rw [h3]; omega
      rw [ih, h4, List.take_length_add_append]
theorem rcells_drop (l : List Rc) (k : Nat) : rcells (l.drop k) = (rcells l).drop (k * 3) := by
  induction l generalizing k with
  | nil => simp [rcells]
  | cons c l ih =>
    cases k with
    | zero => simp [rcells]
    | succ k =>
      show rcells (l.drop k) = (rcell c ++ rcells l).drop _
      have h3 : (rcell c).length = 3 := rfl
      have h4 : (k + 1) * 3 = (rcell c).length + k * 3 := by rw [h3]; omega
      rw [ih, h4, List.drop_length_add_append]

theorem Reads.head {w : World} {B size n : Nat} {A : Option Addr} {xs : List Value} (h : Reads w B size A n xs) {k : Nat} (hk : k ≤ n) : Reads w B size A k (xs.take (k * size)) := by
  refine ⟨by rw [List.length_take, h.1]; exact Nat.min_eq_left (Nat.mul_le_mul_right _ hk), fun hn => ?_⟩
  obtain ⟨ad, e, hb, hc⟩ := h.2 (by omega)
  refine ⟨ad, e, hb, fun j u hu => hc j u ?_⟩
  rw [List.getElem?_take] at hu
  split at hu
  · exact hu
  · cases hu

def RDropPost (w : World) (xn n k : Nat) (last : Int) (l : List Rc) (e : Ending) (w' : World) : Prop := ∃ A' cap', e = .returned (.int .i64 0) ∧
      Blk w' xn 28 #[.slice A' (n - 1) cap', .int .i64 last] ∧ w'.ownsRow w.heap.size 54 3 (.slice A' (n - 1) cap') (n - 1) (rcells (l.take k ++ l.drop (k + 1))) ∧
      Mods (· = xn) w w'

set_option maxHeartbeats 4000000 in
theorem rdrop_yes (id last : Int) (xn n cap k g : Nat) (l : List Rc) (w : World) (hb : Blk w xn 28 #[.slice (some ⟨g, 0, none⟩) n cap, .int .i64 last])
    (hr : w.ownsRow 0 54 3 (.slice (some ⟨g, 0, none⟩) n cap) n (rcells l)) (hn : n ≤ 1000000) (hk : k < l.length) (hp : placeOf l id = (k : Int)) :
    Calls Try.prog 13 #[.pointer (some ⟨xn, 0, none⟩), .int .i64 id] w (RDropPost w xn n k last l) := by
  obtain ⟨i0, hi0, hz0, hz1, hz2⟩ := info_parts info_rc
  have hpl := place_any id last xn n cap _ l w hb hr hn
  rw [hp] at hpl
  have hpl := Lib.hid hpl
  clear hp
  have hkn : k < n := by rw [← own_len hr]; exact hk
  have hnc := own_cap hr
  have hcm : cap ≤ 9223372036854775807 := by have := hnc.2; simpa [maxLen] using this
  have hxl := hb.lt
  have hgl := (hr.lt g rfl).2
  have hne : g ≠ xn := fun e => own_blk_ne hr hb (by decide) (by rw [← e]; rfl)
  have hrs := Reads.of_own hr
  have hr1 := Lib.hid (hrs.head (Nat.le_of_lt hkn))
  have hr2 : Reads w w.heap.size 3 (if cap = k + 1 then some ⟨g, 0, none⟩ else some ⟨g, (k + 1) * 3, none⟩) (n - (k + 1)) ((rcells l).drop ((k + 1) * 3)) := by
    have h := hrs.cut (k := k + 1) hkn hnc.1
    have e : (if cap = k + 1 then (some ⟨g, 0, none⟩ : Option Addr) else (some (⟨g, 0, none⟩ : Addr)).map (·.add ((k + 1) * 3))) = if cap = k + 1 then some ⟨g, 0, none⟩ else some ⟨g, (k + 1) * 3, none⟩ := by
      simp [Addr.add]
    rw [e] at h
    exact h
  have hr2 := Lib.hid hr2
  have HL := Lib.hid (own_len hr)
  clear hrs
  have hkc : k ≤ cap := by omega
  have hwr : IntKind.i64.wrap ((k : Int) + 1) = (k : Int) + 1 := IntWalk.i64_in _ (by omega)
  have hp0 : (0 : Int) ≤ (k : Int) + 1 := by omega
  have hp1 : (k : Int) + 1 ≤ (n : Int) := by omega
  have hp2 : ((k : Int) + 1).toNat = k + 1 := by omega
  have hnc1 : n ≤ cap := hnc.1
  go_enter Try.func13, Try.ntmps13
  go_wp2_with (go_at_call 20; refine hpl.out.mono ?_; rintro e w1 ⟨rfl, hb1⟩; have c0 : w1.cell? ⟨xn, 0, none⟩ = some (.slice (some ⟨g, 0, none⟩) n cap) := (hb.below hb1 hxl).cell 0)
  have hb2 : Below w.heap.size w (w1.alloc (.cells #[] 54)).drew := (hb1.alloc hb1.size _).drew
  have hemp : (w1.alloc (.cells #[] 54)).drew.ownsRow w.heap.size 54 3 (.slice (some ⟨w1.heap.size, 0, none⟩) 0 0) 0 [] :=
    ⟨rfl, .inr ⟨w1.heap.size, 0, #[], rfl, hb1.size, (Blk.new w1 54 #[]).drew, Nat.le_refl _, by simp [maxLen], rfl, rfl⟩⟩
  have hsz2 : w.heap.size ≤ (w1.alloc (.cells #[] 54)).drew.heap.size := hb2.size
  have c0a : (w1.alloc (.cells #[] 54)).cell? ⟨xn, 0, none⟩ = some (.slice (some ⟨g, 0, none⟩) n cap) := (hb.below hb2 hxl).cell 0
  go_region_law (first
    | ((refine step_append_any _ rfl (.tmp 12) (.tmp 18) 26 rfl w.heap.size 54 i0 _ 3 40 Try.underlying26 hi0 hz0 hz1 hz2 rfl (by omega) (.slice (some ⟨w1.heap.size, 0, none⟩) 0 0) 0 [] (by first | rfl | simp [Act.eval, Act.put]) hemp w.heap.size (some ⟨g, 0, none⟩) k cap ((rcells l).take (k * 3)) (by first | rfl | simp [Act.eval, Act.put]) (hr1.out.below hb2) (fun u hu => rcells_one l u (List.mem_of_mem_take hu)) (by simp only [maxLen]; omega) (by omega) hsz2 ?_); intro v2 w2 hown2 hg2 hat2; obtain ⟨A2, cap2, rfl⟩ := own_slice hown2; have hb3 : Below w.heap.size w w2 := hb2.grown hg2 hsz2 (fun k hk => by cases hk; exact hb1.size); have c0' : w2.cell? ⟨xn, 0, none⟩ = some (.slice (some ⟨g, 0, none⟩) n cap) := (hb.below hb3 hxl).cell 0)
    | ((refine step_append_any _ rfl (.tmp 19) (.tmp 26) 26 rfl w.heap.size 54 i0 _ 3 40 Try.underlying26 hi0 hz0 hz1 hz2 rfl (by omega) (.slice A2 (0 + k) cap2) (0 + k) ([] ++ (rcells l).take (k * 3)) (by first | rfl | simp [Act.eval, Act.put]) hown2 w.heap.size (if cap = k + 1 then some ⟨g, 0, none⟩ else some ⟨g, (k + 1) * 3, none⟩) (n - (k + 1)) (cap - (k + 1)) ((rcells l).drop ((k + 1) * 3)) (by first | rfl | simp [Act.eval, Act.put]) (hr2.out.below hb3) (fun u hu => rcells_one l u (List.mem_of_mem_drop hu)) (by simp only [maxLen]; omega) (by omega) hb3.size ?_); intro v4 w4 hown4 hg4 hat4; obtain ⟨A4, cap4, rfl⟩ := own_slice hown4; have hb4 : Below w.heap.size w w4 := hb3.grown hg4 hb3.size (fun k hk => (hown2.lt k hk).1); have c04 : w4.cell? ⟨xn, 0, none⟩ = some (.slice (some ⟨g, 0, none⟩) n cap) := (hb.below hb4 hxl).cell 0; have f4 : w4.frozen? ⟨xn, 0, none⟩ = false := (hb.below hb4 hxl).frozen 0))
  all_goals go_wp2
  all_goals go_ret
  all_goals
    have hcn : 0 + k + (n - (k + 1)) = n - 1 := by omega
    have hcn' : k + (n - (k + 1)) = n - 1 := by omega
    rw [hcn'] at *
    rw [hcn] at hown4
    refine ⟨A4, cap4, rfl, (hb.below hb4 hxl).set_ 0 _, ?_, (Mods.below (Mods.refl (· = xn) w) hb4).setCell (p := ⟨xn, 0, none⟩) (fun _ => rfl) _⟩
    rw [rcells_append, rcells_take, rcells_drop]
    exact own_far hown4 (p := ⟨xn, 0, none⟩) (fun e => by have := (hown4.lt _ e).1; simp at this; omega) _

end Go.Proofs.Ytfhilhfdgcdpfaa
