/- The program's disk: Crash's first loop: slices.Backward over the tails. -/
import Derived.Test.YtkfmfllniakhkaaFilesD
import Derived.RangeFuncNested
import Derived.RangeFuncBound
import Derived.RangeFuncCalls
import Derived.RangeFuncLeaves
import Derived.RangeFuncBox
import Derived.Shelf.Abstract
import Derived.Shelf.RegionOpen
import Derived.WalkKit
import Derived.OwnWalkIn
import Derived.TacticsInMore
import Derived.LoopNIn
import Derived.LoopIn
import Derived.Maps.OwnIn
namespace Go.Proofs.Ytkfmfllniakhkaa
open Go.RowKit Go.Maps Go.Sort Go.Shelf
set_option linter.unusedVariables false

attribute [local go_sem] Oper.semAt_some

/-- a tail -/
structure Tl where
  name : ByteArray
  keep : Int
  turn : Bool
  small : name.size ≤ maxLen
def Tl.nm (t : Tl) : Nm := t.name.data.toList
def tcell (t : Tl) : List Value := [.string t.name, .int .i64 t.keep, .bool t.turn]
def tcells (l : List Tl) : List Value := l.flatMap tcell
def Tl.val (t : Tl) : Value := .agg #[.string t.name, .int .i64 t.keep, .bool t.turn]
theorem tcells_length (l : List Tl) : (tcells l).length = l.length * 3 := by
  unfold tcells
  induction l with
  | nil => rfl
  | cons c l ih => simp only [List.flatMap_cons, List.length_append, ih]; simp [tcell]; omega
theorem tcells_at (l : List Tl) (i : Nat) (h : i < l.length) : ∀ j, j < 3 → (tcells l)[i * 3 + j]? = (tcell l[i])[j]? := by
  induction l generalizing i with
  | nil => simp at h
  | cons c l ih =>
    intro j hj
    show (tcell c ++ tcells l)[i * 3 + j]? = _
    cases i with
    | zero => rw [List.getElem?_append_left (by simp [tcell]; omega)]; simp
    | succ i =>
      rw [List.getElem?_append_right (by simp [tcell]; omega)]
      have : (i + 1) * 3 + j - (tcell c).length = i * 3 + j := by simp [tcell]; omega
      rw [this, ih i (by simpa using h) j hj]
      simp
theorem add_step (a : Addr) (i j : Nat) : a.add (i + (j + 1)) = ⟨(a.add i).block, (a.add i).off + (j + 1), none⟩ := by
  unfold Addr.add
  by_cases h : i = 0
  · subst h
    simp
  · simp [h, Nat.add_assoc]

/-- the three cells of tail k -/
theorem tail3 {w : World} {B n : Nat} {A : Option Addr} {l : List Tl} (hr : Reads w B 3 A n (tcells l)) (k : Nat) (hk : k < l.length) :
    ∃ ad, A = some ad ∧ w.cell? (ad.add (k * 3)) = some (.string l[k].name) ∧ w.cell? ⟨(ad.add (k * 3)).block, (ad.add (k * 3)).off + 1, none⟩ = some (.int .i64 l[k].keep) ∧ w.cell? ⟨(ad.add (k * 3)).block, (ad.add (k * 3)).off + 2, none⟩ = some (.bool l[k].turn) := by
  have hl := hr.1
  rw [tcells_length] at hl
  obtain ⟨ad, e, _, hc⟩ := hr.2 (by omega)
  refine ⟨ad, e, ?_, ?_, ?_⟩
  · exact hc (k * 3) _ (by have := tcells_at l k hk 0 (by omega); simpa [tcell] using this)
  · rw [← add_step ad (k * 3) 0]; exact hc (k * 3 + 1) _ (by have := tcells_at l k hk 1 (by omega); simpa [tcell] using this)
  · rw [← add_step ad (k * 3) 1]; exact hc (k * 3 + 2) _ (by have := tcells_at l k hk 2 (by omega); simpa [tcell] using this)

/-- what has come when k rounds are over -/
def dflt : Tl := ⟨ByteArray.empty, 0, false, Nat.zero_le _⟩
def fB (l : List Tl) (j : Nat) : Int × Tl := ((l.length : Int) - 1 - (j : Int), (l.reverse[j]?).getD dflt)
def back (l : List Tl) (k : Nat) : List (Int × Tl) := (List.range k).map (fB l)
def encT (x : Int × Tl) : Array Value := #[.int .i64 x.1, x.2.val]
theorem back_succ (l : List Tl) (k : Nat) : back l (k + 1) = back l k ++ [fB l k] := by simp [back, List.range_succ]
theorem back_length (l : List Tl) (k : Nat) : (back l k).length = k := by simp [back]
theorem back_all (l : List Tl) : (back l l.length).map (·.2) = l.reverse := by
  apply List.ext_getElem
  · simp [back]
  · intro i h1 h2
    have : i < l.length := by simpa using h2
    simp [back, fB, this]
theorem fB_at (l : List Tl) (k : Nat) (h : k < l.length) : fB l k = ((l.length : Int) - 1 - (k : Int), l[l.length - 1 - k]) := by
  simp [fB, h, List.getElem_reverse]

set_option maxRecDepth 100000 in
set_option maxHeartbeats 2000000 in
theorem backward1_in (F : Fence) (n : Nat) (h8 : F.fn 54) (hro : F.round = none) (hn : 1 ≤ n) (T : Nat → Prop) (l Bs n₀ cap : Nat) (A : Option Addr) (ts : List Tl) (hlen : ts.length ≤ 140737488351232) (J Jx : List (Int × Tl) → World → Prop)
    (hY : ∀ pre x W, J pre W → pre.length < ts.length → YieldAt F (n - 1) Try.prog l (encT x) W fun e W' =>
      (e = .returned (.bool true) ∧ J (pre ++ [x]) W' ∧ Mods T W W') ∨ (e = .returned (.bool false) ∧ Jx (pre ++ [x]) W'))
    (W : World) (hBs : W.cell? ⟨Bs, 0, none⟩ = some (.slice A ts.length cap)) (hBn : Bs < n₀) (hn₀ : n₀ ≤ W.heap.size) (hTb : ¬ T Bs) (hTa : ∀ ad, A = some ad → 0 < ts.length → ¬ T ad.block) (hc : Reads W n₀ 3 A ts.length (tcells ts)) (h0 : J [] W) :
    CallsIn F n Try.prog 54 #[.func (.yield l) #[] #[], .pointer (some ⟨Bs, 0, none⟩)] W fun e W' => (∃ v, e = .returned v) ∧
      ((∃ ys, ys = back ts ts.length ∧ J ys W') ∨ (∃ pre, (∃ k, k ≤ ts.length ∧ pre = back ts k) ∧ Jx pre W')) := by
  refine callsIn_of_wp Try.func54 rfl h8 ?_ hro
  simp only [Try.ntmps54, List.size_toArray, List.length_cons, List.length_nil, Nat.reduceAdd, Nat.reduceSub, Array.replicate_succ, Array.replicate_zero, List.push_toArray, List.append_toArray, List.nil_append, List.cons_append]
  have hw0 : IntKind.i64.wrap ((ts.length : Int) - 1) = (ts.length : Int) - 1 := IntWalk.i64_in _ (by omega)
  gi_wp2
  gi_loopw [3] (fun i wr => ∃ m k : Nat, m + k = ts.length ∧ i = .int .i64 ((m : Int) - 1) ∧ J (back ts k) wr ∧ Mods T W wr)
    (fun i _ => (intOf i + 1).toNat)
  case atStart => exact ⟨ts.length, 0, by omega, rfl, h0, Mods.refl _ _⟩
  case round =>
    obtain ⟨m, k, hmk, rfl, hJs, hnx⟩ := hrel
    rcases m with _ | m
    · have hz : decide ((0 : Int) ≤ (((0 : Nat) : Int) - 1)) = false := by decide
      have hk : k = ts.length := by omega
      gi_wp2
      go_end0
      exact ⟨⟨_, rfl⟩, .inl ⟨_, rfl, hk ▸ hJs⟩⟩
    · have hm : ((m + 1 : Nat) : Int) - 1 = (m : Int) := by omega
      rw [hm]
      have hmt : m < ts.length := by omega
      have hf : fB ts k = ((m : Int), ts[m]) := by
        rw [fB_at ts k (by omega)]
        have e : ts.length - 1 - k = m := by omega
        simp only [e]
        exact Prod.ext (by dsimp only; omega) rfl
      obtain ⟨fn, tmps, assign, body, hy, hR⟩ := hY _ (fB ts k) wr hJs (by rw [back_length]; omega)
      rw [hf] at hy
      dsimp only [encT, Tl.val] at hy
      have hBs' : wr.cell? ⟨Bs, 0, none⟩ = some (.slice A ts.length cap) := (World.cell?_of_block (hnx.block Bs (by omega) hTb)).trans hBs
      obtain ⟨ad, rfl, d0, d1, d2⟩ := tail3 (hc.modsA hnx hn₀ (fun _ ad e => hTa ad e (by omega))) m hmt
      have hz : decide ((0 : Int) ≤ (m : Int)) = true := by simp
      have hw1 : IntKind.i64.wrap ((m : Int) - 1) = (m : Int) - 1 := IntWalk.i64_in _ (by omega)
      gi_wp2
      refine hR.mono ?_
      rintro e W3 (⟨rfl, hJ3, hk3⟩ | ⟨rfl, hJx3⟩)
      · gi_wp2
        go_roundw
        case rel => exact ⟨m, k + 1, by omega, rfl, by rw [back_succ]; exact hJ3, hnx.trans hk3 (fun _ _ h => h)⟩
        case measure => simp [intOf]
      · gi_wp2
        refine bodyPost_ret (results_none rfl _ _ _) rfl ?_
        exact ⟨⟨_, rfl⟩, .inr ⟨_, ⟨k + 1, by omega, (back_succ _ _).symm⟩, hJx3⟩⟩

set_option maxHeartbeats 1000000 in
theorem backward_in (F : Fence) (n : Nat) (h5 : F.fn 49) (hro : F.round = none) (A : Option Addr) (len cap : Nat) (w : World) :
    CallsIn F n Try.prog 49 #[.slice A len cap] w fun e w' => e = .returned (.func (.func 54) #[] #[.pointer (some ⟨w.heap.size, 0, none⟩)]) ∧ w' = w.alloc (.cells #[.slice A len cap] 31) := by
  refine callsIn_of_wp Try.func49 rfl h5 ?_ hro
  simp only [Try.ntmps49, List.size_toArray, List.length_cons, List.length_nil, Nat.reduceAdd, Nat.reduceSub, Array.replicate_succ, Array.replicate_zero, List.push_toArray, List.append_toArray, List.nil_append, List.cons_append]
  gi_wp2
  go_ret
  exact ⟨rfl, rfl⟩

theorem modsK_t {T : Nat → Prop} {A B C : World} (h : Mods T A B) (k : Mods T B C) : Mods T A C := h.trans k (fun _ _ h => h)
theorem modsK_b {T : Nat → Prop} {n₁ : Nat} (hT : ∀ k, n₁ ≤ k → T k) (W : World) (l : Nat) (o o' : Obj) (hl : n₁ ≤ l) (_ : W.heap[l]? = some o) (_ : o.isCells = false) (_ : o.isWalk = false) : Mods T W (W.putObj l o') :=
  (Mods.refl T W).grown (grownBy_putObj' W l o') (fun k _ e => by injection e with e; exact hT k (by omega))

theorem backward_stops (F : Fence) (n : Nat) (h8 : F.fn 54) (hro : F.round = none) (hn : 1 ≤ n) (T : Nat → Prop) (Bs n₀ cap : Nat) (A : Option Addr) (ts : List Tl) (hlen : ts.length ≤ 140737488351232) (w : World) (hBs : Bs < n₀) (hn₀ : n₀ ≤ w.heap.size)
    (hTb : ¬ T Bs) (hTa : ∀ ad, A = some ad → 0 < ts.length → ¬ T ad.block) (hc : w.cell? ⟨Bs, 0, none⟩ = some (.slice A ts.length cap)) (hI : Reads w n₀ 3 A ts.length (tcells ts)) :
    SeqStopsK F n Try.prog 54 #[.pointer (some ⟨Bs, 0, none⟩)] encT (Mods T) (fun ys => ys = back ts ts.length)
      (fun pre => ∃ k, k ≤ ts.length ∧ pre = back ts k) ts.length w := fun l J Jx W hW _ _ hY h0 => by
  have hc' := (hW.cell (p := ⟨Bs, 0, none⟩) (Nat.lt_of_lt_of_le hBs hn₀)).trans hc
  exact backward1_in F n h8 hro hn T l Bs n₀ cap A ts hlen J Jx hY W hc' hBs (Nat.le_trans hn₀ hW.size) hTb hTa (hI.below (hW.mono hn₀)) h0

end Go.Proofs.Ytkfmfllniakhkaa
