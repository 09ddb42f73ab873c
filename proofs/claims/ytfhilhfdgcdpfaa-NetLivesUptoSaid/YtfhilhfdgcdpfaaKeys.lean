/- Lists with rising keys: an element is replaced, an element goes; the datum of a map with int keys. -/
import Derived.Test.YtfhilhfdgcdpfaaMods
import Derived.Maps.Views
import Derived.Lib.SlKeysI
namespace Go.Proofs.Ytfhilhfdgcdpfaa
open Go.RowKit Go.Maps
set_option linter.unusedVariables false

section
variable {α : Type} {key : α → Int}

theorem key_inj {l : List α} (hp : l.Pairwise (fun x y => key x < key y)) {a b : α} (ha : a ∈ l) (hb : b ∈ l) (h : key a = key b) : a = b := by
  induction l with
  | nil => cases ha
  | cons x l ih =>
    rw [List.pairwise_cons] at hp
    rcases List.mem_cons.1 ha with e | ha'
    · rcases List.mem_cons.1 hb with e' | hb'
      · rw [e, e']
      · have := hp.1 b hb'; subst e; omega
    · rcases List.mem_cons.1 hb with e' | hb'
      · have := hp.1 a ha'; subst e'; omega
      · exact ih hp.2 ha' hb'

theorem set_eq_map {l : List α} (hp : l.Pairwise (fun x y => key x < key y)) {k : Nat} {c : α} (hk : l[k]? = some c) (c' : α) : l.set k c' = l.map (fun d => if key d = key c then c' else d) := by
  induction l generalizing k with
  | nil => simp at hk
  | cons x l ih =>
    rw [List.pairwise_cons] at hp
    cases k with
    | zero =>
      obtain rfl : x = c := by simpa using hk
      have : l.map (fun d => if key d = key x then c' else d) = l := by
        conv => rhs; rw [← List.map_id l]
        apply List.map_congr_left
        intro d hd
        have := hp.1 d hd
        simp; omega
      simp [this]
    | succ k =>
      have hk' : l[k]? = some c := by simpa using hk
      have := hp.1 c (List.mem_of_getElem? hk')
      simp only [List.set_cons_succ, List.map_cons, ih hp.2 hk']
      rw [if_neg (by omega)]

theorem erase_eq_filter {l : List α} (hp : l.Pairwise (fun x y => key x < key y)) {k : Nat} {c : α} (hk : l[k]? = some c) : l.take k ++ l.drop (k + 1) = l.filter (fun d => decide (key d ≠ key c)) := by
  induction l generalizing k with
  | nil => simp at hk
  | cons x l ih =>
    rw [List.pairwise_cons] at hp
    cases k with
    | zero =>
      obtain rfl : x = c := by simpa using hk
      have : l.filter (fun d => decide (key d ≠ key x)) = l := by
        rw [List.filter_eq_self]
        intro d hd
        have := hp.1 d hd
        simp; omega
      rw [List.filter_cons_of_neg (by simp), this]
      rfl
    | succ k =>
      have hk' : l[k]? = some c := by simpa using hk
      have := hp.1 c (List.mem_of_getElem? hk')
      have ih' := ih hp.2 hk'
      simp only [List.take_succ_cons, List.drop_succ_cons, List.cons_append, ih']
      rw [List.filter_cons_of_pos (by simp; omega)]
end

/-! the datum of a map from numbers to pointers -/
def datI {α : Type} (key : α → Int) (val : α → Value) (l : List α) : DataW Value := .map (l.map fun c => (.int .i64 (key c), .held (val c)))

section
variable {α : Type} {key : α → Int} {val : α → Value}

theorem datI_find (l : List α) (id : Int) : (l.map fun c => ((Lit.int .i64 (key c) : Lit), (DataW.held (val c) : DataW Value))).find? (fun p => p.1.sameKey (.int .i64 id)) = (l.find? (fun c => decide (key c = id))).map fun c => (.int .i64 (key c), .held (val c)) := by
  induction l with
  | nil => rfl
  | cons x l ih =>
    by_cases h : key x = id
    · simp [Lit.sameKey, h]
    · rw [List.map_cons, List.find?_cons_of_neg (by simp [Lit.sameKey, h]), ih, List.find?_cons_of_neg (by simpa using h)]

theorem datI_hit {l : List α} (hp : l.Pairwise (fun x y => key x < key y)) {c : α} (hc : c ∈ l) (z : DataW Value) : (datI key val l).atKey (.int .i64 (key c)) z = .held (val c) := by
  unfold datI DataW.atKey
  simp only
  rw [datI_find]
  cases h : l.find? (fun d => decide (key d = key c)) with
  | none => exact absurd (List.find?_eq_none.1 h c hc) (by simp)
  | some d =>
    have hd := List.mem_of_find?_eq_some h
    have hk := List.find?_some h
    simp at hk
    rw [key_inj hp hd hc hk]
    rfl

theorem datI_miss {l : List α} {id : Int} (h : ∀ c ∈ l, key c ≠ id) (z : DataW Value) : (datI key val l).atKey (.int .i64 id) z = z := by
  unfold datI DataW.atKey
  simp only
  rw [datI_find, List.find?_eq_none.2 (fun c hc => by simpa using h c hc)]
  rfl

theorem datI_del (l : List α) (id : Int) : (datI key val l).del (.int .i64 id) = datI key val (l.filter (fun d => decide (key d ≠ id))) := by
  unfold datI DataW.del
  simp only
  congr 1
  rw [List.filter_map]
  congr 1
  apply List.filter_congr
  intro x _
  simp [Lit.sameKey]

theorem insert_end {H : Type} (x : Lit × DataW H) (l : List (Lit × DataW H)) (h : ∀ y ∈ l, x.1.before y.1 = false) : DataW.insert x l = l ++ [x] := by
  induction l with
  | nil => rfl
  | cons y l ih =>
    unfold DataW.insert
    rw [h y (List.mem_cons_self ..), ih (fun z hz => h z (List.mem_cons_of_mem _ hz))]
    rfl

theorem datI_put_end {l : List α} {c : α} (h : ∀ d ∈ l, key d < key c) : (datI key val l).put (.int .i64 (key c)) (.held (val c)) = datI key val (l ++ [c]) := by
  unfold datI DataW.put
  simp only
  congr 1
  have h1 : (l.map fun c => ((Lit.int .i64 (key c) : Lit), (DataW.held (val c) : DataW Value))).filter (fun p => !p.1.sameKey (.int .i64 (key c))) = l.map fun c => (.int .i64 (key c), .held (val c)) := by
    rw [List.filter_eq_self]
    intro p hp
    obtain ⟨d, hd, rfl⟩ := List.mem_map.1 hp
    have := h d hd
    simp [Lit.sameKey]; omega
  rw [h1, insert_end]
  · simp
  · intro y hy
    obtain ⟨d, hd, rfl⟩ := List.mem_map.1 hy
    have := h d hd
    simp [Lit.before]; omega

theorem datI_map (f : α → α) (hk : ∀ c, key (f c) = key c) (l : List α) (hv : ∀ c ∈ l, val (f c) = val c) : datI key val (l.map f) = datI key val l := by
  unfold datI
  congr 1
  rw [List.map_map]
  apply List.map_congr_left
  intro c hc
  simp [hk c, hv c hc]

theorem datI_size (l : List α) : Maps.size (datI key val l) = l.length := by simp [datI, Maps.size_eq]
theorem datI_keys (l : List α) : intKeys (datI key val l) = l.map key := by
  unfold datI intKeys
  simp only [List.map_map]
  rfl

theorem sorted_of_rising {l : List α} (hp : l.Pairwise (fun x y => key x < key y)) {ss : List Int} (h : ss.Perm (l.map key)) : ss.mergeSort (fun x y => decide (x ≤ y)) = l.map key := by
  have h1 : (ss.mergeSort (fun x y => decide (x ≤ y))).Pairwise (fun x y : Int => decide (x ≤ y) = true) :=
    List.pairwise_mergeSort (fun a b c h1 h2 => by simp at *; omega) (fun a b => by simp; omega) ss
  have h2 : (l.map key).Pairwise (fun x y : Int => decide (x ≤ y) = true) := by
    rw [List.pairwise_map]
    exact hp.imp (fun h => by simp; omega)
  refine List.Perm.eq_of_pairwise (fun a b _ _ h1 h2 => ?_) h1 h2 ((List.mergeSort_perm ss _).trans h)
  simp at h1 h2
  omega
end

end Go.Proofs.Ytfhilhfdgcdpfaa
