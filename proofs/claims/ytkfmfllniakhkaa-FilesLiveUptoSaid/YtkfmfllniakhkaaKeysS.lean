/- Lists with rising names: one is put, one goes, one turns; the datum of a map with such keys. -/
import Derived.Test.YtkfmfllniakhkaaMods
import Derived.Maps.Views
import Derived.Sort.KeysCollected
namespace Go.Proofs.Ytkfmfllniakhkaa
open Go.RowKit Go.Maps
set_option linter.unusedVariables false

abbrev Nm := List UInt8

theorem before_lt (a b : Nm) : bytesBefore a b = decide (a < b) := by
  induction a generalizing b with
  | nil => cases b <;> simp [bytesBefore]
  | cons x a ih =>
    cases b with
    | nil => simp [bytesBefore]
    | cons y b =>
      unfold bytesBefore
      rw [ih, Bool.eq_iff_iff]
      simp [List.cons_lt_cons_iff]
theorem nm_irrefl (a : Nm) : ¬ a < a := List.lt_irrefl a
theorem nm_trans {a b c : Nm} (h : a < b) (k : b < c) : a < c := List.lt_trans h k
theorem nm_total {a b : Nm} (h : a ≠ b) : a < b ∨ b < a := by
  rcases WideAt.bytes_total a b h with h | h <;> rw [before_lt] at h <;> simp at h
  · exact .inl h
  · exact .inr h

section
variable {α : Type} {key : α → Nm}

theorem keyS_inj {l : List α} (hp : l.Pairwise (fun x y => key x < key y)) {a b : α} (ha : a ∈ l) (hb : b ∈ l) (h : key a = key b) : a = b := by
  induction l with
  | nil => cases ha
  | cons x l ih =>
    rw [List.pairwise_cons] at hp
    rcases List.mem_cons.1 ha with e | ha'
    · rcases List.mem_cons.1 hb with e' | hb'
      · rw [e, e']
      · have := hp.1 b hb'; subst e; rw [h] at this; exact absurd this (nm_irrefl _)
    · rcases List.mem_cons.1 hb with e' | hb'
      · have := hp.1 a ha'; subst e'; rw [h] at this; exact absurd this (nm_irrefl _)
      · exact ih hp.2 ha' hb'

/-- behind all that are smaller -/
def insS (key : α → Nm) (x : α) : List α → List α
  | [] => [x]
  | y :: r => if key x < key y then x :: y :: r else y :: insS key x r
/-- in the place of one of the same name -/
def putS (key : α → Nm) (x : α) (l : List α) : List α := insS key x (l.filter fun d => decide (key d ≠ key x))

theorem mem_insS {x y : α} {l : List α} : y ∈ insS key x l ↔ y = x ∨ y ∈ l := by
  induction l with
  | nil => simp [insS]
  | cons z l ih =>
    unfold insS
    split
    · simp
    · simp only [List.mem_cons, ih]
      constructor
      · rintro (h | h | h)
        · exact .inr (.inl h)
        · exact .inl h
        · exact .inr (.inr h)
      · rintro (h | h | h)
        · exact .inr (.inl h)
        · exact .inl h
        · exact .inr (.inr h)
theorem mem_putS {x y : α} {l : List α} : y ∈ putS key x l ↔ y = x ∨ (y ∈ l ∧ key y ≠ key x) := by
  unfold putS
  rw [mem_insS, List.mem_filter]
  simp
theorem ris_insS {x : α} {l : List α} (hp : l.Pairwise (fun x y => key x < key y)) (hne : ∀ y ∈ l, key y ≠ key x) : (insS key x l).Pairwise (fun x y => key x < key y) := by
  induction l with
  | nil => exact List.pairwise_singleton _ _
  | cons z l ih =>
    rw [List.pairwise_cons] at hp
    unfold insS
    split
    · rename_i h
      rw [List.pairwise_cons]
      refine ⟨fun y hy => ?_, List.pairwise_cons.2 hp⟩
      rcases List.mem_cons.1 hy with rfl | hy
      · exact h
      · exact nm_trans h (hp.1 y hy)
    · rename_i h
      rw [List.pairwise_cons]
      refine ⟨fun y hy => ?_, ih hp.2 fun y hy => hne y (List.mem_cons_of_mem _ hy)⟩
      rcases mem_insS.1 hy with rfl | hy
      · exact (nm_total (hne z (List.mem_cons_self ..))).resolve_right h
      · exact hp.1 y hy
theorem ris_putS {x : α} {l : List α} (hp : l.Pairwise (fun x y => key x < key y)) : (putS key x l).Pairwise (fun x y => key x < key y) :=
  ris_insS (hp.sublist List.filter_sublist) fun y hy => by simpa using (List.mem_filter.1 hy).2
/-- rising lists of the same elements are one -/
theorem ris_ext {l l' : List α} (hp : l.Pairwise (fun x y => key x < key y)) (hp' : l'.Pairwise (fun x y => key x < key y)) (h : ∀ x, x ∈ l ↔ x ∈ l') : l = l' := by
  refine List.Perm.eq_of_pairwise (le := fun x y => key x < key y) (fun a b ha hb h1 h2 => absurd (nm_trans h1 h2) (nm_irrefl _)) hp hp' ?_
  refine (List.perm_ext_iff_of_nodup ?_ ?_).2 h
  · exact hp.imp fun {a b} h e => by rw [e] at h; exact nm_irrefl _ h
  · exact hp'.imp fun {a b} h e => by rw [e] at h; exact nm_irrefl _ h
theorem ris_map {l : List α} (hp : l.Pairwise (fun x y => key x < key y)) (f : α → α) (hf : ∀ x, key (f x) = key x) : (l.map f).Pairwise (fun x y => key x < key y) := by
  rw [List.pairwise_map]
  exact hp.imp fun {a b} h => by rw [hf, hf]; exact h
theorem ris_sub {l : List α} (hp : l.Pairwise (fun x y => key x < key y)) (p : α → Bool) : (l.filter p).Pairwise (fun x y => key x < key y) := hp.sublist List.filter_sublist
/-- one of the same name is there: it is replaced -/
theorem putS_turn {l : List α} (hp : l.Pairwise (fun x y => key x < key y)) {x c : α} (hc : c ∈ l) (hk : key c = key x) : putS key x l = l.map fun d => if key d = key x then x else d := by
  refine ris_ext (ris_putS hp) (ris_map hp _ fun y => by split <;> simp_all) fun y => ?_
  rw [mem_putS, List.mem_map]
  constructor
  · rintro (rfl | ⟨hy, hne⟩)
    · exact ⟨c, hc, by rw [if_pos hk]⟩
    · exact ⟨y, hy, by rw [if_neg hne]⟩
  · rintro ⟨d, hd, rfl⟩
    by_cases h : key d = key x
    · rw [if_pos h]; exact .inl rfl
    · rw [if_neg h]; exact .inr ⟨hd, h⟩
theorem putS_same {l : List α} (hp : l.Pairwise (fun x y => key x < key y)) {x : α} (hx : x ∈ l) : putS key x l = l := by
  refine ris_ext (ris_putS hp) hp fun y => ?_
  rw [mem_putS]
  constructor
  · rintro (rfl | ⟨hy, _⟩)
    · exact hx
    · exact hy
  · intro hy
    by_cases h : key y = key x
    · exact .inl (keyS_inj hp hy hx h)
    · exact .inr ⟨hy, h⟩
theorem putS_filter {l : List α} (hp : l.Pairwise (fun x y => key x < key y)) {x : α} (hx : x ∈ l) (p : α → Bool) : putS key x (l.filter p) = l.filter fun y => p y || decide (key y = key x) := by
  refine ris_ext (ris_putS (ris_sub hp p)) (ris_sub hp _) fun y => ?_
  rw [mem_putS, List.mem_filter, List.mem_filter]
  constructor
  · rintro (rfl | ⟨⟨hy, hpy⟩, _⟩)
    · exact ⟨hx, by simp⟩
    · exact ⟨hy, by simp [hpy]⟩
  · rintro ⟨hy, h⟩
    by_cases hk : key y = key x
    · exact .inl (keyS_inj hp hy hx hk)
    · exact .inr ⟨⟨hy, by simpa [hk] using h⟩, hk⟩
end

section
variable {α β : Type} {key : α → Nm} {key' : β → Nm}
theorem insS_mapf (f : α → β) (hf : ∀ x, key' (f x) = key x) (x : α) (l : List α) : (insS key x l).map f = insS key' (f x) (l.map f) := by
  induction l with
  | nil => rfl
  | cons y l ih =>
    simp only [insS, List.map_cons, hf]
    split
    · rfl
    · simp [ih]
theorem putS_mapf (f : α → β) (hf : ∀ x, key' (f x) = key x) (x : α) (l : List α) : (putS key x l).map f = putS key' (f x) (l.map f) := by
  unfold putS
  rw [insS_mapf f hf, List.filter_map]
  congr 2
  apply List.filter_congr
  intro y _
  simp [hf]
end

/-! the datum of a map from names to pointers -/
def datS {α : Type} (key : α → Nm) (val : α → Value) (l : List α) : DataW Value := .map (l.map fun c => (.string (key c), .held (val c)))

section
variable {α : Type} {key : α → Nm} {val : α → Value}

theorem datS_find (l : List α) (id : Nm) : (l.map fun c => ((Lit.string (key c) : Lit), (DataW.held (val c) : DataW Value))).find? (fun p => p.1.sameKey (.string id)) = (l.find? (fun c => decide (key c = id))).map fun c => (.string (key c), .held (val c)) := by
  induction l with
  | nil => rfl
  | cons x l ih =>
    by_cases h : key x = id
    · simp [Lit.sameKey, h]
    · rw [List.map_cons, List.find?_cons_of_neg (by simp [Lit.sameKey, h]), ih, List.find?_cons_of_neg (by simpa using h)]
theorem datS_hit {l : List α} (hp : l.Pairwise (fun x y => key x < key y)) {c : α} (hc : c ∈ l) (z : DataW Value) : (datS key val l).atKey (.string (key c)) z = .held (val c) := by
  unfold datS DataW.atKey
  simp only
  rw [datS_find]
  cases h : l.find? (fun d => decide (key d = key c)) with
  | none => exact absurd (List.find?_eq_none.1 h c hc) (by simp)
  | some d =>
    have hd := List.mem_of_find?_eq_some h
    have hk := List.find?_some h
    simp at hk
    rw [keyS_inj hp hd hc hk]
    rfl
theorem datS_miss {l : List α} {id : Nm} (h : ∀ c ∈ l, key c ≠ id) (z : DataW Value) : (datS key val l).atKey (.string id) z = z := by
  unfold datS DataW.atKey
  simp only
  rw [datS_find, List.find?_eq_none.2 (fun c hc => by simpa using h c hc)]
  rfl
theorem datS_del (l : List α) (id : Nm) : (datS key val l).del (.string id) = datS key val (l.filter (fun d => decide (key d ≠ id))) := by
  unfold datS DataW.del
  simp only
  congr 1
  rw [List.filter_map]
  congr 1
  apply List.filter_congr
  intro x _
  rw [Bool.eq_iff_iff]
  simp [Lit.sameKey]
theorem datS_ins (c : α) (l : List α) : DataW.insert ((Lit.string (key c) : Lit), (DataW.held (val c) : DataW Value)) (l.map fun c => (.string (key c), .held (val c))) = (insS key c l).map fun c => (.string (key c), .held (val c)) := by
  induction l with
  | nil => rfl
  | cons y l ih =>
    simp only [List.map_cons, DataW.insert, insS]
    have : (Lit.string (key c)).before (Lit.string (key y)) = decide (key c < key y) := before_lt _ _
    rw [this]
    by_cases h : key c < key y
    · simp [h]
    · simp only [h, decide_false, if_false, List.map_cons]
      rw [← ih]
      rfl
theorem datS_put (l : List α) (c : α) : (datS key val l).put (.string (key c)) (.held (val c)) = datS key val (putS key c l) := by
  unfold datS DataW.put putS
  simp only
  congr 1
  have h1 : (l.map fun c => ((Lit.string (key c) : Lit), (DataW.held (val c) : DataW Value))).filter (fun p => !p.1.sameKey (.string (key c))) = (l.filter fun d => decide (key d ≠ key c)).map fun c => (.string (key c), .held (val c)) := by
    rw [List.filter_map]
    congr 1
    apply List.filter_congr
    intro x _
    rw [Bool.eq_iff_iff]
    simp [Lit.sameKey]
  rw [h1, datS_ins]
theorem datS_map {f : α → α} {l : List α} (hk : ∀ c, key (f c) = key c) (hv : ∀ c ∈ l, val (f c) = val c) : datS key val (l.map f) = datS key val l := by
  unfold datS
  congr 1
  rw [List.map_map]
  apply List.map_congr_left
  intro c hc
  simp [hk c, hv c hc]
theorem datS_size (l : List α) : Maps.size (datS key val l) = l.length := by simp [datS, Maps.size_eq]
theorem datS_keys (l : List α) : strKeys (datS key val l) = l.map key := by
  unfold datS strKeys
  simp only [List.map_map]
  rfl
theorem sortedS {l : List α} (hp : l.Pairwise (fun x y => key x < key y)) {ss : List Nm} (h : ss.Perm (l.map key)) : ss.mergeSort (fun x y => decide (x ≤ y)) = l.map key := by
  have e : (l.map key).mergeSort leB = l.map key := by
    apply List.mergeSort_of_pairwise
    rw [List.pairwise_map]
    exact hp.imp fun {a b} h => by simpa [leB] using List.le_of_lt h
  rw [← e]
  exact mergeSort_of_perm h
/-- what a range hands over is one of the list's -/
theorem datS_from {l : List α} {kl : Lit} {v : Value} (hat : ∀ zd, (datS key val l).atKey kl zd = .held v) : ∃ c ∈ l, kl = .string (key c) ∧ v = val c := by
  unfold datS DataW.atKey at hat
  simp only at hat
  cases h : (l.map fun c => ((Lit.string (key c) : Lit), (DataW.held (val c) : DataW Value))).find? (fun p => p.1.sameKey kl) with
  | none =>
    rw [h] at hat
    have := hat .nil
    cases this
  | some p =>
    rw [h] at hat
    have hm := List.mem_of_find?_eq_some h
    have hk := List.find?_some h
    obtain ⟨c, hc, rfl⟩ := List.mem_map.1 hm
    refine ⟨c, hc, ?_, ?_⟩
    · cases kl <;> simp [Lit.sameKey] at hk
      rw [hk]
    · have := hat .nil
      simpa using this.symm
theorem datS_has {l : List α} {id : Nm} : Maps.has (datS key val l) (.string id) = l.any fun c => decide (key c = id) := by
  unfold datS
  rw [Maps.has_eq, List.any_map]
  congr 1
  funext c
  rw [Bool.eq_iff_iff]
  simp [Lit.sameKey]
end

end Go.Proofs.Ytkfmfllniakhkaa
