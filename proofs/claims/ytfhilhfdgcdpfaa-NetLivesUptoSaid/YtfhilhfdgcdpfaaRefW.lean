/- The document's net (ciceroneref15): walks. -/
import Derived.Test.YtfhilhfdgcdpfaaNetW
import Derived.Laws.CopyOwn
namespace Go.Proofs.Ytfhilhfdgcdpfaa
open Go.RowKit Go.Maps
set_option linter.unusedVariables false

/-- a connection of the document's: id, addr, bytes' slice -/
structure Rc where
  id : Int
  addr : Int
  A : Option Addr
  n : Nat
  cap : Nat
def Rc.row (c : Rc) : Value := .slice c.A c.n c.cap
def rcell (c : Rc) : List Value := [.int .i64 c.id, .int .i64 c.addr, .slice c.A c.n c.cap]
def rcells (l : List Rc) : List Value := l.flatMap rcell
theorem rcells_length (l : List Rc) : (rcells l).length = l.length * 3 := by
  unfold rcells
  induction l with
  | nil => rfl
  | cons c l ih => simp only [List.flatMap_cons, List.length_append, ih]; simp [rcell]; omega
theorem rcells_at (l : List Rc) (i : Nat) (h : i < l.length) : ∀ j, j < 3 → (rcells l)[i * 3 + j]? = (rcell l[i])[j]? := by
  induction l generalizing i with
  | nil => simp at h
  | cons c l ih =>
    intro j hj
    show (rcell c ++ rcells l)[i * 3 + j]? = _
    cases i with
    | zero => rw [List.getElem?_append_left (by simp [rcell]; omega)]; simp
    | succ i =>
      rw [List.getElem?_append_right (by simp [rcell]; omega)]
      have : (i + 1) * 3 + j - (rcell c).length = i * 3 + j := by simp [rcell]; omega
      rw [this, ih i (by simpa using h) j hj]
      simp

theorem rcells_set (l : List Rc) (k : Nat) (c : Rc) (h : l[k]? = some c) (A : Option Addr) (n cap : Nat) : rcells (l.set k ⟨c.id, c.addr, A, n, cap⟩) = (rcells l).set (k * 3 + 2) (.slice A n cap) := by
  induction l generalizing k with
  | nil => simp at h
  | cons d l ih =>
    cases k with
    | zero =>
      obtain rfl : d = c := by simpa using h
      simp [rcells, rcell]
    | succ k =>
      have h2 := ih k (by simpa using h)
      show rcell d ++ rcells (l.set k _) = (rcell d ++ rcells l).set _ _
      rw [h2, List.set_append_right _ _ (by simp [rcell]; omega)]
      congr 2
      simp [rcell]
      omega
/-- where a connection stands; -1: it does not -/
def placeOf (l : List Rc) (id : Int) : Int := if ∃ c ∈ l, c.id = id then (l.findIdx (fun c => c.id == id) : Nat) else -1

theorem place_hit {l : List Rc} {id : Int} {k : Nat} {c : Rc} (h : l[k]? = some c) (hc : c.id = id) (hno : ∀ j, j < k → ∀ c, l[j]? = some c → c.id ≠ id) : placeOf l id = (k : Int) := by
  have hk : k < l.length := (List.getElem?_eq_some_iff.1 h).1
  have hkc : l[k] = c := (List.getElem?_eq_some_iff.1 h).2
  unfold placeOf
  rw [if_pos ⟨c, List.mem_of_getElem? h, hc⟩]
  have : l.findIdx (fun c => c.id == id) = k := by
    rw [List.findIdx_eq hk]
    refine ⟨by rw [hkc]; simpa using hc, fun j hj => ?_⟩
    have := hno j hj _ (List.getElem?_eq_getElem (by omega))
    simpa using this
  rw [this]
theorem no_more {l : List Rc} {id : Int} {k : Nat} {c : Rc} (h : l[k]? = some c) (hc : c.id ≠ id) (hno : ∀ j, j < k → ∀ c, l[j]? = some c → c.id ≠ id) : ∀ j, j < k + 1 → ∀ c, l[j]? = some c → c.id ≠ id := by
  intro j hj c' h'
  by_cases e : j = k
  · subst e
    rw [h] at h'
    injection h' with h'
    exact h' ▸ hc
  · exact hno j (by omega) c' h'
theorem place_miss {l : List Rc} {id : Int} {k : Nat} (hk : l.length = k) (hno : ∀ j, j < k → ∀ c, l[j]? = some c → c.id ≠ id) : placeOf l id = -1 := by
  unfold placeOf
  rw [if_neg]
  rintro ⟨c, hc, he⟩
  obtain ⟨j, hj, e⟩ := List.mem_iff_getElem.1 hc
  exact hno j (by omega) c (by rw [List.getElem?_eq_getElem hj, e]) he

/-- the three cells of connection k -/
theorem row3 {w w' : World} {g n cap : Nat} {l : List Rc} {e : TypeId} (hr : w.ownsRow 0 e 3 (.slice (some ⟨g, 0, none⟩) n cap) n (rcells l)) (hb : Below w.heap.size w w') (k : Nat) (hk : k < l.length) :
    w'.cell? ⟨g, k * 3, none⟩ = some (.int .i64 l[k].id) ∧ w'.cell? ⟨g, k * 3 + 1, none⟩ = some (.int .i64 l[k].addr) ∧ w'.cell? ⟨g, k * 3 + 2, none⟩ = some (.slice l[k].A l[k].n l[k].cap) := by
  have hlt := (hr.lt g rfl).2
  have hc := hr.cells (g := g) rfl
  have ha : ∀ j, (⟨g, 0, none⟩ : Addr).add j = ⟨g, j, none⟩ := fun j => by unfold Addr.add; by_cases h : j = 0 <;> simp [h]
  have hx : ∀ j v, j < 3 → (rcell l[k])[j]? = some v → w'.cell? ⟨g, k * 3 + j, none⟩ = some v := fun j v hj hv => by
    have := hc (k * 3 + j) v (by rw [rcells_at l k hk j hj]; exact hv)
    rw [ha] at this
    rw [← this]
    exact hb.cell (p := ⟨g, k * 3 + j, none⟩) hlt
  exact ⟨hx 0 _ (by omega) rfl, hx 1 _ (by omega) rfl, hx 2 _ (by omega) rfl⟩

theorem own_len {w : World} {base : Nat} {e : TypeId} {v : Value} {n : Nat} {l : List Rc} (hr : w.ownsRow base e 3 v n (rcells l)) : l.length = n := by
  have := hr.1
  rw [rcells_length] at this
  omega

set_option maxHeartbeats 400000 in
theorem place_any (id last : Int) (xn n cap : Nat) (A : Option Addr) (l : List Rc) (w : World) (hb : Blk w xn 28 #[.slice A n cap, .int .i64 last])
    (hr : w.ownsRow 0 54 3 (.slice A n cap) n (rcells l)) (hn : n ≤ 1000000) :
    Calls Try.prog 20 #[.pointer (some ⟨xn, 0, none⟩), .int .i64 id] w fun e w' => e = .returned (.int .i64 (placeOf l id)) ∧ Below w.heap.size w w' := by
  have c0 : w.cell? ⟨xn, 0, none⟩ = some (.slice A n cap) := hb.cell 0
  have HL := Lib.hid (own_len hr)
  go_enter Try.func20, Try.ntmps20
  go_wp2
  go_loopw [12] (fun i wr => ∃ k : Nat, k ≤ n ∧ i = .int .i64 k ∧ Below w.heap.size w wr ∧ ∀ j, j < k → ∀ c, l[j]? = some c → c.id ≠ id) (fun i _ => n - (intOf i).toNat)
  case atStart => exact ⟨0, Nat.zero_le _, rfl, Below.refl _ _, fun j hj => by omega⟩
  case round =>
    obtain ⟨k, hk, rfl, hbw, hno⟩ := hrel
    have HNO := Lib.hid hno
    clear hno
    by_cases hlt : k < n
    · obtain ⟨g, rfl⟩ : ∃ g, A = some ⟨g, 0, none⟩ := by
        rcases hr.2 with ⟨_, h⟩ | ⟨g, _, _, h, _⟩
        · omega
        · injection h with h; exact ⟨g, h⟩
      have hkl : l[k]? = some (l[k]'(by rw [HL.out]; exact hlt)) := List.getElem?_eq_getElem _
      obtain ⟨d0, d1, d2⟩ := row3 hr hbw k (by rw [HL.out]; exact hlt)
      generalize l[k]'(by rw [HL.out]; exact hlt) = c at d0 d1 d2 hkl
      have HK := Lib.hid hkl
      clear hkl
      obtain ⟨cid, cad, cA, cn, ccap⟩ := c
      simp only [] at d0 d1 d2
      by_cases he : cid = id
      · subst he
        go_wp2
        go_ret
        refine ⟨?_, hbw.alloc hbw.size _⟩
        rw [place_hit HK.out rfl HNO.out]
        rfl
      · have hne : (cid == id) = false := beq_eq_false_iff_ne.2 he
        go_wp2
        go_roundw
        case rel => exact ⟨k + 1, by omega, by go_num, hbw.alloc hbw.size _, no_more HK.out he HNO.out⟩
        case measure => simp [intOf]; omega
    · obtain rfl : k = n := by omega
      go_wp2
      go_ret
      exact ⟨by rw [place_miss HL.out HNO.out]; rfl, hbw⟩

end Go.Proofs.Ytfhilhfdgcdpfaa
