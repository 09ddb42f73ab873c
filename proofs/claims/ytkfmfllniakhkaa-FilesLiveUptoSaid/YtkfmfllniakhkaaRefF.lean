/- The document's disk (ciceroneref06): walks: isName, burn, place, Used. -/
import Derived.Test.YtkfmfllniakhkaaFilesH
namespace Go.Proofs.Ytkfmfllniakhkaa
open Go.RowKit Go.Maps Go.Sort
set_option linter.unusedVariables false

/-- a file of the document's -/
structure Rf where
  name : ByteArray
  b : List UInt8
  s : Nat
  A : Option Addr
  cap : Nat
def Rf.nm (r : Rf) : Nm := r.name.data.toList
def Rf.row (r : Rf) : Value := .slice r.A r.b.length r.cap
def Rf.fl (r : Rf) : Fl := ⟨r.nm, r.b, r.s⟩
def fcell (r : Rf) : List Value := [.string r.name, r.row, .int .i64 (r.s : Int)]
def fcells (l : List Rf) : List Value := l.flatMap fcell
theorem fcells_length (l : List Rf) : (fcells l).length = l.length * 3 := by
  unfold fcells
  induction l with
  | nil => rfl
  | cons c l ih => simp only [List.flatMap_cons, List.length_append, ih]; simp [fcell]; omega
theorem fcells_at (l : List Rf) (i : Nat) (h : i < l.length) : ∀ j, j < 3 → (fcells l)[i * 3 + j]? = (fcell l[i])[j]? := by
  induction l generalizing i with
  | nil => simp at h
  | cons c l ih =>
    intro j hj
    show (fcell c ++ fcells l)[i * 3 + j]? = _
    cases i with
    | zero => rw [List.getElem?_append_left (by simp [fcell]; omega)]; simp
    | succ i =>
      rw [List.getElem?_append_right (by simp [fcell]; omega)]
      have : (i + 1) * 3 + j - (fcell c).length = i * 3 + j := by simp [fcell]; omega
      rw [this, ih i (by simpa using h) j hj]
      simp
theorem fcells_append (a b : List Rf) : fcells (a ++ b) = fcells a ++ fcells b := by simp [fcells]
theorem fcells_one (l : List Rf) : ∀ u ∈ fcells l, u.oneCell' = true := by
  intro u hu
  obtain ⟨c, _, h⟩ := List.mem_flatMap.1 hu
  simp [fcell, Rf.row] at h
  rcases h with rfl | rfl | rfl <;> rfl
theorem name_eq {a b : ByteArray} : a = b ↔ a.data.toList = b.data.toList := by
  constructor
  · rintro rfl; rfl
  · intro h
    obtain ⟨⟨a⟩⟩ := a
    obtain ⟨⟨b⟩⟩ := b
    simp at h
    rw [h]

abbrev Xh (w : World) (xd : Nat) (A : Option Addr) (n cap : Nat) (room short fuse : Int) : Prop := Blk w xd 44 #[.slice A n cap, .int .i64 room, .int .i64 short, .int .i64 fuse]

theorem get_bytes (s : ByteArray) (k : Nat) (h : k < s.size) (h' : k < s.data.toList.length) : s.data.toList[k] = s[k] := by
  rw [Array.getElem_toList]
  rfl
theorem size_bytes (s : ByteArray) : s.data.toList.length = s.size := by rw [Array.length_toList]; rfl
theorem odd_iff (c : UInt8) : oddB c = true ↔ ((((c.toNat : Int) < 97 ∨ 122 < (c.toNat : Int)) ∧ ((c.toNat : Int) < 48 ∨ 57 < (c.toNat : Int))) ∧ (c.toNat : Int) ≠ 45) ∧ (c.toNat : Int) ≠ 46 := by
  rw [odd_eq]
  unfold oddI
  simp
theorem any_next (s : ByteArray) (k : Nat) (h : k < s.size) : (s.data.toList.take (k + 1)).any oddB = ((s.data.toList.take k).any oddB || oddB s[k]) := by
  have h' : k < s.data.toList.length := by rw [size_bytes]; exact h
  rw [any_snoc _ k h', get_bytes s k h h']

theorem risName_any (s : ByteArray) (w : World) (hs : s.size ≤ maxLen) : Calls Try.prog 43 #[.string s] w fun e w' => e = .returned (.bool (nameOk s.data.toList)) ∧ Below w.heap.size w w' := by
  go_enter Try.func43, Try.ntmps43
  go_wp2
  go_loopw [3] (fun i wr => ∃ k : Nat, k ≤ s.size ∧ i = .int .i64 k ∧ (s.data.toList.take k).any oddB = false ∧ wr = w) (fun i _ => s.size - (intOf i).toNat)
  case atStart => exact ⟨0, Nat.zero_le _, rfl, rfl, rfl⟩
  case round =>
    obtain ⟨k, hk, rfl, hno, rfl⟩ := hrel
    have HNO := Lib.hid hno
    clear hno
    by_cases hlt : k < s.size
    · have HKEY := Lib.hid (odd_iff s[k])
      have HT := Lib.hid (any_next s k hlt)
      have hw1 : IntKind.i64.wrap ((k : Int) + 1) = (k : Int) + 1 := IntWalk.i64_in _ (by simp only [maxLen] at hs; omega)
      go_wp2
      all_goals first
        | (go_ret
           have hod : oddB s[k] = true := HKEY.out.2 (by simp only [bne_iff_ne, ne_eq] at *; omega)
           refine ⟨congrArg (fun b => Ending.returned (Value.bool b)) ?_, Below.refl _ _⟩
           have : s.data.toList.any oddB = true := by
             rw [List.any_eq_true]
             have h2 := HT.out
             rw [HNO.out, hod] at h2
             obtain ⟨x, hx, ho⟩ := List.any_eq_true.1 h2
             exact ⟨x, List.mem_of_mem_take hx, ho⟩
           unfold nameOk
           rw [this]
           simp)
        | (have hod : oddB s[k] = false := by
             rw [Bool.eq_false_iff]
             intro ho
             have := HKEY.out.1 ho
             simp only [ne_eq, bne_eq_false_iff_eq] at *
             omega
           refine ⟨⟨k + 1, hlt, ?_, by rw [HT.out, HNO.out, hod]; rfl, trivial⟩, ?_⟩
           · go_num
           · simp [intOf]; omega)
    · obtain rfl : k = s.size := by omega
      have hall : s.data.toList.any oddB = false := by
        have := HNO.out
        rwa [List.take_of_length_le (by rw [size_bytes]; exact Nat.le_refl _)] at this
      have HALL := Lib.hid hall
      clear hall
      go_wp2
      all_goals go_ret
      all_goals refine ⟨congrArg (fun b => Ending.returned (Value.bool b)) ?_, Below.refl _ _⟩
      all_goals unfold nameOk
      all_goals rw [size_bytes, HALL.out, Bool.eq_iff_iff]
      all_goals simp
      all_goals omega

/-- where a file stands; -1: it does not -/
def placeF (l : List Rf) (nm : Nm) : Int := if ∃ c ∈ l, c.nm = nm then (l.findIdx (fun c => decide (c.nm = nm)) : Nat) else -1
theorem placeF_hit {l : List Rf} {nm : Nm} {k : Nat} {c : Rf} (h : l[k]? = some c) (hc : c.nm = nm) (hno : ∀ j, j < k → ∀ c, l[j]? = some c → c.nm ≠ nm) : placeF l nm = (k : Int) := by
  have hk : k < l.length := (List.getElem?_eq_some_iff.1 h).1
  have hkc : l[k] = c := (List.getElem?_eq_some_iff.1 h).2
  unfold placeF
  rw [if_pos ⟨c, List.mem_of_getElem? h, hc⟩]
  have : l.findIdx (fun c => decide (c.nm = nm)) = k := by
    rw [List.findIdx_eq hk]
    refine ⟨by rw [hkc]; simpa using hc, fun j hj => ?_⟩
    have := hno j hj _ (List.getElem?_eq_getElem (by omega))
    simpa using this
  rw [this]
theorem noF_more {l : List Rf} {nm : Nm} {k : Nat} {c : Rf} (h : l[k]? = some c) (hc : c.nm ≠ nm) (hno : ∀ j, j < k → ∀ c, l[j]? = some c → c.nm ≠ nm) : ∀ j, j < k + 1 → ∀ c, l[j]? = some c → c.nm ≠ nm := by
  intro j hj c' h'
  by_cases e : j = k
  · subst e
    rw [h] at h'
    injection h' with h'
    exact h' ▸ hc
  · exact hno j (by omega) c' h'
theorem placeF_miss {l : List Rf} {nm : Nm} {k : Nat} (hk : l.length = k) (hno : ∀ j, j < k → ∀ c, l[j]? = some c → c.nm ≠ nm) : placeF l nm = -1 := by
  unfold placeF
  rw [if_neg]
  rintro ⟨c, hc, he⟩
  obtain ⟨j, hj, e⟩ := List.mem_iff_getElem.1 hc
  exact hno j (by omega) c (by rw [List.getElem?_eq_getElem hj, e]) he

/-- the three cells of file k -/
theorem file3 {w w' : World} {g n cap : Nat} {l : List Rf} {e : TypeId} (hr : Row w 0 e 3 (.slice (some ⟨g, 0, none⟩) n cap) n (fcells l)) (hb : Below w.heap.size w w') (k : Nat) (hk : k < l.length) :
    w'.cell? ⟨g, k * 3, none⟩ = some (.string l[k].name) ∧ w'.cell? ⟨g, k * 3 + 1, none⟩ = some (.slice l[k].A l[k].b.length l[k].cap) ∧ w'.cell? ⟨g, k * 3 + 2, none⟩ = some (.int .i64 (l[k].s : Int)) := by
  have hlt := (hr.lt g rfl).2
  have hc := hr.cells (g := g) rfl
  have ha : ∀ j, (⟨g, 0, none⟩ : Addr).add j = ⟨g, j, none⟩ := fun j => by unfold Addr.add; by_cases h : j = 0 <;> simp [h]
  have hx : ∀ j v, j < 3 → (fcell l[k])[j]? = some v → w'.cell? ⟨g, k * 3 + j, none⟩ = some v := fun j v hj hv => by
    have := hc (k * 3 + j) v (by rw [fcells_at l k hk j hj]; exact hv)
    rw [ha] at this
    rw [← this]
    exact hb.cell (p := ⟨g, k * 3 + j, none⟩) hlt
  exact ⟨hx 0 _ (by omega) rfl, hx 1 _ (by omega) rfl, hx 2 _ (by omega) rfl⟩
theorem frow_len {w : World} {base : Nat} {e : TypeId} {v : Value} {n : Nat} {l : List Rf} (hr : Row w base e 3 v n (fcells l)) : l.length = n := by
  have := hr.1
  rw [fcells_length] at this
  omega

set_option maxHeartbeats 400000 in
theorem rplace_any (room short fuse : Int) (xd n cap : Nat) (A : Option Addr) (l : List Rf) (w : World) (s : ByteArray) (hb : Xh w xd A n cap room short fuse)
    (hr : Row w 0 51 3 (.slice A n cap) n (fcells l)) (hn : n ≤ 1000000) :
    Calls Try.prog 45 #[.pointer (some ⟨xd, 0, none⟩), .string s] w fun e w' => e = .returned (.int .i64 (placeF l s.data.toList)) ∧ Below w.heap.size w w' := by
  have c0 : w.cell? ⟨xd, 0, none⟩ = some (.slice A n cap) := hb.cell 0
  have HL := Lib.hid (frow_len hr)
  go_enter Try.func45, Try.ntmps45
  go_wp2
  go_loopw [12] (fun i wr => ∃ k : Nat, k ≤ n ∧ i = .int .i64 k ∧ Below w.heap.size w wr ∧ ∀ j, j < k → ∀ c, l[j]? = some c → c.nm ≠ s.data.toList) (fun i _ => n - (intOf i).toNat)
  case atStart => exact ⟨0, Nat.zero_le _, rfl, Below.refl _ _, fun j hj => by omega⟩
  case round =>
    obtain ⟨k, hk, rfl, hbw, hno⟩ := hrel
    have HNO := Lib.hid hno
    clear hno
    by_cases hlt : k < n
    · obtain ⟨g, rfl⟩ := hr.some_ (by omega)
      have hkl : l[k]? = some (l[k]'(by rw [HL.out]; exact hlt)) := List.getElem?_eq_getElem _
      obtain ⟨d0, d1, d2⟩ := file3 hr hbw k (by rw [HL.out]; exact hlt)
      generalize l[k]'(by rw [HL.out]; exact hlt) = c at d0 d1 d2 hkl
      have HK := Lib.hid hkl
      clear hkl
      by_cases he : c.name = s
      · have hee : (c.name.toList == s.toList) = true := by rw [he]; exact beq_self_eq_true _
        have HN := Lib.hid (name_eq.1 he)
        clear he
        go_wp2
        go_ret
        refine ⟨?_, hbw.alloc hbw.size _⟩
        rw [placeF_hit HK.out HN.out HNO.out]
        rfl
      · have hne : (c.name.toList == s.toList) = false := beq_eq_false_iff_ne.2 (fun e => he (name_eq.2 (by rw [ByteArray.toList_eq, ByteArray.toList_eq] at e; exact e)))
        have HN := Lib.hid (fun h => he (name_eq.2 h) : c.nm ≠ s.data.toList)
        go_wp2
        go_roundw
        case rel => exact ⟨k + 1, by omega, by go_num, hbw.alloc hbw.size _, noF_more HK.out HN.out HNO.out⟩
        case measure => simp [intOf]; omega
    · obtain rfl : k = n := by omega
      go_wp2
      go_ret
      exact ⟨by rw [placeF_miss HL.out HNO.out]; rfl, hbw⟩

section
variable (xd n cap : Nat) (A : Option Addr) (room short fuse : Int) (w : World)

theorem burn_dead (hb : Xh w xd A n cap room short 0) : Calls Try.prog 44 #[.pointer (some ⟨xd, 0, none⟩)] w fun e w' => e = .returned (.bool false) ∧ w' = w := by
  have c3 : w.cell? ⟨xd, 3, none⟩ = some (.int .i64 0) := hb.cell 3
  go_enter Try.func44, Try.ntmps44
  go_wp2
  go_ret
  exact ⟨rfl, rfl⟩

def BurnPost (w : World) (xd : Nat) (A : Option Addr) (n cap : Nat) (room short fuse : Int) (e : Ending) (w' : World) : Prop :=
  e = .returned (.bool true) ∧ Xh w' xd A n cap room short (burn fuse) ∧ Mods (· = xd) w w'
theorem burn_ok_ (hb : Xh w xd A n cap room short fuse) (hf : fuse ≠ 0) (hl : -1 ≤ fuse) (hh : fuse ≤ 9223372036854775807) : Calls Try.prog 44 #[.pointer (some ⟨xd, 0, none⟩)] w (BurnPost w xd A n cap room short fuse) := by
  have c3 : w.cell? ⟨xd, 3, none⟩ = some (.int .i64 fuse) := hb.cell 3
  have f3 : w.frozen? ⟨xd, 3, none⟩ = false := hb.frozen 3
  have hz : (fuse == 0) = false := beq_eq_false_iff_ne.2 hf
  by_cases h0 : 0 < fuse
  · have HB := Lib.hid (show burn fuse = fuse - 1 by unfold burn; rw [if_pos h0])
    have hw : IntKind.i64.wrap (fuse - 1) = fuse - 1 := IntWalk.i64_in _ (by omega)
    clear hf
    go_enter Try.func44, Try.ntmps44
    go_wp2
    go_ret
    refine ⟨rfl, ?_, (Mods.refl (· = xd) _).setCell (p := ⟨xd, 3, none⟩) (fun _ => rfl) _⟩
    rw [HB.out]
    exact hb.set_ 3 _
  · have HB := Lib.hid (show burn fuse = fuse by unfold burn; rw [if_neg h0])
    clear hf
    go_enter Try.func44, Try.ntmps44
    go_wp2
    go_ret
    refine ⟨rfl, ?_, Mods.refl _ _⟩
    rw [HB.out]
    exact hb
end

end Go.Proofs.Ytkfmfllniakhkaa
