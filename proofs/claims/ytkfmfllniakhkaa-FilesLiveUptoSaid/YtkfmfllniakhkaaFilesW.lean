/- The program's disk: names, changes, numbers: walks. -/
import Derived.Test.YtkfmfllniakhkaaRow
import Derived.Test.YtkfmfllniakhkaaShelf
import Derived.Test.YtkfmfllniakhkaaIter
import Derived.Deep.RegionHeld3
import Derived.Deep.RegionWith
import Derived.Deep.QuietTactic
import Derived.BigQuiet
import Derived.Deep.DeepFit
import Derived.Maps.OwnOps
import Derived.WalkSpells
namespace Go.Proofs.Ytkfmfllniakhkaa
open Go.RowKit Go.Maps
set_option linter.unusedVariables false

theorem lawS : Keyed Try.prog 9 := string_keyed Try.underlying9
theorem zeroF (w : World) : (zeroValue 46).run Try.prog w = .ok (.pointer none) w := by kernel_rfl
theorem info_u8 : (Try.prog.info? 5).map (fun i => (i.zero, i.size, i.bytes)) = some (some (.int .u8 0), 1, 1) := by kernel_rfl

/-- []byte(s) -/
theorem conv_bytes {P : Program} (w : World) (src dst e : TypeId) (s : ByteArray) (hs : P.underlying src = some .string) (hd : P.underlying dst = some (.slice e)) (he : P.underlying e = some (.int .u8)) :
    ∃ cap w1, (convert src dst (.string s)).run P w = .ok (.slice (some ⟨w.heap.size, 0, none⟩) s.size cap) w1 ∧ Below w.heap.size w w1 ∧ Reads w1 (w.heap.size + 1) 1 (some ⟨w.heap.size, 0, none⟩) s.size (u8s s.data.toList) := by
  refine ⟨_, _, run_bytes_of_string (P := P) w src dst e s hs hd he, (Below.refl _ w).drew.alloc (by simp) _, ?_⟩
  refine ⟨by simp [u8s_length], fun h0 => ⟨_, rfl, by simp, fun j u hu => ?_⟩⟩
  have ha : (⟨w.heap.size, 0, none⟩ : Addr).add j = ⟨w.heap.size, j, none⟩ := by unfold Addr.add; by_cases h : j = 0 <;> simp [h]
  rw [ha]
  have hjs : j < s.size := by
    have := (List.getElem?_eq_some_iff.1 hu).1
    simpa [u8s_length] using this
  have hb := heap_alloc_new w.drew (.cells (bytesRow s (grownCap w s.size 0 e)) e ((bytesRow s (grownCap w s.size 0 e)).size, (bytesRow s (grownCap w s.size 0 e)).size + 1))
  have := cell_of_row _ w.heap.size j _ _ _ hb
  rw [this]
  unfold bytesRow
  rw [Array.getElem?_append_left (by simpa using hjs), ← hu]
  simp [u8s]

/-- a byte that no name has -/
def oddB (c : UInt8) : Bool := (c < 97 || c > 122) && (c < 48 || c > 57) && c != 45 && c != 46
/-- a name that can be -/
def nameOk (l : List UInt8) : Bool := decide (0 < l.length) && decide (l.length ≤ 32) && !l.any oddB

def oddI (n : Int) : Bool := (decide (n < 97) || decide (122 < n)) && (decide (n < 48) || decide (57 < n)) && n != 45 && n != 46
theorem odd_eq (c : UInt8) : oddB c = oddI c.toNat := by
  unfold oddB oddI
  rw [Bool.eq_iff_iff]
  simp [UInt8.lt_iff_toNat_lt, ← UInt8.toNat_inj]
  omega

set_option maxRecDepth 10000 in
theorem odd_any (c : UInt8) (w : World) : Calls Try.prog 52 #[.int .u8 (c.toNat : Int)] w fun e w' => e = .returned (.bool (oddB c)) ∧ w' = w := by
  have hc : (c.toNat : Int) < 256 := by have := c.toNat_lt; omega
  have hc0 : 0 ≤ (c.toNat : Int) := by omega
  go_enter Try.func52, Try.ntmps52
  go_wp2
  all_goals go_ret
  all_goals refine ⟨congrArg (fun b => Ending.returned (Value.bool b)) ?_, rfl⟩
  all_goals rw [odd_eq]
  all_goals unfold oddI
  all_goals first
    | rfl
    | (symm; rw [Bool.eq_false_iff]; intro h; simp at h; omega)
    | (rw [Bool.eq_iff_iff]; simp; omega)

def IdxPost (w : World) (bs : List UInt8) (e : Ending) (w' : World) : Prop := ∃ r : Int, e = .returned (.int .i64 r) ∧ decide (0 ≤ r) = bs.any oddB ∧ w' = w

theorem any_snoc (bs : List UInt8) (k : Nat) (hk : k < bs.length) : (bs.take (k + 1)).any oddB = ((bs.take k).any oddB || oddB bs[k]) := by
  rw [List.take_succ_eq_append_getElem hk, List.any_append]
  simp only [List.any_cons, List.any_nil, Bool.or_false]

theorem index_odd (A : Option Addr) (n cap B : Nat) (bs : List UInt8) (w : World) (hr : Reads w B 1 A n (u8s bs)) (hn : n ≤ 9223372036854775807) :
    Calls Try.prog 58 #[.slice A n cap, .func (.func 52) #[] #[]] w (IdxPost w bs) := by
  have hl : bs.length = n := by have := hr.1; simp [u8s_length] at this; exact this
  have HL := Lib.hid hl
  clear hl
  go_enter Try.func58, Try.ntmps58
  go_wp2
  go_loop [8] (fun i => ∃ k : Nat, k ≤ n ∧ i = .int .i64 k ∧ (bs.take k).any oddB = false) (fun i => n - (intOf i).toNat)
  case atStart => exact ⟨0, Nat.zero_le _, rfl, rfl⟩
  case round =>
    obtain ⟨k, hk, rfl, hno⟩ := hrel
    have HNO := Lib.hid hno
    clear hno
    by_cases hlt : k < n
    · obtain ⟨ad, u, rfl, hb, hx, hc⟩ := hr.at_ hlt
      have hkl : k < bs.length := by rw [HL.out]; exact hlt
      have hu : u = .int .u8 (bs[k].toNat : Int) := by
        have : (u8s bs)[k]? = some (.int .u8 (bs[k].toNat : Int)) := by simp [u8s, hkl]
        rw [this] at hx
        injection hx with hx
        exact hx.symm
      subst hu
      have HS := Lib.hid (any_snoc bs k hkl)
      generalize bs[k] = c at hc HS
      cases ho : oddB c with
      | true =>
        have hod := Lib.hid (odd_any c w)
        rw [ho] at hod
        have HO := Lib.hid ho
        clear ho hx
        go_wp2_with (go_at_call 52; refine hod.out.mono ?_; rintro e w' ⟨rfl, rfl⟩)
        go_ret
        refine ⟨k, rfl, ?_, rfl⟩
        have h1 : (bs.take (k + 1)).any oddB = true := by rw [HS.out, HO.out]; simp
        have h2 : bs.any oddB = true := by
          rw [List.any_eq_true] at h1 ⊢
          obtain ⟨x, hx, h⟩ := h1
          exact ⟨x, List.mem_of_mem_take hx, h⟩
        rw [h2]
        simp
      | false =>
        have hod := Lib.hid (odd_any c w)
        rw [ho] at hod
        have HO := Lib.hid ho
        clear ho hx
        go_wp2_with (go_at_call 52; refine hod.out.mono ?_; rintro e w' ⟨rfl, rfl⟩)
        go_round
        case rel => exact ⟨k + 1, by omega, by go_num, by rw [HS.out, HNO.out, HO.out]; rfl⟩
        case measure => simp [intOf]; omega
    · obtain rfl : k = n := by omega
      go_wp2
      go_ret
      refine ⟨-1, rfl, ?_, rfl⟩
      have := HNO.out
      rw [List.take_of_length_le (by rw [HL.out]; exact Nat.le_refl _)] at this
      rw [this]
      rfl

def BoolPost (w : World) (b : Bool) (e : Ending) (w' : World) : Prop := e = .returned (.bool b) ∧ Below w.heap.size w w'

theorem contains_odd (A : Option Addr) (n cap B : Nat) (bs : List UInt8) (w : World) (hr : Reads w B 1 A n (u8s bs)) (hn : n ≤ 9223372036854775807) :
    Calls Try.prog 53 #[.slice A n cap, .func (.func 52) #[] #[]] w (BoolPost w (bs.any oddB)) := by
  go_enter Try.func53, Try.ntmps53
  go_wp2_with fail
  refine (index_odd A n cap B bs w hr hn).mono ?_
  rintro e w' ⟨r, rfl, hd, rfl⟩
  have HR := Lib.hid hd
  clear hd
  go_wp2
  go_ret
  exact ⟨by rw [← HR.out]; rfl, Below.refl _ _⟩

theorem nameOk_mid (s : ByteArray) (h0 : 0 < s.size) (h1 : s.size ≤ 32) : nameOk s.data.toList = !s.data.toList.any oddB := by
  have hl : s.data.toList.length = s.size := by simp
  unfold nameOk
  rw [hl, decide_eq_true h0, decide_eq_true h1]
  rfl
theorem nameOk_big (s : ByteArray) (h1 : 32 < s.size) : nameOk s.data.toList = false := by
  have hl : s.data.toList.length = s.size := by simp
  unfold nameOk
  rw [hl, decide_eq_false (by omega : ¬ s.size ≤ 32)]
  simp
theorem nameOk_none (s : ByteArray) (h0 : s.size = 0) : nameOk s.data.toList = false := by
  have hl : s.data.toList.length = s.size := by simp
  unfold nameOk
  rw [hl, decide_eq_false (by omega : ¬ 0 < s.size)]
  simp

set_option maxRecDepth 10000 in
theorem isName_any (s : ByteArray) (w : World) (hs : s.size ≤ maxLen) : Calls Try.prog 42 #[.string s] w (BoolPost w (nameOk s.data.toList)) := by
  unfold maxLen at hs
  by_cases h0 : 0 < s.size
  · by_cases h1 : s.size ≤ 32
    · obtain ⟨cap, w1, hcv, hb1, hrd⟩ := conv_bytes (P := Try.prog) w 9 30 5 s Try.underlying9 Try.underlying30 Try.underlying5
      have hcon := contains_odd _ _ cap _ s.data.toList w1 hrd (by omega)
      have hn := nameOk_mid s h0 h1
      generalize s.data.toList.any oddB = q at hcon hn
      have HC := Lib.hid hcon
      have HN := Lib.hid hn
      clear hcon hn
      go_enter Try.func42, Try.ntmps42
      go_wp2_with fail
      refine HC.out.mono ?_
      rintro e w2 ⟨rfl, hb2⟩
      go_wp2
      go_ret
      exact ⟨by rw [HN.out]; rfl, hb1.trans (hb2.mono hb1.size)⟩
    · have HN := Lib.hid (nameOk_big s (by omega))
      have hb' : (decide (s.size ≤ 32)) = false := by simpa using h1
      go_enter Try.func42, Try.ntmps42
      go_wp2
      all_goals go_ret
      all_goals exact ⟨by rw [HN.out]; rfl, Below.refl _ _⟩
  · obtain h0' : s.size = 0 := by omega
    have HN := Lib.hid (nameOk_none s h0')
    have H0 := Lib.hid h0'
    clear h0' h0
    have hb' : (decide (0 < s.size)) = false := by rw [H0.out]; rfl
    go_enter Try.func42, Try.ntmps42
    go_wp2
    all_goals go_ret
    all_goals exact ⟨by rw [HN.out]; rfl, Below.refl _ _⟩

end Go.Proofs.Ytkfmfllniakhkaa
