/- slices.Equal, bytes.Equal of two rows that hold the same. -/
import Derived.Test.YtfhilhfdgcdpfaaMods
import Derived.Test.YtfhilhfdgcdpfaaShelf
namespace Go.Proofs.Ytfhilhfdgcdpfaa
open Go.RowKit Go.Maps
set_option linter.unusedVariables false

theorem add_at (g j : Nat) : (⟨g, 0, none⟩ : Addr).add j = ⟨g, j, none⟩ := by unfold Addr.add; by_cases h : j = 0 <;> simp [h]

theorem equal_ints {w : World} {b b' : Nat} {A A' : Option Addr} {n n' c c' : Nat} (l : List Int) (h1 : w.ownsRow b 3 1 (.slice A n c) n (l.map (Value.int .i64))) (h2 : w.ownsRow b' 3 1 (.slice A' n' c') n' (l.map (Value.int .i64))) (hl : l.length ≤ 1000000) :
    Calls Try.prog 16 #[.slice A n c, .slice A' n' c'] w fun e w' => e = .returned (.bool true) ∧ ∃ q, w' = w.drewN q := by
  have l1 : n = l.length := by have := h1.1; simp at this; exact this.symm
  have l2 : n' = l.length := by have := h2.1; simp at this; exact this.symm
  subst l1
  subst l2
  rcases Nat.eq_zero_or_pos l.length with h0 | h0
  · have hh := Try.slices_Equal_int_empty A A' c l.length c' w (by omega)
    rw [h0] at hh ⊢
    exact hh.mono fun e w' ⟨he, hw⟩ => ⟨by rw [he]; rfl, 0, by rw [hw]; rfl⟩
  · obtain ⟨g, rfl⟩ := own_some h1 h0
    obtain ⟨g', rfl⟩ := own_some h2 h0
    have c1 := h1.cells (g := g) rfl
    have c2 := h2.cells (g := g') rfl
    refine (Try.slices_Equal_int g 0 l.length c g' 0 l.length c' l l w (Nat.le_refl _) (Nat.le_refl _) (by omega) (by omega) (fun j hj => ?_) (fun j hj => ?_)).mono fun e w' ⟨he, hw⟩ => ⟨by rw [he]; simp, hw⟩
    · have := c1 j (.int .i64 (l.getD j 0)) (by simp [hj])
      rw [add_at] at this
      simpa using this
    · have := c2 j (.int .i64 (l.getD j 0)) (by simp [hj])
      rw [add_at] at this
      simpa using this

theorem bytesIn_own {w : World} {b : Nat} {A : Option Addr} {n c : Nat} {l : List UInt8} (h : w.ownsRow b 5 1 (.slice A n c) n (u8s l)) : Lib.BytesIn w A n (u8i l) := by
  intro h0
  obtain ⟨g, rfl⟩ := own_some h h0
  have c1 := h.cells (g := g) rfl
  have hl : l.length = n := by have := h.1; simp [u8s_length] at this; exact this
  refine ⟨g, 0, rfl, fun i hi => ?_⟩
  have := c1 i _ (u8s_getD l i (by omega))
  rw [add_at] at this
  simpa using this

theorem equal_bytes {w : World} {b b' : Nat} {A A' : Option Addr} {n n' c c' : Nat} (l : List UInt8) (h1 : w.ownsRow b 5 1 (.slice A n c) n (u8s l)) (h2 : w.ownsRow b' 5 1 (.slice A' n' c') n' (u8s l)) :
    Calls Try.prog 11 #[.slice A n c, .slice A' n' c'] w fun e w' => e = .returned (.bool true) ∧ w' = w := by
  have l1 : n = l.length := by have := h1.1; simp [u8s_length] at this; exact this.symm
  have l2 : n' = l.length := by have := h2.1; simp [u8s_length] at this; exact this.symm
  subst l1
  subst l2
  exact (Try.bytes_Equal_all A A' l.length c l.length c' (u8i l) (u8i l) w (u8i_length l) (u8i_length l) (bytesIn_own h1) (bytesIn_own h2)).mono fun e w' ⟨he, hw⟩ => ⟨by rw [he]; simp, hw⟩

end Go.Proofs.Ytfhilhfdgcdpfaa
