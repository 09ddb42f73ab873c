/- plain.Spoil of one text: a walk. -/
import Derived.Test.YtkfmfllniakhkaaDPair
namespace Go.Proofs.Ytkfmfllniakhkaa
open Go.RowKit Go.Maps Go.Sort
set_option linter.unusedVariables false

def SpoilPost (T : Nat → Prop) (w : World) (e : Ending) (w' : World) : Prop := e = .returned (.tuple #[]) ∧ Mods T w w'

set_option maxRecDepth 10000 in
set_option maxHeartbeats 2000000 in
theorem spoil_one {w : World} {base B n c : Nat} {A : Option Addr} {bs : List UInt8} (hB : w.cell? ⟨B, 0, none⟩ = some (.slice A n c)) (hr : Row w base 5 1 (.slice A n c) n (u8s bs)) (hn : n ≤ 140737488355328) (hne : (Value.slice A n c).ownBlock ≠ some B) :
    Calls Try.prog 14 #[.slice (some ⟨B, 0, none⟩) 1 1] w (SpoilPost (fun i => (Value.slice A n c).ownBlock = some i) w) := by
  have hBl := World.block_lt_of_cell? w _ hB
  have HR := Lib.hid hr
  go_enter Try.func14, Try.ntmps14
  go_wp2
  go_loopw [7] (fun i wr => ∃ (k : Nat) (bs' : List UInt8), k ≤ 1 ∧ i = .int .i64 k ∧ Row wr base 5 1 (.slice A n c) n (u8s bs') ∧ Mods (fun i => (Value.slice A n c).ownBlock = some i) w wr) (fun i _ => 1 - (intOf i).toNat)
  case atStart => exact ⟨0, bs, Nat.zero_le _, rfl, hr, Mods.refl _ _⟩
  case round =>
    obtain ⟨k, bs1, hk, rfl, hr1, hm1⟩ := hrel
    have hB1 : wr.cell? ⟨B, 0, none⟩ = some (.slice A n c) := (World.cell?_of_block (hm1.block B hBl hne)).trans hB
    rcases (show k = 0 ∨ k = 1 by omega) with rfl | rfl
    · have HM1 := Lib.hid hm1
      clear hm1
      go_wp2
      obtain ⟨wo, rfl⟩ : ∃ wo : World, wo = wr := ⟨_, rfl⟩
      go_loopw [13] (fun i wr => ∃ (j : Nat) (bs' : List UInt8), j ≤ n ∧ i = .int .i64 j ∧ Row wr base 5 1 (.slice A n c) n (u8s bs') ∧ Mods (fun i => (Value.slice A n c).ownBlock = some i) w wr) (fun i _ => n - (intOf i).toNat)
      case atStart => exact ⟨0, bs1, Nat.zero_le _, rfl, hr1, HM1.out⟩
      case round =>
        obtain ⟨j, bs2, hj, rfl, hr2, hm2⟩ := hrel
        by_cases hlt : j < n
        · obtain ⟨g, rfl⟩ := hr2.some_ (by omega)
          obtain ⟨_, hcap, hcapm⟩ := hr2.cap
          have hl : bs2.length = n := by have := hr2.1; simp [u8s_length] at this; exact this
          have hlb : j < bs2.length := by omega
          have p0 : wr.cell? ⟨g, j, none⟩ = some (.int .u8 ((bs2[j]).toNat : Int)) := by
            have := hr2.cells (g := g) rfl j (.int .u8 ((bs2[j]).toNat : Int)) (by simp [u8s, hlb])
            rw [add_at] at this
            exact this
          have p1 := hr2.frozen rfl j
          have HL := Lib.hid hl
          have hb0 : (0 : Int) ≤ ((bs2[j]).toNat : Int) := by omega
          have hb1 : ((bs2[j]).toNat : Int) ≤ 255 := by have := (bs2[j]).toNat_lt; omega
          have hx : bits BinOp.xor IntKind.u8 ((bs2[j]).toNat : Int) 255 = ((bs2[j] ^^^ 255).toNat : Int) := by
            have := u8_xor_nat (bs2[j]).toNat 255 (bs2[j]).toNat_lt (by decide)
            rw [UInt8.toNat_xor]
            exact this
          have HM2 := Lib.hid hm2
          have HR2 := Lib.hid hr2
          clear hl hm2
          go_wp2
          have hxv : ((bs2[j].toNat ^^^ 255 : Nat) : Int) = ((bs2[j] ^^^ 255).toNat : Int) := by rw [UInt8.toNat_xor]; rfl
          rw [hxv]
          have hrow := HR2.out.set_ (i := j) (by rw [u8s_length]; omega) (.int .u8 ((bs2[j] ^^^ 255).toNat : Int))
          exact ⟨⟨j + 1, bs2.set j (bs2[j] ^^^ 255), by omega, by go_num, by simpa [u8s, List.map_set] using hrow, HM2.out.setCell (p := ⟨g, j, none⟩) (fun _ => rfl) _⟩, by simp [intOf]; omega⟩
        · obtain rfl : j = n := by omega
          have HM2 := Lib.hid hm2
          clear hm2
          go_wp2
          go_roundw
          case rel => exact ⟨1, _, by omega, rfl, hr2, HM2.out⟩
          case measure => simp [intOf]
    · have HM1 := Lib.hid hm1
      clear hm1
      go_wp2
      go_end0
      exact ⟨rfl, HM1.out⟩

end Go.Proofs.Ytkfmfllniakhkaa
