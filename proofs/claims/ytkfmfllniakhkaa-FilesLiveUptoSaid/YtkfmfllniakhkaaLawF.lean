/- The law FilesLive: its walk. -/
import Derived.Test.YtkfmfllniakhkaaSteps
namespace Go.Proofs.Ytkfmfllniakhkaa
open Go.RowKit Go.Maps Go.Sort
set_option linter.unusedVariables false

/-- what element i of the argument is -/
structure StAt (W : World) (A0 : Option Addr) (i : Nat) (op n : Int) (nm tn : ByteArray) (BA : Option Addr) (bm bc : Nat) (bs : List UInt8) (TA : Option Addr) (tc : Nat) (ts : List Tl) : Prop where
  ad : ∃ ad, A0 = some ad ∧ ad.block < W.heap.size ∧ W.cell? (ad.add (i * 6)) = some (.int .i64 op) ∧ W.cell? (ad.add (i * 6 + 1)) = some (.int .i64 n) ∧ W.cell? (ad.add (i * 6 + 2)) = some (.string nm) ∧ W.cell? (ad.add (i * 6 + 3)) = some (.string tn) ∧
    W.cell? (ad.add (i * 6 + 4)) = some (.slice BA bm bc) ∧ W.cell? (ad.add (i * 6 + 5)) = some (.slice TA ts.length tc)
  ok : StOk W op n nm tn BA bm bc bs TA tc ts
def StAny (W : World) (A0 : Option Addr) (i : Nat) : Prop := ∃ op n nm tn BA bm bc bs TA tc ts, StAt W A0 i op n nm tn BA bm bc bs TA tc ts

/-- the copies, if there are -/
def Cp (W wr : World) (S1 S2 : Nat → Prop) (c y : Value) : Prop :=
  (c = .pointer none ∧ y = .pointer none) ∨
  ∃ (bc yc : Nat) (S3 S4 : Nat → Prop) (D : Dk), c = .pointer (some ⟨bc, 0, none⟩) ∧ y = .pointer (some ⟨yc, 0, none⟩) ∧ DP W wr S3 S4 bc yc D D ∧ DkOk D ∧ D.l.length ≤ 41 ∧ ∀ i, S3 i ∨ S4 i → ¬ (S1 i ∨ S2 i)

theorem Cp.below {W w w' : World} {S1 S2 : Nat → Prop} {c y : Value} (h : Cp W w S1 S2 c y) (hb : Below w.heap.size w w') : Cp W w' S1 S2 c y := by
  rcases h with h | ⟨bc, yc, S3, S4, D, h1, h2, hP, h3, h4, h5⟩
  · exact .inl h
  · exact .inr ⟨bc, yc, S3, S4, D, h1, h2, hP.below hb, h3, h4, h5⟩
theorem Cp.step {W w w' : World} {S1 S2 S1' S2' : Nat → Prop} {c y : Value} (h : Cp W w S1 S2 c y) (hm : Mods (fun k => S1 k ∨ S2 k) w w') (hW : ∀ k, S1 k ∨ S2 k → W.heap.size ≤ k) (hS : ∀ k, S1' k ∨ S2' k → S1 k ∨ S2 k ∨ w.heap.size ≤ k) : Cp W w' S1' S2' c y := by
  rcases h with h | ⟨bc, yc, S3, S4, D, h1, h2, hP, h3, h4, h5⟩
  · exact .inl h
  · refine .inr ⟨bc, yc, S3, S4, D, h1, h2, hP.keep hm (fun k hk => h5 k hk) hW, h3, h4, fun k hk hk' => ?_⟩
    have hlt : k < w.heap.size := hk.elim (fun h => (hP.b1 k h).2) (fun h => (hP.b2 k h).2)
    rcases hS k hk' with h | h | h
    · exact h5 k hk (.inl h)
    · exact h5 k hk (.inr h)
    · omega

set_option maxRecDepth 100000 in
set_option maxHeartbeats 4000000 in
theorem law_bad (A0 : Option Addr) (len cap : Nat) (room att : Int) (W : World) (hr : room < 0 ∨ 1099511627776 < room) :
    Calls Try.prog 3 #[.int .i64 room, .slice A0 len cap, .int .i64 att] W fun e w' => e = .returned (.bool true) ∧ Below W.heap.size W w' := by
  have h1 := Lib.hid (new_bad room W hr)
  have h2 := Lib.hid (rdisk_new_bad (w := W) hr)
  clear hr
  go_enter Try.func3, Try.ntmps3
  go_wp2_with fail
  refine h1.out.mono ?_
  rintro e w1 ⟨rfl, hw⟩
  obtain rfl := hw.symm
  go_wp2_with fail
  refine h2.out.mono ?_
  rintro e w1 ⟨rfl, hw⟩
  obtain rfl := hw.symm
  go_wp2
  go_ret
  exact ⟨rfl, Below.refl _ _⟩

set_option maxRecDepth 100000 in
set_option maxHeartbeats 8000000 in
theorem law_walk (A0 : Option Addr) (len cap : Nat) (room att : Int) (W : World) (h0 : 0 ≤ room) (h9 : room ≤ 1099511627776) (hlen : len ≤ 1048576) (hst : ∀ i, i < len → StAny W A0 i) :
    Calls Try.prog 3 #[.int .i64 room, .slice A0 len cap, .int .i64 att] W fun e w' => e = .returned (.bool true) ∧ Below W.heap.size W w' := by
  have HST := Lib.hid hst
  have H1 := Lib.hid (disk_new (w := W) h0 h9)
  have H2 := fun (w' : World) => rdisk_new (w := w') h0 h9
  have H2 := Lib.hid H2
  have hok : DkOk ⟨[], room, -1, -1⟩ := ⟨by simp, by simp, ⟨h0, h9⟩, by show (-1 : Int) ≤ -1 ∧ (-1 : Int) ≤ 9223372036854775807; omega, by show (-1 : Int) ≤ -1 ∧ (-1 : Int) ≤ 9223372036854775807; omega⟩
  have HOK := Lib.hid hok
  clear hst hok
  go_enter Try.func3, Try.ntmps3
  go_wp2_with fail
  refine H1.out.mono ?_
  rintro e w1 ⟨bd, rfl, hd1, hb1⟩
  go_wp2_with fail
  refine (H2.out w1).mono ?_
  rintro e w2 ⟨xd, rfl, hx2, hb2⟩
  have hP : DP W w2 (fun k => W.heap.size ≤ k ∧ k < w1.heap.size) (fun k => w1.heap.size ≤ k ∧ k < w2.heap.size) bd xd ⟨[], room, -1, -1⟩ ⟨[], room, -1, -1⟩ :=
    ⟨hd1.below hb2, hx2, fun k h => ⟨h.1, Nat.lt_of_lt_of_le h.2 hb2.size⟩, fun k h => ⟨Nat.le_trans hb1.size h.1, h.2⟩, fun k h1 h2 => by omega, hb1.trans (hb2.mono hb1.size)⟩
  clear hd1 hx2 hb1 hb2
  go_wp2_with fail
  go_loopw [11, 12, 52] (fun c y i wr => ∃ (k : Nat) (S1 S2 : Nat → Prop) (D : Dk), k ≤ len ∧ k ≤ 41 ∧ i = .int .i64 k ∧ DP W wr S1 S2 bd xd D D ∧ DkOk D ∧ D.l.length ≤ k ∧ Cp W wr S1 S2 c y) (fun _ _ i _ => len - (intOf i).toNat)
  case atStart => exact ⟨0, _, _, _, Nat.zero_le _, Nat.zero_le _, rfl, hP, HOK.out, Nat.zero_le _, .inl ⟨rfl, rfl⟩⟩
  case round =>
    obtain ⟨k, S1, S2, D, hk, hk41, rfl, hP, hD, hDl, hC⟩ := hrel
    have HD := Lib.hid hD
    have HC := Lib.hid hC
    clear hC hD
    by_cases hlt : k < len
    · obtain ⟨op, n, nm, tn, BA, bm, bc, bs, TA, tc, ts, ⟨ad, rfl, hab, d0, d1, d2, d3, d4, d5⟩, hok⟩ := HST.out k hlt
      have HOKS := Lib.hid hok
      clear hok
      have e0 := (hP.bel.cell (p := ad.add (k * 6)) (by rw [block_of_add]; exact hab)).trans d0
      have e1 := (hP.bel.cell (p := ad.add (k * 6 + 1)) (by rw [block_of_add]; exact hab)).trans d1
      have e2 := (hP.bel.cell (p := ad.add (k * 6 + 2)) (by rw [block_of_add]; exact hab)).trans d2
      have e3 := (hP.bel.cell (p := ad.add (k * 6 + 3)) (by rw [block_of_add]; exact hab)).trans d3
      have e4 := (hP.bel.cell (p := ad.add (k * 6 + 4)) (by rw [block_of_add]; exact hab)).trans d4
      have e5 := (hP.bel.cell (p := ad.add (k * 6 + 5)) (by rw [block_of_add]; exact hab)).trans d5
      rw [add_step ad (k * 6) 0] at e1
      rw [add_step ad (k * 6) 1] at e2
      rw [add_step ad (k * 6) 2] at e3
      rw [add_step ad (k * 6) 3] at e4
      rw [add_step ad (k * 6) 4] at e5
      clear d0 d1 d2 d3 d4 d5
      by_cases h40 : 40 < k
      · rcases HC.out with ⟨rfl, rfl⟩ | ⟨cb, yc, S3, S4, D', rfl, rfl, hP', hD', hl', hdj⟩
        · go_wp2_with fail
          refine (samedisks_any (hP.alloc _) HD.out (by omega)).mono ?_
          rintro e w3 ⟨rfl, hb3⟩
          go_wp2
          go_ret
          exact ⟨rfl, ((hP.alloc _).below hb3).bel⟩
        · have HD' := Lib.hid hD'
          clear hD' hdj
          go_wp2_with fail
          refine (samedisks_any (hP.alloc _) HD.out (by omega)).mono ?_
          rintro e w3 ⟨rfl, hb3⟩
          have hP3 := (hP'.alloc _).below hb3
          go_wp2_with fail
          refine (samedisks_any hP3 HD'.out (by omega)).mono ?_
          rintro e w4 ⟨rfl, hb4⟩
          go_wp2
          go_ret
          exact ⟨rfl, (hP3.below hb4).bel⟩
      · go_upto_if 61 with fail
        have hPb := hP.alloc (.cells #[.int .i64 op, .int .i64 n, .string nm, .string tn, .slice BA bm bc, .slice TA ts.length tc] 33)
        have hBb : Blk (wr.alloc (.cells #[.int .i64 op, .int .i64 n, .string nm, .string tn, .slice BA bm bc, .slice TA ts.length tc] 33)) wr.heap.size 33 #[.int .i64 op, .int .i64 n, .string nm, .string tn, .slice BA bm bc, .slice TA ts.length tc] := Blk.new _ _ _
        have HCb := Lib.hid (HC.out.below ((Below.refl _ wr).alloc (Nat.le_refl _) (.cells #[.int .i64 op, .int .i64 n, .string nm, .string tn, .slice BA bm bc, .slice TA ts.length tc] 33)))
        generalize wr.alloc (.cells #[.int .i64 op, .int .i64 n, .string nm, .string tn, .slice BA bm bc, .slice TA ts.length tc] 33) = w1 at hPb hBb HCb ⊢
        generalize wr.heap.size = bx at hBb ⊢
        clear e0 e1 e2 e3 e4 e5 hP HC
        go_cut [11, 12] (fun c y wx => DP W wx S1 S2 bd xd D D ∧ Cp W wx S1 S2 c y ∧ Blk wx bx 33 #[.int .i64 op, .int .i64 n, .string nm, .string tn, .slice BA bm bc, .slice TA ts.length tc])
        case first =>
          by_cases hat : (k : Int) = att
          · have hatb : ((k : Int) == att) = true := beq_iff_eq.2 hat
            clear hat
            have HK1 := Lib.hid (disk_copy hPb.d HD.out (by omega))
            go_wp2_with fail
            refine HK1.out.mono ?_
            rintro e w3 ⟨b3, rfl, hd3, hb3⟩
            have hP3 := hPb.below hb3
            have HK2 := Lib.hid (rdisk_copy hP3.x HD.out (by omega))
            go_wp2_with fail
            refine HK2.out.mono ?_
            rintro e w4 ⟨b4, rfl, hd4, hb4⟩
            have hP4 := hP3.below hb4
            have hs0 := hPb.bel.size
            have hs3 := hb3.size
            have hs4 := hb4.size
            have hcp : Cp W w4 S1 S2 (.pointer (some ⟨b3, 0, none⟩)) (.pointer (some ⟨b4, 0, none⟩)) :=
              .inr ⟨b3, b4, _, _, D, rfl, rfl, ⟨hd3.below hb4, hd4, fun i h => ⟨by omega, by omega⟩, fun i h => ⟨by omega, by omega⟩, fun i h h' => by omega, hP4.bel⟩, HD.out, by omega, fun i h h' => by
                rcases h' with h' | h'
                · have := (hPb.b1 i h').2; omega
                · have := (hPb.b2 i h').2; omega⟩
            go_wp2
            go_meet
            case rel => exact ⟨hP4, hcp, (hBb.below hb3 hBb.lt).below hb4 (Nat.lt_of_lt_of_le hBb.lt hb3.size)⟩
          · have hatb : ((k : Int) == att) = false := beq_eq_false_iff_ne.2 hat
            clear hat
            go_wp2
            go_meet
            case rel => exact ⟨hPb, HCb.out, hBb⟩
        case rest =>
          obtain ⟨hPc, hCc, hBc⟩ := hcut
          have HCC := Lib.hid hCc
          clear hCc
          have f0 : wc.cell? ⟨bx, 0, none⟩ = some (.int .i64 op) := hBc.cell 0
          have f1 : wc.cell? ⟨bx, 1, none⟩ = some (.int .i64 n) := hBc.cell 1
          have f2 : wc.cell? ⟨bx, 2, none⟩ = some (.string nm) := hBc.cell 2
          have f3 : wc.cell? ⟨bx, 3, none⟩ = some (.string tn) := hBc.cell 3
          have f4 : wc.cell? ⟨bx, 4, none⟩ = some (.slice BA bm bc) := hBc.cell 4
          have f5 : wc.cell? ⟨bx, 5, none⟩ = some (.slice TA ts.length tc) := hBc.cell 5
          have HS := Lib.hid (steps_any hPc HD.out (by omega) HOKS.out)
          go_wp2_with fail
          refine HS.out.mono ?_
          rintro e w3 ⟨rfl, D', S1', S2', hP', hD', hl', hm', hS'⟩
          have HD' := Lib.hid hD'
          have HCD := Lib.hid (HCC.out.step hm' (fun i hi => hi.elim (fun h => (hPc.b1 i h).1) (fun h => (hPc.b2 i h).1)) hS')
          clear hD' hS'
          go_wp2_with fail
          refine (samedisks_any hP' HD'.out (by omega)).mono ?_
          rintro e w4 ⟨rfl, hb4⟩
          go_wp2
          go_roundw
          case rel => exact ⟨k + 1, S1', S2', D', by omega, by omega, by go_num, hP'.below hb4, HD'.out, by omega, HCD.out.below hb4⟩
          case measure => simp [intOf]; omega
    · obtain rfl : k = len := by omega
      rcases HC.out with ⟨rfl, rfl⟩ | ⟨cb, yc, S3, S4, D', rfl, rfl, hP', hD', hl', hdj⟩
      · go_wp2_with fail
        refine (samedisks_any hP HD.out (by omega)).mono ?_
        rintro e w3 ⟨rfl, hb3⟩
        go_wp2
        go_ret
        exact ⟨rfl, (hP.below hb3).bel⟩
      · have HD' := Lib.hid hD'
        clear hD' hdj
        go_wp2_with fail
        refine (samedisks_any hP HD.out (by omega)).mono ?_
        rintro e w3 ⟨rfl, hb3⟩
        have hP3 := hP'.below hb3
        go_wp2_with fail
        refine (samedisks_any hP3 HD'.out (by omega)).mono ?_
        rintro e w4 ⟨rfl, hb4⟩
        go_wp2
        go_ret
        exact ⟨rfl, (hP3.below hb4).bel⟩

end Go.Proofs.Ytkfmfllniakhkaa
