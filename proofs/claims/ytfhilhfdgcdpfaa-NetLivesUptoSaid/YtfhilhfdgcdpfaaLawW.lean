/- The law NetLives: its walk. -/
import Derived.Test.YtfhilhfdgcdpfaaPair
import Derived.Test.YtfhilhfdgcdpfaaEqs
namespace Go.Proofs.Ytfhilhfdgcdpfaa
open Go.RowKit Go.Maps Go.Sort
set_option linter.unusedVariables false

/-- what element i of the argument is -/
structure DoAt (W : World) (A0 : Option Addr) (i : Nat) (op n : Int) (A : Option Addr) (m c : Nat) (bs : List UInt8) : Prop where
  ad : ∃ ad, A0 = some ad ∧ ad.block < W.heap.size ∧ W.cell? (ad.add (i * 3)) = some (.int .i64 op) ∧ W.cell? (ad.add (i * 3 + 1)) = some (.int .i64 n) ∧ W.cell? (ad.add (i * 3 + 2)) = some (.slice A m c)
  rd : Reads W W.heap.size 1 A m (u8s bs)
  big : m ≤ 1048576
  op_ : (Lit.int .i64 op).wf = true
  n_ : (Lit.int .i64 n).wf = true

theorem add_step (a : Addr) (i j : Nat) : a.add (i + (j + 1)) = ⟨(a.add i).block, (a.add i).off + (j + 1), none⟩ := by
  unfold Addr.add
  rw [if_neg (by omega)]
  by_cases h : i = 0
  · simp [h]
  · simp [h, Nat.add_assoc]

theorem inv_start (W : World) : Inv W (((W.alloc (.map #[] 0)).alloc (.cells #[.map (some W.heap.size), .int .i64 0] 49)).alloc (.cells #[.slice none 0 0, .int .i64 0] 28)) (W.heap.size + 1) (W.heap.size + 1 + 1) 0 := by
  have b1 : Blk ((W.alloc (.map #[] 0)).alloc (.cells #[.map (some W.heap.size), .int .i64 0] 49)) (W.heap.size + 1) 49 #[.map (some W.heap.size), .int .i64 0] := by
    have := Blk.new (W.alloc (.map #[] 0)) 49 #[.map (some W.heap.size), .int .i64 0]
    rw [World.size_alloc] at this
    exact this
  have b2 : Blk (((W.alloc (.map #[] 0)).alloc (.cells #[.map (some W.heap.size), .int .i64 0] 49)).alloc (.cells #[.slice none 0 0, .int .i64 0] 28)) (W.heap.size + 1 + 1) 28 #[.slice none 0 0, .int .i64 0] := by
    have := Blk.new ((W.alloc (.map #[] 0)).alloc (.cells #[.map (some W.heap.size), .int .i64 0] 49)) 28 #[.slice none 0 0, .int .i64 0]
    rw [World.size_alloc, World.size_alloc] at this
    exact this
  have m0 : ((W.alloc (.map #[] 0)).alloc (.cells #[.map (some W.heap.size), .int .i64 0] 49)).ownsMap Try.prog 3 hld W.heap.size 0 (.map []) := (World.ownsMap_made W _ _ _).alloc _
  refine ⟨fun k => k = W.heap.size + 1 ∨ k = W.heap.size, fun k => k = W.heap.size + 1 + 1, 0, [], ⟨?_, ?_, ?_, ?_, ?_, ?_⟩, Int.le_refl _, by simp, Nat.zero_le _, fun e he => by cases he⟩
  · exact ⟨W.heap.size, [], ⟨b1.alloc _, ⟨0, Int.le_refl _, m0.alloc _⟩, (fun c hc => by cases hc), List.Pairwise.nil, (fun c hc => by cases hc), List.Pairwise.nil, .inl rfl, .inr rfl, (fun c hc => by cases hc)⟩, rfl⟩
  · exact ⟨none, 0, 0, [], ⟨b2, ⟨rfl, .inl ⟨rfl, rfl⟩⟩, (fun c hc => by cases hc), List.Pairwise.nil, (fun c hc => by cases hc), rfl, (fun g hg => by cases hg), (fun c hc => by cases hc)⟩, rfl⟩
  · rintro k (rfl | rfl) <;> simp <;> omega
  · rintro k rfl; simp; omega
  · rintro k (rfl | rfl) h <;> omega
  · exact (((Below.refl _ W).alloc (Nat.le_refl _) _).alloc (by simp) _).alloc (by simp; omega) _

set_option maxRecDepth 100000 in
set_option maxHeartbeats 4000000 in
theorem law_walk (A0 : Option Addr) (len cap : Nat) (W : World) (hlen : len ≤ 1048576) (hdo : ∀ i, i < len → ∃ op n A m c bs, DoAt W A0 i op n A m c bs) :
    Calls Try.prog 3 #[.slice A0 len cap] W fun e w' => e = .returned (.bool true) ∧ Below W.heap.size W w' := by
  have HDO := Lib.hid hdo
  clear hdo
  go_enter Try.func3, Try.ntmps3
  go_wp2_with fail
  refine (new_any W).mono ?_
  rintro e w1 ⟨rfl, rfl⟩
  go_wp2_with fail
  go_loopw [29] (fun i wr => ∃ k : Nat, k ≤ len ∧ k ≤ 61 ∧ i = .int .i64 k ∧ Inv W wr (W.heap.size + 1) (W.heap.size + 1 + 1) k) (fun i _ => len - (intOf i).toNat)
  case atStart => exact ⟨0, Nat.zero_le _, Nat.zero_le _, rfl, inv_start W⟩
  case round =>
    obtain ⟨k, hk, hk61, rfl, ⟨S1, S2, last, M, hP, hl0, hl1, hM, hN⟩⟩ := hrel
    have HN := Lib.hid hN
    clear hN
    by_cases hlt : k < len
    · obtain ⟨op, n, A, m, c, bs, ⟨ad, rfl, hab, d0, d1, d2⟩, hrd, hbig, hwo, hwn⟩ := HDO.out k hlt
      have e0 := (hP.bel.cell (p := ad.add (k * 3)) (by rw [block_of_add]; exact hab)).trans d0
      have e1 := (hP.bel.cell (p := ad.add (k * 3 + 1)) (by rw [block_of_add]; exact hab)).trans d1
      have e2 := (hP.bel.cell (p := ad.add (k * 3 + 2)) (by rw [block_of_add]; exact hab)).trans d2
      rw [add_step ad (k * 3) 0] at e1
      rw [add_step ad (k * 3) 1] at e2
      clear d0 d1 d2
      by_cases h60 : 60 < k
      · have hP0 := hP.alloc (.cells #[.int .i64 op, .int .i64 n, .slice A m c] 31)
        have hd := Lib.hid (net_dial hP0.net 5 hl0 (by omega))
        go_wp2_with fail
        refine hd.out.mono ?_
        rintro e w1 ⟨rfl, hn1, hm1⟩
        have hP1 := hP0.stepN hn1 hm1
        have hd2 := Lib.hid (ref_dial hP1.ref 5 hl0 (by omega) (by omega))
        go_wp2_with fail
        refine hd2.out.mono ?_
        rintro e w2 ⟨rfl, hn2, hm2⟩
        have hP2 := hP1.stepR hn2 hm2
        go_wp2
        go_ret
        exact ⟨rfl, hP2.bel⟩
      · have hB0 : Blk (wr.alloc (.cells #[.int .i64 op, .int .i64 n, .slice A m c] 31)) wr.heap.size 31 #[.int .i64 op, .int .i64 n, .slice A m c] := Blk.new _ _ _
        have hP0 := hP.alloc (.cells #[.int .i64 op, .int .i64 n, .slice A m c] 31)
        obtain ⟨f1, f2⟩ := hP.fresh1
        have hmm : bs.length = m := by have := hrd.1; simp [u8s_length] at this; exact this
        have HMM := Lib.hid hmm
        clear hmm
        go_wp2_with fail
        focus
          refine (net_dial hP0.net n hl0 (by omega)).mono ?_
          rintro e w1 ⟨rfl, hn1, hm1⟩
          have hP1 := hP0.stepN hn1 hm1
          obtain ⟨hB1, f1'⟩ := hP0.blkN hB0 f1 hm1
          have g1 : w1.cell? ⟨wr.heap.size, 1, none⟩ = some (.int .i64 n) := hB1.cell 1
          go_wp2_with fail
          refine (ref_dial hP1.ref n hl0 (by omega) (by omega)).mono ?_
          rintro e w2 ⟨rfl, hn2, hm2⟩
          have hP2 := hP1.stepR hn2 hm2
          obtain ⟨hB2, f2'⟩ := hP1.blkR hB1 f2 hm2
          have g2 : w2.cell? ⟨wr.heap.size, 1, none⟩ = some (.int .i64 n) := hB2.cell 1
          have HN2 := Lib.hid (big_dial (last := last) (ad := n) HN.out)
          have hM2 : (mDial M last n).length ≤ k + 1 := Nat.le_trans (len_dial _ _ _) (by omega)
          have hl2 : 0 ≤ mLast last n := (last_dial last n).1 hl0
          have hl3 : mLast last n ≤ k + 1 := Int.le_trans (last_dial last n).2 (by omega)
          generalize hMM : mDial M last n = M2 at hP2 hM2 HN2
          generalize hla : mLast last n = la at hP2 hl2 hl3
          clear hMM hla hn1 hn2 hm1 hm2 hP1 hB1 g1 hP0 hB0 f1 f2 f1' f2' hl0 hl1 hM
          go_wp2_with fail
        rotate_left
        focus
          have hP0 := hP0.drew
          have hB0 := hB0.drew
          have hrd0 := Lib.hid (hrd.below hP0.bel)
          have hN0 := Lib.hid (fun e he => tot_max (HN.out e he) hbig (by omega) : ∀ e ∈ M, e.bytes.length + m ≤ 1073741824)
          go_region_held3 (fun w' => w'.cell? ⟨wr.heap.size, 1, none⟩ = some (.int .i64 n) ∧ w'.cell? ⟨wr.heap.size, 2, none⟩ = some (.slice A m c)) (go_keep)
            (first
              | (go_at_call 7; refine (net_write hP0.net hwn hrd0.out hN0.out).mono ?_; rintro e w1 ⟨rfl, hn1, hm1⟩; have hP1 := hP0.stepN hn1 hm1; obtain ⟨hB1, f1'⟩ := hP0.blkN hB0 f1 hm1; have g1 : w1.cell? ⟨wr.heap.size, 1, none⟩ = some (.int .i64 n) := hB1.cell 1; have g1b : w1.cell? ⟨wr.heap.size, 2, none⟩ = some (.slice A m c) := hB1.cell 2)
              | (go_at_call 8; refine (ref_write hP1.ref ((hrd.below hP1.bel).more hP1.bel.size) hN0.out (by omega)).mono ?_; rintro e w2 ⟨rfl, hn2, hm2⟩; have hP2 := hP1.stepR hn2 hm2; obtain ⟨hB2, f2'⟩ := hP1.blkR hB1 f2 hm2; have g2 : w2.cell? ⟨wr.heap.size, 1, none⟩ = some (.int .i64 n) := hB2.cell 1; have g2b : w2.cell? ⟨wr.heap.size, 2, none⟩ = some (.slice A m c) := hB2.cell 2))
          have HN2 := Lib.hid (big_write (id := n) HN.out (ms := bs) (by rw [HMM.out]; exact hbig))
          have hM2 : (mWrite M n bs).length ≤ k + 1 := by rw [len_write]; omega
          have hl2 : 0 ≤ last := hl0
          have hl3 : last ≤ k + 1 := by omega
          generalize hMM : mWrite M n bs = M2 at hP2 hM2 HN2
          generalize mErr M n = er at *
          generalize last = la at hP2 hl2 hl3
          clear hMM hn1 hn2 hm1 hm2 hP1 hB1 g1 g1b g2b hP0 hB0 f1 f2 f1' f2' hl0 hl1 hM hrd0 hN0
          go_wp2_with fail
        rotate_left
        focus
          have hP0 := hP0.drew
          have hB0 := hB0.drew
          have hrd0 := Lib.hid (hrd.below hP0.bel)
          have hN0 := Lib.hid (fun e he => tot_max (HN.out e he) hbig (by omega) : ∀ e ∈ M, e.bytes.length + m ≤ 1073741824)
          go_region_held3 (fun w' => w'.cell? ⟨wr.heap.size, 1, none⟩ = some (.int .i64 n) ∧ w'.cell? ⟨wr.heap.size, 2, none⟩ = some (.slice A m c)) (go_keep)
            (first
              | (go_at_call 7; refine (net_write hP0.net hwn hrd0.out hN0.out).mono ?_; rintro e w1 ⟨rfl, hn1, hm1⟩; have hP1 := hP0.stepN hn1 hm1; obtain ⟨hB1, f1'⟩ := hP0.blkN hB0 f1 hm1; have g1 : w1.cell? ⟨wr.heap.size, 1, none⟩ = some (.int .i64 n) := hB1.cell 1; have g1b : w1.cell? ⟨wr.heap.size, 2, none⟩ = some (.slice A m c) := hB1.cell 2)
              | (go_at_call 8; refine (ref_write hP1.ref ((hrd.below hP1.bel).more hP1.bel.size) hN0.out (by omega)).mono ?_; rintro e w2 ⟨rfl, hn2, hm2⟩; have hP2 := hP1.stepR hn2 hm2; obtain ⟨hB2, f2'⟩ := hP1.blkR hB1 f2 hm2; have g2 : w2.cell? ⟨wr.heap.size, 1, none⟩ = some (.int .i64 n) := hB2.cell 1; have g2b : w2.cell? ⟨wr.heap.size, 2, none⟩ = some (.slice A m c) := hB2.cell 2))
          have HN2 := Lib.hid (big_write (id := n) HN.out (ms := bs) (by rw [HMM.out]; exact hbig))
          have hM2 : (mWrite M n bs).length ≤ k + 1 := by rw [len_write]; omega
          have hl2 : 0 ≤ last := hl0
          have hl3 : last ≤ k + 1 := by omega
          generalize hMM : mWrite M n bs = M2 at hP2 hM2 HN2
          generalize mErr M n = er at *
          generalize last = la at hP2 hl2 hl3
          clear hMM hn1 hn2 hm1 hm2 hP1 hB1 g1 g1b g2b hP0 hB0 f1 f2 f1' f2' hl0 hl1 hM hrd0 hN0
          go_wp2_with fail
        rotate_left
        focus
          refine (net_take hP0.net hwn (fun e he => tot_max0 (HN.out e he) (by omega))).mono ?_
          rintro e w1 ⟨A1, n1, cap1, rfl, ho1, hx1, hn1, hm1⟩
          have hP1 := hP0.stepN hn1 hm1
          obtain ⟨hB1, f1'⟩ := hP0.blkN hB0 f1 hm1
          have g1 : w1.cell? ⟨wr.heap.size, 1, none⟩ = some (.int .i64 n) := hB1.cell 1
          go_wp2_with fail
          refine (ref_take hP1.ref (by omega)).mono ?_
          rintro e w2 ⟨A2, n2, cap2, rfl, ho2, hn2, hm2⟩
          have hP2 := hP1.stepR hn2 hm2
          obtain ⟨hB2, f2'⟩ := hP1.blkR hB1 f2 hm2
          have g2 : w2.cell? ⟨wr.heap.size, 1, none⟩ = some (.int .i64 n) := hB2.cell 1
          have ho1' := own_mods ho1 hm2 (fun g hg h2 => hP1.dj g (hx1 g hg) h2)
          go_wp2_with fail
          refine (equal_bytes _ ho1' ho2).mono ?_
          rintro e w2 ⟨rfl, rfl⟩
          have HN2 := Lib.hid (big_take (id := n) HN.out)
          have hM2 : (mTake M n).length ≤ k + 1 := by rw [len_take]; omega
          have hl2 : 0 ≤ last := hl0
          have hl3 : last ≤ k + 1 := by omega
          generalize hMM : mTake M n = M2 at hP2 hM2 HN2
          generalize last = la at hP2 hl2 hl3
          clear hMM hn1 hn2 hm1 hm2 hP1 hB1 g1 hP0 hB0 f1 f2 f1' f2' hl0 hl1 hM ho1 ho2 ho1' hx1
          go_wp2_with fail
        rotate_left
        focus
          have hP0 := hP0.drew
          have hB0 := hB0.drew
          go_region_held3 (fun w' => w'.cell? ⟨wr.heap.size, 1, none⟩ = some (.int .i64 n)) (go_keep)
            (first
              | (go_at_call 12; refine (net_drop hP0.net hwn).mono ?_; rintro e w1 ⟨rfl, hn1, hm1⟩; have hP1 := hP0.stepN hn1 hm1; obtain ⟨hB1, f1'⟩ := hP0.blkN hB0 f1 hm1; have g1 : w1.cell? ⟨wr.heap.size, 1, none⟩ = some (.int .i64 n) := hB1.cell 1)
              | (go_at_call 13; refine (ref_drop hP1.ref (by omega)).mono ?_; rintro e w2 ⟨rfl, hn2, hm2⟩; have hP2 := hP1.stepR hn2 hm2; obtain ⟨hB2, f2'⟩ := hP1.blkR hB1 f2 hm2; have g2 : w2.cell? ⟨wr.heap.size, 1, none⟩ = some (.int .i64 n) := hB2.cell 1))
          have HN2 := Lib.hid (big_drop (id := n) HN.out)
          have hM2 : (mDrop M n).length ≤ k + 1 := Nat.le_trans (len_drop _ _) (by omega)
          have hl2 : 0 ≤ last := hl0
          have hl3 : last ≤ k + 1 := by omega
          generalize hMM : mDrop M n = M2 at hP2 hM2 HN2
          generalize mErr M n = er at *
          generalize last = la at hP2 hl2 hl3
          clear hMM hn1 hn2 hm1 hm2 hP1 hB1 g1 hP0 hB0 f1 f2 f1' f2' hl0 hl1 hM
          go_wp2_with fail
        rotate_left
        all_goals
          refine (net_addr hP2.net hwn).mono ?_
          rintro e w3 ⟨rfl, rfl⟩
          go_wp2_with fail
          refine (ref_addr hP2.ref n (by omega)).mono ?_
          rintro e w3 ⟨rfl, hb3⟩
          have hP3 := hP2.below hb3
          go_wp2_with fail
          refine (net_conns hP3.net (by omega)).mono ?_
          rintro e w4 ⟨A4, n4, cap4, rfl, ho4, hb4⟩
          have hP4 := hP3.below hb4
          go_wp2_with fail
          refine (ref_conns hP4.ref (by omega)).mono ?_
          rintro e w5 ⟨A5, n5, cap5, rfl, ho5, hb5⟩
          have hP5 := hP4.below hb5
          have ho4' := own_mods ho4 (Mods.below (Mods.refl (fun _ => False) w4) hb5) (fun _ _ h => h)
          go_wp2_with fail
          refine (equal_ints (M2.map Ent.id) (by rw [List.map_map]; exact ho4') (by rw [List.map_map]; exact ho5) (by rw [List.length_map]; omega)).mono ?_
          rintro e w6 ⟨rfl, q, rfl⟩
          have hP6 := hP5.drewN q
          go_wp2
          go_roundw
          case rel => exact ⟨k + 1, by omega, by omega, by go_num, _, _, la, M2, hP6, hl2, hl3, hM2, HN2.out⟩
          case measure => simp [intOf]; omega
    · obtain rfl : k = len := by omega
      have hd := Lib.hid (net_dial hP.net 5 hl0 (by omega))
      have hkb : ((k : Int) < (k : Int)) = False := by simp
      go_wp2_with fail
      refine hd.out.mono ?_
      rintro e w1 ⟨rfl, hn1, hm1⟩
      have hP1 := hP.stepN hn1 hm1
      have hd2 := Lib.hid (ref_dial hP1.ref 5 hl0 (by omega) (by omega))
      go_wp2_with fail
      refine hd2.out.mono ?_
      rintro e w2 ⟨rfl, hn2, hm2⟩
      have hP2 := hP1.stepR hn2 hm2
      go_wp2
      go_ret
      exact ⟨rfl, hP2.bel⟩

end Go.Proofs.Ytfhilhfdgcdpfaa
