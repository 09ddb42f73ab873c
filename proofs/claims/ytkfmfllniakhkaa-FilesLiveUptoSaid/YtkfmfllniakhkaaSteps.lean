/- plain.Steps: a step on both disks: a walk. -/
import Derived.Test.YtkfmfllniakhkaaSpoil
namespace Go.Proofs.Ytkfmfllniakhkaa
open Go.RowKit Go.Maps Go.Sort
set_option linter.unusedVariables false

/-- a step, as the argument of the law holds it -/
structure StOk (W : World) (op n : Int) (nm tn : ByteArray) (BA : Option Addr) (bm bc : Nat) (bs : List UInt8) (TA : Option Addr) (tc : Nat) (ts : List Tl) : Prop where
  rb : Reads W W.heap.size 1 BA bm (u8s bs)
  bm_ : bm ≤ 1048576
  bc_ : bm ≤ bc
  rt : Reads W W.heap.size 3 TA ts.length (tcells ts)
  ts_ : ts.length ≤ 1048576
  nm_ : nm.size ≤ maxLen
  tn_ : tn.size ≤ maxLen
  n_ : -9223372036854775808 ≤ n ∧ n ≤ 9223372036854775807
def stVal (op n : Int) (nm tn : ByteArray) (BA : Option Addr) (bm bc : Nat) (TA : Option Addr) (tm tc : Nat) : Array Value := #[.int .i64 op, .int .i64 n, .string nm, .string tn, .slice BA bm bc, .slice TA tm tc]

def StepsPost (W w : World) (S1 S2 : Nat → Prop) (bd xd : Nat) (D : Dk) (e : Ending) (w' : World) : Prop :=
  e = .returned (.bool true) ∧ ∃ (D' : Dk) (S1' S2' : Nat → Prop), DP W w' S1' S2' bd xd D' D' ∧ DkOk D' ∧ D'.l.length ≤ D.l.length + 1 ∧ Mods (fun k => S1 k ∨ S2 k) w w' ∧ ∀ k, S1' k ∨ S2' k → S1 k ∨ S2 k ∨ w.heap.size ≤ k

theorem steps_end {W w wa wb wc wd : World} {S1 S2 : Nat → Prop} {bd xd : Nat} {D D' : Dk} (hP : DP W wd (ext S1 wa wb) (ext S2 wc wd) bd xd D' D') (hD : DkOk D') (hl : D'.l.length ≤ D.l.length + 1) (ha : Mods (fun k => S1 k ∨ S2 k) w wa) (hb : Mods S1 wa wb) (hc : Mods (fun k => S1 k ∨ S2 k) wb wc) (hd : Mods S2 wc wd) :
    StepsPost W w S1 S2 bd xd D (.returned (.bool true)) wd := by
  have h1 := ha.size
  have h2 := hb.size
  have h3 := hc.size
  refine ⟨rfl, D', _, _, hP, hD, hl, ((ha.trans (hb.mono (T := fun k => S1 k ∨ S2 k) fun _ _ h => .inl h) fun _ _ h => h).trans hc fun _ _ h => h).trans (hd.mono (T := fun k => S1 k ∨ S2 k) fun _ _ h => .inr h) fun _ _ h => h, fun k hk => ?_⟩
  rcases hk with (h | ⟨h, _⟩) | (h | ⟨h, _⟩)
  · exact .inl h
  · exact .inr (.inr (by omega))
  · exact .inr (.inl h)
  · exact .inr (.inr (by omega))

set_option maxRecDepth 100000 in
set_option maxHeartbeats 4000000 in
theorem steps_any {W w : World} {S1 S2 : Nat → Prop} {bd xd : Nat} {D : Dk} (h : DP W w S1 S2 bd xd D D) (hD : DkOk D) (hlen : D.l.length < 1000000)
    {op n : Int} {nm tn : ByteArray} {BA : Option Addr} {bm bc : Nat} {bs : List UInt8} {TA : Option Addr} {tc : Nat} {ts : List Tl} (hst : StOk W op n nm tn BA bm bc bs TA tc ts) :
    Calls Try.prog 8 #[.pointer (some ⟨bd, 0, none⟩), .pointer (some ⟨xd, 0, none⟩), .agg (stVal op n nm tn BA bm bc TA ts.length tc)] w (StepsPost W w S1 S2 bd xd D) := by
  have HD := Lib.hid hD
  have HST := Lib.hid hst
  clear hD hst
  unfold stVal
  go_enter Try.func8, Try.ntmps8
  go_upto_region 4 with fail
  generalize wrap64 ((IntKind.u64.wrap op).tmod 12) = o
  generalize hbx : w.heap.size = bx
  have HBX := Lib.hid hbx
  clear hbx
  have h0 := h.alloc (.cells #[.int .i64 op, .int .i64 n, .string nm, .string tn, .slice BA bm bc, .slice TA ts.length tc] 33)
  have hB0 : Blk (w.alloc (.cells #[.int .i64 op, .int .i64 n, .string nm, .string tn, .slice BA bm bc, .slice TA ts.length tc] 33)) bx 33 #[.int .i64 op, .int .i64 n, .string nm, .string tn, .slice BA bm bc, .slice TA ts.length tc] := HBX.out ▸ Blk.new _ _ _
  have nb0 := h.fresh (k := bx) (by rw [HBX.out]; exact Nat.le_refl _)
  have hm00 : Mods (fun k => S1 k ∨ S2 k) w (w.alloc (.cells #[.int .i64 op, .int .i64 n, .string nm, .string tn, .slice BA bm bc, .slice TA ts.length tc] 33)) := (Mods.refl _ w).alloc _
  generalize w.alloc (.cells #[.int .i64 op, .int .i64 n, .string nm, .string tn, .slice BA bm bc, .slice TA ts.length tc] 33) = w1 at h0 hB0 hm00 ⊢
  have c1 : w1.cell? ⟨bx, 1, none⟩ = some (.int .i64 n) := hB0.cell 1
  have c2 : w1.cell? ⟨bx, 2, none⟩ = some (.string nm) := hB0.cell 2
  have c3 : w1.cell? ⟨bx, 3, none⟩ = some (.string tn) := hB0.cell 3
  have c4 : w1.cell? ⟨bx, 4, none⟩ = some (.slice BA bm bc) := hB0.cell 4
  have c5 : w1.cell? ⟨bx, 5, none⟩ = some (.slice TA ts.length tc) := hB0.cell 5
  have hlen2 : ∀ D' : Dk, D'.l.length ≤ D.l.length + 1 → D'.l.length ≤ 1000000 := fun D' hd => by omega
  have h1 := h0.drew
  have hB1 := hB0.drew
  have nb1 := nb0
  have hm01 := hm00.drew
  rcases (show (o = 0 ∨ o = 1 ∨ o = 2 ∨ o = 3) ∨ o = 4 ∨ o = 5 ∨ o = 6 ∨ o = 7 ∨ o = 8 ∨ o = 9 ∨ o = 10 ∨ (o ≠ 0 ∧ o ≠ 1 ∧ o ≠ 2 ∧ o ≠ 3 ∧ o ≠ 4 ∧ o ≠ 5 ∧ o ≠ 6 ∧ o ≠ 7 ∧ o ≠ 8 ∧ o ≠ 9 ∧ o ≠ 10) by omega) with ho | rfl | rfl | rfl | rfl | rfl | rfl | rfl | ho
  · -- Append
    have hbm := HST.out.bm_
    have hrb1 := HST.out.rb.below h0.bel
    have hcl := Lib.hid (clone_any (cap := bc) hrb1 (by omega))
    rcases ho with rfl | rfl | rfl | rfl
    all_goals
      go_wp2_with fail
      refine hcl.out.mono ?_
      rintro e w2 ⟨v, rfl, hrv, hb2⟩
      obtain ⟨GA, gc, rfl⟩ := hrv.slice
      have h2 := h0.below hb2
      have hB2 := hB0.below hb2 hB0.lt
      have k2 : w2.cell? ⟨bx, 2, none⟩ = some (.string nm) := hB2.cell 2
      have k4 : w2.cell? ⟨bx, 4, none⟩ = some (.slice BA bm bc) := hB2.cell 4
      have hgs : ∀ ad, GA = some ad → w1.heap.size ≤ ad.block ∧ ad.block < w2.heap.size := fun ad e => hrv.lt ad.block (by rw [e]; rfl)
      have ha1 := disk_append h2.d HD.out (by omega) HST.out.nm_ hrv.reads (by omega) hrv.cap.2.1 (fun _ ad e => (h0.fresh (hgs ad e).1).1)
      generalize hmo : mAppend D nm.data.toList bs = mo at ha1
      have HMO := Lib.hid hmo
      have HA1 := Lib.hid ha1
      clear hmo ha1
      go_wp2_with fail
      refine HA1.out.mono ?_
      rintro e w3 ⟨rfl, hn3, hm3⟩
      have h3 := h2.stepD hn3 hm3
      obtain ⟨hB3, nb3⟩ := h2.blkD hB2 nb0.1 hm3
      have j2 : w3.cell? ⟨bx, 2, none⟩ = some (.string nm) := hB3.cell 2
      have j4 : w3.cell? ⟨bx, 4, none⟩ = some (.slice BA bm bc) := hB3.cell 4
      have hrv3 := hrv.mods hm3 (fun g hg => (h0.fresh (hrv.lt g hg).1).1)
      have ha2 := rdisk_append h3.x HD.out hlen HST.out.nm_ ((HST.out.rb.below h3.bel).more h3.bel.size) (by omega) HST.out.bc_ (fun h0' ad e => (h3.old (by obtain ⟨ad', e', hlt, _⟩ := HST.out.rb.2 h0'; rw [e] at e'; injection e' with e'; rw [e']; exact hlt)).2)
      rw [HMO.out] at ha2
      have HA2 := Lib.hid ha2
      clear ha2
      go_wp2_with fail
      refine HA2.out.mono ?_
      rintro e w4 ⟨rfl, hn4, hm4⟩
      have h4 := h3.stepX hn4 hm4
      have hrv4 := (hrv3.mods hm4 (fun g hg => (h0.fresh (hrv.lt g hg).1).2)).alloc (.cells #[.slice GA bm gc] 30)
      have hsp := Lib.hid (spoil_one (w := w4.alloc (.cells #[.slice GA bm gc] 30)) (B := w4.heap.size) (bs := bs) ((Blk.new w4 30 #[.slice GA bm gc]).cell 0) hrv4 (by omega) (fun e => by have := (hrv.lt _ e).2; have := hm3.size; have := hm4.size; omega))
      go_wp2_with fail
      refine hsp.out.mono ?_
      rintro e w5 ⟨rfl, hm5⟩
      have hsz2 := hb2.size
      have hsz3 := hm3.size
      have hsz0 := hm00.size
      have h5 := (h4.alloc (.cells #[.slice GA bm gc] 30)).keep hm5 (fun k hk e => by
        have hl := hrv.lt k e
        have hf := h0.fresh hl.1
        rcases hk with (h | ⟨h, _⟩) | (h | ⟨h, _⟩)
        · exact hf.1 h
        · omega
        · exact hf.2 h
        · omega) (fun k e => by have := (hrv.lt k e).1; have := h0.bel.size; omega)
      have hm04 : Mods (fun k => S1 k ∨ S2 k) w w4 := ((hm00.below hb2).trans (hm3.mono (T := fun k => S1 k ∨ S2 k) fun _ _ h => .inl h) fun _ _ h => h).trans (hm4.mono (T := fun k => S1 k ∨ S2 k) fun _ _ h => .inr h) fun _ _ h => h
      have hok := mAppend_ok HD.out nm.data.toList bs
      rw [HMO.out] at hok
      go_wp2
      go_ret
      exact ⟨rfl, mo.1, _, _, h5, hok.1, hok.2, (hm04.alloc _).trans hm5 (fun i hi e => by have := (hrv.lt i e).1; omega), fun k hk => by
        rcases hk with (h | ⟨h, _⟩) | (h | ⟨h, _⟩)
        · exact .inl h
        · exact .inr (.inr (by omega))
        · exact .inr (.inl h)
        · exact .inr (.inr (by omega))⟩
  · -- Sync
    go_upto_region 14 with fail
    go_region_held3 (fun w' => w'.cell? ⟨bx, 2, none⟩ = some (.string nm)) (first | exact c2 | exact hB2.cell 2 | exact hB3.cell 2)
      (first
        | (go_at_call 15; refine (disk_sync h1.d HD.out HST.out.nm_).mono ?_; rintro e w2 ⟨rfl, hn2, hm2⟩; have h2 := h1.stepD hn2 hm2; obtain ⟨hB2, nb2⟩ := h1.blkD hB1 nb1.1 hm2)
        | (go_at_call 16; refine (rsync_any h2.x HD.out (by omega) nm).mono ?_; rintro e w3 ⟨rfl, hn3, hm3⟩; have h3 := h2.stepX hn3 hm3; obtain ⟨hB3, nb3⟩ := h2.blkX hB2 nb1.2 hm3))
    go_wp2
    go_ret
    exact steps_end h3 (mSync_ok HD.out _).1 (mSync_ok HD.out _).2 hm01 hm2 (Mods.refl _ _) hm3
  · -- Cut
    go_upto_region 16 with fail
    go_region_held3 (fun w' => w'.cell? ⟨bx, 2, none⟩ = some (.string nm) ∧ w'.cell? ⟨bx, 1, none⟩ = some (.int .i64 n)) (first | exact ⟨c2, c1⟩ | exact ⟨hB2.cell 2, hB2.cell 1⟩ | exact ⟨hB3.cell 2, hB3.cell 1⟩)
      (first
        | (go_at_call 17; refine (disk_cut h1.d HD.out HST.out.nm_ n).mono ?_; rintro e w2 ⟨rfl, hn2, hm2⟩; have h2 := h1.stepD hn2 hm2; obtain ⟨hB2, nb2⟩ := h1.blkD hB1 nb1.1 hm2)
        | (go_at_call 18; refine (rcut_any h2.x HD.out (by omega) nm n).mono ?_; rintro e w3 ⟨rfl, hn3, hm3⟩; have h3 := h2.stepX hn3 hm3; obtain ⟨hB3, nb3⟩ := h2.blkX hB2 nb1.2 hm3))
    go_wp2
    go_ret
    exact steps_end h3 (mCut_ok HD.out _ _).1 (mCut_ok HD.out _ _).2 hm01 hm2 (Mods.refl _ _) hm3
  · -- Rename
    go_upto_region 18 with fail
    go_region_held3 (fun w' => w'.cell? ⟨bx, 2, none⟩ = some (.string nm) ∧ w'.cell? ⟨bx, 3, none⟩ = some (.string tn)) (first | exact ⟨c2, c3⟩ | exact ⟨hB2.cell 2, hB2.cell 3⟩ | exact ⟨hB3.cell 2, hB3.cell 3⟩)
      (first
        | (go_at_call 19; refine (disk_rename h1.d HD.out (by omega) HST.out.nm_ HST.out.tn_).mono ?_; rintro e w2 ⟨rfl, hn2, hm2⟩; have h2 := h1.stepD hn2 hm2; obtain ⟨hB2, nb2⟩ := h1.blkD hB1 nb1.1 hm2)
        | (go_at_call 20; refine (rrename_any h2.x HD.out (by omega) nm tn HST.out.tn_).mono ?_; rintro e w3 ⟨rfl, hn3, hm3⟩; have h3 := h2.stepX hn3 hm3; obtain ⟨hB3, nb3⟩ := h2.blkX hB2 nb1.2 hm3))
    go_wp2
    go_ret
    exact steps_end h3 (mRename_ok HD.out _ _).1 (mRename_ok HD.out _ _).2 hm01 hm2 (Mods.refl _ _) hm3
  · -- Remove
    go_upto_region 20 with fail
    go_region_held3 (fun w' => w'.cell? ⟨bx, 2, none⟩ = some (.string nm)) (first | exact c2 | exact hB2.cell 2 | exact hB3.cell 2)
      (first
        | (go_at_call 21; refine (disk_remove h1.d HD.out HST.out.nm_).mono ?_; rintro e w2 ⟨rfl, hn2, hm2⟩; have h2 := h1.stepD hn2 hm2; obtain ⟨hB2, nb2⟩ := h1.blkD hB1 nb1.1 hm2)
        | (go_at_call 22; refine (rremove_any h2.x HD.out (by omega) nm).mono ?_; rintro e w3 ⟨rfl, hn3, hm3⟩; have h3 := h2.stepX hn3 hm3; obtain ⟨hB3, nb3⟩ := h2.blkX hB2 nb1.2 hm3))
    go_wp2
    go_ret
    exact steps_end h3 (mRemove_ok HD.out _).1 (mRemove_ok HD.out _).2 hm01 hm2 (Mods.refl _ _) hm3
  · -- Short
    go_upto_region 22 with fail
    go_region_held3 (fun w' => w'.cell? ⟨bx, 1, none⟩ = some (.int .i64 n)) (first | exact c1 | exact hB2.cell 1 | exact hB3.cell 1)
      (first
        | (go_at_call 23; refine (disk_short h1.d n).mono ?_; rintro e w2 ⟨rfl, hn2, hm2⟩; have h2 := h1.stepD hn2 hm2; obtain ⟨hB2, nb2⟩ := h1.blkD hB1 nb1.1 hm2)
        | (go_at_call 24; refine (rstep_short h2.x n).mono ?_; rintro e w3 ⟨rfl, hn3, hm3⟩; have h3 := h2.stepX hn3 hm3; obtain ⟨hB3, nb3⟩ := h2.blkX hB2 nb1.2 hm3))
    go_wp2
    go_ret
    exact steps_end h3 (mShort_ok HD.out HST.out.n_.2) (Nat.le_succ _) hm01 hm2 (Mods.refl _ _) hm3
  · -- Room
    go_upto_region 24 with fail
    go_region_held3 (fun w' => w'.cell? ⟨bx, 1, none⟩ = some (.int .i64 n)) (first | exact c1 | exact hB2.cell 1 | exact hB3.cell 1)
      (first
        | (go_at_call 25; refine (disk_room h1.d n).mono ?_; rintro e w2 ⟨rfl, hn2, hm2⟩; have h2 := h1.stepD hn2 hm2; obtain ⟨hB2, nb2⟩ := h1.blkD hB1 nb1.1 hm2)
        | (go_at_call 26; refine (rstep_room h2.x n).mono ?_; rintro e w3 ⟨rfl, hn3, hm3⟩; have h3 := h2.stepX hn3 hm3; obtain ⟨hB3, nb3⟩ := h2.blkX hB2 nb1.2 hm3))
    go_wp2
    go_ret
    exact steps_end h3 (mRoom_ok HD.out n) (Nat.le_succ _) hm01 hm2 (Mods.refl _ _) hm3
  · -- Fuse
    go_upto_region 26 with fail
    go_region_held3 (fun w' => w'.cell? ⟨bx, 1, none⟩ = some (.int .i64 n)) (first | exact c1 | exact hB2.cell 1 | exact hB3.cell 1)
      (first
        | (go_at_call 27; refine (disk_fuse h1.d n).mono ?_; rintro e w2 ⟨rfl, hn2, hm2⟩; have h2 := h1.stepD hn2 hm2; obtain ⟨hB2, nb2⟩ := h1.blkD hB1 nb1.1 hm2)
        | (go_at_call 28; refine (rstep_fuse h2.x n).mono ?_; rintro e w3 ⟨rfl, hn3, hm3⟩; have h3 := h2.stepX hn3 hm3; obtain ⟨hB3, nb3⟩ := h2.blkX hB2 nb1.2 hm3))
    go_wp2
    go_ret
    exact steps_end h3 (mFuse_ok HD.out HST.out.n_.2) (Nat.le_succ _) hm01 hm2 (Mods.refl _ _) hm3
  · -- Crash
    obtain ⟨n0, n1, n2, n3, n4, n5, n6, n7, n8, n9, n10⟩ := ho
    have q0 : (o == 0) = false := beq_eq_false_iff_ne.2 n0
    have q1 : (o == 1) = false := beq_eq_false_iff_ne.2 n1
    have q2 : (o == 2) = false := beq_eq_false_iff_ne.2 n2
    have q3 : (o == 3) = false := beq_eq_false_iff_ne.2 n3
    have q4 : (o == 4) = false := beq_eq_false_iff_ne.2 n4
    have q5 : (o == 5) = false := beq_eq_false_iff_ne.2 n5
    have q6 : (o == 6) = false := beq_eq_false_iff_ne.2 n6
    have q7 : (o == 7) = false := beq_eq_false_iff_ne.2 n7
    have q8 : (o == 8) = false := beq_eq_false_iff_ne.2 n8
    have q9 : (o == 9) = false := beq_eq_false_iff_ne.2 n9
    have q10 : (o == 10) = false := beq_eq_false_iff_ne.2 n10
    clear n0 n1 n2 n3 n4 n5 n6 n7 n8 n9 n10
    have hts := HST.out.ts_
    have hrt := HST.out.rt
    have hold : ∀ {w' : World} {T1 T2 : Nat → Prop} {Da Db : Dk}, DP W w' T1 T2 bd xd Da Db → 0 < ts.length → ∀ ad, TA = some ad → ¬ T1 ad.block ∧ ¬ T2 ad.block := fun hP h0' ad e => hP.old (by obtain ⟨ad', e', hlt, _⟩ := hrt.2 h0'; rw [e] at e'; injection e' with e'; rw [e']; exact hlt)
    have HX := Lib.hid (rdisk_crash h0.x HD.out (by omega) ts (by omega) TA tc ((hrt.below h0.bel).more h0.bel.size) (fun h0' ad e => (hold h0 h0' ad e).2))
    go_wp2_with fail
    refine HX.out.mono ?_
    rintro e w2 ⟨rfl, hn2, hm2⟩
    have h2 := h0.stepX hn2 hm2
    obtain ⟨hB2, nb2⟩ := h0.blkX hB0 nb0.2 hm2
    have k5 : w2.cell? ⟨bx, 5, none⟩ = some (.slice TA ts.length tc) := hB2.cell 5
    have HY := Lib.hid (disk_crash h2.d HD.out (by omega) ts (by omega) TA tc ((hrt.below h2.bel).more h2.bel.size) (fun h0' ad e => (hold h2 h0' ad e).1))
    go_wp2_with fail
    refine HY.out.mono ?_
    rintro e w3 ⟨rfl, hn3, hm3⟩
    have h3 := h2.stepD hn3 hm3
    go_wp2
    go_ret
    have hs0 := hm00.size
    have hs2 := hm2.size
    exact ⟨rfl, mCrash D ts, _, _, h3, mCrash_ok HD.out ts, by unfold mCrash; simp, (hm00.trans (hm2.mono (T := fun k => S1 k ∨ S2 k) fun _ _ h => .inr h) fun _ _ h => h).trans (hm3.mono (T := fun k => S1 k ∨ S2 k) fun _ _ h => .inl h) fun _ _ h => h, fun k hk => by
      rcases hk with (h | ⟨h, _⟩) | (h | ⟨h, _⟩)
      · exact .inl h
      · exact .inr (.inr (by omega))
      · exact .inr (.inl h)
      · exact .inr (.inr (by omega))⟩

end Go.Proofs.Ytkfmfllniakhkaa
