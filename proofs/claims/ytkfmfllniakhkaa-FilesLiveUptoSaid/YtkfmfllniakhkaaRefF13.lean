/- The document's disk: Crash. -/
import Derived.Test.YtkfmfllniakhkaaRefF12
namespace Go.Proofs.Ytkfmfllniakhkaa
open Go.RowKit Go.Maps Go.Sort
set_option linter.unusedVariables false

def RCrashPost (S : Nat → Prop) (w : World) (xd : Nat) (D : Dk) (e : Ending) (w' : World) : Prop :=
  e = .returned (.tuple #[]) ∧ RdAt w' (ext S w w') xd D ∧ Mods S w w'

theorem tailOf_drop_hit {ts : List Tl} {nm : Nm} {j : Nat} (hj : j < ts.length) (h : ts[j].nm = nm) : tailOf (ts.drop j) nm = (ts[j].keep, ts[j].turn) := by
  rw [List.drop_eq_getElem_cons hj]
  unfold tailOf
  rw [List.find?_cons_of_pos (by simpa using h)]
theorem tailOf_drop_miss {ts : List Tl} {nm : Nm} {j : Nat} (hj : j < ts.length) (h : ts[j].nm ≠ nm) : tailOf (ts.drop j) nm = tailOf (ts.drop (j + 1)) nm := by
  rw [List.drop_eq_getElem_cons hj]
  unfold tailOf
  rw [List.find?_cons_of_neg (by simpa using h)]
theorem tailOf_end (ts : List Tl) (nm : Nm) : tailOf (ts.drop ts.length) nm = (0, false) := by
  rw [List.drop_length]
  rfl

/-- what a round finds -/
def Mid (ts : List Tl) (rs : List Rf) (k : Nat) (rs' : List Rf) : Prop :=
  ∃ rs1 : List Rf, rs' = rs1 ++ rs.drop k ∧ rs1.map Rf.fl = (rs.take k).map fun r => crashF ts r.fl
theorem Mid.at_ {ts : List Tl} {rs rs' : List Rf} {k : Nat} (h : Mid ts rs k rs') (hk : k < rs.length) : rs'[k]? = some rs[k] ∧ rs'.length = rs.length := by
  obtain ⟨rs1, rfl, h1⟩ := h
  have hl : rs1.length = k := by have := congrArg List.length h1; simp at this; omega
  refine ⟨?_, by simp; omega⟩
  rw [List.getElem?_append_right (by omega), hl, Nat.sub_self, List.getElem?_drop, Nat.add_zero, List.getElem?_eq_getElem hk]
theorem Mid.len {ts : List Tl} {rs rs' : List Rf} {k : Nat} (h : Mid ts rs k rs') (hk : k ≤ rs.length) : rs'.length = rs.length := by
  obtain ⟨rs1, rfl, h1⟩ := h
  have hl : rs1.length = k := by have := congrArg List.length h1; simp at this; omega
  simp; omega
theorem Mid.next {ts : List Tl} {rs rs' : List Rf} {k : Nat} (h : Mid ts rs k rs') (hk : k < rs.length) {r' : Rf} (hr : r'.fl = crashF ts rs[k].fl) : Mid ts rs (k + 1) (rs'.set k r') := by
  obtain ⟨rs1, rfl, h1⟩ := h
  have hl : rs1.length = k := by have := congrArg List.length h1; simp at this; omega
  refine ⟨rs1 ++ [r'], ?_, ?_⟩
  · rw [List.set_append_right _ _ (by omega), hl, Nat.sub_self, List.drop_eq_getElem_cons hk, List.set_cons_zero, List.append_assoc]
    rfl
  · rw [List.map_append, h1, List.take_succ_eq_append_getElem hk, List.map_append, List.map_cons, List.map_cons, List.map_nil, List.map_nil, hr]
theorem Mid.fin {ts : List Tl} {rs rs' : List Rf} (h : Mid ts rs rs.length rs') : rs'.map Rf.fl = (rs.map Rf.fl).map (crashF ts) := by
  obtain ⟨rs1, rfl, h1⟩ := h
  rw [List.drop_length, List.append_nil, h1, List.take_length, List.map_map]
  rfl

theorem turn_row {w4 : World} {B g4 n' cap4 s : Nat} {b : List UInt8} (h : Row w4 B 5 1 (.slice (some ⟨g4, 0, none⟩) (n' + 1) cap4) (n' + 1) ((u8s b).take (n' + 1))) (hkb : n' < b.length) (hs : s < n' + 1) :
    Row (w4.setCell ⟨g4, n', none⟩ (.int .u8 ((b[n'].toNat ^^^ 1 : Nat) : Int))) B 5 1 (.slice (some ⟨g4, 0, none⟩) (n' + 1) cap4) (n' + 1) (u8s (turned true s (n' + 1) (b.take (n' + 1)))) := by
  have h1 := h.set_ (i := n') (by rw [u8s_take, u8s_length, List.length_take]; omega) (.int .u8 ((b[n'].toNat ^^^ 1 : Nat) : Int))
  have hbe : turned true s (n' + 1) (b.take (n' + 1)) = (b.take (n' + 1)).set n' (b[n'] ^^^ 1) := by
    unfold turned
    rw [if_pos ⟨rfl, hs⟩]
    simp [hkb]
  rw [hbe]
  have hxv : ((b[n'].toNat ^^^ 1 : Nat) : Int) = ((b[n'] ^^^ 1).toNat : Int) := by rw [UInt8.toNat_xor]; rfl
  rw [hxv] at h1 ⊢
  simpa [u8s, List.map_take, List.map_set] using h1

theorem crash_fl {ts : List Tl} {c : Rf} {kp : Int} {tn : Bool} {n cap : Nat} {A : Option Addr} (h1 : tailOf ts c.nm = (kp, tn)) (h2 : kept c.s c.b.length kp = n) : (⟨c.name, turned tn c.s n (c.b.take n), n, A, cap⟩ : Rf).fl = crashF ts c.fl := by
  show (⟨c.nm, _, _⟩ : Fl) = ⟨c.nm, turned (tailOf ts c.nm).2 c.s (kept c.s c.b.length (tailOf ts c.nm).1) (c.b.take (kept c.s c.b.length (tailOf ts c.nm).1)), kept c.s c.b.length (tailOf ts c.nm).1⟩
  rw [h1]
  show _ = (⟨c.nm, turned tn c.s (kept c.s c.b.length kp) (c.b.take (kept c.s c.b.length kp)), kept c.s c.b.length kp⟩ : Fl)
  rw [h2]
theorem turned_len (tn : Bool) (s n : Nat) (b : List UInt8) : (turned tn s n b).length = b.length := by unfold turned; split <;> simp
theorem crash_next {w wo wr wc w9 : World} {S : Nat → Prop} {xd g k cap cap4 n : Nat} {room short fuse kp : Int} {tn : Bool} {rs : List Rf} {ts : List Tl} {c : Rf} {A4 : Option Addr} (h2 : RdOk wr (ext S w wo) xd room short fuse (some ⟨g, 0, none⟩) cap rs) (hb5 : Below wr.heap.size wr wc) (hm : Mods S w wr)
    (hwo : wo.heap.size ≤ wr.heap.size) (hk : rs[k]? = some c) (hn : n ≤ c.b.length) (h3 : tailOf ts c.nm = (kp, tn)) (h4 : kept c.s c.b.length kp = n)
    (hrow : Row wc wr.heap.size 5 1 (.slice A4 n cap4) n (u8s (turned tn c.s n (c.b.take n)))) (hx : Xh w9 xd (some ⟨g, 0, none⟩) rs.length cap room short fuse)
    (hr9 : Row w9 0 51 3 (.slice (some ⟨g, 0, none⟩) rs.length cap) rs.length (((fcells rs).set (k * 3 + 1) (.slice A4 n cap4)).set (k * 3 + 2) (.int .i64 (n : Int))))
    (hm9 : Mods (fun i => i = xd ∨ (Value.slice (some ⟨g, 0, none⟩) rs.length cap).ownBlock = some i) wc w9) :
    RdOk w9.drew (ext S w w9.drew) xd room short fuse (some ⟨g, 0, none⟩) cap (rs.set k ⟨c.name, turned tn c.s n (c.b.take n), n, A4, cap4⟩) ∧ Mods S w w9.drew := by
  have hlen : (turned tn c.s n (c.b.take n)).length = n := by rw [turned_len, List.length_take]; omega
  obtain ⟨h9, hmm⟩ := file_end (b := turned tn c.s n (c.b.take n)) (s := n) (A4 := A4) (cap4 := cap4) h2 hb5 hk (by rw [hlen]; exact hrow) hx (by rw [fcells_set12 rs k c hk, hlen]; exact hr9) hm9
  have hsw := hm.size
  have hs9 := hmm.size
  refine ⟨(h9.below (w' := w9.drew) (Below.refl _ w9).drew).more fun i hi => ?_, (hm.trans hmm fun i hi e => e.elim id fun ⟨a, _⟩ => by omega).drew⟩
  rcases hi with (hi | ⟨a, b⟩) | ⟨a, b⟩
  · exact .inl hi
  · exact .inr ⟨a, by show i < w9.heap.size; omega⟩
  · exact .inr ⟨by omega, b⟩

set_option maxRecDepth 10000 in
set_option maxHeartbeats 4000000 in
theorem rcrash_any {w : World} {S : Nat → Prop} {xd : Nat} {room short fuse : Int} {A : Option Addr} {cap : Nat} {rs : List Rf} (h : RdOk w S xd room short fuse A cap rs) (hlen : rs.length ≤ 1000000) (hbl : ∀ r ∈ rs, r.b.length ≤ 1048576 ∧ r.s ≤ r.b.length)
    (ts : List Tl) (hts : ts.length ≤ 1000000000) (TA : Option Addr) (tcap : Nat) (hr : Reads w w.heap.size 3 TA ts.length (tcells ts)) (hTA : 0 < ts.length → ∀ ad, TA = some ad → ¬ S ad.block) :
    Calls Try.prog 29 #[.pointer (some ⟨xd, 0, none⟩), .slice TA ts.length tcap] w (RCrashPost S w xd ⟨(rs.map Rf.fl).map (crashF ts), room, -1, -1⟩) := by
  have c0 : w.cell? ⟨xd, 0, none⟩ = some (.slice A rs.length cap) := h.hdr.cell 0
  have H := Lib.hid h
  have HBL := Lib.hid hbl
  have hxl := h.hdr.lt
  obtain ⟨_, hcap, hcapm⟩ := h.row.cap
  obtain ⟨i0, hi0, hz0, hz1, hz2⟩ := info_parts info_u8
  clear hbl
  go_enter Try.func29, Try.ntmps29
  go_wp2
  go_loopw [16] (fun i wr => ∃ (k : Nat) (rs' : List Rf), k ≤ rs.length ∧ i = .int .i64 k ∧ Mid ts rs k rs' ∧ RdOk wr (ext S w wr) xd room short fuse A cap rs' ∧ Mods S w wr) (fun i _ => rs.length - (intOf i).toNat)
  case atStart => exact ⟨0, rs, Nat.zero_le _, rfl, ⟨[], rfl, rfl⟩, h.more fun _ h => .inl h, Mods.refl _ _⟩
  case round =>
    obtain ⟨k, rs', hk, rfl, hmid, hd, hmw⟩ := hrel
    have hl' := hmid.len hk
    have HL := Lib.hid hl'
    have HM := Lib.hid hmid
    by_cases hlt : k < rs.length
    · obtain ⟨g, rfl⟩ := hd.row.some_ (by omega)
      have hk' := (hmid.at_ hlt).1
      obtain ⟨d0, d1, d2⟩ := file3r hd.row hk'
      have HK := Lib.hid hk'
      obtain ⟨hb1, hb2⟩ := HBL.out rs[k] (List.getElem_mem hlt)
      have HN := Lib.hid (fun (r' : Rf) (hr : r'.fl = crashF ts rs[k].fl) => hmid.next hlt hr)
      clear hmid hk' hl'
      generalize rs[k] = c at *
      have hw1 : IntKind.i64.wrap ((ts.length : Int) - 1) = (ts.length : Int) - 1 := IntWalk.i64_in _ (by omega)
      go_wp2
      have hbx : Blk (wr.alloc (.cells #[.string c.name, .slice c.A c.b.length c.cap, .int .i64 (c.s : Int)] 51)) wr.heap.size 51 #[.string c.name, .slice c.A c.b.length c.cap, .int .i64 (c.s : Int)] := Blk.new _ _ _
      have hd1 := hd.below ((Below.refl _ wr).alloc (Nat.le_refl _) (.cells #[.string c.name, .slice c.A c.b.length c.cap, .int .i64 (c.s : Int)] 51))
      have hm1 := hmw.alloc (.cells #[.string c.name, .slice c.A c.b.length c.cap, .int .i64 (c.s : Int)] 51)
      have hs1 : wr.heap.size ≤ (wr.alloc (.cells #[.string c.name, .slice c.A c.b.length c.cap, .int .i64 (c.s : Int)] 51)).heap.size := by simp
      generalize hbd : wr.heap.size = bx at hbx ⊢
      generalize wr.alloc (.cells #[.string c.name, .slice c.A c.b.length c.cap, .int .i64 (c.s : Int)] 51) = w1 at hbx hd1 hm1 hs1 ⊢
      clear d0 d1 d2
      have hbd' : wr.heap.size ≤ bx := by omega
      clear hbd
      obtain ⟨wo, rfl⟩ : ∃ wo : World, wo = wr := ⟨_, rfl⟩
      go_loopw [6, 7, 8] (fun kp tn j wx => ∃ jj : Nat, jj ≤ ts.length ∧ j = .int .i64 ((jj : Int) - 1) ∧ kp = .int .i64 (tailOf (ts.drop jj) c.nm).1 ∧ tn = .bool (tailOf (ts.drop jj) c.nm).2 ∧ Below w1.heap.size w1 wx) (fun _ _ j _ => (intOf j + 1).toNat)
      case atStart => exact ⟨ts.length, Nat.le_refl _, rfl, by rw [tailOf_end], by rw [tailOf_end], Below.refl _ _⟩
      case round =>
        obtain ⟨jj, hjj, rfl, rfl, rfl, hbw⟩ := hrel
        have hbx1 := hbx.below hbw hbx.lt
        have b0 : wr.cell? ⟨bx, 0, none⟩ = some (.string c.name) := hbx1.cell 0
        rcases jj with _ | jj
        · rw [List.drop_zero]
          have b1 : wr.cell? ⟨bx, 1, none⟩ = some (.slice c.A c.b.length c.cap) := hbx1.cell 1
          have b2 : wr.cell? ⟨bx, 2, none⟩ = some (.int .i64 (c.s : Int)) := hbx1.cell 2
          simp only [Int.natCast_zero, Int.zero_sub]
          generalize hkt : tailOf ts c.nm = kt
          obtain ⟨kp, tn⟩ := kt
          have HKT := Lib.hid hkt
          clear hkt
          go_upto_region 10 with fail
          have hkv : (c.s : Int) + min (max kp 0) ((c.b.length : Int) - (c.s : Int)) = ((kept c.s c.b.length kp : Nat) : Int) := by unfold kept; omega
          simp only [hkv]
          have hk1 : c.s ≤ kept c.s c.b.length kp := by unfold kept; omega
          have hk2 : kept c.s c.b.length kp ≤ c.b.length := by unfold kept; omega
          generalize hkk : kept c.s c.b.length kp = n at hk1 hk2 ⊢
          have HKK := Lib.hid hkk
          clear hkk hkv
          have hcm : c ∈ rs' := List.mem_of_getElem? HK.out
          have hrc := (hd1.below hbw).con c hcm
          obtain ⟨_, hrcap, hrcapm⟩ := hrc.cap
          have hrd := hrc.alloc (.cells #[] 5)
          have hrd := (hrd.cut hk2).reads
          rw [Nat.mul_one] at hrd
          have HRD := Lib.hid hrd
          clear hrd
          have hmc' : n ≤ c.cap := by omega
          have hAz : c.A = none → c.cap = 0 := by
            intro e
            rcases hrc.2 with ⟨q1, _⟩ | ⟨g', cap', cur, q1, _⟩
            · unfold Rf.row at q1; injection q1
            · unfold Rf.row at q1; injection q1 with q1; rw [e] at q1; cases q1
          have hcc : c.cap ≤ 9223372036854775807 := by simp only [maxLen] at hrcapm; omega
          have hbx2 := hbx1.alloc (.cells #[] 5)
          have b1' : (wr.alloc (.cells #[] 5)).cell? ⟨bx, 1, none⟩ = some (.slice c.A c.b.length c.cap) := hbx2.cell 1
          go_upto_region 11 with (at_builtin; refine wpList_append_row _ rfl (.tmp 58) (.tmp 62) _ rfl wr.heap.size 5 i0 _ 1 1 Try.underlying30 hi0 hz0 hz1 hz2 rfl (by omega) (.slice (some ⟨wr.heap.size, 0, none⟩) 0 0) 0 [] rfl (Row.empty wr wr.heap.size 5 (Nat.le_refl _)) _ c.A n c.cap ((u8s c.b).take n) rfl HRD.out (fun u hu => u8s_one _ u (List.mem_of_mem_take hu)) (by simp only [maxLen]; omega) (by omega) (by simp) ?_; intro v4 w4 hown4 hg4 hat4; simp only [Nat.zero_add, List.nil_append] at hown4; obtain ⟨A4, cap4, rfl⟩ := hown4.slice)
          have hb4 : Below wr.heap.size wr w4 := ((Below.refl _ wr).alloc (Nat.le_refl _) _).grown hg4 (by simp) (fun k hk => by simp [Value.ownBlock] at hk; omega)
          have hbx4 := hbx1.below hb4 hbx1.lt
          have q2 : w4.cell? ⟨bx, 2, none⟩ = some (.int .i64 (c.s : Int)) := hbx4.cell 2
          clear b0 b1 b2 b1' hbx2 HRD hrc
          obtain ⟨bb, hbb⟩ : ∃ bb : Bool, bb = (tn && decide (c.s < n)) := ⟨_, rfl⟩
          have HBB := Lib.hid hbb
          clear hbb
          go_cut [70] (fun v wx => v = .bool bb ∧ wx = w4)
          case first =>
            cases htn : tn with
            | false =>
              subst htn
              go_wp2
              go_meet
              case rel => exact ⟨by rw [HBB.out]; rfl, rfl⟩
            | true =>
              subst htn
              by_cases hsn : c.s < n
              · have hsb : decide ((c.s : Int) < (n : Int)) = true := decide_eq_true (by omega)
                go_wp2
                go_meet
                case rel => exact ⟨by rw [HBB.out]; simp [hsn], rfl⟩
              · have hsb : decide ((c.s : Int) < (n : Int)) = false := decide_eq_false (by omega)
                go_wp2
                go_meet
                case rel => exact ⟨by rw [HBB.out]; simp [hsn], rfl⟩
          case rest =>
            obtain ⟨rfl, hwc⟩ := hcut
            subst wc
            go_upto_if 70 with fail
            go_cut [] (fun wx => Row wx wr.heap.size 5 1 (.slice A4 n cap4) n (u8s (turned tn c.s n (c.b.take n))) ∧ Below wr.heap.size wr wx)
            case first =>
              by_cases hsn : tn = true ∧ c.s < n
              · obtain ⟨rfl, hsn⟩ := hsn
                obtain rfl : bb = true := by rw [HBB.out]; simp [hsn]
                obtain ⟨n', rfl⟩ : ∃ n', n = n' + 1 := ⟨n - 1, by omega⟩
                obtain ⟨g4, rfl⟩ := hown4.some_ (by omega)
                have hkb : n' < c.b.length := by omega
                have hwk : IntKind.i64.wrap (((n' + 1 : Nat) : Int) - 1) = (n' : Int) := by
                  have : ((n' + 1 : Nat) : Int) - 1 = (n' : Int) := by omega
                  rw [this]; exact IntWalk.i64_in _ (by omega)
                have p0 : w4.cell? ⟨g4, n', none⟩ = some (.int .u8 ((c.b[n']).toNat : Int)) := by
                  have := hown4.cells (g := g4) rfl n' (.int .u8 ((c.b[n']).toNat : Int)) (by simp [u8s, hkb])
                  have ha : (⟨g4, 0, none⟩ : Addr).add n' = ⟨g4, n', none⟩ := by unfold Addr.add; by_cases h : n' = 0 <;> simp [h]
                  rwa [ha] at this
                have p1 := hown4.frozen rfl n'
                have hcap4 := hown4.cap.2.1
                have hcap5 := hown4.cap.2.2
                have hx : bits BinOp.xor IntKind.u8 ((c.b[n']).toNat : Int) 1 = ((c.b[n'] ^^^ 1).toNat : Int) := by
                  have := u8_xor_nat (c.b[n']).toNat 1 (c.b[n']).toNat_lt (by decide)
                  rw [UInt8.toNat_xor]
                  exact this
                go_wp2
                go_meet
                case rel => exact ⟨turn_row hown4 hkb hsn, hb4.setCell (hown4.lt g4 rfl).1 _⟩
              · obtain rfl : bb = false := by
                  rw [HBB.out, Bool.eq_false_iff]
                  intro e
                  simp at e
                  exact hsn e
                have hturn : turned tn c.s n (c.b.take n) = c.b.take n := by unfold turned; rw [if_neg hsn]
                have HTURN := Lib.hid hturn
                clear hturn
                go_wp2
                go_meet
                case rel => exact ⟨by rw [HTURN.out, ← u8s_take]; exact hown4, hb4⟩
            case rest =>
              obtain ⟨hrow, hb5⟩ := hcut
              clear hb4 hbx4 q2 hown4 hg4 hat4
              have hd2 := hd1.below hbw
              have hd5 := hd2.below hb5
              have hgx : xd ≠ g := fun e => hd5.ne.1 (by rw [e]; rfl)
              have c5 : wc.cell? ⟨xd, 0, none⟩ = some (.slice (some ⟨g, 0, none⟩) rs'.length cap) := hd5.hdr.cell 0
              rw [HL.out] at c5
              obtain ⟨s0, s1, s2⟩ := file3r hd5.row HK.out
              have f1 : wc.frozen? ⟨g, k * 3 + 1, none⟩ = false := hd5.row.frozen rfl _
              have f2 : wc.frozen? ⟨g, k * 3 + 2, none⟩ = false := hd5.row.frozen rfl _
              have hx6 := hd5.hdr.far (p := ⟨g, k * 3 + 1, none⟩) hgx (.slice A4 n cap4)
              have hr6 := hd5.row.set_ (i := k * 3 + 1) (by rw [fcells_length, HL.out]; omega) (.slice A4 n cap4)
              have hx7 := hx6.far (p := ⟨g, k * 3 + 2, none⟩) hgx (.int .i64 (n : Int))
              have hr7 := hr6.set_ (i := k * 3 + 2) (by rw [List.length_set, fcells_length, HL.out]; omega) (.int .i64 (n : Int))
              have x6 : (wc.setCell ⟨g, k * 3 + 1, none⟩ (.slice A4 n cap4)).drew.cell? ⟨xd, 0, none⟩ = some (.slice (some ⟨g, 0, none⟩) rs.length cap) := by have := hx6.cell 0; rw [HL.out] at this; exact this
              have x7 : ((wc.setCell ⟨g, k * 3 + 1, none⟩ (.slice A4 n cap4)).setCell ⟨g, k * 3 + 2, none⟩ (.int .i64 (n : Int))).drew.cell? ⟨xd, 0, none⟩ = some (.slice (some ⟨g, 0, none⟩) rs.length cap) := by have := hx7.cell 0; rw [HL.out] at this; exact this
              have x8 : (wc.setCell ⟨g, k * 3 + 1, none⟩ (.slice A4 n cap4)).drew.cell? ⟨g, k * 3 + 2, none⟩ = some (.int .i64 (c.s : Int)) := (World.cell?_setCell_other _ _ _ _ (by simp)).trans s2
              have hm7 : Mods (fun i => i = xd ∨ (Value.slice (some ⟨g, 0, none⟩) rs'.length cap).ownBlock = some i) wc ((wc.setCell ⟨g, k * 3 + 1, none⟩ (.slice A4 n cap4)).setCell ⟨g, k * 3 + 2, none⟩ (.int .i64 (n : Int))) := ((Mods.refl _ wc).setCell (p := ⟨g, k * 3 + 1, none⟩) (fun _ => .inr rfl) _).setCell (p := ⟨g, k * 3 + 2, none⟩) (fun _ => .inr rfl) _
              go_upto_region 13 with fail
              go_region_held3 (fun w' => w'.cell? ⟨xd, 0, none⟩ = some (.slice (some ⟨g, 0, none⟩) rs.length cap)) (go_keep) (first | fail)
              all_goals
                go_wp2
                go_roundw
                case rel =>
                  obtain ⟨h9, hm9⟩ := crash_next hd2 hb5 (hm1.below hbw) (Nat.le_trans hs1 hbw.size) HK.out hk2 HKT.out HKK.out hrow hx7 hr7 hm7
                  exact ⟨k + 1, _, by omega, by go_num, HN.out _ (crash_fl HKT.out HKK.out), h9, hm9⟩
                case measure => simp [intOf]; omega
        · have hj1 : jj < ts.length := by omega
          have hte : ((jj + 1 : Nat) : Int) - 1 = (jj : Int) := by omega
          rw [hte]
          clear hte
          have hrd := hr.modsA (hm1.below hbw) (Nat.le_refl _) hTA
          obtain ⟨ad, rfl, t0, t1, t2⟩ := tail3 hrd jj hj1
          have hj0 : (0 : Int) ≤ (jj : Int) := by omega
          have hj2 : (jj : Int) < (ts.length : Int) := by omega
          have hw2 : IntKind.i64.wrap ((jj : Int) - 1) = (jj : Int) - 1 := IntWalk.i64_in _ (by omega)
          by_cases he : ts[jj].name = c.name
          · have hee : (ts[jj].name.toList == c.name.toList) = true := by rw [he]; exact beq_self_eq_true _
            have HT := Lib.hid (tailOf_drop_hit hj1 (show ts[jj].nm = c.nm from name_eq.1 he))
            clear he
            go_wp2
            go_quiet (fail)
            go_wp2
            go_quiet (fail)
            go_wp2
            go_roundw
            case rel => exact ⟨jj, by omega, rfl, by rw [HT.out], by rw [HT.out], below_drewN hbw _⟩
            case measure => simp [intOf]
          · have hne : (ts[jj].name.toList == c.name.toList) = false := beq_eq_false_iff_ne.2 (fun e => he (name_eq.2 (by rw [ByteArray.toList_eq, ByteArray.toList_eq] at e; exact e)))
            have HT := Lib.hid (tailOf_drop_miss hj1 (show ts[jj].nm ≠ c.nm from fun e => he (name_eq.2 e)))
            clear he
            go_wp2
            go_quiet (fail)
            go_wp2
            go_roundw
            case rel => exact ⟨jj, by omega, rfl, by rw [HT.out], by rw [HT.out], below_drewN hbw _⟩
            case measure => simp [intOf]
    · obtain rfl : k = rs.length := by omega
      have e2 := hd.hdr.cell 2
      simp only [List.getElem?_toArray, List.getElem?_cons_succ, List.getElem?_cons_zero] at e2
      have e3 := hd.hdr.cell 3
      simp only [List.getElem?_toArray, List.getElem?_cons_succ, List.getElem?_cons_zero] at e3
      have f2 : wr.frozen? ⟨xd, 2, none⟩ = false := hd.hdr.frozen 2
      have f3 : wr.frozen? ⟨xd, 3, none⟩ = false := hd.hdr.frozen 3
      have b3 := (hd.hdr.set_ 2 (.int .i64 (-1))).set_ 3 (.int .i64 (-1))
      have hx := ((Mods.refl (· = xd) wr).setCell (p := ⟨xd, 2, none⟩) (fun _ => rfl) (.int .i64 (-1))).setCell (p := ⟨xd, 3, none⟩) (fun _ => rfl) (.int .i64 (-1))
      have hdf := hd.head b3 hx
      clear hmid
      go_wp2
      go_end0
      exact ⟨rfl, ⟨_, cap, _, hdf.more fun i hi => hi.elim .inl fun ⟨a, b⟩ => .inr ⟨a, Nat.lt_of_lt_of_le b hx.size⟩, HM.out.fin⟩, hmw.trans hx fun i hi e => e ▸ H.out.ownd.1⟩

end Go.Proofs.Ytkfmfllniakhkaa
