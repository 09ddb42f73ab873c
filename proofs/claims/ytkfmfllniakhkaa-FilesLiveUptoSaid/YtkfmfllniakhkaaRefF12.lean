/- The document's disk: Append. -/
import Derived.Test.YtkfmfllniakhkaaRefF11
import Derived.Deep.Cut
import Derived.Deep.QuietTactic
import Derived.BigQuiet
import Derived.Deep.RegionHeld3
import Derived.Deep.CutRange
import Derived.Deep.DeepCutAuto
namespace Go.Proofs.Ytkfmfllniakhkaa
open Go.RowKit Go.Maps Go.Sort
set_option linter.unusedVariables false

def RAppPost (S : Nat → Prop) (w : World) (xd : Nat) (o : Dk × Int × Int) (e : Ending) (w' : World) : Prop :=
  e = .returned (.tuple #[.int .i64 o.2.1, .int .i64 o.2.2]) ∧ RdAt w' (ext S w w') xd o.1 ∧ Mods S w w'

/-- the file is there, perhaps just made -/
def Ready (w : World) (S : Nat → Prop) (xd : Nat) (room fuse : Int) (L0 : List Fl) (nm : Nm) (ob : List UInt8) (sy : Nat) (v : Value) (wx : World) : Prop :=
  ∃ (k g cap : Nat) (rs' : List Rf) (r' : Rf), v = .int .i64 (k : Int) ∧ rs'[k]? = some r' ∧ r'.nm = nm ∧ r'.b = ob ∧ r'.s = sy ∧ RdOk wx (ext S w wx) xd room (-1) fuse (some ⟨g, 0, none⟩) cap rs' ∧ Mods S w wx ∧ rs'.length ≤ 1000001 ∧
    ∀ x : Fl, x.name = nm → putS Fl.name x (rs'.map Rf.fl) = putS Fl.name x L0

theorem filter_insS {α : Type} {key : α → Nm} {y : α} {nm : Nm} (hy : key y = nm) : ∀ l : List α, (insS key y l).filter (fun d => decide (key d ≠ nm)) = l.filter (fun d => decide (key d ≠ nm))
  | [] => by simp [insS, hy]
  | x :: l => by
    unfold insS
    split
    · rw [List.filter_cons_of_neg (by simp [hy])]
    · rw [List.filter_cons, List.filter_cons, filter_insS hy l]
theorem putS_insS {α : Type} {key : α → Nm} {x y : α} (h : key y = key x) (l : List α) : putS key x (insS key y l) = putS key x l := by
  unfold putS
  rw [filter_insS h]

theorem file3r {w : World} {g n cap : Nat} {l : List Rf} {e : TypeId} {k : Nat} {r : Rf} (hr : Row w 0 e 3 (.slice (some ⟨g, 0, none⟩) n cap) n (fcells l)) (hk : l[k]? = some r) :
    w.cell? ⟨g, k * 3, none⟩ = some (.string r.name) ∧ w.cell? ⟨g, k * 3 + 1, none⟩ = some (.slice r.A r.b.length r.cap) ∧ w.cell? ⟨g, k * 3 + 2, none⟩ = some (.int .i64 (r.s : Int)) := by
  obtain ⟨hkl, hkr⟩ := List.getElem?_eq_some_iff.1 hk
  have := file3 hr (Below.refl _ w) k hkl
  rwa [hkr] at this

/-- a file without bytes has come -/
theorem RdOk.line3 {w w' : World} {S : Nat → Prop} {xd cap cap' : Nat} {room short fuse room' short' fuse' : Int} {A A' : Option Addr} {rs rs' : List Rf} (h : RdOk w S xd room short fuse A cap rs)
    (hsub : ∀ r ∈ rs', (r.name.size ≤ maxLen) ∧ (r ∈ rs ∨ (r.A = none ∧ r.b = [] ∧ r.cap = 0))) (hris : rs'.Pairwise (fun a b => a.nm < b.nm)) (hx : Xh w' xd A' rs'.length cap' room' short' fuse')
    (hrow : Row w' w.heap.size 51 3 (.slice A' rs'.length cap') rs'.length (fcells rs')) (m : Mods (· = xd) w w') : RdOk w' (ext S w w') xd room' short' fuse' A' cap' rs' := by
  have hnil : ∀ r : Rf, (r.A = none ∧ r.b = [] ∧ r.cap = 0) → r.row = .slice none 0 0 := by
    rintro r ⟨h1, h2, h3⟩
    unfold Rf.row
    rw [h1, h2, h3]
    rfl
  refine ⟨hx, hrow.base_ (Nat.zero_le _), fun r hr => ?_, hris, fun r hr => (hsub r hr).1, .inl h.ownd.1, fun g hg => .inr (hrow.lt g hg), fun r hr g hg => ?_⟩
  · rcases (hsub r hr).2 with hr | hr
    · exact (h.con r hr).mods m (fun g hg e => (h.ne.2 r hr).1 (by rw [hg, e]))
    · rw [hnil r hr, hr.2.1]; exact Row.nil _ _ _ _
  · rcases (hsub r hr).2 with hr | hr
    · exact .inl (h.ownd.2.2 r hr g hg)
    · rw [hnil r hr] at hg; cases hg

/-- behind 'add' of a file without bytes -/
theorem added {w w' : World} {S : Nat → Prop} {xd cap cap' : Nat} {room short fuse : Int} {A A' : Option Addr} {rs rs' : List Rf} {s : ByteArray} (h : RdOk w S xd room short fuse A cap rs) (hs : s.size ≤ maxLen) (hno : ∀ r ∈ rs, r.nm ≠ s.data.toList)
    (he : rs' = insS Rf.nm ⟨s, [], 0, none, 0⟩ rs) (hx : Xh w' xd A' rs'.length cap' room short fuse)
    (hrow : Row w' w.heap.size 51 3 (.slice A' rs'.length cap') rs'.length (fcells rs')) (m : Mods (· = xd) w w') :
    ∃ (k : Nat) (rs2 : List Rf) (x : Rf), rs2[k]? = some x ∧ x.nm = s.data.toList ∧ x.b = [] ∧ x.s = 0 ∧ RdOk w' (ext S w w') xd room short fuse A' cap' rs2 ∧ placeF rs2 s.data.toList = (k : Int) ∧ rs2.length = rs.length + 1 ∧
      ∀ x : Fl, x.name = s.data.toList → putS Fl.name x (rs2.map Rf.fl) = putS Fl.name x (rs.map Rf.fl) := by
  have hmem : ∀ r ∈ rs', r = ⟨s, [], 0, none, 0⟩ ∨ r ∈ rs := fun r hr => by rw [he] at hr; exact mem_insS.1 hr
  have hris : rs'.Pairwise (fun a b => a.nm < b.nm) := by rw [he]; exact ris_insS h.ris hno
  have h6 := h.line3 (rs' := rs') (fun r hr => (hmem r hr).elim (fun e => by rw [e]; exact ⟨hs, .inr ⟨rfl, rfl, rfl⟩⟩) (fun e => ⟨h.small r e, .inl e⟩)) hris hx hrow m
  rcases place_cases rs' hris s.data.toList with ⟨h1, _⟩ | ⟨k, r, hk, hn, _, h2⟩
  · have hin : (⟨s, [], 0, none, 0⟩ : Rf) ∈ rs' := by rw [he]; exact mem_insS.2 (.inl rfl)
    exact absurd rfl (fnd_none h1 _ (List.mem_map_of_mem hin))
  · have hr : r = ⟨s, [], 0, none, 0⟩ := (hmem r (List.mem_of_getElem? hk)).elim id (fun e => absurd hn (hno r e))
    subst hr
    refine ⟨k, rs', _, hk, rfl, rfl, rfl, h6, h2, by rw [he, len_insS], fun x hx => ?_⟩
    rw [he, insS_mapf (key := Rf.nm) (key' := Fl.name) Rf.fl (fun _ => rfl)]
    exact putS_insS (key := Fl.name) hx.symm _

theorem rapp_end {w wc w8 w9 : World} {S : Nat → Prop} {xd g k cap cap8 m' : Nat} {room fuse : Int} {rs : List Rf} {r : Rf} {ms' : List UInt8} {A8 : Option Addr} {L : List Fl} {nm : Nm}
    (h6 : RdOk wc (ext S w wc) xd room (-1) fuse (some ⟨g, 0, none⟩) cap rs) (hm06 : Mods S w wc) (hb8 : Below wc.heap.size wc w8) (hk : rs[k]? = some r) (hkn : r.nm = nm)
    (hown : Row w8 wc.heap.size 5 1 (.slice A8 (r.b.length + m') cap8) (r.b.length + m') (u8s r.b ++ u8s ms')) (hl : ms'.length = m') (hput : ∀ x : Fl, x.name = nm → putS Fl.name x (rs.map Rf.fl) = putS Fl.name x L) (hx : Xh w9 xd (some ⟨g, 0, none⟩) rs.length cap room (-1) fuse)
    (hr9 : Row w9 0 51 3 (.slice (some ⟨g, 0, none⟩) rs.length cap) rs.length ((fcells rs).set (k * 3 + 1) (.slice A8 (r.b.length + m') cap8)))
    (hm9 : Mods (fun i => i = xd ∨ (Value.slice (some ⟨g, 0, none⟩) rs.length cap).ownBlock = some i) w8 w9) :
    RdAt w9 (ext S w w9) xd ⟨putS Fl.name ⟨nm, r.b ++ ms', r.s⟩ L, room, -1, fuse⟩ ∧ Mods S w w9 := by
  subst hkn
  have hlen : (r.b ++ ms').length = r.b.length + m' := by rw [List.length_append, hl]
  obtain ⟨h9, hmm⟩ := file_end (b := r.b ++ ms') (s := r.s) (A4 := A8) (cap4 := cap8) h6 hb8 hk (by rw [hlen, u8s_append]; exact hown) hx (by rw [fcells_set1 rs k r hk, hlen]; exact hr9) hm9
  have hsz := hm06.size
  refine ⟨⟨_, cap, _, h9.more fun i hi => hi.elim (fun e => e.elim .inl fun ⟨a, b⟩ => .inr ⟨a, Nat.lt_of_lt_of_le b hmm.size⟩) fun ⟨a, b⟩ => .inr ⟨Nat.le_trans hsz a, b⟩, ?_⟩, hm06.trans hmm fun i hi e => e.elim id fun ⟨a, _⟩ => by omega⟩
  rw [set_put h6.ris hk (show (⟨r.name, r.b ++ ms', r.s, A8, cap8⟩ : Rf).nm = r.nm from rfl)]
  exact hput _ rfl

set_option maxRecDepth 10000 in
set_option maxHeartbeats 4000000 in
theorem rappend_go {w : World} {S : Nat → Prop} {xd : Nat} {room short fuse : Int} {A : Option Addr} {cap : Nat} {rs : List Rf} (h : RdOk w S xd room short fuse A cap rs) (hu : usedR rs ≤ 1099511627776000000)
    (s : ByteArray) (hs : s.size ≤ maxLen) (hn : nameOk s.data.toList = true) (hf : fuse ≠ 0) (hl : -1 ≤ fuse) (hh : fuse ≤ 9223372036854775807) (hsh : -1 ≤ short ∧ short ≤ 9223372036854775807)
    (hlen1 : rs.length < 1000000) (M : Option Addr) (m mc m' : Nat) (ms ms' : List UInt8) (er : Int) (hr : Reads w w.heap.size 1 M m (u8s ms)) (hm : m ≤ 140737488355328) (hmc : m ≤ mc) (hM : 0 < m → ∀ ad, M = some ad → ¬ S ad.block)
    (hpart : Part short m ms m' ms' er) (ob : List UInt8) (sy : Nat)
    (hex : (∃ (k : Nat) (r : Rf), rs[k]? = some r ∧ r.nm = s.data.toList ∧ ob = r.b ∧ sy = r.s ∧ placeF rs s.data.toList = (k : Int)) ∨ ((∀ r ∈ rs, r.nm ≠ s.data.toList) ∧ ob = [] ∧ sy = 0 ∧ placeF rs s.data.toList = -1)) (hob : ob.length ≤ 1048576)
    (L : List Fl) (n r : Int)
    (hwhat : ((1048576 < ob.length + m' ∨ (¬ 1048576 < ob.length + m' ∧ room < (usedR rs : Int) + (m' : Int))) ∧ L = rs.map Rf.fl ∧ n = 0 ∧ r = 4) ∨ ((¬ 1048576 < ob.length + m' ∧ ¬ room < (usedR rs : Int) + (m' : Int)) ∧ L = putS Fl.name ⟨s.data.toList, ob ++ ms', sy⟩ (rs.map Rf.fl) ∧ n = (m' : Int) ∧ r = er)) :
    Calls Try.prog 13 #[.pointer (some ⟨xd, 0, none⟩), .string s, .slice M m mc] w (RAppPost S w xd (⟨L, room, -1, burn fuse⟩, n, r)) := by
  have hlen : rs.length ≤ 1000000 := by omega
  have hi := risName_any s w hs
  rw [hn] at hi
  have HI := Lib.hid hi
  have HF := Lib.hid hf
  have H := Lib.hid h
  have hxl := h.hdr.lt
  obtain ⟨i0, hi0, hz0, hz1, hz2⟩ := info_parts info_u8
  have hml : ms.length = m := by have := hr.1; simpa [u8s_length] using this
  have HR : Hid (Reads w w.heap.size 1 M m' (u8s ms') ∧ ms'.length = m' ∧ m' ≤ m) := by
    rcases hpart with ⟨_, rfl, rfl, _⟩ | ⟨k, _, hk, rfl, rfl, _⟩
    · exact ⟨hr, hml, Nat.le_refl _⟩
    · exact ⟨hr.u8head (by omega), by rw [List.length_take]; omega, by omega⟩
  have hm'm := HR.out.2.2
  obtain ⟨pt, hpt⟩ : ∃ pt : Bool, (pt = false ∧ er = 0 ∧ (short < 0 ∨ (0 ≤ short ∧ (m : Int) ≤ short)) ∧ m' = m) ∨ (pt = true ∧ er = 61 ∧ ∃ k : Nat, short = (k : Int) ∧ k < m ∧ m' = k) := by
    rcases hpart with ⟨h1, h2, _, h3⟩ | ⟨k, h1, h2, h3, _, h4⟩
    · exact ⟨false, .inl ⟨rfl, h3, by omega, h2⟩⟩
    · exact ⟨true, .inr ⟨rfl, h4, k, h1, h2, h3⟩⟩
  have HPT := Lib.hid hpt
  have HEX := Lib.hid hex
  have HW := Lib.hid hwhat
  clear hi hn hf hml hex h hpt hpart hwhat hr
  go_enter Try.func13, Try.ntmps13
  go_upto_region 5 with (first
    | (go_at_call 43; refine HI.out.mono ?_; rintro e w1 ⟨rfl, hb1⟩; have h1 := H.out.below hb1)
    | (go_at_call 44; refine (burn_ok_ xd rs.length cap A room short fuse w1 h1.hdr HF.out hl hh).mono ?_; rintro e w2 ⟨rfl, hd2, hm2⟩))
  have h2 := h1.head hd2 hm2
  have e2 := hd2.cell 2
  simp only [List.getElem?_toArray, List.getElem?_cons_succ, List.getElem?_cons_zero] at e2
  have f2 : w2.frozen? ⟨xd, 2, none⟩ = false := hd2.frozen 2
  have hm02 : Mods (· = xd) w w2 := ((Mods.refl (· = xd) w).below hb1).trans hm2 (fun i _ e => e)
  have hd2x := Lib.hid hd2
  clear h1 hb1 hm2 hd2
  go_cut [8] (fun v wx => v = .bool pt ∧ wx = w2)
  case first =>
    rcases HPT.out with ⟨rfl, _, hs1 | ⟨hs1, hs2⟩, _⟩ | ⟨rfl, _, k, rfl, hs1, _⟩
    · have t1 : decide (0 ≤ short) = false := decide_eq_false (by omega)
      go_wp2
      go_meet
      case rel => exact ⟨rfl, rfl⟩
    · have t2 : decide (short < (m : Int)) = false := decide_eq_false (by omega)
      go_wp2
      go_meet
      case rel => exact ⟨rfl, rfl⟩
    · have t2 : decide ((k : Int) < (m : Int)) = true := decide_eq_true (by omega)
      go_wp2
      go_meet
      case rel => exact ⟨rfl, rfl⟩
  case rest =>
    obtain ⟨rfl, hwc⟩ := hcut
    subst wc
    go_upto_if 31 with fail
    go_cut [2] (fun v wx => v = .slice M m' mc ∧ wx = w2)
    case first =>
      rcases HPT.out with ⟨rfl, _, hs1, rfl⟩ | ⟨rfl, _, k, rfl, hs1, rfl⟩
      · go_wp2
        go_meet
        case rel => exact ⟨rfl, rfl⟩
      · have t3 : m' ≤ mc := by omega
        go_wp2
        go_meet
        case rel => exact ⟨rfl, rfl⟩
    case rest =>
      obtain ⟨rfl, hwc⟩ := hcut
      subst wc
      have h3 := h2.head (hd2x.out.set_ 2 (.int .i64 (-1))) ((Mods.refl (· = xd) w2).setCell (p := ⟨xd, 2, none⟩) (fun _ => rfl) _)
      have hm03 : Mods (· = xd) w (w2.setCell ⟨xd, 2, none⟩ (.int .i64 (-1))) := hm02.setCell (p := ⟨xd, 2, none⟩) (fun _ => rfl) _
      have hp := Lib.hid (rplace_any room (-1) (burn fuse) xd rs.length cap A rs _ s h3.hdr h3.row hlen)
      go_upto_if 45 with (go_at_call 45; refine hp.out.mono ?_; rintro e w4 ⟨rfl, hb4⟩; have h4 := h3.below hb4)
      have hm04 : Mods (· = xd) w w4 := hm03.below hb4
      clear hp h3 hm03 hm02 h2 hb4
      go_cut [9, 10] (fun u v wx => u = .int .i64 (placeF rs s.data.toList) ∧ v = .int .i64 (ob.length : Int) ∧ wx = w4)
      case first =>
        rcases HEX.out with ⟨k, rr, hk, hkn, rfl, rfl, hpl⟩ | ⟨hno, rfl, rfl, hpl⟩
        · have HPL := Lib.hid hpl
          obtain ⟨hkl, hkr⟩ := List.getElem?_eq_some_iff.1 hk
          obtain ⟨g, rfl⟩ := h4.row.some_ (by omega)
          obtain ⟨_, hcap, hcapm⟩ := h4.row.cap
          have c0 : w4.cell? ⟨xd, 0, none⟩ = some (.slice (some ⟨g, 0, none⟩) rs.length cap) := h4.hdr.cell 0
          obtain ⟨d0, d1, d2⟩ := file3 h4.row (Below.refl _ w4) k hkl
          rw [hkr] at d0 d1 d2
          clear hk hpl hkr
          rw [HPL.out]
          go_wp2
          go_meet
          case rel => exact ⟨by rw [HPL.out], rfl, rfl⟩
        · have HPL := Lib.hid hpl
          clear hpl
          rw [HPL.out]
          go_wp2
          go_meet
          case rel => exact ⟨by rw [HPL.out], rfl, rfl⟩
      case rest =>
        obtain ⟨rfl, rfl, hwc⟩ := hcut
        subst wc
        have a0 : w4.cell? ⟨xd, 1, none⟩ = some (.int .i64 room) := h4.hdr.cell 1
        have h4d := h4.below (w' := w4.drew) ((Below.refl _ w4).drew)
        have hw1 : IntKind.i64.wrap ((ob.length : Int) + (m' : Int)) = (ob.length : Int) + (m' : Int) := IntWalk.i64_in _ (by omega)
        have hw2 : IntKind.i64.wrap (((usedR rs : Nat) : Int) + (m' : Int)) = ((usedR rs : Nat) : Int) + (m' : Int) := IntWalk.i64_in _ (by omega)
        have hSx : ∀ i, i < w.heap.size → i = xd → S i := fun i _ e => e ▸ H.out.ownd.1
        rcases HW.out with ⟨hb0 | ⟨hb0, hb9⟩, rfl, rfl, rfl⟩ | ⟨⟨hb0, hb9⟩, rfl, rfl, rfl⟩
        · have hB : decide (1048576 < (ob.length : Int) + (m' : Int)) = true := decide_eq_true (by omega)
          have hB0 : 1048576 < (ob.length : Int) + (m' : Int) := by omega
          go_upto_region 13 with fail
          go_quiet (fail)
          go_wp2
          go_ret2
          exact ⟨rfl, ⟨A, cap, rs, (h4.below (below_drewN (Below.refl _ w4) _)).more (fun _ h => .inl h), rfl⟩, (hm04.drewN _).mono hSx⟩
        · have hB : decide (1048576 < (ob.length : Int) + (m' : Int)) = false := decide_eq_false (by omega)
          have hB0 : ¬ 1048576 < (ob.length : Int) + (m' : Int) := by omega
          go_upto_region 13 with fail
          go_region_held3 (fun w' => w'.cell? ⟨xd, 1, none⟩ = some (.int .i64 room)) (go_keep)
            (first
              | (go_at_call 35; refine (rused_any room (-1) (burn fuse) xd rs.length cap A rs _ h4d.hdr h4d.row hlen (by omega)).mono ?_; rintro e w5 ⟨rfl, hb5⟩; have h5 := h4d.below hb5; have a0' : w5.cell? ⟨xd, 1, none⟩ = some (.int .i64 room) := h5.hdr.cell 1))
          go_wp2
          go_ret2
          exact ⟨rfl, ⟨A, cap, rs, h5.more (fun _ h => .inl h), rfl⟩, ((hm04.drew).below hb5).mono hSx⟩
        · have hB : decide (1048576 < (ob.length : Int) + (m' : Int)) = false := decide_eq_false (by omega)
          have hB0 : ¬ 1048576 < (ob.length : Int) + (m' : Int) := by omega
          go_upto_region 13 with fail
          go_region_held3 (fun w' => w'.cell? ⟨xd, 1, none⟩ = some (.int .i64 room)) (go_keep)
            (first
              | (go_at_call 35; refine (rused_any room (-1) (burn fuse) xd rs.length cap A rs _ h4d.hdr h4d.row hlen (by omega)).mono ?_; rintro e w5 ⟨rfl, hb5⟩; have h5 := h4d.below hb5; have a0' : w5.cell? ⟨xd, 1, none⟩ = some (.int .i64 room) := h5.hdr.cell 1))
          have hm05 : Mods (· = xd) w w5 := (hm04.drew).below hb5
          clear h4 h4d a0 hm04 a0'
          go_upto_if 73 with fail
          go_cut [9] (fun v wx => Ready w S xd room (burn fuse) (rs.map Rf.fl) s.data.toList ob sy v wx)
          case first =>
            rcases HEX.out with ⟨k, rr, hk, hkn, rfl, rfl, hpl⟩ | ⟨hno, rfl, rfl, hpl⟩
            · have HPL := Lib.hid hpl
              have HK := Lib.hid hk
              obtain ⟨hkl, hkr⟩ := List.getElem?_eq_some_iff.1 hk
              obtain ⟨g, rfl⟩ := h5.row.some_ (by omega)
              have hk0 : ¬ (k : Int) < 0 := by omega
              clear hk hpl hkr
              rw [HPL.out]
              go_wp2
              go_meet
              case rel => exact ⟨k, g, cap, rs, rr, rfl, HK.out, hkn, rfl, rfl, h5.more (fun _ h => .inl h), hm05.mono hSx, by omega, fun _ _ => rfl⟩
            · have HPL := Lib.hid hpl
              have HNO := Lib.hid hno
              clear hpl hno
              rw [HPL.out]
              have hadd := Lib.hid (radd_any room (-1) (burn fuse) xd rs.length cap A rs w5 ⟨s, [], 0, none, 0⟩ h5.hdr h5.row hlen)
              go_wp2_with fail
              refine hadd.out.mono ?_
              rintro e w6 ⟨rfl, ⟨A6, cap6, hx6, hr6⟩, hm6⟩
              obtain ⟨k, rs', x, hk, hxn, hxb, hxs, h6, hpl6, hlen6, hput⟩ := added h5 hs HNO.out rfl hx6 hr6 hm6
              obtain ⟨hkl, hkr⟩ := List.getElem?_eq_some_iff.1 hk
              obtain ⟨g, rfl⟩ := h6.row.some_ (by omega)
              have hp := rplace_any room (-1) (burn fuse) xd rs'.length cap6 (some ⟨g, 0, none⟩) rs' w6 s h6.hdr h6.row (by omega)
              rw [hpl6] at hp
              have hp := Lib.hid hp
              have HK := Lib.hid hk
              have HPU := Lib.hid hput
              clear hk hkr hput hpl6
              go_wp2_with fail
              refine hp.out.mono ?_
              rintro e w7 ⟨rfl, hb7⟩
              go_wp2
              go_meet
              case rel =>
                have hsz := hm05.size
                have hm07 : Mods S w w7 := ((hm05.mono hSx).trans hm6 (fun i _ e => e ▸ H.out.ownd.1)).below hb7
                exact ⟨k, g, cap6, rs', x, rfl, HK.out, hxn, hxb, hxs, (h6.below hb7).more (fun i hi => hi.elim .inl fun e => .inr ⟨by omega, Nat.lt_of_lt_of_le e.2 hb7.size⟩), hm07, by omega, HPU.out⟩
          case rest =>
            obtain ⟨k, g, cap6, rs', rr, rfl, hk, hkn, rfl, rfl, h6, hm06, hl6, hput⟩ := hcut
            have HK := Lib.hid hk
            have HPU := Lib.hid hput
            obtain ⟨hkl, hkr⟩ := List.getElem?_eq_some_iff.1 hk
            obtain ⟨_, hcap, hcapm⟩ := h6.row.cap
            clear hk hput h5 hm05
            have hrm : rr ∈ rs' := List.mem_of_getElem? HK.out
            have h7 := h6.below (((Below.refl _ wc).alloc (Nat.le_refl _) (.cells #[] 5)).drew)
            have hemp : Row (wc.alloc (.cells #[] 5)).drew wc.heap.size 5 1 (.slice (some ⟨wc.heap.size, 0, none⟩) 0 0) 0 [] := Row.empty wc wc.heap.size 5 (Nat.le_refl _)
            have c2 : wc.cell? ⟨xd, 0, none⟩ = some (.slice (some ⟨g, 0, none⟩) rs'.length cap6) := h6.hdr.cell 0
            obtain ⟨x0, x1, x2⟩ := file3 h6.row (Below.refl _ _) k hkl
            rw [hkr] at x0 x1 x2
            have c3 : (wc.alloc (.cells #[] 5)).cell? ⟨xd, 0, none⟩ = some (.slice (some ⟨g, 0, none⟩) rs'.length cap6) := h7.hdr.cell 0
            obtain ⟨y0, y1, y2⟩ := file3 h7.row (Below.refl _ _) k hkl
            rw [hkr] at y0 y1 y2
            have y1' : (wc.alloc (.cells #[] 5)).cell? ⟨g, k * 3 + 1, none⟩ = some (.slice rr.A rr.b.length rr.cap) := y1
            have hrd := (h7.con rr hrm).reads
            have HRD := Lib.hid hrd
            clear hrd
            go_upto_region 18 with fail
            clear hkr
            go_region_law (first
              | ((refine step_append_row _ rfl (.tmp 86) (.tmp 94) 30 rfl wc.heap.size 5 i0 _ 1 1 Try.underlying30 hi0 hz0 hz1 hz2 rfl (by omega) (.slice (some ⟨wc.heap.size, 0, none⟩) 0 0) 0 [] (by first | rfl | simp [Act.eval, Act.put]) hemp _ rr.A rr.b.length rr.cap (u8s rr.b) (by first | rfl | simp [Act.eval, Act.put]) HRD.out (u8s_one _) (by simp only [maxLen]; omega) (by omega) (by show wc.heap.size ≤ (wc.alloc _).heap.size; simp) ?_); intro v4 w4' hown4 hg4 hat4; simp only [Nat.zero_add, List.nil_append] at hown4; obtain ⟨A4, cap4, rfl⟩ := hown4.slice; have hb4 : Below wc.heap.size wc w4' := ((Below.refl _ wc).alloc (Nat.le_refl _) _).drew.grown hg4 (by show wc.heap.size ≤ (wc.alloc _).heap.size; simp) (fun k hk => by simp [Value.ownBlock] at hk; omega); have c04 : w4'.cell? ⟨xd, 0, none⟩ = some (.slice (some ⟨g, 0, none⟩) rs'.length cap6) := (h6.below hb4).hdr.cell 0)
              | ((refine step_append_row _ rfl (.tmp 95) (.tmp 96) 30 rfl wc.heap.size 5 i0 _ 1 1 Try.underlying30 hi0 hz0 hz1 hz2 rfl (by omega) (.slice A4 rr.b.length cap4) rr.b.length (u8s rr.b) (by first | rfl | simp [Act.eval, Act.put]) hown4 _ M m' mc (u8s ms') (by first | rfl | simp [Act.eval, Act.put]) (HR.out.1.modsA (hm06.below hb4) (Nat.le_refl _) (fun h0 => hM (by omega))) (u8s_one _) (by simp only [maxLen]; omega) (by omega) hb4.size ?_); intro v8 w8 hown8 hg8 hat8; obtain ⟨A8, cap8, rfl⟩ := hown8.slice; have hb8 : Below wc.heap.size wc w8 := hb4.grown hg8 hb4.size (fun k hk => (hown4.lt k hk).1); have h8 := h6.below hb8; have c08 : w8.cell? ⟨xd, 0, none⟩ = some (.slice (some ⟨g, 0, none⟩) rs'.length cap6) := h8.hdr.cell 0; have z1 := (file3r h8.row HK.out).2.1; have f8 : w8.frozen? ⟨g, k * 3 + 1, none⟩ = false := h8.row.frozen rfl _))
            all_goals
              have hgx : xd ≠ g := fun e => h6.ne.1 (by rw [e]; rfl)
              have hx9 := h8.hdr.far (p := ⟨g, k * 3 + 1, none⟩) hgx (.slice A8 (rr.b.length + m') cap8)
              have hr9 := h8.row.set_ (i := k * 3 + 1) (by rw [fcells_length]; omega) (.slice A8 (rr.b.length + m') cap8)
              have hm9 : Mods (fun i => i = xd ∨ (Value.slice (some ⟨g, 0, none⟩) rs'.length cap6).ownBlock = some i) w8 (w8.setCell ⟨g, k * 3 + 1, none⟩ (.slice A8 (rr.b.length + m') cap8)) := (Mods.refl _ w8).setCell (p := ⟨g, k * 3 + 1, none⟩) (fun _ => .inr rfl) _
              rcases HPT.out with ⟨hpt, hre, -⟩ | ⟨hpt, hre, -⟩
            all_goals subst hpt
            all_goals subst hre
            all_goals go_wp2
            all_goals go_ret2
            all_goals exact ⟨rfl, rapp_end h6 hm06 hb8 HK.out hkn hown8 HR.out.2.1 HPU.out hx9 hr9 hm9⟩

theorem rdisk_append {w : World} {S : Nat → Prop} {xd : Nat} {D : Dk} (h : RdAt w S xd D) (hD : DkOk D) (hlen : D.l.length < 1000000) {s : ByteArray} (hs : s.size ≤ maxLen) {M : Option Addr} {m mc : Nat} {ms : List UInt8} (hr : Reads w w.heap.size 1 M m (u8s ms)) (hm : m ≤ 140737488355328) (hmc : m ≤ mc) (hM : 0 < m → ∀ ad, M = some ad → ¬ S ad.block) :
    Calls Try.prog 13 #[.pointer (some ⟨xd, 0, none⟩), .string s, .slice M m mc] w (RAppPost S w xd (mAppend D s.data.toList ms)) := by
  have hus := dk_used hD (by omega)
  obtain ⟨l, room, short, fuse⟩ := D
  obtain ⟨A, cap, rs, h, rfl⟩ := h
  have hfu := hD.fuse
  have hsh := hD.short
  have hold := old_ok hD s.data.toList
  dsimp only at h hfu hsh hlen hold hus
  rw [List.length_map] at hlen
  rw [← usedR_eq] at hus
  have hml : ms.length = m := by have := hr.1; simpa [u8s_length] using this
  have hi := risName_any s w hs
  unfold mAppend
  dsimp only
  cases hno : nameOk s.data.toList with
  | false =>
    rw [if_pos rfl]
    rw [hno] at hi
    have HI := Lib.hid hi
    have H := Lib.hid h
    clear hi hno h
    go_enter Try.func13, Try.ntmps13
    go_wp2_with (go_at_call 43; refine HI.out.mono ?_; rintro e w1 ⟨rfl, hb1⟩)
    go_ret2
    exact ⟨rfl, ⟨A, cap, rs, (H.out.below hb1).more fun _ h => .inl h, rfl⟩, (Mods.refl _ _).below hb1⟩
  | true =>
    rw [if_neg (by decide)]
    by_cases hf : fuse = 0
    · subst hf
      rw [if_pos rfl]
      rw [hno] at hi
      have HI := Lib.hid hi
      have H := Lib.hid h
      clear hi hno h
      go_enter Try.func13, Try.ntmps13
      go_wp2_with (first
        | (go_at_call 43; refine HI.out.mono ?_; rintro e w1 ⟨rfl, hb1⟩; have h1 := H.out.below hb1)
        | (go_at_call 44; refine (burn_dead xd rs.length cap A room short w1 h1.hdr).mono ?_; rintro e w2 ⟨rfl, hw⟩; obtain rfl := hw.symm))
      go_ret2
      exact ⟨rfl, ⟨A, cap, rs, h1.more fun _ h => .inl h, rfl⟩, (Mods.refl _ _).below hb1⟩
    · rw [if_neg hf]
      have hpart : Part short m ms (cutTo short ms).length (cutTo short ms) (isPart short ms.length) := by
        unfold Part cutTo isPart
        by_cases hp : 0 ≤ short ∧ short < ms.length
        · rw [if_pos hp, if_pos hp]
          exact .inr ⟨short.toNat, by omega, by omega, by rw [List.length_take]; omega, rfl, rfl⟩
        · rw [if_neg hp, if_neg hp]
          exact .inl ⟨by omega, hml, rfl, rfl⟩
      have hex : (∃ (k : Nat) (r : Rf), rs[k]? = some r ∧ r.nm = s.data.toList ∧ oldB (rs.map Rf.fl) s.data.toList = r.b ∧ oldS (rs.map Rf.fl) s.data.toList = r.s ∧ placeF rs s.data.toList = (k : Int)) ∨ ((∀ r ∈ rs, r.nm ≠ s.data.toList) ∧ oldB (rs.map Rf.fl) s.data.toList = [] ∧ oldS (rs.map Rf.fl) s.data.toList = 0 ∧ placeF rs s.data.toList = -1) := by
        unfold oldB oldS
        rcases place_cases rs h.ris s.data.toList with ⟨h1, h2⟩ | ⟨k, r, hk, hn, h1, h2⟩
        · rw [h1]
          exact .inr ⟨fun r hr => fnd_none h1 r.fl (List.mem_map_of_mem hr), rfl, rfl, h2⟩
        · rw [h1]
          exact .inl ⟨k, r, hk, hn, rfl, rfl, h2⟩
      have key := fun L n r hw => rappend_go h (by omega) s hs hno hf hfu.1 hfu.2 hsh hlen M m mc _ ms _ _ hr hm hmc hM hpart _ _ hex hold.1 L n r hw
      rw [usedR_eq] at key
      by_cases hfull : Full room (used (rs.map Rf.fl)) (oldB (rs.map Rf.fl) s.data.toList) (cutTo short ms).length
      · rw [if_pos hfull]
        unfold Full at hfull
        exact key _ _ _ (.inl ⟨by omega, rfl, rfl, rfl⟩)
      · rw [if_neg hfull]
        unfold Full at hfull
        exact key _ _ _ (.inr ⟨by omega, rfl, rfl, rfl⟩)

end Go.Proofs.Ytkfmfllniakhkaa
