/- The document's disk: Cut. -/
import Derived.Test.YtkfmfllniakhkaaRefF10
import Derived.StillTailTactics
namespace Go.Proofs.Ytkfmfllniakhkaa
open Go.RowKit Go.Maps Go.Sort
set_option linter.unusedVariables false

theorem step_append_row {P : Program} (w : World) {ops : Array Oper} {o : Oper} {a : Act} {K : Act → World → Prop} {Q : Exit → Act → World → Prop} {E : Prop} (hgd : o.guard = none) (s x : Operand) (t : TypeId)
    (ho : o.op = .call { callee := .builtin .append, args := #[s, x], argTypes := #[t, t] })
    (base : Nat) (e : TypeId) (i : TypeInfo) (z : Value) (size bytes : Nat) (ht : P.underlying t = some (.slice e)) (hi : P.info? e = some i) (hz : i.zero = some z)
    (hsize : i.size = size) (hby : i.bytes = bytes) (hzs : z.cells.size = size) (hsz : 0 < size)
    (v : Value) (n : Nat) (xs : List Value) (hs : a.eval s = v) (hrow : Row w base e size v n xs)
    (B : Nat) (A : Option Addr) (m c : Nat) (news : List Value) (hx : a.eval x = .slice A m c) (hr : Reads w B size A m news) (h1 : ∀ u ∈ news, u.oneCell' = true)
    (h63 : n + m ≤ maxLen) (hbytes : (n + m) * bytes ≤ 140737488355328) (hbase : base ≤ w.heap.size)
    (h : ∀ v' w', Row w' base e size v' (n + m) (xs ++ news) → w.grownBy w' v.ownBlock → (v'.ownBlock = v.ownBlock ∨ v'.ownBlock = some w.heap.size) → K (a.put o.dst v') w') :
    if Region.wanted o (yielded ops a.tmps) = true then Oper.wp P o a w K Q else E := by
  have hw : Region.wanted o (yielded ops a.tmps) = true := by simp [Region.wanted, hgd]
  rw [if_pos hw]
  exact wp_append_row w s x t ho base e i z size bytes ht hi hz hsize hby hzs hsz v n xs hs hrow B A m c news hx hr h1 h63 hbytes hbase h

theorem region_tail {P : Program} {id : Nat} {Q : Exit → Act → World → Prop} {a : Act} {w : World} {l : List Oper} (n : Nat) (w2 : World) (hw : w2 = w.drew) (hm : P.follows .mixedOrders = true) (hB : Region.lexTailB .any l.toArray n = true)
    (h : wpStill P l.toArray w2 (fun a' => wpList P l.toArray Q (l.drop n) a' w2) (l.take n) a) : (Code.region id l.toArray true).wp P Q a w := by
  subst hw
  exact wp_region_still_tail n hm hB h

theorem fcells_set12 (l : List Rf) (k : Nat) (c : Rf) (h : l[k]? = some c) (b : List UInt8) (A : Option Addr) (cap s : Nat) : fcells (l.set k ⟨c.name, b, s, A, cap⟩) = ((fcells l).set (k * 3 + 1) (.slice A b.length cap)).set (k * 3 + 2) (.int .i64 (s : Int)) := by
  have h1 := fcells_set1 l k c h b A cap
  have hk : k < l.length := (List.getElem?_eq_some_iff.1 h).1
  have h2 := fcells_set2 (l.set k ⟨c.name, b, c.s, A, cap⟩) k ⟨c.name, b, c.s, A, cap⟩ (by simp [hk]) s
  rw [h1, List.set_set] at h2
  exact h2
theorem u8s_take (l : List UInt8) (n : Nat) : (u8s l).take n = u8s (l.take n) := by unfold u8s; rw [List.map_take]

/-- behind a file's new bytes and count -/
theorem file_end {w2 w4 w7 : World} {S : Nat → Prop} {xd g k cap cap4 s : Nat} {room short fuse room' short' fuse' : Int} {rs : List Rf} {r : Rf} {b : List UInt8} {A4 : Option Addr}
    (h2 : RdOk w2 S xd room short fuse (some ⟨g, 0, none⟩) cap rs) (hb4 : Below w2.heap.size w2 w4) (hk : rs[k]? = some r)
    (hown : Row w4 w2.heap.size 5 1 (.slice A4 b.length cap4) b.length (u8s b)) (hx : Xh w7 xd (some ⟨g, 0, none⟩) rs.length cap room' short' fuse')
    (hr : Row w7 0 51 3 (.slice (some ⟨g, 0, none⟩) rs.length cap) rs.length (fcells (rs.set k ⟨r.name, b, s, A4, cap4⟩)))
    (hm : Mods (fun i => i = xd ∨ (Value.slice (some ⟨g, 0, none⟩) rs.length cap).ownBlock = some i) w4 w7) :
    RdOk w7 (ext S w2 w7) xd room' short' fuse' (some ⟨g, 0, none⟩) cap (rs.set k ⟨r.name, b, s, A4, cap4⟩) ∧ Mods S w2 w7 := by
  have hS : ∀ i, i < w2.heap.size → (i = xd ∨ (Value.slice (some ⟨g, 0, none⟩) rs.length cap).ownBlock = some i) → S i := fun i _ e => e.elim (fun e => e ▸ h2.ownd.1) (fun e => h2.ownd.2.1 i e)
  have hgl : g < w2.heap.size := (h2.row.lt g rfl).2
  have hne : ∀ gg, (Value.slice A4 b.length cap4).ownBlock = some gg → ¬ (gg = xd ∨ (Value.slice (some ⟨g, 0, none⟩) rs.length cap).ownBlock = some gg) := by
    intro gg hg e
    have hl := (hown.lt gg hg).1
    rcases e with e | e
    · have := h2.hdr.lt; omega
    · obtain rfl : g = gg := by simpa [Value.ownBlock] using e
      omega
  refine ⟨(h2.below hb4).turn (r' := ⟨r.name, b, s, A4, cap4⟩) hk rfl (fun _ h => .inl h) (fun gg hg => .inr ⟨(hown.lt gg hg).1, Nat.lt_of_lt_of_le (hown.lt gg hg).2 hm.size⟩) hx hr ((hown.base_ (Nat.zero_le _)).mods hm hne) hm, ((Mods.refl S w2).below hb4).trans hm hS⟩

theorem cut_end {w w1 w2 w4 w6 : World} {S : Nat → Prop} {xd g k cap cap4 m : Nat} {room short fuse : Int} {rs : List Rf} {r : Rf} {A4 : Option Addr} (hb1 : Below w.heap.size w w1) (hm2 : Mods (· = xd) w1 w2)
    (h2 : RdOk w2 S xd room short fuse (some ⟨g, 0, none⟩) cap rs) (hb4 : Below w2.heap.size w2 w4) (hk : rs[k]? = some r) (hml : m ≤ r.b.length) (hgx : xd ≠ g)
    (hown : Row w4 w2.heap.size 5 1 (.slice A4 m cap4) m ((u8s r.b).take m)) (hx6 : Xh w6 xd (some ⟨g, 0, none⟩) rs.length cap room short fuse)
    (hr6 : Row w6 0 51 3 (.slice (some ⟨g, 0, none⟩) rs.length cap) rs.length ((fcells rs).set (k * 3 + 1) (.slice A4 m cap4)))
    (hm7 : Mods (fun i => i = xd ∨ (Value.slice (some ⟨g, 0, none⟩) rs.length cap).ownBlock = some i) w4 (w6.setCell ⟨g, k * 3 + 2, none⟩ (.int .i64 (min (r.s : Int) (m : Int))))) :
    RStep S w xd (⟨putS Fl.name ⟨r.fl.name, r.fl.b.take (m : Int).toNat, min r.fl.s (m : Int).toNat⟩ (rs.map Rf.fl), room, short, fuse⟩, 0) (.returned (.int .i64 0)) (w6.setCell ⟨g, k * 3 + 2, none⟩ (.int .i64 (min (r.s : Int) (m : Int)))) := by
  have hkl : k < rs.length := (List.getElem?_eq_some_iff.1 hk).1
  have hlen : (r.b.take m).length = m := by rw [List.length_take]; omega
  have hx7 := hx6.far (p := ⟨g, k * 3 + 2, none⟩) hgx (.int .i64 (min (r.s : Int) (m : Int)))
  have hr7 := hr6.set_ (i := k * 3 + 2) (by rw [List.length_set, fcells_length]; omega) (.int .i64 (min (r.s : Int) (m : Int)))
  have hmin : ((min r.s m : Nat) : Int) = min (r.s : Int) (m : Int) := by omega
  rw [← hmin] at hx7 hr7 hm7 ⊢
  have hown' : Row w4 w2.heap.size 5 1 (.slice A4 (r.b.take m).length cap4) (r.b.take m).length (u8s (r.b.take m)) := by rw [hlen, ← u8s_take]; exact hown
  obtain ⟨h7, hmm⟩ := file_end h2 hb4 hk hown' hx7 (by rw [fcells_set12 rs k r hk, hlen]; exact hr7) hm7
  have hmw : Mods (· = xd) w w2 := ((Mods.refl (· = xd) w).below hb1).trans hm2 (fun i _ e => e)
  have hSx : S xd := h2.ownd.1
  refine ⟨rfl, ⟨_, cap, _, h7.more fun i hi => hi.elim .inl fun ⟨a, b⟩ => .inr ⟨Nat.le_trans hmw.size a, b⟩, ?_⟩, (hmw.mono fun i _ e => e ▸ hSx).trans hmm fun i _ e => e⟩
  rw [Int.toNat_natCast]
  exact set_put h2.ris hk rfl

set_option maxRecDepth 10000 in
set_option maxHeartbeats 6400000 in
theorem rcut_any {w : World} {S : Nat → Prop} {xd : Nat} {D : Dk} (h : RdAt w S xd D) (hD : DkOk D) (hlen : D.l.length ≤ 1000000) (s : ByteArray) (n : Int) : Calls Try.prog 18 #[.pointer (some ⟨xd, 0, none⟩), .string s, .int .i64 n] w (RStep S w xd (mCut D s.data.toList n)) := by
  obtain ⟨l, room, short, fuse⟩ := D
  obtain ⟨A, cap, rs, h, rfl⟩ := h
  have hfl := hD.fls
  have hfu := hD.fuse
  dsimp only at h hlen hfl hfu
  rw [List.length_map] at hlen
  unfold mCut
  dsimp only
  have hxl := h.hdr.lt
  have hp := rplace_any room short fuse xd rs.length cap A rs w s h.hdr h.row hlen
  by_cases hn : n < 0
  · rw [if_pos hn]
    have hp := Lib.hid hp
    have H := Lib.hid h
    clear h
    go_enter Try.func18, Try.ntmps18
    go_wp2_with (go_at_call 45; refine hp.out.mono ?_; rintro e w1 ⟨rfl, hb1⟩)
    go_ret
    exact ⟨rfl, ⟨A, cap, rs, (H.out.below hb1).more fun _ h => .inl h, rfl⟩, (Mods.refl _ _).below hb1⟩
  · rw [if_neg hn]
    obtain ⟨m, rfl⟩ : ∃ m : Nat, n = (m : Int) := ⟨n.toNat, by omega⟩
    rcases place_cases rs h.ris s.data.toList with ⟨h1, h2⟩ | ⟨k, r, hk, hkn, h1, h2⟩
    · have ht : tooLong (rs.map Rf.fl) s.data.toList (m : Int) = false := by unfold tooLong; rw [h1]
      rw [if_neg (by rw [ht]; decide), h1]
      rw [h2] at hp
      have hp := Lib.hid hp
      have H := Lib.hid h
      clear h1 h2 h ht
      by_cases hf : fuse = 0
      · subst hf
        rw [if_pos rfl]
        go_enter Try.func18, Try.ntmps18
        go_wp2_with (first
          | (go_at_call 45; refine hp.out.mono ?_; rintro e w1 ⟨rfl, hb1⟩; have h1 := H.out.below hb1)
          | (go_at_call 44; refine (burn_dead xd rs.length cap A room short w1 h1.hdr).mono ?_; rintro e w2 ⟨rfl, hw⟩; obtain rfl := hw.symm))
        go_ret
        exact ⟨rfl, ⟨A, cap, rs, h1.more fun _ h => .inl h, rfl⟩, (Mods.refl _ _).below hb1⟩
      · rw [if_neg hf]
        have HF := Lib.hid hf
        clear hf
        go_enter Try.func18, Try.ntmps18
        go_wp2_with (first
          | (go_at_call 45; refine hp.out.mono ?_; rintro e w1 ⟨rfl, hb1⟩; have h1 := H.out.below hb1)
          | (go_at_call 44; refine (burn_ok_ xd rs.length cap A room short fuse w1 h1.hdr HF.out hfu.1 hfu.2).mono ?_; rintro e w2 ⟨rfl, hd2, hm2⟩))
        go_ret
        exact ⟨rfl, ⟨A, cap, rs, (h1.head hd2 hm2).more fun _ h => .inl h, rfl⟩, ((Mods.refl S w).below hb1).trans hm2 (fun i _ e => e ▸ H.out.ownd.1)⟩
    · rw [h2] at hp
      rw [h1]
      obtain ⟨hkl, hkr⟩ := List.getElem?_eq_some_iff.1 hk
      obtain ⟨g, rfl⟩ := h.row.some_ (by omega)
      have hrm := List.mem_of_getElem? hk
      have hbl : r.b.length ≤ 1048576 := (hfl r.fl (List.mem_map_of_mem hrm)).2.1
      have hsl : r.s ≤ r.b.length := (hfl r.fl (List.mem_map_of_mem hrm)).2.2
      obtain ⟨_, hcap, hcapm⟩ := h.row.cap
      have ht : tooLong (rs.map Rf.fl) s.data.toList (m : Int) = decide ((r.b.length : Int) < m) := by unfold tooLong; rw [h1]; rfl
      have hp := Lib.hid hp
      have H := Lib.hid h
      have HK := Lib.hid hk
      clear h1 h2 h hk
      by_cases hlong : (r.b.length : Int) < m
      · rw [if_pos (by rw [ht]; exact decide_eq_true hlong)]
        clear ht
        go_enter Try.func18, Try.ntmps18
        go_wp2_with (go_at_call 45; refine hp.out.mono ?_; rintro e w1 ⟨rfl, hb1⟩; have h1 := H.out.below hb1; have c0 : w1.cell? ⟨xd, 0, none⟩ = some (.slice (some ⟨g, 0, none⟩) rs.length cap) := h1.hdr.cell 0; obtain ⟨d0, d1, d2⟩ := file3 h1.row (Below.refl _ _) k hkl; rw [hkr] at d0 d1 d2)
        go_ret
        exact ⟨rfl, ⟨_, cap, rs, h1.more fun _ h => .inl h, rfl⟩, (Mods.refl _ _).below hb1⟩
      · rw [if_neg (by rw [ht]; simpa using hlong)]
        clear ht
        by_cases hf : fuse = 0
        · subst hf
          rw [if_pos rfl]
          go_enter Try.func18, Try.ntmps18
          go_wp2_with (first
            | (go_at_call 45; refine hp.out.mono ?_; rintro e w1 ⟨rfl, hb1⟩; have h1 := H.out.below hb1; have c0 : w1.cell? ⟨xd, 0, none⟩ = some (.slice (some ⟨g, 0, none⟩) rs.length cap) := h1.hdr.cell 0; obtain ⟨d0, d1, d2⟩ := file3 h1.row (Below.refl _ _) k hkl; rw [hkr] at d0 d1 d2)
            | (go_at_call 44; refine (burn_dead xd rs.length cap (some ⟨g, 0, none⟩) room short w1 h1.hdr).mono ?_; rintro e w2 ⟨rfl, hw⟩; obtain rfl := hw.symm))
          go_ret
          exact ⟨rfl, ⟨_, cap, rs, h1.more fun _ h => .inl h, rfl⟩, (Mods.refl _ _).below hb1⟩
        · rw [if_neg hf]
          have HF := Lib.hid hf
          clear hf
          go_enter Try.func18, Try.ntmps18
          go_wp2_with (first
            | (go_at_call 45; refine hp.out.mono ?_; rintro e w1 ⟨rfl, hb1⟩; have h1 := H.out.below hb1; have c0 : w1.cell? ⟨xd, 0, none⟩ = some (.slice (some ⟨g, 0, none⟩) rs.length cap) := h1.hdr.cell 0; obtain ⟨d0, d1, d2⟩ := file3 h1.row (Below.refl _ _) k hkl; rw [hkr] at d0 d1 d2)
            | (go_at_call 44; refine (burn_ok_ xd rs.length cap (some ⟨g, 0, none⟩) room short fuse w1 h1.hdr HF.out hfu.1 hfu.2).mono ?_; rintro e w2 ⟨rfl, hd2, hm2⟩))
          have h2 := h1.head hd2 hm2
          have h3 := h2.below (((Below.refl _ w2).alloc (Nat.le_refl _) (.cells #[] 5)).drew)
          have hemp : Row (w2.alloc (.cells #[] 5)).drew w2.heap.size 5 1 (.slice (some ⟨w2.heap.size, 0, none⟩) 0 0) 0 [] := Row.empty w2 w2.heap.size 5 (Nat.le_refl _)
          have c2 : w2.cell? ⟨xd, 0, none⟩ = some (.slice (some ⟨g, 0, none⟩) rs.length cap) := h2.hdr.cell 0
          obtain ⟨x0, x1, x2⟩ := file3 h2.row (Below.refl _ _) k hkl
          rw [hkr] at x0 x1 x2
          have c3 : (w2.alloc (.cells #[] 5)).cell? ⟨xd, 0, none⟩ = some (.slice (some ⟨g, 0, none⟩) rs.length cap) := h3.hdr.cell 0
          obtain ⟨y0, y1, y2⟩ := file3 h3.row (Below.refl _ _) k hkl
          rw [hkr] at y0 y1 y2
          have y1' : (w2.alloc (.cells #[] 5)).cell? ⟨g, k * 3 + 1, none⟩ = some (.slice r.A r.b.length r.cap) := y1
          have hml : m ≤ r.b.length := by omega
          have hrc := (h3.con r hrm)
          obtain ⟨_, hrcap, hrcapm⟩ := hrc.cap
          have hrd := (hrc.cut hml).reads
          rw [Nat.mul_one] at hrd
          obtain ⟨i0, hi0, hz0, hz1, hz2⟩ := info_parts info_u8
          have hrl : (u8s r.b).length = r.b.length := u8s_length _
          have HRD := Lib.hid hrd
          clear hrd
          have hmc' : m ≤ r.cap := by omega
          have hAz : r.A = none → r.cap = 0 := by
            intro e
            rcases hrc.2 with ⟨q1, _⟩ | ⟨g', cap', cur, q1, _⟩
            · unfold Rf.row at q1; injection q1
            · unfold Rf.row at q1; injection q1 with q1; rw [e] at q1; cases q1
          have hcc : r.cap ≤ 9223372036854775807 := by simp only [maxLen] at hrcapm; omega
          go_region_law ((refine step_append_row _ rfl (.tmp 40) (.tmp 50) 30 rfl w2.heap.size 5 i0 _ 1 1 Try.underlying30 hi0 hz0 hz1 hz2 rfl (by omega) (.slice (some ⟨w2.heap.size, 0, none⟩) 0 0) 0 [] (by first | rfl | simp [Act.eval, Act.put]) hemp _ r.A m r.cap ((u8s r.b).take m) (by first | rfl | simp [Act.eval, Act.put]) HRD.out (fun u hu => u8s_one _ u (List.mem_of_mem_take hu)) (by simp only [maxLen]; omega) (by omega) (by show w2.heap.size ≤ (w2.alloc _).heap.size; simp) ?_); intro v4 w4 hown4 hg4 hat4; obtain ⟨A4, cap4, rfl⟩ := hown4.slice; have hb4 : Below w2.heap.size w2 w4 := ((Below.refl _ w2).alloc (Nat.le_refl _) _).drew.grown hg4 (by show w2.heap.size ≤ (w2.alloc _).heap.size; simp) (fun k hk => by simp [Value.ownBlock] at hk; omega); have h4 := h2.below hb4; have c04 : w4.cell? ⟨xd, 0, none⟩ = some (.slice (some ⟨g, 0, none⟩) rs.length cap) := h4.hdr.cell 0; have ⟨z0, z1, z2⟩ := file3 h2.row hb4 k hkl; rw [hkr] at z0 z1 z2; have f4 : w4.frozen? ⟨g, k * 3 + 1, none⟩ = false := h4.row.frozen rfl _)
          all_goals
            have hgx : xd ≠ g := fun e => h2.ne.1 (by rw [e]; rfl)
            have hx5 := h4.hdr.far (p := ⟨g, k * 3 + 1, none⟩) hgx (.slice A4 m cap4)
            have hr5 := h4.row.set_ (i := k * 3 + 1) (by rw [fcells_length]; omega) (.slice A4 m cap4)
            have p2 : (w4.setCell ⟨g, k * 3 + 1, none⟩ (.slice A4 m cap4)).drew.cell? ⟨g, k * 3 + 2, none⟩ = some (.int .i64 (r.s : Int)) := (World.cell?_setCell_other _ _ _ _ (by simp)).trans z2
            obtain ⟨w6, hw6⟩ : ∃ w6, w6 = (w4.setCell ⟨g, k * 3 + 1, none⟩ (.slice A4 m cap4)).drew := ⟨_, rfl⟩
            have hx6 := hx5.drew
            have hr6 := hr5.drew
            rw [← hw6] at p2 hx6 hr6
            have p0 : w6.cell? ⟨xd, 0, none⟩ = some (.slice (some ⟨g, 0, none⟩) rs.length cap) := hx6.cell 0
            have pf : w6.frozen? ⟨g, k * 3 + 2, none⟩ = false := hr6.frozen rfl _
            go_wp2
            refine region_tail 17 w6 hw6 (by kernel_rfl) (by kernel_rfl) ?_
            simp only [List.take_succ_cons, List.take_zero, List.drop_succ_cons, List.drop_zero]
            have HW6 := Lib.hid hw6
            clear hw6
            repeat still_step
            refine wpStill_nil ?_
            go_wp2
          all_goals
            go_ret
            rw [Nat.zero_add, List.nil_append] at hown4
            have hm6 : Mods (fun i => i = xd ∨ (Value.slice (some ⟨g, 0, none⟩) rs.length cap).ownBlock = some i) w4 w6 := by
              rw [HW6.out]
              exact ((Mods.refl _ w4).setCell (p := ⟨g, k * 3 + 1, none⟩) (fun _ => .inr rfl) _).drew
            have hm7 := hm6.setCell (p := ⟨g, k * 3 + 2, none⟩) (fun _ => .inr rfl) (.int .i64 (min (r.s : Int) (m : Int)))
            exact cut_end hb1 hm2 h2 hb4 HK.out hml hgx hown4 hx6 hr6 hm7

end Go.Proofs.Ytkfmfllniakhkaa
