/- The document's disk: Rename. -/
import Derived.Test.YtkfmfllniakhkaaRefF6
namespace Go.Proofs.Ytkfmfllniakhkaa
open Go.RowKit Go.Maps Go.Sort
set_option linter.unusedVariables false

section
variable {w w' : World} {S S' : Nat → Prop} {xd : Nat} {room short fuse room' short' fuse' : Int} {A A' : Option Addr} {cap cap' : Nat} {rs rs' : List Rf} {D : Dk}

theorem RdOk.line2 (h : RdOk w S xd room short fuse A cap rs) (hsub : ∀ r ∈ rs', r.name.size ≤ maxLen ∧ ∃ r0 ∈ rs, r0.row = r.row ∧ r0.b = r.b) (hris : rs'.Pairwise (fun a b => a.nm < b.nm)) (hx : Xh w' xd A' rs'.length cap' room' short' fuse')
    (hrow : Row w' w.heap.size 51 3 (.slice A' rs'.length cap') rs'.length (fcells rs')) (m : Mods (· = xd) w w') : RdOk w' (ext S w w') xd room' short' fuse' A' cap' rs' := by
  refine ⟨hx, hrow.base_ (Nat.zero_le _), fun r hr => ?_, hris, fun r hr => (hsub r hr).1, .inl h.ownd.1, fun g hg => .inr (hrow.lt g hg), fun r hr g hg => ?_⟩
  · obtain ⟨_, r0, h0, e1, e2⟩ := hsub r hr
    have := (h.con r0 h0).mods m (fun g hg e => (h.ne.2 r0 h0).1 (by rw [hg, e]))
    rwa [e1, e2] at this
  · obtain ⟨_, r0, h0, e1, e2⟩ := hsub r hr
    exact .inl (h.ownd.2.2 r0 h0 g (by rw [e1]; exact hg))
theorem ris_without {l : List Rf} (h : l.Pairwise (fun a b => a.nm < b.nm)) (nm : Nm) : (without l nm).Pairwise (fun a b => a.nm < b.nm) := h.sublist List.filter_sublist
theorem rename_fl (rs : List Rf) (nm to : Nm) (x : Rf) (hx : x.nm = to) : (insS Rf.nm x (without (without rs nm) to)).map Rf.fl = putS Fl.name x.fl ((rs.map Rf.fl).filter fun d => decide (d.name ≠ nm)) := by
  rw [insS_mapf (key := Rf.nm) (key' := Fl.name) Rf.fl (fun _ => rfl), without_fl, without_fl]
  unfold putS
  rw [show x.fl.name = to from hx]

set_option maxRecDepth 10000 in
set_option maxHeartbeats 1600000 in
theorem rrename_any (h : RdAt w S xd D) (hD : DkOk D) (hlen : D.l.length ≤ 1000000) (s to : ByteArray) (ht : to.size ≤ maxLen) : Calls Try.prog 20 #[.pointer (some ⟨xd, 0, none⟩), .string s, .string to] w (RStep S w xd (mRename D s.data.toList to.data.toList)) := by
  obtain ⟨l, room, short, fuse⟩ := D
  obtain ⟨A, cap, rs, h, rfl⟩ := h
  have hfu := hD.fuse
  dsimp only at h hfu hlen
  rw [List.length_map] at hlen
  unfold mRename
  dsimp only
  have hxl := h.hdr.lt
  have hi := risName_any to w ht
  cases hno : nameOk to.data.toList with
  | false =>
    rw [if_pos rfl]
    rw [hno] at hi
    have HI := Lib.hid hi
    have H := Lib.hid h
    clear hi hno h
    go_enter Try.func20, Try.ntmps20
    go_wp2_with (go_at_call 43; refine HI.out.mono ?_; rintro e w1 ⟨rfl, hb1⟩)
    go_ret
    exact ⟨rfl, ⟨A, cap, rs, (H.out.below hb1).more fun _ h => .inl h, rfl⟩, (Mods.refl _ _).below hb1⟩
  | true =>
    rw [if_neg (by decide)]
    rw [hno] at hi
    have HI := Lib.hid hi
    clear hi hno
    by_cases hf : fuse = 0
    · subst hf
      rw [if_pos rfl]
      have H := Lib.hid h
      clear h
      go_enter Try.func20, Try.ntmps20
      go_wp2_with (first
        | (go_at_call 43; refine HI.out.mono ?_; rintro e w1 ⟨rfl, hb1⟩; have h1 := H.out.below hb1)
        | (go_at_call 44; refine (burn_dead xd rs.length cap A room short w1 h1.hdr).mono ?_; rintro e w2 ⟨rfl, hw⟩; obtain rfl := hw.symm))
      go_ret
      exact ⟨rfl, ⟨A, cap, rs, h1.more fun _ h => .inl h, rfl⟩, (Mods.refl _ _).below hb1⟩
    · rw [if_neg hf]
      have HF := Lib.hid hf
      rcases place_cases rs h.ris s.data.toList with ⟨h1, h2⟩ | ⟨k, r, hk, hn, h1, h2⟩
      · rw [h1]
        have HP := Lib.hid h2
        have H := Lib.hid h
        clear h1 h2 h hf
        go_enter Try.func20, Try.ntmps20
        go_wp2_with (first
          | (go_at_call 43; refine HI.out.mono ?_; rintro e w0 ⟨rfl, hb0⟩; have h0 := H.out.below hb0)
          | (go_at_call 44; refine (burn_ok_ xd rs.length cap A room short fuse w0 h0.hdr HF.out hfu.1 hfu.2).mono ?_; rintro e w1 ⟨rfl, hd1, hm1⟩; have h1 := h0.head hd1 hm1; have hp := rplace_any room short (burn fuse) xd rs.length cap A rs w1 s h1.hdr h1.row hlen; rw [HP.out] at hp; have hp := Lib.hid hp)
          | (go_at_call 45; refine hp.out.mono ?_; rintro e w2 ⟨rfl, hb2⟩))
        go_ret
        have hM : Mods S w w2 := (((Mods.refl S w).below hb0).trans hm1 (fun i _ e => e ▸ H.out.ownd.1)).below hb2
        exact ⟨rfl, ⟨A, cap, rs, (h1.below hb2).more fun _ h => .inl h, rfl⟩, hM⟩
      · rw [h1]
        obtain ⟨hkl, hkr⟩ := List.getElem?_eq_some_iff.1 hk
        obtain ⟨g, rfl⟩ := h.row.some_ (by omega)
        obtain ⟨_, hcap, hcapm⟩ := h.row.cap
        have HP := Lib.hid h2
        have H := Lib.hid h
        have HK := Lib.hid hk
        clear h1 h2 h hf
        go_enter Try.func20, Try.ntmps20
        go_wp2_with (first
          | (go_at_call 43; refine HI.out.mono ?_; rintro e w0 ⟨rfl, hb0⟩; have h0 := H.out.below hb0)
          | (go_at_call 44; refine (burn_ok_ xd rs.length cap (some ⟨g, 0, none⟩) room short fuse w0 h0.hdr HF.out hfu.1 hfu.2).mono ?_; rintro e w1 ⟨rfl, hd1, hm1⟩; have h1 := h0.head hd1 hm1; have hp := rplace_any room short (burn fuse) xd rs.length cap (some ⟨g, 0, none⟩) rs w1 s h1.hdr h1.row hlen; rw [HP.out] at hp; have hp := Lib.hid hp)
          | (go_at_call 45; refine hp.out.mono ?_; rintro e w2 ⟨rfl, hb2⟩; have h2 := h1.below hb2; have c0 : w2.cell? ⟨xd, 0, none⟩ = some (.slice (some ⟨g, 0, none⟩) rs.length cap) := h2.hdr.cell 0; obtain ⟨d0, d1, d2⟩ := file3 h2.row (Below.refl _ w2) k hkl; rw [hkr] at d0 d1 d2; have hba : Below w2.heap.size w2 (w2.alloc (.cells #[.string r.name, .slice r.A r.b.length r.cap, .int .i64 (r.s : Int)] 51)) := (Below.refl _ w2).alloc (Nat.le_refl _) _; have h3 := h2.below hba; have hbx : Blk (w2.alloc (.cells #[.string r.name, .slice r.A r.b.length r.cap, .int .i64 (r.s : Int)] 51)) w2.heap.size 51 #[.string r.name, .slice r.A r.b.length r.cap, .int .i64 (r.s : Int)] := Blk.new _ _ _))
        have hxb : w2.heap.size ≠ xd := by have := h2.hdr.lt; omega
        have hM3 : Mods S w (w2.alloc (.cells #[.string r.name, .slice r.A r.b.length r.cap, .int .i64 (r.s : Int)] 51)) := ((((Mods.refl S w).below hb0).trans hm1 (fun i _ e => e ▸ H.out.ownd.1)).below hb2).alloc _
        have hs3 : (w2.alloc (.cells #[.string r.name, .slice r.A r.b.length r.cap, .int .i64 (r.s : Int)] 51)).heap.size = w2.heap.size + 1 := by simp
        have hsw : w.heap.size ≤ w2.heap.size := Nat.le_trans hb0.size (Nat.le_trans hm1.size hb2.size)
        have hmA : Mods (· = xd) w2 (w2.alloc (.cells #[.string r.name, .slice r.A r.b.length r.cap, .int .i64 (r.s : Int)] 51)) := (Mods.refl _ w2).alloc _
        generalize w2.alloc (.cells #[.string r.name, .slice r.A r.b.length r.cap, .int .i64 (r.s : Int)] 51) = w3 at hbx h3 hM3 hs3 hmA ⊢
        have hl1 : (without rs s.data.toList).length ≤ 1000000 := Nat.le_trans (List.length_filter_le _ _) hlen
        have hl2 : (without (without rs s.data.toList) to.data.toList).length ≤ 1000000 := Nat.le_trans (List.length_filter_le _ _) hl1
        have HRM := Lib.hid (List.mem_of_getElem? HK.out)
        clear c0 d0 d1 d2 hba
        refine (rdrop_any room short (burn fuse) xd rs.length cap (some ⟨g, 0, none⟩) rs w3 s h3.hdr h3.row hlen).mono ?_
        rintro e w4 ⟨rfl, ⟨A4, cap4, hx4, hr4⟩, hm4⟩
        have hbx4 := hbx.mods hm4 hxb
        go_wp2_with fail
        refine (rdrop_any room short (burn fuse) xd _ cap4 A4 _ w4 to hx4 (hr4.base_ (Nat.zero_le _)) hl1).mono ?_
        rintro e w5 ⟨rfl, ⟨A5, cap5, hx5, hr5⟩, hm5⟩
        have hbx5 := hbx4.mods hm5 hxb
        have hbx6 := hbx5.set_ 0 (.string to)
        have b0 : w5.cell? ⟨w2.heap.size, 0, none⟩ = some (.string r.name) := hbx5.cell 0
        have b1 : w5.frozen? ⟨w2.heap.size, 0, none⟩ = false := hbx5.frozen 0
        have b2 : (w5.setCell ⟨w2.heap.size, 0, none⟩ (.string to)).cell? ⟨w2.heap.size, 0, none⟩ = some (.string to) := hbx6.cell 0
        have b3 : (w5.setCell ⟨w2.heap.size, 0, none⟩ (.string to)).cell? ⟨w2.heap.size, 1, none⟩ = some (.slice r.A r.b.length r.cap) := hbx6.cell 1
        have b4 : (w5.setCell ⟨w2.heap.size, 0, none⟩ (.string to)).cell? ⟨w2.heap.size, 2, none⟩ = some (.int .i64 (r.s : Int)) := hbx6.cell 2
        have hx6 := hx5.far (p := ⟨w2.heap.size, 0, none⟩) (fun e => hxb e.symm) (.string to)
        have hm45 := hm4.trans hm5 (fun i _ e => e)
        have hm6 : Mods (fun i => i = xd ∨ i = w2.heap.size) w3 (w5.setCell ⟨w2.heap.size, 0, none⟩ (.string to)) := (hm45.mono fun i _ e => .inl e).setCell (p := ⟨w2.heap.size, 0, none⟩) (fun _ => .inr rfl) _
        have hr6 := hr5.far (p := ⟨w2.heap.size, 0, none⟩) (fun e => by have := (hr5.lt w2.heap.size e).1; have := hm4.size; omega) (.string to)
        go_wp2_with fail
        refine (radd_any room short (burn fuse) xd _ cap5 A5 _ _ ⟨to, r.b, r.s, r.A, r.cap⟩ hx6 (hr6.base_ (Nat.zero_le _)) hl2).mono ?_
        rintro e w7 ⟨rfl, ⟨A7, cap7, hx7, hr7⟩, hm7⟩
        go_wp2_with fail
        go_ret
        have hm37 := hm6.trans hm7 (fun i _ e => .inl e)
        have hm27 : Mods (· = xd) w2 w7 := hmA.trans hm37 (fun i hi e => e.elim id (fun e => by omega))
        have hwm : ∀ y ∈ without (without rs s.data.toList) to.data.toList, y ∈ rs ∧ y.nm ≠ to.data.toList := fun y hy => by
          obtain ⟨p1, p2⟩ := List.mem_filter.1 hy
          exact ⟨(List.mem_filter.1 p1).1, of_decide_eq_true p2⟩
        have h7 := h2.line2 (rs' := insS Rf.nm ⟨to, r.b, r.s, r.A, r.cap⟩ (without (without rs s.data.toList) to.data.toList)) (fun y hy => by
          rcases mem_insS.1 hy with rfl | hy
          · exact ⟨ht, r, HRM.out, rfl, rfl⟩
          · exact ⟨h2.small y (hwm y hy).1, y, (hwm y hy).1, rfl, rfl⟩)
          (ris_insS (ris_without (ris_without h2.ris _) _) (fun y hy => (hwm y hy).2)) hx7 (hr7.base_ (by have := hm45.size; simp only [World.size_setCell]; omega)) hm27
        exact ⟨rfl, ⟨A7, cap7, _, h7.more fun i hi => hi.elim .inl (fun e => .inr ⟨Nat.le_trans hsw e.1, e.2⟩), rename_fl rs _ _ _ rfl⟩, hM3.trans hm37 (fun i hi e => e.elim (fun e => e ▸ H.out.ownd.1) (fun e => by omega))⟩
end

end Go.Proofs.Ytkfmfllniakhkaa
