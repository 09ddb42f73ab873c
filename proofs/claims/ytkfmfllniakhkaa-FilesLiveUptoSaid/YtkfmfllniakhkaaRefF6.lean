/- The document's disk: Remove. -/
import Derived.Test.YtkfmfllniakhkaaRefF5
namespace Go.Proofs.Ytkfmfllniakhkaa
open Go.RowKit Go.Maps Go.Sort
set_option linter.unusedVariables false

section
variable {w w' : World} {S S' : Nat → Prop} {xd : Nat} {room short fuse room' short' fuse' : Int} {A A' : Option Addr} {cap cap' : Nat} {rs rs' : List Rf} {D : Dk}

/-- some of the files, in a new row -/
theorem RdOk.line (h : RdOk w S xd room short fuse A cap rs) (hsub : ∀ r ∈ rs', r ∈ rs) (hris : rs'.Pairwise (fun a b => a.nm < b.nm)) (hx : Xh w' xd A' rs'.length cap' room' short' fuse')
    (hrow : Row w' w.heap.size 51 3 (.slice A' rs'.length cap') rs'.length (fcells rs')) (m : Mods (· = xd) w w') : RdOk w' (ext S w w') xd room' short' fuse' A' cap' rs' :=
  ⟨hx, hrow.base_ (Nat.zero_le _), fun r hr => (h.con r (hsub r hr)).mods m (fun g hg e => (h.ne.2 r (hsub r hr)).1 (by rw [hg, e])), hris, fun r hr => h.small r (hsub r hr), .inl h.ownd.1, fun g hg => .inr (hrow.lt g hg), fun r hr g hg => .inl (h.ownd.2.2 r (hsub r hr) g hg)⟩
theorem without_fl (l : List Rf) (nm : Nm) : (without l nm).map Rf.fl = (l.map Rf.fl).filter fun d => decide (d.name ≠ nm) := by
  unfold without
  rw [List.filter_map]
  rfl

theorem rremove_any (h : RdAt w S xd D) (hD : DkOk D) (hlen : D.l.length ≤ 1000000) (s : ByteArray) : Calls Try.prog 22 #[.pointer (some ⟨xd, 0, none⟩), .string s] w (RStep S w xd (mRemove D s.data.toList)) := by
  obtain ⟨l, room, short, fuse⟩ := D
  obtain ⟨A, cap, rs, h, rfl⟩ := h
  have hfu := hD.fuse
  dsimp only at h hfu hlen
  rw [List.length_map] at hlen
  unfold mRemove
  dsimp only
  have hxl := h.hdr.lt
  by_cases hf : fuse = 0
  · subst hf
    rw [if_pos rfl]
    have hbn := Lib.hid (burn_dead xd rs.length cap A room short w h.hdr)
    have H := Lib.hid h
    clear h
    go_enter Try.func22, Try.ntmps22
    go_wp2_with (go_at_call 44; refine hbn.out.mono ?_; rintro e w1 ⟨rfl, hw⟩; obtain rfl := hw.symm)
    go_ret
    exact ⟨rfl, ⟨A, cap, rs, H.out.more fun _ h => .inl h, rfl⟩, Mods.refl _ _⟩
  · rw [if_neg hf]
    have hbn := Lib.hid (burn_ok_ xd rs.length cap A room short fuse w h.hdr hf hfu.1 hfu.2)
    rcases place_cases rs h.ris s.data.toList with ⟨h1, h2⟩ | ⟨k, r, hk, hn, h1, h2⟩
    · rw [h1]
      have HP := Lib.hid h2
      have H := Lib.hid h
      clear h1 h2 h hf
      go_enter Try.func22, Try.ntmps22
      go_wp2_with (first
        | (go_at_call 44; refine hbn.out.mono ?_; rintro e w1 ⟨rfl, hd1, hm1⟩; have h1 := H.out.head hd1 hm1; have hp := rplace_any room short (burn fuse) xd rs.length cap A rs w1 s h1.hdr h1.row hlen; rw [HP.out] at hp; have hp := Lib.hid hp)
        | (go_at_call 45; refine hp.out.mono ?_; rintro e w2 ⟨rfl, hb2⟩))
      go_ret
      exact ⟨rfl, ⟨A, cap, rs, (h1.below hb2).more fun _ h => .inl h, rfl⟩, (hm1.below hb2).mono fun i _ e => e ▸ H.out.ownd.1⟩
    · rw [h1]
      have HP := Lib.hid h2
      have H := Lib.hid h
      clear h1 h2 h hf
      go_enter Try.func22, Try.ntmps22
      go_wp2_with (first
        | (go_at_call 44; refine hbn.out.mono ?_; rintro e w1 ⟨rfl, hd1, hm1⟩; have h1 := H.out.head hd1 hm1; have hp := rplace_any room short (burn fuse) xd rs.length cap A rs w1 s h1.hdr h1.row hlen; rw [HP.out] at hp; have hp := Lib.hid hp)
        | (go_at_call 45; refine hp.out.mono ?_; rintro e w2 ⟨rfl, hb2⟩; have h2 := h1.below hb2)
        | (go_at_call 47; refine (rdrop_any room short (burn fuse) xd rs.length cap A rs w2 s h2.hdr h2.row hlen).mono ?_; rintro e w3 ⟨rfl, ⟨A', cap', hx3, hr3⟩, hm3⟩))
      go_ret
      have hsz : w.heap.size ≤ w2.heap.size := Nat.le_trans hm1.size hb2.size
      have h3 := h2.line (fun r hr => (List.mem_filter.1 hr).1) (H.out.ris.sublist List.filter_sublist) hx3 hr3 hm3
      exact ⟨rfl, ⟨A', cap', _, h3.more fun k hk => hk.elim .inl (fun e => .inr ⟨Nat.le_trans hsz e.1, e.2⟩), without_fl _ _⟩, ((hm1.below hb2).mono (fun i _ e => e ▸ H.out.ownd.1)).trans hm3 (fun i _ e => e ▸ H.out.ownd.1)⟩
end

end Go.Proofs.Ytkfmfllniakhkaa
