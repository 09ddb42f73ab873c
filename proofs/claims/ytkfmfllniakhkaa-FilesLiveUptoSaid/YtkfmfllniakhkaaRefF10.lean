/- The document's disk: Read. -/
import Derived.Test.YtkfmfllniakhkaaRefF9
namespace Go.Proofs.Ytkfmfllniakhkaa
open Go.RowKit Go.Maps Go.Sort
set_option linter.unusedVariables false

/-- []byte{} -/
theorem Row.empty (w : World) (base : Nat) (e : TypeId) (hb : base ≤ w.heap.size) : Row (w.alloc (.cells #[] e)) base e 1 (.slice (some ⟨w.heap.size, 0, none⟩) 0 0) 0 [] :=
  ⟨by simp, .inr ⟨_, 0, #[], rfl, hb, Blk.new _ _ _, Nat.le_refl _, by simp [maxLen], by simp, by simp⟩⟩

set_option maxRecDepth 10000 in
theorem rdisk_read {w : World} {S : Nat → Prop} {xd : Nat} {D : Dk} (h : RdAt w S xd D) (hD : DkOk D) (hlen : D.l.length ≤ 1000000) (s : ByteArray) : Calls Try.prog 37 #[.pointer (some ⟨xd, 0, none⟩), .string s] w (GotPost w (mRead D s.data.toList)) := by
  obtain ⟨l, room, short, fuse⟩ := D
  obtain ⟨A, cap, rs, h, rfl⟩ := h
  have hfl := hD.fls
  dsimp only at h hlen hfl
  rw [List.length_map] at hlen
  unfold mRead
  dsimp only
  have hxl := h.hdr.lt
  have hp := rplace_any room short fuse xd rs.length cap A rs w s h.hdr h.row hlen
  rcases place_cases rs h.ris s.data.toList with ⟨h1, h2⟩ | ⟨k, r, hk, hn, h1, h2⟩
  · rw [h1]
    rw [h2] at hp
    have hp := Lib.hid hp
    clear h1 h2 h
    go_enter Try.func37, Try.ntmps37
    go_wp2_with (go_at_call 45; refine hp.out.mono ?_; rintro e w1 ⟨rfl, hb1⟩)
    go_ret2
    exact ⟨_, rfl, Row.nil _ _ _ _, hb1⟩
  · rw [h1]
    rw [h2] at hp
    have hp := Lib.hid hp
    obtain ⟨hkl, hkr⟩ := List.getElem?_eq_some_iff.1 hk
    obtain ⟨g, rfl⟩ := h.row.some_ (by omega)
    have hrm := List.mem_of_getElem? hk
    have hbl : r.b.length ≤ 1048576 := (hfl r.fl (List.mem_map_of_mem hrm)).2.1
    obtain ⟨_, hcap, hcapm⟩ := h.row.cap
    obtain ⟨i0, hi0, hz0, hz1, hz2⟩ := info_parts info_u8
    have H := Lib.hid h
    clear h1 h2 h
    go_enter Try.func37, Try.ntmps37
    go_wp2_with (first
      | (go_at_call 45; refine hp.out.mono ?_; rintro e w1 ⟨rfl, hb1⟩; have h0 := H.out.below hb1; have h1 := h0.below ((Below.refl _ w1).alloc (Nat.le_refl _) (.cells #[] 5)); have c0 : (w1.alloc (.cells #[] 5)).cell? ⟨xd, 0, none⟩ = some (.slice (some ⟨g, 0, none⟩) rs.length cap) := h1.hdr.cell 0; obtain ⟨d0, d1, d2⟩ := file3 h1.row (Below.refl _ _) k hkl; rw [hkr] at d0 d1 d2; have hsz := hb1.size)
      | (at_builtin; refine wpList_append_row _ rfl _ _ _ rfl w.heap.size 5 i0 _ 1 1 Try.underlying30 hi0 hz0 hz1 hz2 rfl (by omega) (.slice (some ⟨w1.heap.size, 0, none⟩) 0 0) 0 [] rfl (Row.empty w1 w.heap.size 5 hsz) _ r.A r.b.length r.cap (u8s r.b) rfl (h1.con r hrm).reads (u8s_one _) (by simp only [maxLen]; omega) (by omega) (by simp; omega) ?_; intro v2 w2 hown2 hg2 hat2))
    go_ret2
    rw [Nat.zero_add, List.nil_append] at hown2
    exact ⟨v2, rfl, hown2, (hb1.alloc hsz _).grown hg2 (by simp; omega) (fun j hj => by simp [Value.ownBlock] at hj; omega)⟩

end Go.Proofs.Ytkfmfllniakhkaa
