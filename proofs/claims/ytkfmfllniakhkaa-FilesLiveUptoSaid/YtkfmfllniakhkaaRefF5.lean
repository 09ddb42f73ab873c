/- The document's disk: one file turns; Sync, Synced, Remove: walks. -/
import Derived.Test.YtkfmfllniakhkaaRefF4
namespace Go.Proofs.Ytkfmfllniakhkaa
open Go.RowKit Go.Maps Go.Sort
set_option linter.unusedVariables false

theorem fcells_set2 (l : List Rf) (k : Nat) (c : Rf) (h : l[k]? = some c) (s : Nat) : fcells (l.set k ⟨c.name, c.b, s, c.A, c.cap⟩) = (fcells l).set (k * 3 + 2) (.int .i64 (s : Int)) := by
  induction l generalizing k with
  | nil => simp at h
  | cons d l ih =>
    cases k with
    | zero =>
      obtain rfl : d = c := by simpa using h
      simp [fcells, fcell, Rf.row]
    | succ k =>
      have h2 := ih k (by simpa using h)
      show fcell d ++ fcells (l.set k _) = (fcell d ++ fcells l).set _ _
      rw [h2, List.set_append_right _ _ (by simp [fcell]; omega)]
      congr 2
      simp [fcell]
      omega
theorem fcells_set1 (l : List Rf) (k : Nat) (c : Rf) (h : l[k]? = some c) (b : List UInt8) (A : Option Addr) (cap : Nat) : fcells (l.set k ⟨c.name, b, c.s, A, cap⟩) = (fcells l).set (k * 3 + 1) (.slice A b.length cap) := by
  induction l generalizing k with
  | nil => simp at h
  | cons d l ih =>
    cases k with
    | zero =>
      obtain rfl : d = c := by simpa using h
      simp [fcells, fcell, Rf.row]
    | succ k =>
      have h2 := ih k (by simpa using h)
      show fcell d ++ fcells (l.set k _) = (fcell d ++ fcells l).set _ _
      rw [h2, List.set_append_right _ _ (by simp [fcell]; omega)]
      congr 2
      simp [fcell]
      omega
theorem set_put {rs : List Rf} (hr : rs.Pairwise (fun a b => a.nm < b.nm)) {k : Nat} {r r' : Rf} (hk : rs[k]? = some r) (hn : r'.nm = r.nm) : (rs.set k r').map Rf.fl = putS Fl.name r'.fl (rs.map Rf.fl) := by
  rw [← putS_mapf (key := Rf.nm) (key' := Fl.name) Rf.fl (fun _ => rfl), putS_turn (key := Rf.nm) hr (x := r') (List.mem_of_getElem? hk) hn.symm]
  congr 1
  obtain ⟨hkl, hkr⟩ := List.getElem?_eq_some_iff.1 hk
  apply List.ext_getElem
  · simp
  · intro i h1 h2
    simp only [List.length_set] at h1
    rw [List.getElem_set, List.getElem_map]
    by_cases e : k = i
    · subst e
      rw [if_pos rfl, if_pos (by rw [hkr, hn])]
    · rw [if_neg e, if_neg]
      intro he
      have he' : rs[i].nm = rs[k].nm := by rw [he, hn, hkr]
      have hp := List.pairwise_iff_getElem.1 hr
      rcases Nat.lt_or_gt_of_ne e with h | h
      · have := hp k i hkl h1 h; rw [he'] at this; exact nm_irrefl _ this
      · have := hp i k h1 hkl h; rw [he'] at this; exact nm_irrefl _ this
theorem place_cases (rs : List Rf) (hr : rs.Pairwise (fun a b => a.nm < b.nm)) (nm : Nm) : (fnd (rs.map Rf.fl) nm = none ∧ placeF rs nm = -1) ∨ ∃ (k : Nat) (r : Rf), rs[k]? = some r ∧ r.nm = nm ∧ fnd (rs.map Rf.fl) nm = some r.fl ∧ placeF rs nm = (k : Int) := by
  have hfr : (rs.map Rf.fl).Pairwise (fun a b => a.name < b.name) := by rw [List.pairwise_map]; exact hr
  by_cases h : ∃ r ∈ rs, r.nm = nm
  · obtain ⟨r, hrm, hn⟩ := h
    obtain ⟨k, hk, e⟩ := List.mem_iff_getElem.1 hrm
    have hk' : rs[k]? = some r := by rw [List.getElem?_eq_getElem hk, e]
    refine .inr ⟨k, r, hk', hn, ?_, placeF_hit hk' hn fun j hj c hc he => ?_⟩
    · have := fnd_hit hfr (f := r.fl) (List.mem_map_of_mem hrm)
      rwa [show r.fl.name = nm from hn] at this
    · obtain ⟨hjl, hjc⟩ := List.getElem?_eq_some_iff.1 hc
      have := List.pairwise_iff_getElem.1 hr j k hjl hk hj
      rw [hjc, e, he, hn] at this
      exact nm_irrefl _ this
  · refine .inl ⟨List.find?_eq_none.2 fun f hf => ?_, ?_⟩
    · obtain ⟨r, hrm, rfl⟩ := List.mem_map.1 hf
      exact fun e => h ⟨r, hrm, of_decide_eq_true e⟩
    · unfold placeF
      rw [if_neg h]

section
variable {w w' : World} {S S' : Nat → Prop} {xd : Nat} {room short fuse room' short' fuse' : Int} {A : Option Addr} {cap : Nat} {rs : List Rf} {D : Dk}

/-- one file has turned, in its row -/
theorem RdOk.turn (h : RdOk w S xd room short fuse A cap rs) {k : Nat} {r r' : Rf} (hk : rs[k]? = some r) (hn : r'.name = r.name) (hS : ∀ i, S i → S' i) (ho : ∀ g, r'.row.ownBlock = some g → S' g) (hdr' : Xh w' xd A rs.length cap room' short' fuse')
    (hrow : Row w' 0 51 3 (.slice A rs.length cap) rs.length (fcells (rs.set k r'))) (hcon : Row w' 0 5 1 r'.row r'.b.length (u8s r'.b)) (m : Mods (fun i => i = xd ∨ (Value.slice A rs.length cap).ownBlock = some i) w w') :
    RdOk w' S' xd room' short' fuse' A cap (rs.set k r') := by
  have hl : (rs.set k r').length = rs.length := by simp
  have hmem : ∀ d ∈ rs.set k r', d = r' ∨ d ∈ rs := fun d hd => (List.mem_or_eq_of_mem_set hd).symm
  refine ⟨by rw [hl]; exact hdr', by rw [hl]; exact hrow, fun d hd => ?_, ?_, fun d hd => ?_, hS _ h.ownd.1, fun g hg => hS _ (h.ownd.2.1 g (by rw [hl] at hg; exact hg)), fun d hd g hg => ?_⟩
  · rcases hmem d hd with rfl | hd
    · exact hcon
    · exact (h.con d hd).mods m (fun g hg e => e.elim (fun e => (h.ne.2 d hd).1 (by rw [hg, e])) (fun e => (h.ne.2 d hd).2 g e hg))
  · have hp := List.pairwise_iff_getElem.1 h.ris
    obtain ⟨hkl, hkr⟩ := List.getElem?_eq_some_iff.1 hk
    have hnm : ∀ i (hi : i < (rs.set k r').length), (rs.set k r')[i].nm = (rs[i]'(by simpa using hi)).nm := by
      intro i hi
      rw [List.getElem_set]
      split
      · rename_i e; subst e; unfold Rf.nm; rw [hn, hkr]
      · rfl
    rw [List.pairwise_iff_getElem]
    intro i j hi hj hij
    rw [hnm i hi, hnm j hj]
    exact hp i j (by simpa using hi) (by simpa using hj) hij
  · rcases hmem d hd with rfl | hd
    · rw [hn]; exact h.small r (List.mem_of_getElem? hk)
    · exact h.small d hd
  · rcases hmem d hd with rfl | hd
    · exact ho g hg
    · exact hS _ (h.ownd.2.2 d hd g hg)

theorem rsynced_any (h : RdOk w S xd room short fuse A cap rs) (hlen : rs.length ≤ 1000000) (s : ByteArray) : Calls Try.prog 40 #[.pointer (some ⟨xd, 0, none⟩), .string s] w (IntPost w (oldS (rs.map Rf.fl) s.data.toList : Nat)) := by
  have hp := rplace_any room short fuse xd rs.length cap A rs w s h.hdr h.row hlen
  have H := Lib.hid h
  have hxl := h.hdr.lt
  rcases place_cases rs h.ris s.data.toList with ⟨h1, h2⟩ | ⟨k, r, hk, hn, h1, h2⟩
  · rw [h2] at hp
    have hp := Lib.hid hp
    have HE := Lib.hid (show oldS (rs.map Rf.fl) s.data.toList = 0 by unfold oldS; rw [h1]; rfl)
    clear h1 h2 h
    go_enter Try.func40, Try.ntmps40
    go_wp2_with (go_at_call 45; refine hp.out.mono ?_; rintro e w1 ⟨rfl, hb1⟩)
    go_ret
    exact ⟨by rw [HE.out]; rfl, hb1⟩
  · rw [h2] at hp
    have hp := Lib.hid hp
    have HE := Lib.hid (show oldS (rs.map Rf.fl) s.data.toList = r.s by unfold oldS; rw [h1]; rfl)
    obtain ⟨hkl, hkr⟩ := List.getElem?_eq_some_iff.1 hk
    obtain ⟨g, rfl⟩ := h.row.some_ (by omega)
    have HF := fun (w1 : World) (hb : Below w.heap.size w w1) => file3 h.row hb k hkl
    rw [hkr] at HF
    have HF := Lib.hid HF
    obtain ⟨_, hcap, hcapm⟩ := h.row.cap
    clear h1 h2 h hk hkr
    go_enter Try.func40, Try.ntmps40
    go_wp2_with (go_at_call 45; refine hp.out.mono ?_; rintro e w1 ⟨rfl, hb1⟩; have c0 : w1.cell? ⟨xd, 0, none⟩ = some (.slice (some ⟨g, 0, none⟩) rs.length cap) := (H.out.hdr.below hb1 hxl).cell 0; obtain ⟨d0, d1, d2⟩ := HF.out w1 hb1)
    go_ret
    exact ⟨by rw [HE.out]; rfl, hb1⟩
theorem rsync_any (h : RdAt w S xd D) (hD : DkOk D) (hlen : D.l.length ≤ 1000000) (s : ByteArray) : Calls Try.prog 16 #[.pointer (some ⟨xd, 0, none⟩), .string s] w (RStep S w xd (mSync D s.data.toList)) := by
  obtain ⟨l, room, short, fuse⟩ := D
  obtain ⟨A, cap, rs, h, rfl⟩ := h
  have hfu := hD.fuse
  dsimp only at h hfu hlen
  rw [List.length_map] at hlen
  unfold mSync
  dsimp only
  have hxl := h.hdr.lt
  by_cases hf : fuse = 0
  · subst hf
    rw [if_pos rfl]
    have hbn := Lib.hid (burn_dead xd rs.length cap A room short w h.hdr)
    have H := Lib.hid h
    clear h
    go_enter Try.func16, Try.ntmps16
    go_wp2_with (go_at_call 44; refine hbn.out.mono ?_; rintro e w1 ⟨rfl, hw⟩; obtain rfl := hw.symm)
    go_ret
    exact ⟨rfl, ⟨A, cap, rs, H.out.more fun _ h => .inl h, rfl⟩, Mods.refl _ _⟩
  · rw [if_neg hf]
    have hbn := Lib.hid (burn_ok_ xd rs.length cap A room short fuse w h.hdr hf hfu.1 hfu.2)
    rcases place_cases rs h.ris s.data.toList with ⟨h1, h2⟩ | ⟨k, r, hk, hn, h1, h2⟩
    · rw [h1]
      have HP := Lib.hid h2
      have H := Lib.hid h
      clear h1 h2 h hf
      go_enter Try.func16, Try.ntmps16
      go_wp2_with (first
        | (go_at_call 44; refine hbn.out.mono ?_; rintro e w1 ⟨rfl, hd1, hm1⟩; have h1 := H.out.head hd1 hm1; have hp := rplace_any room short (burn fuse) xd rs.length cap A rs w1 s h1.hdr h1.row hlen; rw [HP.out] at hp; have hp := Lib.hid hp)
        | (go_at_call 45; refine hp.out.mono ?_; rintro e w2 ⟨rfl, hb2⟩))
      go_ret
      exact ⟨rfl, ⟨A, cap, rs, (h1.below hb2).more fun _ h => .inl h, rfl⟩, (hm1.below hb2).mono fun i _ e => e ▸ H.out.ownd.1⟩
    · rw [h1]
      obtain ⟨hkl, hkr⟩ := List.getElem?_eq_some_iff.1 hk
      obtain ⟨g, rfl⟩ := h.row.some_ (by omega)
      obtain ⟨_, hcap, hcapm⟩ := h.row.cap
      have HP := Lib.hid h2
      have H := Lib.hid h
      have HK := Lib.hid hk
      have hbl := hD.fls r.fl (List.mem_map_of_mem (List.mem_of_getElem? hk))
      have hbl : r.b.length ≤ 1048576 := hbl.2.1
      clear h1 h2 h hf
      go_enter Try.func16, Try.ntmps16
      go_wp2_with (first
        | (go_at_call 44; refine hbn.out.mono ?_; rintro e w1 ⟨rfl, hd1, hm1⟩; have h1 := H.out.head hd1 hm1; have hp := rplace_any room short (burn fuse) xd rs.length cap (some ⟨g, 0, none⟩) rs w1 s h1.hdr h1.row hlen; rw [HP.out] at hp; have hp := Lib.hid hp)
        | (go_at_call 45; refine hp.out.mono ?_; rintro e w2 ⟨rfl, hb2⟩; have h2 := h1.below hb2; have c0 : w2.cell? ⟨xd, 0, none⟩ = some (.slice (some ⟨g, 0, none⟩) rs.length cap) := h2.hdr.cell 0; obtain ⟨d0, d1, d2⟩ := file3 h2.row (Below.refl _ w2) k hkl; rw [hkr] at d0 d1 d2; have f2 : w2.frozen? ⟨g, k * 3 + 2, none⟩ = false := h2.row.frozen rfl _))
      have hgx : xd ≠ g := fun e => h2.ne.1 (by rw [e]; rfl)
      have hx6 := h2.hdr.far (p := ⟨g, k * 3 + 2, none⟩) hgx (.int .i64 (r.b.length : Int))
      have hr6 := h2.row.set_ (i := k * 3 + 2) (by rw [fcells_length]; omega) (.int .i64 (r.b.length : Int))
      have x0 : (w2.setCell ⟨g, k * 3 + 2, none⟩ (.int .i64 (r.b.length : Int))).drew.cell? ⟨xd, 0, none⟩ = some (.slice (some ⟨g, 0, none⟩) rs.length cap) := hx6.cell 0
      rw [← fcells_set2 rs k r HK.out] at hr6
      have x1 : (w2.setCell ⟨g, k * 3 + 2, none⟩ (.int .i64 (r.b.length : Int))).drew.cell? ⟨g, k * 3 + 1, none⟩ = some (.slice r.A r.b.length r.cap) := (World.cell?_setCell_other _ _ _ _ (by simp)).trans d1
      have y0 : w2.drew.cell? ⟨g, k * 3 + 2, none⟩ = some (.int .i64 (r.s : Int)) := d2
      go_region_held3 (fun w' => w'.cell? ⟨xd, 0, none⟩ = some (.slice (some ⟨g, 0, none⟩) rs.length cap) ∧ w'.cell? ⟨g, k * 3 + 1, none⟩ = some (.slice r.A r.b.length r.cap)) (go_keep) (first | fail)
      go_wp2
      go_ret
      have hrm := List.mem_of_getElem? HK.out
      have hm6 := ((Mods.refl (fun i => i = xd ∨ (Value.slice (some ⟨g, 0, none⟩) rs.length cap).ownBlock = some i) w2).setCell (p := ⟨g, k * 3 + 2, none⟩) (fun _ => .inr rfl) (.int .i64 (r.b.length : Int))).drew
      have hcon := ((h2.con r hrm).far (p := ⟨g, k * 3 + 2, none⟩) ((h2.ne.2 r hrm).2 g rfl) (.int .i64 (r.b.length : Int))).drew
      have hS : ∀ i, i < w.heap.size → (i = xd ∨ (Value.slice (some ⟨g, 0, none⟩) rs.length cap).ownBlock = some i) → S i := fun i _ e => e.elim (fun e => e ▸ H.out.ownd.1) (fun e => H.out.ownd.2.1 i e)
      refine ⟨rfl, ⟨_, cap, _, (h2.turn (r' := ⟨r.name, r.b, r.b.length, r.A, r.cap⟩) HK.out rfl (fun _ h => h) (fun i hi => H.out.ownd.2.2 r hrm i hi) hx6.drew hr6.drew hcon hm6).more fun _ h => .inl h, set_put H.out.ris HK.out rfl⟩, ((hm1.below hb2).mono (fun i _ e => e ▸ H.out.ownd.1)).trans hm6 hS⟩
end

end Go.Proofs.Ytkfmfllniakhkaa
