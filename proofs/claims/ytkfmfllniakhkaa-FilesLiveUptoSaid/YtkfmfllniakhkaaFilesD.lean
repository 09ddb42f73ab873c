/- The program's disk: Copy: the walk. -/
import Derived.Test.YtkfmfllniakhkaaFilesA
import Derived.Test.YtkfmfllniakhkaaFilesC
namespace Go.Proofs.Ytkfmfllniakhkaa
open Go.RowKit Go.Maps Go.Sort Go.Shelf
set_option linter.unusedVariables false

theorem ranges_mods {P : Program} {k : TypeId} {w w' : World} {b r n : Nat} {D : DataW Value} {left : Lit → Bool} {cnt : Nat} {S : Nat → Prop} (h : w.ranges P k hld b r n D left cnt) (m : Mods S w w') (hb : ¬ S b) (hr : ¬ S r) : w'.ranges P k hld b r n D left cnt := by
  have h1 := h.owns.lt
  have h2 := h.lt
  obtain ⟨es, clock, since, seen, c0, hb', F, hs, hD, hr', rest⟩ := h
  exact ⟨es, clock, since, seen, c0, (m.block b h1 hb).trans hb', F, hs, hD, (m.block r h2 hr).trans hr', rest⟩

/-- a new disk, all of it beyond what was -/
theorem DiskOk.ext_ {w0 w : World} {S : Nat → Prop} {bd bm : Nat} {room short fuse : Int} {cs : List Fc} (h : DiskOk w S bd bm room short fuse cs) (hS : ∀ k, S k → w0.heap.size ≤ k) : DiskOk w (fun k => w0.heap.size ≤ k ∧ k < w.heap.size) bd bm room short fuse cs :=
  ⟨h.hdr, h.map, h.con, h.ris, h.sep, ⟨hS _ h.ownd.1, h.lt.1⟩, ⟨hS _ h.ownd.2.1, h.lt.2.1⟩, fun c hc => ⟨⟨hS _ (h.ownd.2.2 c hc).1, (h.lt.2.2 c hc).1⟩, fun g hg => ⟨hS _ ((h.ownd.2.2 c hc).2 g hg), (h.lt.2.2 c hc).2 g hg⟩⟩⟩

def CopyPost (w : World) (room short fuse : Int) (L : List Fl) (e : Ending) (w' : World) : Prop :=
  ∃ bd bm cs', e = .returned (.pointer (some ⟨bd, 0, none⟩)) ∧ DiskOk w' (fun k => w.heap.size ≤ k ∧ k < w'.heap.size) bd bm room short fuse cs' ∧ cs'.map Fc.fl = L ∧ Below w.heap.size w w'

theorem copy_round {w2 w3 w4 : World} {S : Nat → Prop} {bd bm k : Nat} {room short fuse : Int} {cs : List Fc} {c : Fc} {A : Option Addr} {cap : Nat} (h : DiskOk w2 S bd bm room short fuse cs)
    (hv : Row w3 w2.heap.size 5 1 (.slice A c.b.length cap) c.b.length (u8s c.b)) (hb : Below w2.heap.size w2 w3)
    (ho : w4.ownsMap Try.prog 9 hld bm k ((datS Fc.name Fc.ptr cs).put (.string c.name) (.held (.pointer (some ⟨w3.heap.size, 0, none⟩)))))
    (hm : Mods (· = bm) (w3.alloc (.cells #[.slice A c.b.length cap, .int .i64 (c.s : Int)] 49)) w4) (hS : ∀ k, w2.heap.size ≤ k → S k) :
    ∃ cs', DiskOk w4 S bd bm room short fuse cs' ∧ cs'.map Fc.fl = putS Fl.name c.fl (cs.map Fc.fl) := by
  have h3 := (h.below hb).below ((Below.refl _ w3).alloc (Nat.le_refl _) (.cells #[.slice A c.b.length cap, .int .i64 (c.s : Int)] 49))
  have hput := datS_put (key := Fc.name) (val := Fc.ptr) cs ⟨c.name, c.b, c.s, w3.heap.size, A, cap⟩
  have hbm := h.lt.2.1
  have hsz := hb.size
  refine ⟨_, h3.put (w' := w4) (S' := S) ⟨c.name, c.b, c.s, w3.heap.size, A, cap⟩ (h3.hdr.mods hm (fun e => map_ne h3.map h3.hdr e.symm)) (k := k) (by rw [← hput]; exact ho) ⟨?_, ?_⟩ ?_ ?_, ?_⟩
  · exact (Blk.new w3 _ _).mods hm (by omega)
  · exact (hv.alloc _).base_ (Nat.zero_le _) |>.mods hm (fun g hg e => by have := (hv.lt g hg).1; omega)
  · intro d hd hne
    obtain ⟨q1, q2, q3, q4, q5, _⟩ := h3.ne hd hd
    refine ⟨⟨(h3.con d hd).1.mods hm (fun e => q3 e.symm), (h3.con d hd).2.mods hm (fun g hg e => q5 (by rw [hg, e]))⟩, ?_, fun g hg hg' => ?_⟩
    · have := (h.lt.2.2 d hd).1
      dsimp only; omega
    · have := (h.lt.2.2 d hd).2 g hg
      have := (hv.lt g hg').1
      omega
  · refine ⟨h.ownd.1, h.ownd.2.1, hS _ hsz, fun g hg => hS _ (hv.lt g hg).1, fun _ h => h⟩
  · exact putS_mapf (key := Fc.name) (key' := Fl.name) Fc.fl (fun _ => rfl) ⟨c.name, c.b, c.s, w3.heap.size, A, cap⟩ cs

set_option maxRecDepth 10000 in
set_option maxHeartbeats 2000000 in
theorem copy_any {w : World} {S : Nat → Prop} {bd bm : Nat} {room short fuse : Int} {cs : List Fc} (h : DiskOk w S bd bm room short fuse cs) (hmax : cs.length ≤ 1000000) (hsm : ∀ c ∈ cs, c.b.length ≤ 1048576) :
    Calls Try.prog 6 #[.pointer (some ⟨bd, 0, none⟩)] w (CopyPost w room short fuse (cs.map Fc.fl)) := by
  have hmd := Lib.hid (made_yes bd bm room short fuse w h.hdr)
  have c0 : w.cell? ⟨bd, 0, none⟩ = some (.map (some bm)) := h.hdr.cell 0
  have c1 : w.cell? ⟨bd, 1, none⟩ = some (.int .i64 room) := h.hdr.cell 1
  have c2 : w.cell? ⟨bd, 2, none⟩ = some (.int .i64 short) := h.hdr.cell 2
  have c3 : w.cell? ⟨bd, 3, none⟩ = some (.int .i64 fuse) := h.hdr.cell 3
  have hbd := h.lt.1
  have hbm := h.lt.2.1
  have hmm := @run_makeMap Try.prog
  have H := Lib.hid h
  have hris := Lib.hid h.ris
  clear h
  go_enter Try.func6, Try.ntmps6
  go_wp2_with (first
    | (go_at_call 10; refine hmd.out.mono ?_; rintro e w' ⟨rfl, hw⟩; obtain rfl := hw.symm))
  go_region_held3 (fun w' => w'.cell? ⟨bd, 1, none⟩ = some (.int .i64 room) ∧ w'.cell? ⟨bd, 2, none⟩ = some (.int .i64 short) ∧ w'.cell? ⟨bd, 3, none⟩ = some (.int .i64 fuse)) (go_keep) (first | fail)
  generalize hW : ((w.alloc (Obj.map #[] 0)).alloc (Obj.cells #[Value.map (some w.heap.size), Value.int IntKind.i64 room, Value.int IntKind.i64 short, Value.int IntKind.i64 fuse] 41)).drew = W1
  have hB0 : Below w.heap.size w W1 := hW ▸ (((Below.refl _ w).alloc (Nat.le_refl _) _).alloc (by simp) _).drew
  have hsz1 : W1.heap.size = w.heap.size + 2 := by rw [← hW]; simp [World.drew]
  have hN0 : DiskOk W1 (fun k => w.heap.size ≤ k ∧ k ≠ w.heap.size + 2) (w.heap.size + 1) w.heap.size room short fuse [] := by
    rw [← hW]
    refine ⟨?_, ?_, by simp, by simp, by simp, ⟨Nat.le_succ _, by omega⟩, ⟨Nat.le_refl _, by omega⟩, by simp⟩
    · have := Blk.new (w.alloc (Obj.map #[] 0)) 41 #[Value.map (some w.heap.size), Value.int IntKind.i64 room, Value.int IntKind.i64 short, Value.int IntKind.i64 fuse]
      rw [World.size_alloc] at this
      exact this.drew
    · exact map_mods (World.ownsMap_made w Try.prog 9 hld) (((Mods.refl (fun _ => False) _).alloc _).drew) (fun h => h)
  have hO0 := H.out.below hB0
  have e0 : W1.cell? ⟨bd, 0, none⟩ = some (.map (some bm)) := hO0.hdr.cell 0
  have hown := hO0.map
  clear hW hmm c0 c1 c2 c3
  go_wp2_with (at_range; refine wpList_range_own _ rfl _ 39 rfl 9 46 lawS Try.underlying39 hld bm cs.length _ rfl hown ?_; intro w0 hrg0 hg0 hs0)
  simp only [hsz1] at hrg0 ⊢
  have hN1 := hN0.keep ((Mods.refl (fun _ => False) W1).grown hg0 (fun k _ e => by cases e)) (fun _ _ h => h)
  have hB1 : Below w.heap.size w w0 := hB0.grown hg0 (by omega) (fun k e => by cases e)
  have hL0 : ([] : List Fc).map Fc.fl = (cs.map Fc.fl).filter (fun x => !Maps.has (datS Fc.name Fc.ptr cs) (.string x.name)) := by
    symm
    rw [List.map_nil, List.filter_eq_nil_iff]
    intro x hx
    obtain ⟨c, hc, rfl⟩ := List.mem_map.1 hx
    have : Maps.has (datS Fc.name Fc.ptr cs) (.string c.fl.name) = true := by rw [datS_has, List.any_eq_true]; exact ⟨c, hc, by simp [Fc.fl]⟩
    simp [this]
  go_frame
  go_loopw [4] (fun _ wr => ∃ (left : Lit → Bool) (cnt : Nat) (cs' : List Fc), wr.ranges Try.prog 9 hld bm (w.heap.size + 2) cs.length (datS Fc.name Fc.ptr cs) left cnt ∧ DiskOk wr (fun k => w.heap.size ≤ k ∧ k ≠ (w.heap.size + 2)) (w.heap.size + 1) w.heap.size room short fuse cs' ∧ cs'.map Fc.fl = (cs.map Fc.fl).filter (fun x => !left (.string x.name)) ∧ Below w.heap.size w wr)
    (fun _ wr => wr.rangeLeft bm (w.heap.size + 2))
  case atStart => exact ⟨_, _, [], hrg0, hN1, hL0, hB1⟩
  case round =>
    obtain ⟨left, cnt, cs', hrg, hN, hL, hbw⟩ := hrel
    go_wp2_with
      (at_next; refine wpList_next_ranges _ rfl _ rfl 9 lawS hld encStr id (fun key kl hk => by obtain ⟨x, hx, _⟩ := Maps.keyOf_str Try.underlying9 hk; exact ⟨x, hx⟩) (fun v y _ => ⟨v, rfl⟩) bm (w.heap.size + 2) cs.length _ _ _ rfl hrg ?_ ?_)
    · intro _ hl0
      have HL0 := Lib.hid hl0
      clear hl0
      go_wp2
      go_ret
      refine ⟨_, _, cs', rfl, hN.ext_ (fun _ h => h.1), ?_, hbw⟩
      rw [hL]
      simp [HL0.out]
    · intro x v kl yd yp w2 cnt2 hkey hlk hv hat hrg2 hlt hg2 hs2 hen
      obtain rfl : yd = .held v := by simp [hld] at hv; exact hv.1.symm
      obtain ⟨c, hc, rfl, rfl⟩ := datS_from hat
      have hbw2 := hbw.grown hg2 hbw.size (fun j hj => by cases hj; omega)
      have hO2 := H.out.below hbw2
      have d0 : w2.cell? ⟨c.blk, 0, none⟩ = some (.slice c.A c.b.length c.cap) := (hO2.con c hc).1.cell 0
      have d1 : w2.cell? ⟨c.blk, 1, none⟩ = some (.int .i64 c.s) := (hO2.con c hc).1.cell 1
      have HKEY := Lib.hid hkey
      have HSZ := Lib.hid hs2
      clear hkey hs2
      have hR := hrg2.lt
      have hN2 := hN.keep ((Mods.refl (· = (w.heap.size + 2)) wr).grown hg2 (fun k _ e => by injection e with e; exact e.symm)) (fun k h e => h.2 e)
      have hN2d := hN2.below ((Below.refl _ w2).drew)
      have hO2d := hO2.below ((Below.refl _ w2).drew)
      have n0 : w2.cell? ⟨w.heap.size + 1, 0, none⟩ = some (.map (some w.heap.size)) := hN2.hdr.cell 0
      have HC := Lib.hid hc
      have HLK := Lib.hid hlk
      have HLT := Lib.hid hlt
      have HRG := Lib.hid hrg2
      have HL := Lib.hid hL
      have hk : cs'.length < maxLen := by
        have := congrArg List.length hL
        rw [List.length_map] at this
        have h2 := List.length_filter_le (fun x : Fl => !left (.string x.name)) (cs.map Fc.fl)
        rw [List.length_map] at h2
        simp only [maxLen]; omega
      clear hlk hlt hrg2 hL
      simp only [Fc.ptr] at hen ⊢
      go_wp2
      go_region_held3 (fun w' => w'.cell? ⟨c.blk, 0, none⟩ = some (.slice c.A c.b.length c.cap) ∧ w'.cell? ⟨c.blk, 1, none⟩ = some (.int .i64 c.s) ∧ w'.cell? ⟨w.heap.size + 1, 0, none⟩ = some (.map (some w.heap.size))) (go_keep)
        (first
          | (go_at_call 11; refine (clone_any (w := w2.drew) (hO2d.con c hc).2.reads (by have := hsm c hc; omega)).mono ?_; rintro e w3 ⟨v, rfl, hv, hb3⟩; obtain ⟨A', cap', rfl⟩ := hv.slice; have hN3 := (hN2d.below hb3).below ((Below.refl _ w3).alloc (Nat.le_refl _) (.cells #[.slice A' c.b.length cap', .int .i64 c.s] 49)); have hO3 := (hO2d.below hb3).below ((Below.refl _ w3).alloc (Nat.le_refl _) (.cells #[.slice A' c.b.length cap', .int .i64 c.s] 49)); obtain ⟨w4, hup, hown4, hg4⟩ := hN3.map.update lawS Try.underlying39 hk HKEY.out (val := .pointer (some ⟨w3.heap.size, 0, none⟩)) rfl; have hN4 := hN3.hdr.grown hg4 (fun e => map_ne hN3.map hN3.hdr (by injection e with e; exact e.symm)); have hc4 := (hO3.con c hc).1.grown hg4 (fun e => map_ne hN3.map (hO3.con c hc).1 (by injection e with e; exact e.symm)); have d0' : w3.cell? ⟨c.blk, 0, none⟩ = some (.slice c.A c.b.length c.cap) := ((hO2d.below hb3).con c hc).1.cell 0; have d1' : w3.cell? ⟨c.blk, 1, none⟩ = some (.int .i64 c.s) := ((hO2d.below hb3).con c hc).1.cell 1; have n0' : w3.cell? ⟨w.heap.size + 1, 0, none⟩ = some (.map (some w.heap.size)) := (hN2d.below hb3).hdr.cell 0; have d0'' : w4.cell? ⟨c.blk, 0, none⟩ = some (.slice c.A c.b.length c.cap) := hc4.cell 0; have d1'' : w4.cell? ⟨c.blk, 1, none⟩ = some (.int .i64 c.s) := hc4.cell 1; have n0'' : w4.cell? ⟨w.heap.size + 1, 0, none⟩ = some (.map (some w.heap.size)) := hN4.cell 0))
      have hR2 : (w.heap.size + 2) < w2.heap.size := hR
      obtain ⟨cs'', hd'', hl''⟩ := copy_round hN2d hv hb3 hown4 ((Mods.refl (· = w.heap.size) _).grown hg4 (fun k _ e => by injection e with e; exact e.symm)) (fun k h => ⟨Nat.le_trans hbw2.size h, fun e => Nat.lt_irrefl _ (Nat.lt_of_lt_of_le hR2 (e ▸ h))⟩)
      have hB4 : Mods (· = w.heap.size) w2 w4 := (((Mods.refl _ w2).drew.below hb3).alloc _).grown hg4 (fun k _ e => by injection e with e; exact e.symm)
      have hbm2 : w.heap.size < w2.heap.size := by omega
      go_roundw
      case rel =>
        refine ⟨_, _, _, _, _, _, _, _, _, _, _, _, _, _, _, _, _, _, _, _, _, _, _, ⟨_, _, cs'', ranges_mods HRG.out hB4 (by omega) (by omega), hd'', ?_, ?_⟩, rfl⟩
        · rw [hl'', HL.out, putS_filter (key := Fl.name) (by rw [List.pairwise_map]; exact hris.out) (List.mem_map.2 ⟨c, HC.out, rfl⟩)]
          apply List.filter_congr
          intro y _
          rw [Bool.eq_iff_iff]
          simp only [Lit.sameKey, Fc.fl, Bool.not_and, Bool.not_not, Bool.or_eq_true, Bool.not_eq_true', beq_iff_eq]
          exact or_congr_right ⟨of_decide_eq_true, decide_eq_true⟩
        · exact hbw2.trans (hB4.below_of (B := w.heap.size) (fun k h => by omega) (Nat.le_trans (Nat.le_refl _) hbw2.size))
      case measure => rw [(ranges_mods HRG.out hB4 (by omega) (by omega)).left_eq, hrg.left_eq]; exact HLT.out

end Go.Proofs.Ytkfmfllniakhkaa
