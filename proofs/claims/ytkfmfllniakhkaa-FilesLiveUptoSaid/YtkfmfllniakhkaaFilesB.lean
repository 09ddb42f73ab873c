/- The program's disk: Append: the walk. -/
import Derived.Test.YtkfmfllniakhkaaFilesA
namespace Go.Proofs.Ytkfmfllniakhkaa
open Go.RowKit Go.Maps Go.Sort
set_option linter.unusedVariables false

def Part (short : Int) (m : Nat) (ms : List UInt8) (m' : Nat) (ms' : List UInt8) (er : Int) : Prop :=
  ((short = -1 ∨ (m : Int) ≤ short) ∧ m' = m ∧ ms' = ms ∧ er = 0) ∨ (∃ k : Nat, short = (k : Int) ∧ k < m ∧ m' = k ∧ ms' = ms.take k ∧ er = 61)

def Full (room : Int) (u : Nat) (ob : List UInt8) (m' : Nat) : Prop := 1048576 < ob.length + m' ∨ room < (u : Int) + (m' : Int)

theorem Reads.u8head {w : World} {B m k : Nat} {A : Option Addr} {ms : List UInt8} (h : Reads w B 1 A m (u8s ms)) (hk : k ≤ m) : Reads w B 1 A k (u8s (ms.take k)) := by
  have hm : (u8s ms).take k = u8s (ms.take k) := by simp [u8s, List.map_take]
  rw [← hm]
  refine ⟨by rw [List.length_take, h.1]; omega, fun hn => ?_⟩
  obtain ⟨ad, e, hb, hc⟩ := h.2 (by omega)
  refine ⟨ad, e, hb, fun j u hu => hc j u ?_⟩
  rw [List.getElem?_take] at hu
  split at hu
  · exact hu
  · cases hu

set_option maxRecDepth 10000 in
set_option maxHeartbeats 8000000 in
theorem append_go {w : World} {S : Nat → Prop} {bd bm : Nat} {room short fuse : Int} {cs : List Fc} (h : DiskOk w S bd bm room short fuse cs) (hu : used (cs.map Fc.fl) ≤ 1099511627776000000)
    (s : ByteArray) (hs : s.size ≤ maxLen) (hn : nameOk s.data.toList = true) (hf : fuse ≠ 0) (hl : -1 ≤ fuse) (hh : fuse ≤ 9223372036854775807) (hsh : short ≤ 9223372036854775807)
    (hlen : cs.length ≤ 1000000) (M : Option Addr) (m mc m' : Nat) (ms ms' : List UInt8) (er : Int) (hr : Reads w w.heap.size 1 M m (u8s ms)) (hm : m ≤ 140737488355328) (hmc : m ≤ mc) (hM : 0 < m → ∀ ad, M = some ad → ¬ S ad.block)
    (hpart : Part short m ms m' ms' er) (ob : List UInt8) (sy : Nat) (hex : (∃ c ∈ cs, c.name = s.data.toList ∧ ob = c.b ∧ sy = c.s) ∨ ((∀ c ∈ cs, c.name ≠ s.data.toList) ∧ ob = [] ∧ sy = 0)) (hob : ob.length ≤ 1048576) :
    (Full room (used (cs.map Fc.fl)) ob m' → Calls Try.prog 12 #[.pointer (some ⟨bd, 0, none⟩), .string s, .slice M m mc] w (AppPost S w bd bm room fuse (cs.map Fc.fl) 0 4)) ∧
    (¬ Full room (used (cs.map Fc.fl)) ob m' → Calls Try.prog 12 #[.pointer (some ⟨bd, 0, none⟩), .string s, .slice M m mc] w (AppPost S w bd bm room fuse (putS Fl.name ⟨s.data.toList, ob ++ ms', sy⟩ (cs.map Fc.fl)) (m' : Int) er)) := by
  have hi := isName_any s w hs
  rw [hn] at hi
  have HI := Lib.hid hi
  have hbl := h.hdr.lt
  have HF := Lib.hid hf
  have H := Lib.hid h
  obtain ⟨i0, hi0, hz0, hz1, hz2⟩ := info_parts info_u8
  have hkey := Lib.hid (WideMaps.keyOf_string_mk (P := Try.prog) Try.underlying9 hs)
  have hml : ms.length = m := by have := hr.1; simpa [u8s_length] using this
  have HR : Hid (Reads w w.heap.size 1 M m' (u8s ms') ∧ ms'.length = m' ∧ m' ≤ m) := by
    rcases hpart with ⟨_, rfl, rfl, _⟩ | ⟨k, _, hk, rfl, rfl, _⟩
    · exact ⟨hr, hml, Nat.le_refl _⟩
    · exact ⟨hr.u8head (by omega), by rw [List.length_take]; omega, by omega⟩
  have hm'm := HR.out.2.2
  have HML := Lib.hid hml
  have hris := h.ris
  -- the file, or none
  have hex' : (∃ c ∈ cs, c.name = s.data.toList ∧ ob = c.b ∧ sy = c.s ∧ (datS Fc.name Fc.ptr cs).atKey (.string s.data.toList) (.held (.pointer none)) = .held (.pointer (some ⟨c.blk, 0, none⟩))) ∨ (ob = [] ∧ sy = 0 ∧ (datS Fc.name Fc.ptr cs).atKey (.string s.data.toList) (.held (.pointer none)) = .held (.pointer none)) := by
    rcases hex with ⟨c, hc, e, e1, e2⟩ | ⟨hno, e1, e2⟩
    · refine .inl ⟨c, hc, e, e1, e2, ?_⟩
      rw [← e]
      exact datS_hit hris hc _
    · exact .inr ⟨e1, e2, datS_miss hno _⟩
  clear hi hn hf hml hex hris
  have hbig : 1048576 < ob.length + m' ∨ (¬ 1048576 < ob.length + m' ∧ room < (used (cs.map Fc.fl) : Int) + (m' : Int)) ∨ (¬ 1048576 < ob.length + m' ∧ ¬ room < (used (cs.map Fc.fl) : Int) + (m' : Int)) := by omega
  have hw1 : IntKind.i64.wrap ((ob.length : Int) + (m' : Int)) = (ob.length : Int) + (m' : Int) := IntWalk.i64_in _ (by omega)
  have hw2 : IntKind.i64.wrap (((used (cs.map Fc.fl) : Nat) : Int) + (m' : Int)) = ((used (cs.map Fc.fl) : Nat) : Int) + (m' : Int) := IntWalk.i64_in _ (by omega)
  have HU := Lib.hid (rfl : used (cs.map Fc.fl) = used (cs.map Fc.fl))
  have key : ∀ L n r, ((1048576 < ob.length + m' ∨ (¬ 1048576 < ob.length + m' ∧ room < (used (cs.map Fc.fl) : Int) + (m' : Int))) ∧ L = cs.map Fc.fl ∧ n = 0 ∧ r = 4) ∨ ((¬ 1048576 < ob.length + m' ∧ ¬ room < (used (cs.map Fc.fl) : Int) + (m' : Int)) ∧ L = putS Fl.name ⟨s.data.toList, ob ++ ms', sy⟩ (cs.map Fc.fl) ∧ n = (m' : Int) ∧ r = er) →
      Calls Try.prog 12 #[.pointer (some ⟨bd, 0, none⟩), .string s, .slice M m mc] w (AppPost S w bd bm room fuse L n r) := by
    intro L n r hwhat
    rcases hex' with ⟨c, hc, hcn, rfl, rfl, hat⟩ | ⟨rfl, rfl, hat⟩
    · have HCN := Lib.hid hcn
      clear hcn
      have HAT := Lib.hid hat
      clear hat
      rcases hpart with ⟨hsh1 | hsh1, e1, e2, e3⟩ | ⟨k, hk, hkm, e1, e2, e3⟩
      focus
        subst hsh1 e1 e2 e3
        have t0 : True := trivial
      rotate_left
      focus
        subst e1 e2 e3
        have t1 : (short != -1) = true := bne_iff_ne.2 (by omega)
        have t2 : decide (short < (m' : Int)) = false := by simp; omega
        have t0 : True := trivial
      rotate_left
      focus
        subst hk e1 e3
        have E2 := Lib.hid e2
        clear e2
        have t1 : ((m' : Int) != -1) = true := bne_iff_ne.2 (by omega)
        have t2 : decide ((m' : Int) < (m : Int)) = true := by simp; omega
        have t3 : m' ≤ mc := by omega
        have t0 : True := trivial
      rotate_left
      all_goals go_enter Try.func12, Try.ntmps12
      all_goals go_wp2_with (first
        | (go_at_call 42; refine HI.out.mono ?_; rintro e w1 ⟨rfl, hb1⟩; have h1 := H.out.below hb1)
        | (go_at_call 41; refine (change_ok bd bm room _ fuse _ h1.hdr HF.out hl hh).mono ?_; rintro e w2 ⟨rfl, hd2, hm2, hz⟩; have HZ := Lib.hid hz; clear hz; have h2 := h1.head hd2 hm2; have e2 := hd2.cell 2; simp only [List.getElem?_toArray, List.getElem?_cons_succ, List.getElem?_cons_zero] at e2; have f2 : w2.frozen? ⟨bd, 2, none⟩ = false := hd2.frozen 2; have h3 := h2.head (hd2.set_ 2 (.int .i64 (-1))) ((Mods.refl (· = bd) w2).setCell (p := ⟨bd, 2, none⟩) (fun _ => rfl) _); have hl3 := look h3.map hs HAT.out; have e0 : (w2.setCell ⟨bd, 2, none⟩ (.int .i64 (-1))).cell? ⟨bd, 0, none⟩ = some (.map (some bm)) := h3.hdr.cell 0))
      all_goals
        have hm3 : Mods (· = bd) w (w2.setCell ⟨bd, 2, none⟩ (.int .i64 (-1))) := ((Mods.below (Mods.refl _ w) hb1).trans hm2 (fun i _ e => e)).setCell (p := ⟨bd, 2, none⟩) (fun _ => rfl) _
        have hH3 : Hand w (w2.setCell ⟨bd, 2, none⟩ (.int .i64 (-1))) S cs s.data.toList c.blk c.A c.cap c.b c.s := HCN.out ▸ Hand.old h3 hc
        generalize hw3 : (w2.setCell ⟨bd, 2, none⟩ (.int .i64 (-1))) = w3 at h3 hl3 e0 hm3 hH3 ⊢
        clear hw3 e2 f2 hd2 hm2 h2 h1
        have h3d := h3.below (w' := w3.drew) ((Below.refl _ w3).drew)
        have a0 : w3.cell? ⟨bd, 1, none⟩ = some (.int .i64 room) := h3.hdr.cell 1
        have a1 : w3.cell? ⟨c.blk, 0, none⟩ = some (.slice c.A c.b.length c.cap) := hH3.b.cell 0
        rcases hwhat with ⟨hb0 | ⟨hb0, hb9⟩, rfl, rfl, rfl⟩ | ⟨⟨hb0, hb9⟩, rfl, rfl, rfl⟩
        · -- too long
          have hB : decide (1048576 < (c.b.length : Int) + (m' : Int)) = true := decide_eq_true (by omega)
          have hB0 : 1048576 < (c.b.length : Int) + (m' : Int) := by omega
          go_quiet (fail)
          go_wp2
          go_ret2
          exact ⟨rfl, ⟨cs, (h3.below (below_drewN (Below.refl _ w3) _)).more (fun _ h => .inl h), rfl⟩, (hm3.drewN _).mono (fun i _ e => e ▸ H.out.ownd.1)⟩
        · -- no room
          have hB : decide (1048576 < (c.b.length : Int) + (m' : Int)) = false := decide_eq_false (by omega)
          have hB0 : ¬ 1048576 < (c.b.length : Int) + (m' : Int) := by omega
          go_region_held3 (fun w' => w'.cell? ⟨bd, 1, none⟩ = some (.int .i64 room) ∧ w'.cell? ⟨c.blk, 0, none⟩ = some (.slice c.A c.b.length c.cap)) (go_keep)
            (first
              | (go_at_call 34; refine (used_any h3d (by omega)).mono ?_; rintro e w4 ⟨rfl, hb4⟩; have h4 := h3d.below hb4; have hH4 := (hH3.below ((Below.refl _ w3).drew)).below hb4; have a0' : w4.cell? ⟨bd, 1, none⟩ = some (.int .i64 room) := h4.hdr.cell 1; have a1' : w4.cell? ⟨c.blk, 0, none⟩ = some (.slice c.A c.b.length c.cap) := hH4.b.cell 0))
          go_wp2
          go_ret2
          exact ⟨rfl, ⟨cs, h4.more (fun _ h => .inl h), rfl⟩, ((hm3.drew).below hb4).mono (fun i _ e => e ▸ H.out.ownd.1)⟩
        · -- written
          have hB : decide (1048576 < (c.b.length : Int) + (m' : Int)) = false := decide_eq_false (by omega)
          have hB0 : ¬ 1048576 < (c.b.length : Int) + (m' : Int) := by omega
          go_region_held3 (fun w' => w'.cell? ⟨bd, 1, none⟩ = some (.int .i64 room) ∧ w'.cell? ⟨c.blk, 0, none⟩ = some (.slice c.A c.b.length c.cap)) (go_keep)
            (first
              | (go_at_call 34; refine (used_any h3d (by omega)).mono ?_; rintro e w4 ⟨rfl, hb4⟩; have h4 := h3d.below hb4; have hH4 := (hH3.below ((Below.refl _ w3).drew)).below hb4; have a0' : w4.cell? ⟨bd, 1, none⟩ = some (.int .i64 room) := h4.hdr.cell 1; have a1' : w4.cell? ⟨c.blk, 0, none⟩ = some (.slice c.A c.b.length c.cap) := hH4.b.cell 0))
          have hm4 : Mods (· = bd) w w4 := (hm3.drew).below hb4
          have hr4 := HR.out.1.modsA hm4 (Nat.le_refl _) (fun h0 ad e h => hM (by omega) ad e (h ▸ H.out.ownd.1))
          have hne1 := hH4.r.blk_ne hH4.b (by decide)
          have hne2 := hH4.r.blk_ne h4.hdr (by decide)
          have hne3 := hH4.r.map_ne h4.map
          have hne4 : bd ≠ c.blk := Blk.ne_ h4.hdr hH4.b (by decide)
          have hne5 : bm ≠ c.blk := map_ne h4.map hH4.b
          go_wp2_with (first
            | (at_builtin; refine wpList_append_row _ rfl (.tmp 76) (.tmp 77) _ rfl 0 5 i0 _ 1 1 Try.underlying30 hi0 hz0 hz1 hz2 rfl (by omega) (.slice c.A c.b.length c.cap) c.b.length (u8s c.b) rfl hH4.r w.heap.size M m' mc (u8s ms') rfl hr4 (u8s_one _) (by simp only [maxLen]; omega) (by omega) (Nat.zero_le _) ?_; intro v5 w5 hrow5 hg5 hat5; obtain ⟨A5, cap5, rfl⟩ := hrow5.slice; have b5 := hH4.b.grown hg5 (fun e => hne1 e.symm); have x0 : w5.cell? ⟨c.blk, 0, none⟩ = some (.slice c.A c.b.length c.cap) := b5.cell 0; have x1 : w5.frozen? ⟨c.blk, 0, none⟩ = false := b5.frozen 0; have hd6 := (h4.hdr.grown hg5 (fun e => hne2 e.symm)).far (p := ⟨c.blk, 0, none⟩) hne4 (.slice A5 (c.b.length + m') cap5); have x2 : (w5.setCell ⟨c.blk, 0, none⟩ (.slice A5 (c.b.length + m') cap5)).cell? ⟨bd, 0, none⟩ = some (.map (some bm)) := hd6.cell 0; have ho6 : (w5.setCell ⟨c.blk, 0, none⟩ (.slice A5 (c.b.length + m') cap5)).ownsMap Try.prog 9 hld bm cs.length (datS Fc.name Fc.ptr cs) := map_mods h4.map (((Mods.refl (fun i => (Value.slice c.A c.b.length c.cap).ownBlock = some i ∨ i = c.blk) w4).grown hg5 (fun i _ e => .inl e)).setCell (p := ⟨c.blk, 0, none⟩) (fun _ => .inr rfl) _) (fun e => e.elim hne3 hne5))
            | (at_mapUpdate; refine wpList_mapUpdate_in _ rfl _ _ _ 39 rfl 9 46 lawS Try.underlying39 hld bm cs.length _ rfl ho6 (by simp only [maxLen]; omega) _ _ _ rfl rfl hkey.out _ [] rfl ?_; intro w7 ho7 ht7))
          go_ret2
          obtain ⟨hd, hmo⟩ := app_end (w0 := w) (name := s.data.toList) (blk := c.blk) (A := c.A) (cap := c.cap) (ob := c.b) (sy := c.s) h4 hH4 (hm4.mono (fun i _ e => e ▸ H.out.ownd.1)) HR.out.2.1 hrow5 hg5 hat5 ho7 (mods_of_map ht7)
          exact ⟨rfl, hd, hmo⟩
    · simp only [List.length_nil, Nat.zero_add, Int.natCast_zero, Int.zero_add] at hw1 hwhat
      have HAT := Lib.hid hat
      clear hat
      rcases hpart with ⟨hsh1 | hsh1, e1, e2, e3⟩ | ⟨k, hk, hkm, e1, e2, e3⟩
      focus
        subst hsh1 e1 e2 e3
        have t0 : True := trivial
      rotate_left
      focus
        subst e1 e2 e3
        have t1 : (short != -1) = true := bne_iff_ne.2 (by omega)
        have t2 : decide (short < (m' : Int)) = false := by simp; omega
        have t0 : True := trivial
      rotate_left
      focus
        subst hk e1 e3
        have E2 := Lib.hid e2
        clear e2
        have t1 : ((m' : Int) != -1) = true := bne_iff_ne.2 (by omega)
        have t2 : decide ((m' : Int) < (m : Int)) = true := by simp; omega
        have t3 : m' ≤ mc := by omega
        have t0 : True := trivial
      rotate_left
      all_goals go_enter Try.func12, Try.ntmps12
      all_goals go_wp2_with (first
        | (go_at_call 42; refine HI.out.mono ?_; rintro e w1 ⟨rfl, hb1⟩; have h1 := H.out.below hb1)
        | (go_at_call 41; refine (change_ok bd bm room _ fuse _ h1.hdr HF.out hl hh).mono ?_; rintro e w2 ⟨rfl, hd2, hm2, hz⟩; have HZ := Lib.hid hz; clear hz; have h2 := h1.head hd2 hm2; have e2 := hd2.cell 2; simp only [List.getElem?_toArray, List.getElem?_cons_succ, List.getElem?_cons_zero] at e2; have f2 : w2.frozen? ⟨bd, 2, none⟩ = false := hd2.frozen 2; have h3 := h2.head (hd2.set_ 2 (.int .i64 (-1))) ((Mods.refl (· = bd) w2).setCell (p := ⟨bd, 2, none⟩) (fun _ => rfl) _); have hl3 := look h3.map hs HAT.out; have e0 : (w2.setCell ⟨bd, 2, none⟩ (.int .i64 (-1))).cell? ⟨bd, 0, none⟩ = some (.map (some bm)) := h3.hdr.cell 0))
      all_goals
        have hm3 : Mods (· = bd) w (w2.setCell ⟨bd, 2, none⟩ (.int .i64 (-1))) := ((Mods.below (Mods.refl _ w) hb1).trans hm2 (fun i _ e => e)).setCell (p := ⟨bd, 2, none⟩) (fun _ => rfl) _
        have hH3 := Hand.new (w0 := w) h3 hm3.size s.data.toList
        have h3 := h3.below ((Below.refl _ _).alloc (Nat.le_refl _) (.cells #[.slice none 0 0, .int .i64 0] 49))
        have hm3 := hm3.alloc (.cells #[.slice none 0 0, .int .i64 0] 49)
        rw [World.size_setCell] at hH3
        generalize hblk : w2.heap.size = blk at hH3 ⊢
        generalize hw3 : ((w2.setCell ⟨bd, 2, none⟩ (.int .i64 (-1))).alloc (.cells #[.slice none 0 0, .int .i64 0] 49)) = w3 at h3 hm3 hH3 ⊢
        clear hblk hl3 e0
        clear hw3 e2 f2 hd2 hm2 h2 h1
        have h3d := h3.below (w' := w3.drew) ((Below.refl _ w3).drew)
        have a0 : w3.cell? ⟨bd, 1, none⟩ = some (.int .i64 room) := h3.hdr.cell 1
        have a1 : w3.cell? ⟨blk, 0, none⟩ = some (.slice none 0 0) := hH3.b.cell 0
        rcases hwhat with ⟨hb0 | ⟨hb0, hb9⟩, rfl, rfl, rfl⟩ | ⟨⟨hb0, hb9⟩, rfl, rfl, rfl⟩
        · -- too long
          have hB : decide (1048576 < (m' : Int)) = true := decide_eq_true (by omega)
          have hB0 : 1048576 < (m' : Int) := by omega
          go_quiet (fail)
          go_wp2
          go_ret2
          exact ⟨rfl, ⟨cs, (h3.below (below_drewN (Below.refl _ w3) _)).more (fun _ h => .inl h), rfl⟩, (hm3.drewN _).mono (fun i _ e => e ▸ H.out.ownd.1)⟩
        · -- no room
          have hB : decide (1048576 < (m' : Int)) = false := decide_eq_false (by omega)
          have hB0 : ¬ 1048576 < (m' : Int) := by omega
          go_region_held3 (fun w' => w'.cell? ⟨bd, 1, none⟩ = some (.int .i64 room) ∧ w'.cell? ⟨blk, 0, none⟩ = some (.slice none 0 0)) (go_keep)
            (first
              | (go_at_call 34; refine (used_any h3d (by omega)).mono ?_; rintro e w4 ⟨rfl, hb4⟩; have h4 := h3d.below hb4; have hH4 := (hH3.below ((Below.refl _ w3).drew)).below hb4; have a0' : w4.cell? ⟨bd, 1, none⟩ = some (.int .i64 room) := h4.hdr.cell 1; have a1' : w4.cell? ⟨blk, 0, none⟩ = some (.slice none 0 0) := hH4.b.cell 0))
          go_wp2
          go_ret2
          exact ⟨rfl, ⟨cs, h4.more (fun _ h => .inl h), rfl⟩, ((hm3.drew).below hb4).mono (fun i _ e => e ▸ H.out.ownd.1)⟩
        · -- written
          have hB : decide (1048576 < (m' : Int)) = false := decide_eq_false (by omega)
          have hB0 : ¬ 1048576 < (m' : Int) := by omega
          go_region_held3 (fun w' => w'.cell? ⟨bd, 1, none⟩ = some (.int .i64 room) ∧ w'.cell? ⟨blk, 0, none⟩ = some (.slice none 0 0)) (go_keep)
            (first
              | (go_at_call 34; refine (used_any h3d (by omega)).mono ?_; rintro e w4 ⟨rfl, hb4⟩; have h4 := h3d.below hb4; have hH4 := (hH3.below ((Below.refl _ w3).drew)).below hb4; have a0' : w4.cell? ⟨bd, 1, none⟩ = some (.int .i64 room) := h4.hdr.cell 1; have a1' : w4.cell? ⟨blk, 0, none⟩ = some (.slice none 0 0) := hH4.b.cell 0))
          have hm4 : Mods (· = bd) w w4 := (hm3.drew).below hb4
          have hr4 := HR.out.1.modsA hm4 (Nat.le_refl _) (fun h0 ad e h => hM (by omega) ad e (h ▸ H.out.ownd.1))
          have hne1 := hH4.r.blk_ne hH4.b (by decide)
          have hne2 := hH4.r.blk_ne h4.hdr (by decide)
          have hne3 := hH4.r.map_ne h4.map
          have hne4 : bd ≠ blk := Blk.ne_ h4.hdr hH4.b (by decide)
          have hne5 : bm ≠ blk := map_ne h4.map hH4.b
          go_wp2_with (first
            | (at_builtin; refine wpList_append_row _ rfl (.tmp 76) (.tmp 77) _ rfl 0 5 i0 _ 1 1 Try.underlying30 hi0 hz0 hz1 hz2 rfl (by omega) (.slice none 0 0) 0 (u8s []) rfl hH4.r w.heap.size M m' mc (u8s ms') rfl hr4 (u8s_one _) (by simp only [maxLen]; omega) (by omega) (Nat.zero_le _) ?_; intro v5 w5 hrow5 hg5 hat5; obtain ⟨A5, cap5, rfl⟩ := hrow5.slice; have b5 := hH4.b.grown hg5 (fun e => hne1 e.symm); have x0 : w5.cell? ⟨blk, 0, none⟩ = some (.slice none 0 0) := b5.cell 0; have x1 : w5.frozen? ⟨blk, 0, none⟩ = false := b5.frozen 0; have hd6 := (h4.hdr.grown hg5 (fun e => hne2 e.symm)).far (p := ⟨blk, 0, none⟩) hne4 (.slice A5 m' cap5); have x2 : (w5.setCell ⟨blk, 0, none⟩ (.slice A5 m' cap5)).cell? ⟨bd, 0, none⟩ = some (.map (some bm)) := hd6.cell 0; have ho6 : (w5.setCell ⟨blk, 0, none⟩ (.slice A5 m' cap5)).ownsMap Try.prog 9 hld bm cs.length (datS Fc.name Fc.ptr cs) := map_mods h4.map (((Mods.refl (fun i => (Value.slice none 0 0).ownBlock = some i ∨ i = blk) w4).grown hg5 (fun i _ e => .inl e)).setCell (p := ⟨blk, 0, none⟩) (fun _ => .inr rfl) _) (fun e => e.elim hne3 hne5))
            | (at_mapUpdate; refine wpList_mapUpdate_in _ rfl _ _ _ 39 rfl 9 46 lawS Try.underlying39 hld bm cs.length _ rfl ho6 (by simp only [maxLen]; omega) _ _ _ rfl rfl hkey.out _ [] rfl ?_; intro w7 ho7 ht7))
          go_ret2
          obtain ⟨hd, hmo⟩ := app_end (w0 := w) (name := s.data.toList) (blk := blk) (A := none) (cap := 0) (ob := []) (sy := 0) h4 hH4 (hm4.mono (fun i _ e => e ▸ H.out.ownd.1)) HR.out.2.1 hrow5 hg5 hat5 ho7 (by rw [List.length_nil, Nat.zero_add]; exact mods_of_map ht7)
          exact ⟨rfl, hd, hmo⟩
  unfold Full
  exact ⟨fun hF => key _ _ _ (.inl ⟨by omega, rfl, rfl, rfl⟩), fun hF => key _ _ _ (.inr ⟨by omega, rfl, rfl, rfl⟩)⟩

end Go.Proofs.Ytkfmfllniakhkaa
