/- The program's net, Take, Write, Dial, Conns: walks. -/
import Derived.Test.YtfhilhfdgcdpfaaNetW
import Derived.Laws.CopyOwn
import Derived.Laws.MakeOwn
import Derived.Shelf.SlIterI.Nil
import Derived.Shelf.SortM.Plain
import Derived.Shelf.SortM.SortNone
namespace Go.Proofs.Ytfhilhfdgcdpfaa
open Go.RowKit Go.Maps Go.Sort Go.Shelf
set_option linter.unusedVariables false

set_option maxHeartbeats 400000 in
theorem take_yes (id ad : Int) (bn bm k c n cap : Nat) (A : Option Addr) (bs : List UInt8) (D : DataW Value) (w : World) (c0 : w.cell? ⟨bn, 0, none⟩ = some (.map (some bm))) (hown : w.ownsMap Try.prog 3 hld bm k D)
    (hid : (Lit.int .i64 id).wf = true) (hat : D.atKey (.int .i64 id) (.held (.pointer none)) = .held (.pointer (some ⟨c, 0, none⟩)))
    (hc : Blk w c 52 #[.int .i64 ad, .slice A n cap]) (hr : w.ownsRow 0 5 1 (.slice A n cap) n (u8s bs)) (hn : n ≤ 1073741824) :
    Calls Try.prog 9 #[.pointer (some ⟨bn, 0, none⟩), .int .i64 id] w fun e w' => ∃ v, e = .returned (.tuple #[v, .int .i64 0]) ∧ w'.ownsRow w.heap.size 5 1 v n (u8s bs) ∧
      Blk w' c 52 #[.int .i64 ad, .slice none 0 0] ∧ Mods (· = c) w w' := by
  have hof := Lib.hid (of_any id bn bm k (some ⟨c, 0, none⟩) D w c0 hown hid hat)
  clear hat
  have c1 : w.cell? ⟨c, 1, none⟩ = some (.slice A n cap) := hc.cell 1
  obtain ⟨i0, hi0, hz0, hz1, hz2⟩ := info_parts info_u8
  have hrd := Reads.of_own hr
  have hcl : c < w.heap.size := hc.lt
  have hbl : bs.length = n := by have := hr.1; simp [u8s_length] at this; exact this
  have HB := Lib.hid hbl
  clear hbl
  have hmk : ∀ w : World, (Instr.makeSlice 29 (.int .i64 (n : Int)) (.int .i64 (n : Int))).run Try.prog w = .ok (.slice (some ⟨w.heap.size, 0, none⟩) n n) (w.alloc (.cells (Array.replicate n (.int .u8 0)) 5)) :=
    fun w => run_make_one w _ _ i0 (.int .u8 0) rfl Try.underlying29 hi0 hz0 hz1 n (by rw [hz2]; omega) (by omega)
  obtain ⟨w1, hcp, hb1, hg1, hs1⟩ := run_copy_whole (P := Try.prog) (w.alloc (.cells (Array.replicate n (.int .u8 0)) 5)) 29 29 3 5 Try.underlying29 (by simp [hi0, hz1]) w.heap.size 5 _ n cap w.heap.size A (u8s bs)
    (Blk.new _ _ _) (by simp) (hrd.alloc (Nat.le_refl _) _) (u8s_one _)
  have hbc := (hc.alloc (.cells (Array.replicate n (.int .u8 0)) 5)).grown hg1 (by simp; omega)
  have hm1 : Mods (· = c) w w1 := ((Mods.refl _ w).alloc _).grown hg1 (fun k hk e => by cases e; omega)
  have d1 : w1.cell? ⟨c, 1, none⟩ = some (.slice A n cap) := hbc.cell 1
  have f1 : w1.frozen? ⟨c, 1, none⟩ = false := hbc.frozen 1
  have hb2 : Blk (w1.setCell ⟨c, 1, none⟩ (.slice none 0 0)) c 52 #[.int .i64 ad, .slice none 0 0] := hbc.set_ 1 _
  have hb3 : Blk (w1.setCell ⟨c, 1, none⟩ (.slice none 0 0)) w.heap.size 5 (u8s bs).toArray := hb1.far (p := ⟨c, 1, none⟩) (by simp; omega) _
  have hm2 : Mods (· = c) w (w1.setCell ⟨c, 1, none⟩ (.slice none 0 0)) := hm1.setCell (fun _ => rfl) _
  have hsz : w.heap.size < (w1.setCell ⟨c, 1, none⟩ (.slice none 0 0)).heap.size := hb3.lt
  have hcl := Lib.hid (Try.bytes_Clone_at ⟨w.heap.size, 0, none⟩ n n (u8i bs) (w1.setCell ⟨c, 1, none⟩ (.slice none 0 0)) (by rw [u8i_length]; exact HB.out) (by omega) (fun i hi => by
    have := hb3.cell i
    rw [List.getElem?_toArray, u8s_getD bs i (by have := HB.out; omega)] at this
    rw [← this]
    by_cases h : i = 0
    · subst h; rfl
    · simp [Addr.add, h]))
  have HB3 := Lib.hid hb3
  have HB2 := Lib.hid hb2
  have HS1 := Lib.hid hs1
  clear hs1 hb3 hb2 hb1 hbc
  go_enter Try.func9, Try.ntmps9
  go_wp2_with fail
  refine hof.out.mono ?_
  rintro e w' ⟨rfl, rfl⟩
  go_wp2_with fail
  refine hcl.out.mono ?_
  rintro e w2 ⟨v, rfl, hv, _, hbw⟩
  go_wp2
  go_ret2
  exact ⟨v, rfl, own_base (by rw [← u8i_map]; exact hv) (Nat.le_of_lt hsz), HB2.out.below hbw (by omega), hm2.below hbw⟩

set_option maxHeartbeats 400000 in
theorem write_yes (id ad : Int) (bn bm k c n cap m mc B : Nat) (A M : Option Addr) (bs ms : List UInt8) (D : DataW Value) (w : World) (c0 : w.cell? ⟨bn, 0, none⟩ = some (.map (some bm))) (hown : w.ownsMap Try.prog 3 hld bm k D)
    (hid : (Lit.int .i64 id).wf = true) (hat : D.atKey (.int .i64 id) (.held (.pointer none)) = .held (.pointer (some ⟨c, 0, none⟩)))
    (hc : Blk w c 52 #[.int .i64 ad, .slice A n cap]) (hr : w.ownsRow 0 5 1 (.slice A n cap) n (u8s bs)) (hs : Reads w B 1 M m (u8s ms)) (hnm : n + m ≤ 1073741824) :
    Calls Try.prog 7 #[.pointer (some ⟨bn, 0, none⟩), .int .i64 id, .slice M m mc] w fun e w' => ∃ v, e = .returned (.int .i64 0) ∧ w'.ownsRow 0 5 1 v (n + m) (u8s (bs ++ ms)) ∧
      Blk w' c 52 #[.int .i64 ad, v] ∧ Mods (fun k => k = c ∨ (Value.slice A n cap).ownBlock = some k) w w' ∧ (v.ownBlock = (Value.slice A n cap).ownBlock ∨ v.ownBlock = some w.heap.size) := by
  have hof := Lib.hid (of_any id bn bm k (some ⟨c, 0, none⟩) D w c0 hown hid hat)
  clear hat
  have c1 : w.cell? ⟨c, 1, none⟩ = some (.slice A n cap) := hc.cell 1
  obtain ⟨i0, hi0, hz0, hz1, hz2⟩ := info_parts info_u8
  have hne := own_blk_ne hr hc (by decide)
  have hcl : c < w.heap.size := hc.lt
  go_enter Try.func7, Try.ntmps7
  go_wp2_with fail
  refine hof.out.mono ?_
  rintro e w' ⟨rfl, rfl⟩
  go_wp2_with
    (at_builtin
     refine wpList_append_any _ rfl (.tmp 21) (.tmp 22) _ rfl 0 5 i0 _ 1 1 Try.underlying29 hi0 hz0 hz1 hz2 rfl (by omega) (.slice A n cap) n (u8s bs) rfl
       hr B M m mc (u8s ms) rfl hs (u8s_one _) (by simp only [maxLen]; omega) (by omega) (Nat.zero_le _) ?_
     intro v1 w1 hown1 hg1 hat1
     obtain ⟨A1, cap1, rfl⟩ := own_slice hown1
     have hbc := hc.grown hg1 (fun e => hne e.symm)
     have d1 : w1.cell? ⟨c, 1, none⟩ = some (.slice A n cap) := hbc.cell 1
     have f1 : w1.frozen? ⟨c, 1, none⟩ = false := hbc.frozen 1)
  go_ret
  have hm1 : Mods (fun k => k = c ∨ (Value.slice A n cap).ownBlock = some k) w' w1 := (Mods.refl _ w').grown hg1 (fun k hk e => .inr e)
  refine ⟨.slice A1 (n + m) cap1, rfl, ?_, hbc.set_ 1 _, hm1.setCell (fun _ => .inl rfl) _, hat1⟩
  rw [u8s_append]
  exact own_far hown1 (by rcases hat1 with h | h <;> rw [h] <;> first | exact hne | (simp; omega)) _

theorem dial_bad (ad : Int) (bn bm : Nat) (w : World) (c0 : w.cell? ⟨bn, 0, none⟩ = some (.map (some bm))) (h : ad < 0 ∨ 4294967295 < ad) :
    Calls Try.prog 5 #[.pointer (some ⟨bn, 0, none⟩), .int .i64 ad] w fun e w' => e = .returned (.tuple #[.int .i64 0, .int .i64 1]) ∧ w' = w := by
  have hmn := run_eql_map_nil (P := Try.prog) w 47 3 50 (some bm) Try.underlying47
  rcases h with h | h
  · go_enter Try.func5, Try.ntmps5
    go_wp2
    all_goals go_ret2
    all_goals exact ⟨rfl, rfl⟩
  · have h' : ¬ ad < 0 := by omega
    go_enter Try.func5, Try.ntmps5
    go_wp2
    all_goals go_ret2
    all_goals exact ⟨rfl, rfl⟩

set_option maxHeartbeats 400000 in
theorem dial_ok (ad last : Int) (bn bm k : Nat) (D : DataW Value) (w : World) (hb : Blk w bn 49 #[.map (some bm), .int .i64 last]) (hown : w.ownsMap Try.prog 3 hld bm k D) (hk : k < maxLen)
    (h0 : 0 ≤ ad) (h1 : ad ≤ 4294967295) (hl0 : 0 ≤ last) (hl1 : last ≤ 1000000) :
    Calls Try.prog 5 #[.pointer (some ⟨bn, 0, none⟩), .int .i64 ad] w fun e w' => e = .returned (.tuple #[.int .i64 (last + 1), .int .i64 0]) ∧
      Blk w' bn 49 #[.map (some bm), .int .i64 (last + 1)] ∧ Blk w' w.heap.size 52 #[.int .i64 ad, .slice none 0 0] ∧
      w'.ownsMap Try.prog 3 hld bm (k + 1) (D.put (.int .i64 (last + 1)) (.held (.pointer (some ⟨w.heap.size, 0, none⟩)))) ∧ Mods (fun k => k = bn ∨ k = bm) w w' := by
  have hmn := run_eql_map_nil (P := Try.prog) w 47 3 50 (some bm) Try.underlying47
  have c0 : w.cell? ⟨bn, 0, none⟩ = some (.map (some bm)) := hb.cell 0
  have c1 : w.cell? ⟨bn, 1, none⟩ = some (.int .i64 last) := hb.cell 1
  have f1 : w.frozen? ⟨bn, 1, none⟩ = false := hb.frozen 1
  have hne := map_ne hown hb
  have hbl := hb.lt
  have hml := hown.lt
  have hwf : (Lit.int .i64 (last + 1)).wf = true := WalkArith.wf_i64 (by omega)
  have hm0 : Mods (fun k => k = bn ∨ k = bm) w ((w.setCell ⟨bn, 1, none⟩ (.int .i64 (last + 1))).alloc (.cells #[.int .i64 ad, .slice none 0 0] 52)).drew :=
    (((Mods.refl _ w).setCell (p := ⟨bn, 1, none⟩) (fun _ => .inl rfl) _).alloc _).drew
  have hown1 : ((w.setCell ⟨bn, 1, none⟩ (.int .i64 (last + 1))).alloc (.cells #[.int .i64 ad, .slice none 0 0] 52)).drew.ownsMap Try.prog 3 hld bm k D :=
    (map_mods hown ((Mods.refl (· = bn) w).setCell (p := ⟨bn, 1, none⟩) (fun _ => rfl) (.int .i64 (last + 1))) hne).alloc _
  have hb1 : Blk ((w.setCell ⟨bn, 1, none⟩ (.int .i64 (last + 1))).alloc (.cells #[.int .i64 ad, .slice none 0 0] 52)).drew bn 49 #[.map (some bm), .int .i64 (last + 1)] :=
    (hb.set_ 1 (.int .i64 (last + 1))).alloc _
  have hb2 : Blk ((w.setCell ⟨bn, 1, none⟩ (.int .i64 (last + 1))).alloc (.cells #[.int .i64 ad, .slice none 0 0] 52)).drew w.heap.size 52 #[.int .i64 ad, .slice none 0 0] := by
    have := Blk.new (w.setCell ⟨bn, 1, none⟩ (.int .i64 (last + 1))) 52 #[.int .i64 ad, .slice none 0 0]
    rw [World.size_setCell] at this
    exact this.drew
  obtain ⟨w2, hup, hown2, hg2⟩ := hown1.update lawI Try.underlying47 hk (keyOf_int_mk Try.underlying3 hwf) (val := .pointer (some ⟨w.heap.size, 0, none⟩)) rfl
  have HB1 := Lib.hid (hb1.grown hg2 (fun e => hne (by injection e with e; exact e.symm)))
  have HB2 := Lib.hid (hb2.grown hg2 (fun e => by injection e; omega))
  have HM := Lib.hid (hm0.grown hg2 (fun k hk e => .inr (by injection e with e; exact e.symm)))
  have e0 : w2.cell? ⟨bn, 0, none⟩ = some (.map (some bm)) := HB1.out.cell 0
  have e1 : w2.cell? ⟨bn, 1, none⟩ = some (.int .i64 (last + 1)) := HB1.out.cell 1
  have g0 : (w.setCell ⟨bn, 1, none⟩ (.int .i64 (last + 1))).cell? ⟨bn, 0, none⟩ = some (.map (some bm)) := (hb.set_ 1 _).cell 0
  have g1 : (w.setCell ⟨bn, 1, none⟩ (.int .i64 (last + 1))).cell? ⟨bn, 1, none⟩ = some (.int .i64 (last + 1)) := (hb.set_ 1 _).cell 1
  clear hb1 hb2 hm0 hown1
  go_enter Try.func5, Try.ntmps5
  go_wp2
  go_region_held3 (fun w' => w'.cell? ⟨bn, 0, none⟩ = some (.map (some bm)) ∧ w'.cell? ⟨bn, 1, none⟩ = some (.int .i64 (last + 1))) (go_keep) (first | fail)
  go_wp2
  go_ret2
  exact ⟨rfl, HB1.out, HB2.out, hown2, HM.out⟩

theorem sortsA (m : Nat) : AnyZI.SortsIn Try.prog Try.sortedA_ren Fence.wide m :=
  ⟨fun blk off cap ss W hH hblk hsz => callsIn_wide.2 (AnyM.slices_Sort_int Try.sortA blk off cap ss W hH hblk hsz),
   fun p cap W => callsIn_wide.2 (AnyM.slices_Sort_int_none Try.sortA p cap W)⟩

set_option maxHeartbeats 1000000 in
theorem conns_any (bn b nn : Nat) (D0 : DataW Value) (w : World) (c0 : w.cell? ⟨bn, 0, none⟩ = some (.map (some b))) (hown : w.ownsMap Try.prog 3 hld b nn D0) (hmax : Maps.size D0 ≤ maxLen) (hbytes : Maps.size D0 * 8 ≤ 140737488355328) :
    Calls Try.prog 17 #[.pointer (some ⟨bn, 0, none⟩)] w fun e w' => ∃ (v : Value) (ss : List Int), e = .returned v ∧ ss.Perm (intKeys D0) ∧
      w'.ownsRow w.heap.size 3 1 v ss.length ((ss.mergeSort (fun x y => decide (x ≤ y))).map encZ) ∧ Below w.heap.size w w' := by
  refine (callsIn_wide (n := 6)).1 ?_
  have hbl := hown.lt
  have hseq : SeqGives Fence.wide 2 Try.prog 26 #[.pointer (some ⟨w.heap.size, 0, none⟩)] encZ (fun ss => ss.Perm (intKeys D0)) (Maps.size D0) (w.alloc (.cells #[.map (some b)] 47)) :=
    AnyZI.keys_gives (ρ := Try.keysA_ren) { Try.keysA with } Fence.wide _ trivial rfl (by omega) w.heap.size b nn D0 _ (by simp) (by simp) (by
      obtain ⟨es, clock, hb, Ft, hs, hD⟩ := hown
      exact ⟨es, clock, (Below.heap_alloc _ _ b hbl).trans hb, Ft, hs, hD⟩)
  have cK : ∀ mb W, CallsIn Fence.wide 5 Try.prog 23 #[.map mb] W fun e w' => e = .returned (.func (.func 26) #[] #[.pointer (some ⟨W.heap.size, 0, none⟩)]) ∧ w' = W.alloc (.cells #[.map mb] 47) := fun mb W => AnyZI.keys_in Try.keysA Fence.wide 5 trivial rfl mb W
  have cS := AnyZI.sorted_in Try.sortedA Fence.wide 5 trivial trivial trivial trivial rfl (by omega) (sortsA _) (enters_of Try.func25 (by kernel_rfl) rfl) 26 #[.pointer (some ⟨w.heap.size, 0, none⟩)] trivial (enters_of Try.func26 (by kernel_rfl) rfl) _ _ hmax hbytes _ hseq
  change CallsIn _ _ Try.prog 22 _ _ _ at cS
  have hfK : Fence.wide.fn 23 := trivial
  have hfS : Fence.wide.fn 22 := trivial
  refine callsIn_of_wp Try.func17 rfl trivial ?_ rfl
  simp only [Try.ntmps17, List.size_toArray, List.length_cons, List.length_nil, Nat.reduceAdd, Nat.reduceSub, Array.replicate_succ, Array.replicate_zero, List.push_toArray, List.append_toArray, List.nil_append, List.cons_append]
  gi_wp2_with (first
    | (gi_at_call 23; refine (cK _ _).mono ?_; rintro e w' ⟨rfl, rfl⟩)
    | (gi_at_call 22; refine cS.mono ?_; rintro e w' ⟨v, ss, rfl, hS, hrow, hnil, hb⟩))
  go_ret
  exact ⟨v, ss, rfl, hS, own_base hrow (by simp), ((Below.refl _ w).alloc (Nat.le_refl _) _).trans (hb.mono (by simp))⟩

end Go.Proofs.Ytfhilhfdgcdpfaa
