/- The document's net: Dial, Addr, Take, Write, Drop, Conns: walks. -/
import Derived.Test.YtfhilhfdgcdpfaaRefW
import Derived.Deep.RegionLaw
namespace Go.Proofs.Ytfhilhfdgcdpfaa
open Go.RowKit Go.Maps
set_option linter.unusedVariables false

theorem info_rc : (Try.prog.info? 54).map (fun i => (i.zero, i.size, i.bytes)) = some (some (.agg #[.int .i64 0, .int .i64 0, .slice none 0 0]), 3, 40) := by kernel_rfl

theorem rcells_append (a b : List Rc) : rcells (a ++ b) = rcells a ++ rcells b := by simp [rcells]
theorem rcells_one (l : List Rc) : ∀ u ∈ rcells l, u.oneCell' = true := by
  intro u hu
  obtain ⟨c, _, h⟩ := List.mem_flatMap.1 hu
  simp [rcell] at h
  rcases h with rfl | rfl | rfl <;> rfl

theorem rdial_bad (ad : Int) (xn : Nat) (w : World) (h : ad < 0 ∨ 4294967296 ≤ ad) :
    Calls Try.prog 6 #[.pointer (some ⟨xn, 0, none⟩), .int .i64 ad] w fun e w' => e = .returned (.tuple #[.int .i64 0, .int .i64 1]) ∧ w' = w := by
  rcases h with h | h
  · go_enter Try.func6, Try.ntmps6
    go_wp2
    all_goals go_ret2
    all_goals exact ⟨rfl, rfl⟩
  · have h' : ¬ ad < 0 := by omega
    go_enter Try.func6, Try.ntmps6
    go_wp2
    all_goals go_ret2
    all_goals exact ⟨rfl, rfl⟩

set_option maxHeartbeats 400000 in
theorem rdial_ok (ad last : Int) (xn n cap : Nat) (A : Option Addr) (l : List Rc) (w : World) (hb : Blk w xn 28 #[.slice A n cap, .int .i64 last])
    (hr : w.ownsRow 0 54 3 (.slice A n cap) n (rcells l)) (hn : n ≤ 1000000) (h0 : 0 ≤ ad) (h1 : ad < 4294967296) (hl0 : 0 ≤ last) (hl1 : last ≤ 1000000) :
    Calls Try.prog 6 #[.pointer (some ⟨xn, 0, none⟩), .int .i64 ad] w fun e w' => ∃ A' cap', e = .returned (.tuple #[.int .i64 (last + 1), .int .i64 0]) ∧
      Blk w' xn 28 #[.slice A' (n + 1) cap', .int .i64 (last + 1)] ∧ w'.ownsRow 0 54 3 (.slice A' (n + 1) cap') (n + 1) (rcells (l ++ [⟨last + 1, ad, none, 0, 0⟩])) ∧
      Mods (fun k => k = xn ∨ (Value.slice A n cap).ownBlock = some k) w w' ∧ ((Value.slice A' (n + 1) cap').ownBlock = (Value.slice A n cap).ownBlock ∨ ∃ g, (Value.slice A' (n + 1) cap').ownBlock = some g ∧ w.heap.size ≤ g) := by
  have c0 : w.cell? ⟨xn, 0, none⟩ = some (.slice A n cap) := hb.cell 0
  have c1 : w.cell? ⟨xn, 1, none⟩ = some (.int .i64 last) := hb.cell 1
  have f1 : w.frozen? ⟨xn, 1, none⟩ = false := hb.frozen 1
  obtain ⟨i0, hi0, hz0, hz1, hz2⟩ := info_parts info_rc
  have hne := own_blk_ne hr hb (by decide)
  have hxl := hb.lt
  have g0 : (w.setCell ⟨xn, 1, none⟩ (.int .i64 (last + 1))).cell? ⟨xn, 0, none⟩ = some (.slice A n cap) := (hb.set_ 1 _).cell 0
  have g1 : (w.setCell ⟨xn, 1, none⟩ (.int .i64 (last + 1))).cell? ⟨xn, 1, none⟩ = some (.int .i64 (last + 1)) := (hb.set_ 1 _).cell 1
  have hb1 : Blk ((w.setCell ⟨xn, 1, none⟩ (.int .i64 (last + 1))).alloc (.cells #[.int .i64 (last + 1), .int .i64 ad, .slice none 0 0] 54)).drew xn 28 #[.slice A n cap, .int .i64 (last + 1)] :=
    ((hb.set_ 1 (.int .i64 (last + 1))).alloc _).drew
  have hr1 : ((w.setCell ⟨xn, 1, none⟩ (.int .i64 (last + 1))).alloc (.cells #[.int .i64 (last + 1), .int .i64 ad, .slice none 0 0] 54)).drew.ownsRow 0 54 3 (.slice A n cap) n (rcells l) :=
    (own_far hr (p := ⟨xn, 1, none⟩) hne (.int .i64 (last + 1))).alloc _
  have hm0 : Mods (fun k => k = xn ∨ (Value.slice A n cap).ownBlock = some k) w ((w.setCell ⟨xn, 1, none⟩ (.int .i64 (last + 1))).alloc (.cells #[.int .i64 (last + 1), .int .i64 ad, .slice none 0 0] 54)).drew :=
    (((Mods.refl _ w).setCell (p := ⟨xn, 1, none⟩) (fun _ => .inl rfl) _).alloc _).drew
  have hnews : ∀ j u, (rcells [⟨last + 1, ad, none, 0, 0⟩])[j]? = some u → ((w.setCell ⟨xn, 1, none⟩ (.int .i64 (last + 1))).alloc (.cells #[.int .i64 (last + 1), .int .i64 ad, .slice none 0 0] 54)).drew.cell? ((⟨w.heap.size, 0, none⟩ : Addr).add j) = some u := by
    intro j u hj
    have := Blk.new (w.setCell ⟨xn, 1, none⟩ (.int .i64 (last + 1))) 54 #[.int .i64 (last + 1), .int .i64 ad, .slice none 0 0]
    rw [World.size_setCell] at this
    have h2 := this.drew.cell j
    have ha : (⟨w.heap.size, 0, none⟩ : Addr).add j = ⟨w.heap.size, j, none⟩ := by unfold Addr.add; by_cases h : j = 0 <;> simp [h]
    rw [ha, h2, ← hj]
    simp [rcells, rcell]
  have HNEWS := Lib.hid hnews
  clear hnews
  go_enter Try.func6, Try.ntmps6
  go_wp2
  go_region_law ((refine step_append_own _ rfl (.tmp 23) (.tmp 30) 26 rfl 0 54 i0 _ 3 40 Try.underlying26 hi0 hz0 hz1 hz2 rfl (by omega) (.slice A n cap) n (rcells l) rfl hr1 ⟨w.heap.size, 0, none⟩ 1 1 (rcells [⟨last + 1, ad, none, 0, 0⟩]) rfl rfl HNEWS.out (rcells_one _) (by simp only [maxLen]; omega) (by omega) (Nat.zero_le _) ?_); intro v1 w1 hown1 hg1 hat1; obtain ⟨A1, cap1, rfl⟩ := own_slice hown1; have hb2 := hb1.grown hg1 (fun e => hne e.symm); have d0 : w1.cell? ⟨xn, 0, none⟩ = some (.slice A n cap) := hb2.cell 0; have d1 : w1.cell? ⟨xn, 1, none⟩ = some (.int .i64 (last + 1)) := hb2.cell 1; have d2 : w1.frozen? ⟨xn, 0, none⟩ = false := hb2.frozen 0)
  all_goals go_wp2
  all_goals go_ret2
  all_goals
    refine ⟨A1, cap1, rfl, hb2.set_ 0 _, ?_, (hm0.grown hg1 (fun k hk e => .inr e)).setCell (p := ⟨xn, 0, none⟩) (fun _ => .inl rfl) _, ?_⟩
    · rw [rcells_append]
      exact own_far hown1 (by rcases hat1 with h | h <;> rw [h] <;> first | exact hne | (simp; omega)) _
    · rcases hat1 with h | h
      · exact .inl h
      · exact .inr ⟨_, h, by simp⟩

theorem raddr_no (id last : Int) (xn n cap : Nat) (A : Option Addr) (l : List Rc) (w : World) (hb : Blk w xn 28 #[.slice A n cap, .int .i64 last])
    (hr : w.ownsRow 0 54 3 (.slice A n cap) n (rcells l)) (hn : n ≤ 1000000) (hno : placeOf l id = -1) :
    Calls Try.prog 15 #[.pointer (some ⟨xn, 0, none⟩), .int .i64 id] w fun e w' => e = .returned (.tuple #[.int .i64 0, .bool false]) ∧ Below w.heap.size w w' := by
  have hp := place_any id last xn n cap A l w hb hr hn
  rw [hno] at hp
  have hp := Lib.hid hp
  clear hno
  go_enter Try.func15, Try.ntmps15
  go_wp2_with (go_at_call 20; refine hp.out.mono ?_; rintro e w1 ⟨rfl, hb1⟩)
  go_ret2
  exact ⟨rfl, hb1⟩

theorem raddr_yes (id last : Int) (xn n cap k : Nat) (A : Option Addr) (l : List Rc) (c : Rc) (w : World) (hb : Blk w xn 28 #[.slice A n cap, .int .i64 last])
    (hr : w.ownsRow 0 54 3 (.slice A n cap) n (rcells l)) (hn : n ≤ 1000000) (hk : l[k]? = some c) (hp : placeOf l id = (k : Int)) :
    Calls Try.prog 15 #[.pointer (some ⟨xn, 0, none⟩), .int .i64 id] w fun e w' => e = .returned (.tuple #[.int .i64 c.addr, .bool true]) ∧ Below w.heap.size w w' := by
  have hpl := place_any id last xn n cap A l w hb hr hn
  rw [hp] at hpl
  have hpl := Lib.hid hpl
  clear hp
  have hkl : k < l.length := (List.getElem?_eq_some_iff.1 hk).1
  have hkn : k < n := by rw [← own_len hr]; exact hkl
  have hkc : l[k] = c := (List.getElem?_eq_some_iff.1 hk).2
  have hnc := own_cap hr
  obtain ⟨g, rfl⟩ := own_some hr (by omega)
  have HR := fun (w1 : World) (h : Below w.heap.size w w1) => row3 hr h k hkl
  rw [hkc] at HR
  have HR := Lib.hid HR
  have hxl := hb.lt
  have HKC := Lib.hid hkc
  have HK := Lib.hid hk
  clear hk hkc
  go_enter Try.func15, Try.ntmps15
  go_wp2_with (go_at_call 20; refine hpl.out.mono ?_; rintro e w1 ⟨rfl, hb1⟩; have c0 : w1.cell? ⟨xn, 0, none⟩ = some (.slice (some ⟨g, 0, none⟩) n cap) := (hb.below hb1 hxl).cell 0; obtain ⟨d0, d1, d2⟩ := HR.out w1 hb1)
  go_ret2
  exact ⟨rfl, hb1⟩

theorem rtake_no (id last : Int) (xn n cap : Nat) (A : Option Addr) (l : List Rc) (w : World) (hb : Blk w xn 28 #[.slice A n cap, .int .i64 last])
    (hr : w.ownsRow 0 54 3 (.slice A n cap) n (rcells l)) (hn : n ≤ 1000000) (hno : placeOf l id = -1) :
    Calls Try.prog 10 #[.pointer (some ⟨xn, 0, none⟩), .int .i64 id] w fun e w' => e = .returned (.tuple #[.slice none 0 0, .int .i64 150]) ∧ Below w.heap.size w w' := by
  have hp := place_any id last xn n cap A l w hb hr hn
  rw [hno] at hp
  have hp := Lib.hid hp
  clear hno
  go_enter Try.func10, Try.ntmps10
  go_wp2_with (go_at_call 20; refine hp.out.mono ?_; rintro e w1 ⟨rfl, hb1⟩)
  go_ret2
  exact ⟨rfl, hb1⟩

theorem rtake_yes (id last : Int) (xn n cap k g : Nat) (l : List Rc) (c : Rc) (w : World) (hb : Blk w xn 28 #[.slice (some ⟨g, 0, none⟩) n cap, .int .i64 last])
    (hr : w.ownsRow 0 54 3 (.slice (some ⟨g, 0, none⟩) n cap) n (rcells l)) (hn : n ≤ 1000000) (hk : l[k]? = some c) (hp : placeOf l id = (k : Int)) :
    Calls Try.prog 10 #[.pointer (some ⟨xn, 0, none⟩), .int .i64 id] w fun e w' => e = .returned (.tuple #[.slice c.A c.n c.cap, .int .i64 0]) ∧
      Blk w' xn 28 #[.slice (some ⟨g, 0, none⟩) n cap, .int .i64 last] ∧ w'.ownsRow 0 54 3 (.slice (some ⟨g, 0, none⟩) n cap) n (rcells (l.set k ⟨c.id, c.addr, none, 0, 0⟩)) ∧ Mods (· = g) w w' := by
  have hpl := place_any id last xn n cap _ l w hb hr hn
  rw [hp] at hpl
  have hpl := Lib.hid hpl
  clear hp
  have hkl : k < l.length := (List.getElem?_eq_some_iff.1 hk).1
  have hkn : k < n := by rw [← own_len hr]; exact hkl
  have hkc : l[k] = c := (List.getElem?_eq_some_iff.1 hk).2
  have hnc := own_cap hr
  have HR := fun (w1 : World) (h : Below w.heap.size w w1) => row3 hr h k hkl
  rw [hkc] at HR
  have HR := Lib.hid HR
  have hxl := hb.lt
  have hgl := (hr.lt g rfl).2
  have hne : g ≠ xn := fun e => own_blk_ne hr hb (by decide) (by rw [← e]; rfl)
  have HL := Lib.hid (rcells_length l)
  have HKC := Lib.hid hkc
  have HK := Lib.hid hk
  clear hk hkc
  go_enter Try.func10, Try.ntmps10
  go_wp2_with (go_at_call 20; refine hpl.out.mono ?_; rintro e w1 ⟨rfl, hb1⟩; have c0 : w1.cell? ⟨xn, 0, none⟩ = some (.slice (some ⟨g, 0, none⟩) n cap) := (hb.below hb1 hxl).cell 0; obtain ⟨d0, d1, d2⟩ := HR.out w1 hb1; have hr1 := own_mods hr (Mods.below (Mods.refl (fun _ => False) w) hb1) (fun _ _ h => h); have d3 : w1.frozen? ⟨g, k * 3 + 2, none⟩ = false := own_frozen hr1 _)
  go_ret2
  refine ⟨rfl, (hb.below hb1 hxl).far (p := ⟨g, k * 3 + 2, none⟩) (fun e => hne e.symm) _, ?_, (Mods.below (Mods.refl (· = g) w) hb1).setCell (p := ⟨g, k * 3 + 2, none⟩) (fun _ => rfl) _⟩
  rw [rcells_set l k c HK.out]
  exact own_set hr1 (by rw [HL.out]; omega) _

theorem info_int : (Try.prog.info? 3).map (fun i => (i.zero, i.size, i.bytes)) = some (some (.int .i64 0), 1, 8) := by kernel_rfl
def ids (l : List Rc) : List Value := l.map fun c => .int .i64 c.id

set_option maxHeartbeats 800000 in
theorem rconns_any (last : Int) (xn n cap : Nat) (A : Option Addr) (l : List Rc) (w : World) (hb : Blk w xn 28 #[.slice A n cap, .int .i64 last])
    (hr : w.ownsRow 0 54 3 (.slice A n cap) n (rcells l)) (hn : n ≤ 1000000) :
    Calls Try.prog 18 #[.pointer (some ⟨xn, 0, none⟩)] w fun e w' => ∃ v, e = .returned v ∧ w'.ownsRow w.heap.size 3 1 v n (ids l) ∧ Below w.heap.size w w' := by
  have c0 : w.cell? ⟨xn, 0, none⟩ = some (.slice A n cap) := hb.cell 0
  have HL := Lib.hid (own_len hr)
  obtain ⟨i0, hi0, hz0, hz1, hz2⟩ := info_parts info_int
  go_enter Try.func18, Try.ntmps18
  go_wp2
  go_loopw [3, 11] (fun v i wr => ∃ k : Nat, k ≤ n ∧ i = .int .i64 k ∧ wr.ownsRow w.heap.size 3 1 v k (ids (l.take k)) ∧ Below w.heap.size w wr) (fun _ i _ => n - (intOf i).toNat)
  case atStart => exact ⟨0, Nat.zero_le _, rfl, ⟨by simp [ids], .inl ⟨rfl, rfl⟩⟩, Below.refl _ _⟩
  case round =>
    obtain ⟨k, hk, rfl, hrow, hbw⟩ := hrel
    have hrow0 := Lib.hid hrow
    obtain ⟨B, bc, rfl⟩ := own_slice hrow
    by_cases hlt : k < n
    · obtain ⟨g, rfl⟩ := own_some hr (by omega)
      obtain ⟨d0, d1, d2⟩ := row3 hr hbw k (by rw [HL.out]; exact hlt)
      have hts : ids (l.take (k + 1)) = ids (l.take k) ++ [.int .i64 (l[k]'(by rw [HL.out]; exact hlt)).id] := by
        rw [List.take_succ_eq_append_getElem (by rw [HL.out]; exact hlt)]
        unfold ids
        rw [List.map_append]
        rfl
      have HT := Lib.hid hts
      clear hts
      generalize l[k]'(by rw [HL.out]; exact hlt) = c at d0 d1 d2 HT
      obtain ⟨cid, cad, cA, cn, ccap⟩ := c
      simp only [] at d0 d1 d2
      go_wp2_with
        (at_builtin
         refine wpList_append_own_at _ rfl (.tmp 15) (.tmp 18) _ rfl w.heap.size 3 i0 _ 1 8 Try.underlying44 hi0 hz0 hz1 hz2 rfl (by omega) (.slice B k bc) k (ids (l.take k)) rfl
           ((hrow0.out.alloc _).alloc _) ⟨wr.heap.size + 1, 0, none⟩ 1 1 [.int .i64 cid] rfl rfl (by simpa using cell_one_new (wr.alloc (.cells #[.int .i64 cid, .int .i64 cad, .slice cA cn ccap] 54)) (.int .i64 cid) 3) (by simp [Value.oneCell']) (by simp only [maxLen]; omega) (by omega) (by have := hbw.size; simp; omega) ?_
         intro v1 w1 hown1 hg1 _ hat1)
      go_roundw
      case rel => exact ⟨k + 1, by omega, by go_num, by rw [HT.out]; exact hown1, ((hbw.alloc hbw.size _).alloc (by have := hbw.size; simp; omega) _).grown hg1 (by have := hbw.size; simp; omega) (fun j hj => (hrow0.out.lt j hj).1)⟩
      case measure => simp [intOf]; omega
    · obtain rfl : k = n := by omega
      go_wp2
      go_ret
      refine ⟨_, rfl, ?_, hbw⟩
      have := hrow0.out
      rw [List.take_of_length_le (by rw [HL.out]; exact Nat.le_refl _)] at this
      exact this

end Go.Proofs.Ytfhilhfdgcdpfaa
