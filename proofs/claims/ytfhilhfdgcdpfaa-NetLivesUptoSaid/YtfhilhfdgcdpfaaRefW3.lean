/- The document's net: Write, Drop: walks. -/
import Derived.Test.YtfhilhfdgcdpfaaRefW2
namespace Go.Proofs.Ytfhilhfdgcdpfaa
open Go.RowKit Go.Maps
set_option linter.unusedVariables false

theorem rwrite_no (id last : Int) (xn n cap mm mc : Nat) (A M : Option Addr) (l : List Rc) (w : World) (hb : Blk w xn 28 #[.slice A n cap, .int .i64 last])
    (hr : w.ownsRow 0 54 3 (.slice A n cap) n (rcells l)) (hn : n ≤ 1000000) (hno : placeOf l id = -1) :
    Calls Try.prog 8 #[.pointer (some ⟨xn, 0, none⟩), .int .i64 id, .slice M mm mc] w fun e w' => e = .returned (.int .i64 150) ∧ Below w.heap.size w w' := by
  have hp := place_any id last xn n cap A l w hb hr hn
  rw [hno] at hp
  have hp := Lib.hid hp
  clear hno
  go_enter Try.func8, Try.ntmps8
  go_wp2_with (go_at_call 20; refine hp.out.mono ?_; rintro e w1 ⟨rfl, hb1⟩)
  go_ret
  exact ⟨rfl, hb1⟩

theorem rdrop_no (id last : Int) (xn n cap : Nat) (A : Option Addr) (l : List Rc) (w : World) (hb : Blk w xn 28 #[.slice A n cap, .int .i64 last])
    (hr : w.ownsRow 0 54 3 (.slice A n cap) n (rcells l)) (hn : n ≤ 1000000) (hno : placeOf l id = -1) :
    Calls Try.prog 13 #[.pointer (some ⟨xn, 0, none⟩), .int .i64 id] w fun e w' => e = .returned (.int .i64 150) ∧ Below w.heap.size w w' := by
  have hp := place_any id last xn n cap A l w hb hr hn
  rw [hno] at hp
  have hp := Lib.hid hp
  clear hno
  go_enter Try.func13, Try.ntmps13
  go_wp2_with (go_at_call 20; refine hp.out.mono ?_; rintro e w1 ⟨rfl, hb1⟩)
  go_ret
  exact ⟨rfl, hb1⟩

set_option maxHeartbeats 4000000 in
theorem rwrite_yes (id last : Int) (xn n cap k g mm mc : Nat) (M : Option Addr) (ms bs : List UInt8) (l : List Rc) (c : Rc) (w : World) (hb : Blk w xn 28 #[.slice (some ⟨g, 0, none⟩) n cap, .int .i64 last])
    (hr : w.ownsRow 0 54 3 (.slice (some ⟨g, 0, none⟩) n cap) n (rcells l)) (hn : n ≤ 1000000) (hk : l[k]? = some c) (hp : placeOf l id = (k : Int))
    (hc : w.ownsRow 0 5 1 (.slice c.A c.n c.cap) c.n (u8s bs)) (hs : Reads w w.heap.size 1 M mm (u8s ms)) (hnm : c.n + mm ≤ 1073741824) :
    Calls Try.prog 8 #[.pointer (some ⟨xn, 0, none⟩), .int .i64 id, .slice M mm mc] w fun e w' => ∃ A' cap', e = .returned (.int .i64 0) ∧
      Blk w' xn 28 #[.slice (some ⟨g, 0, none⟩) n cap, .int .i64 last] ∧ w'.ownsRow 0 54 3 (.slice (some ⟨g, 0, none⟩) n cap) n (rcells (l.set k ⟨c.id, c.addr, A', c.n + mm, cap'⟩)) ∧
      w'.ownsRow w.heap.size 5 1 (.slice A' (c.n + mm) cap') (c.n + mm) (u8s (bs ++ ms)) ∧ Mods (· = g) w w' := by
  obtain ⟨i0, hi0, hz0, hz1, hz2⟩ := info_parts info_u8
  have hpl := place_any id last xn n cap _ l w hb hr hn
  rw [hp] at hpl
  have hpl := Lib.hid hpl
  clear hp
  have hkl : k < l.length := (List.getElem?_eq_some_iff.1 hk).1
  have hkn : k < n := by rw [← own_len hr]; exact hkl
  have hkc : l[k] = c := (List.getElem?_eq_some_iff.1 hk).2
  have hnc := own_cap hr
  have HR := fun (w1 : World) (h : Below w.heap.size w w1) => row3 hr h k hkl
  rw [hkc] at HR
  have HR := Lib.hid HR
  have hxl := hb.lt
  have hgl := (hr.lt g rfl).2
  have hne : g ≠ xn := fun e => own_blk_ne hr hb (by decide) (by rw [← e]; rfl)
  have hrs := Reads.of_own hc
  have HL := Lib.hid (rcells_length l)
  have HKC := Lib.hid hkc
  have HK := Lib.hid hk
  clear hk hkc
  go_enter Try.func8, Try.ntmps8
  go_wp2_with (go_at_call 20; refine hpl.out.mono ?_; rintro e w1 ⟨rfl, hb1⟩; have c0 : w1.cell? ⟨xn, 0, none⟩ = some (.slice (some ⟨g, 0, none⟩) n cap) := (hb.below hb1 hxl).cell 0; obtain ⟨d0, d1, d2⟩ := HR.out w1 hb1)
  have hb2 : Below w.heap.size w (w1.alloc (.cells #[] 5)).drew := (hb1.alloc hb1.size _).drew
  have hemp : (w1.alloc (.cells #[] 5)).drew.ownsRow w.heap.size 5 1 (.slice (some ⟨w1.heap.size, 0, none⟩) 0 0) 0 [] :=
    ⟨rfl, .inr ⟨w1.heap.size, 0, #[], rfl, hb1.size, (Blk.new w1 5 #[]).drew, Nat.le_refl _, by simp [maxLen], rfl, rfl⟩⟩
  have hsz2 : w.heap.size ≤ (w1.alloc (.cells #[] 5)).drew.heap.size := hb2.size
  have c0a : (w1.alloc (.cells #[] 5)).cell? ⟨xn, 0, none⟩ = some (.slice (some ⟨g, 0, none⟩) n cap) := (hb.below hb2 hxl).cell 0
  have d2a : (w1.alloc (.cells #[] 5)).cell? ⟨g, k * 3 + 2, none⟩ = some (.slice c.A c.n c.cap) := (HR.out _ hb2).2.2
  go_region_law (first
    | ((refine step_append_any _ rfl (.tmp 18) (.tmp 26) 29 rfl w.heap.size 5 i0 _ 1 1 Try.underlying29 hi0 hz0 hz1 hz2 rfl (by omega) (.slice (some ⟨w1.heap.size, 0, none⟩) 0 0) 0 [] (by first | rfl | simp [Act.eval, Act.put]) hemp w.heap.size c.A c.n c.cap (u8s bs) (by first | rfl | simp [Act.eval, Act.put]) (hrs.below hb2) (u8s_one _) (by simp only [maxLen]; omega) (by omega) hsz2 ?_); intro v2 w2 hown2 hg2 hat2; obtain ⟨A2, cap2, rfl⟩ := own_slice hown2; have hb3 : Below w.heap.size w w2 := hb2.grown hg2 hsz2 (fun k hk => by cases hk; exact hb1.size); have c0' : w2.cell? ⟨xn, 0, none⟩ = some (.slice (some ⟨g, 0, none⟩) n cap) := (hb.below hb3 hxl).cell 0; have d2' := (HR.out w2 hb3).2.2)
    | ((refine step_append_any _ rfl (.tmp 27) (.tmp 28) 29 rfl w.heap.size 5 i0 _ 1 1 Try.underlying29 hi0 hz0 hz1 hz2 rfl (by omega) (.slice A2 (0 + c.n) cap2) (0 + c.n) ([] ++ u8s bs) (by first | rfl | simp [Act.eval, Act.put]) hown2 w.heap.size M mm mc (u8s ms) (by first | rfl | simp [Act.eval, Act.put]) (hs.below hb3) (u8s_one _) (by simp only [maxLen]; omega) (by omega) hb3.size ?_); intro v4 w4 hown4 hg4 hat4; obtain ⟨A4, cap4, rfl⟩ := own_slice hown4; have hb4 : Below w.heap.size w w4 := hb3.grown hg4 hb3.size (fun k hk => (hown2.lt k hk).1); have c04 : w4.cell? ⟨xn, 0, none⟩ = some (.slice (some ⟨g, 0, none⟩) n cap) := (hb.below hb4 hxl).cell 0; have d24 := (HR.out w4 hb4).2.2; have hr4 := own_mods hr (Mods.below (Mods.refl (fun _ => False) w) hb4) (fun _ _ h => h); have f4 : w4.frozen? ⟨g, k * 3 + 2, none⟩ = false := own_frozen hr4 _))
  all_goals go_wp2
  all_goals go_ret
  all_goals
    have hcn : 0 + c.n + mm = c.n + mm := by omega
    refine ⟨A4, cap4, rfl, (hb.below hb4 hxl).far (p := ⟨g, k * 3 + 2, none⟩) (fun e => hne e.symm) _, ?_, ?_, (Mods.below (Mods.refl (· = g) w) hb4).setCell (p := ⟨g, k * 3 + 2, none⟩) (fun _ => rfl) _⟩
    · rw [rcells_set l k c HK.out]
      exact own_set hr4 (by rw [HL.out]; omega) _
    · have := own_far hown4 (p := ⟨g, k * 3 + 2, none⟩) (fun e => by have := (hown4.lt _ e).1; simp at this; omega) (.slice A4 (c.n + mm) cap4)
      rw [hcn] at this
      rw [u8s_append]
      simpa using this

end Go.Proofs.Ytfhilhfdgcdpfaa
