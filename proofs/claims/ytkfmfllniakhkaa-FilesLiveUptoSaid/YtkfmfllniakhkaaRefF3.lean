/- The document's disk: add: the walk. -/
import Derived.Test.YtkfmfllniakhkaaRefF2
import Derived.Sort.Walk0
namespace Go.Proofs.Ytkfmfllniakhkaa
open Go.RowKit Go.Maps Go.Sort
set_option linter.unusedVariables false

def over (x : Rf) (l : List Rf) : Bool := l.any fun c => decide (x.nm < c.nm)
def addTo (x : Rf) (l : List Rf) : List Rf := if over x l = true then insS Rf.nm x l else l
theorem ins_over {x c : Rf} : ∀ {t : List Rf}, over x t = true → insS Rf.nm x (t ++ [c]) = insS Rf.nm x t ++ [c]
  | [], h => by simp [over] at h
  | d :: t, h => by
    show insS Rf.nm x (d :: (t ++ [c])) = _
    unfold insS
    by_cases hd : x.nm < d.nm
    · rw [if_pos hd, if_pos hd]; rfl
    · rw [if_neg hd, if_neg hd, ins_over (by simpa [over, hd] using h)]; rfl
theorem ins_not {x : Rf} : ∀ {t : List Rf}, over x t = false → insS Rf.nm x t = t ++ [x]
  | [], _ => rfl
  | d :: t, h => by
    have hd : ¬ x.nm < d.nm := fun hd => by simp [over, hd] at h
    unfold insS
    rw [if_neg hd, ins_not (by simpa [over, hd] using h)]; rfl
theorem ins_here {x c : Rf} : ∀ {t : List Rf}, over x t = false → x.nm < c.nm → insS Rf.nm x (t ++ [c]) = t ++ [x, c]
  | [], _, hc => by simp [insS, hc]
  | d :: t, h, hc => by
    have hd : ¬ x.nm < d.nm := fun hd => by simp [over, hd] at h
    show insS Rf.nm x (d :: (t ++ [c])) = _
    unfold insS
    rw [if_neg hd, ins_here (by simpa [over, hd] using h) hc]; rfl
/-- one more file, in a new array of one -/
theorem one_more (w1 : World) (c : Rf) : Reads (w1.alloc (.cells #[.string c.name, .slice c.A c.b.length c.cap, .int .i64 (c.s : Int)] 51)) (w1.heap.size + 1) 3 (some ⟨w1.heap.size, 0, none⟩) 1 (fcells [c]) := by
  have := Blk.reads (xs := fcells [c]) (Blk.new w1 51 _) rfl
  simp only [World.size_alloc] at this
  exact this
theorem gtr_names {P : Program} (t : TypeId) (c x : ByteArray) (w : World) : (binOp .gtr t (.string c) (.string x)).run P w = .ok (.bool (decide (x.data.toList < c.data.toList))) w := by
  have h0 : binOp .gtr t (.string c) (.string x) = pure (.bool !(Op.bytesLess c.toList x.toList || c.toList == x.toList)) := by simp [binOp, Op.stringOp]
  rw [h0, ByteArray.toList_eq, ByteArray.toList_eq, bytesLess_eq]
  have : (!(decide (c.data.toList < x.data.toList) || c.data.toList == x.data.toList)) = decide (x.data.toList < c.data.toList) := by
    rw [Bool.eq_iff_iff]
    simp only [Bool.not_eq_true', Bool.or_eq_false_iff, decide_eq_false_iff_not, beq_eq_false_iff_ne, ne_eq, decide_eq_true_eq]
    constructor
    · rintro ⟨h1, h2⟩
      exact (nm_total h2).resolve_left h1
    · intro h
      exact ⟨fun h1 => nm_irrefl _ (nm_trans h h1), fun e => by rw [e] at h; exact nm_irrefl _ h⟩
  rw [this]
  rfl
theorem over_snoc (x c : Rf) (t : List Rf) : over x (t ++ [c]) = (over x t || decide (x.nm < c.nm)) := by simp [over]
theorem add_over {x c : Rf} {t : List Rf} (h : over x t = true) : addTo x (t ++ [c]) = addTo x t ++ [c] := by unfold addTo; rw [over_snoc, h, if_pos (by rfl), if_pos rfl, ins_over h]
theorem add_not {x c : Rf} {t : List Rf} (h : over x t = false) (hc : ¬ x.nm < c.nm) : addTo x (t ++ [c]) = addTo x t ++ [c] := by
  unfold addTo
  rw [over_snoc, h, if_neg (by simp [hc]), if_neg (by decide)]
theorem add_here {x c : Rf} {t : List Rf} (h : over x t = false) (hc : x.nm < c.nm) : addTo x (t ++ [c]) = (addTo x t ++ [x]) ++ [c] := by
  unfold addTo
  rw [over_snoc, h, if_pos (by simp [hc]), if_neg (by decide), ins_here h hc]
  simp
theorem add_end {x : Rf} {l : List Rf} (h : over x l = false) : insS Rf.nm x l = addTo x l ++ [x] := by
  unfold addTo
  rw [h, if_neg (by decide), ins_not h]
theorem add_end' {x : Rf} {l : List Rf} (h : over x l = true) : insS Rf.nm x l = addTo x l := by
  unfold addTo
  rw [h, if_pos rfl]
theorem add_len (x : Rf) (l : List Rf) : (addTo x l).length ≤ l.length + 1 := by
  unfold addTo
  split
  · rw [len_insS]; exact Nat.le_refl _
  · exact Nat.le_succ _
theorem take_snoc {l : List Rf} {k : Nat} (h : k < l.length) : l.take (k + 1) = l.take k ++ [l[k]] := List.take_succ_eq_append_getElem h

set_option maxRecDepth 10000 in
set_option maxHeartbeats 1600000 in
theorem radd_any (room short fuse : Int) (xd n cap : Nat) (A : Option Addr) (l : List Rf) (w : World) (x : Rf) (hb : Xh w xd A n cap room short fuse)
    (hr : Row w 0 51 3 (.slice A n cap) n (fcells l)) (hn : n ≤ 1000000) :
    Calls Try.prog 46 #[.pointer (some ⟨xd, 0, none⟩), .agg #[.string x.name, .slice x.A x.b.length x.cap, .int .i64 (x.s : Int)]] w (LinePost w xd room short fuse (insS Rf.nm x l)) := by
  have HL := Lib.hid (frow_len hr)
  have hxl := hb.lt
  obtain ⟨i0, hi0, hz0, hz1, hz2⟩ := info_parts info_rf
  have hb0 : Below w.heap.size w (w.alloc (.cells #[.string x.name, .slice x.A x.b.length x.cap, .int .i64 (x.s : Int)] 51)) := (Below.refl _ w).alloc (Nat.le_refl _) _
  have c0 : (w.alloc (.cells #[.string x.name, .slice x.A x.b.length x.cap, .int .i64 (x.s : Int)] 51)).cell? ⟨xd, 0, none⟩ = some (.slice A n cap) := (hb.below hb0 hxl).cell 0
  have hbx : Blk (w.alloc (.cells #[.string x.name, .slice x.A x.b.length x.cap, .int .i64 (x.s : Int)] 51)) w.heap.size 51 #[.string x.name, .slice x.A x.b.length x.cap, .int .i64 (x.s : Int)] := Blk.new _ _ _
  go_enter Try.func46, Try.ntmps46
  go_wp2
  generalize hW : w.alloc (.cells #[.string x.name, .slice x.A x.b.length x.cap, .int .i64 (x.s : Int)] 51) = W at hb0 c0 hbx ⊢
  have hWs : W.heap.size = w.heap.size + 1 := by rw [← hW]; simp
  clear hW
  have hbX := hb.below hb0 hxl
  have hrX := hr.below hb0 rfl
  go_loopw [4, 5, 13] (fun v p i wr => ∃ k : Nat, k ≤ n ∧ i = .int .i64 k ∧ p = .bool (over x (l.take k)) ∧ Row wr W.heap.size 51 3 v (addTo x (l.take k)).length (fcells (addTo x (l.take k))) ∧ Below W.heap.size W wr) (fun _ _ i _ => n - (intOf i).toNat)
  case atStart => exact ⟨0, Nat.zero_le _, rfl, rfl, Row.nil _ _ _ _, Below.refl _ _⟩
  case round =>
    obtain ⟨k, hk, rfl, rfl, hrow, hbw⟩ := hrel
    have hrow0 := Lib.hid hrow
    obtain ⟨B, bc, rfl⟩ := hrow.slice
    have hbox := hbx.below hbw (by omega)
    have b0 : wr.cell? ⟨w.heap.size, 0, none⟩ = some (.string x.name) := hbox.cell 0
    have b1 : wr.cell? ⟨w.heap.size, 1, none⟩ = some (.slice x.A x.b.length x.cap) := hbox.cell 1
    have b2 : wr.cell? ⟨w.heap.size, 2, none⟩ = some (.int .i64 (x.s : Int)) := hbox.cell 2
    by_cases hlt : k < n
    · obtain ⟨g, rfl⟩ := hr.some_ (by omega)
      have hkl : k < l.length := by rw [HL.out]; exact hlt
      obtain ⟨d0, d1, d2⟩ := file3 hrX hbw k hkl
      have HT := Lib.hid (take_snoc hkl)
      have hml : (addTo x (l.take k)).length ≤ 1000001 := by
        have h1 := add_len x (l.take k)
        rw [List.length_take] at h1
        omega
      generalize l[k] = c at d0 d1 d2 HT
      generalize hm : l.take k = lk at hml hrow hrow0 HT ⊢
      clear hm
      have hsz := hbw.size
      have hbox1 := hbox.alloc (.cells #[.string c.name, .slice c.A c.b.length c.cap, .int .i64 (c.s : Int)] 51)
      have e0 : (wr.alloc (.cells #[.string c.name, .slice c.A c.b.length c.cap, .int .i64 (c.s : Int)] 51)).cell? ⟨w.heap.size, 0, none⟩ = some (.string x.name) := hbox1.cell 0
      have e1 : (wr.alloc (.cells #[.string c.name, .slice c.A c.b.length c.cap, .int .i64 (c.s : Int)] 51)).cell? ⟨w.heap.size, 1, none⟩ = some (.slice x.A x.b.length x.cap) := hbox1.cell 1
      have e2 : (wr.alloc (.cells #[.string c.name, .slice c.A c.b.length c.cap, .int .i64 (c.s : Int)] 51)).cell? ⟨w.heap.size, 2, none⟩ = some (.int .i64 (x.s : Int)) := hbox1.cell 2
      have n1 := one_more (wr.alloc (.cells #[.string c.name, .slice c.A c.b.length c.cap, .int .i64 (c.s : Int)] 51)) c
      have n2 := one_more (wr.alloc (.cells #[.string c.name, .slice c.A c.b.length c.cap, .int .i64 (c.s : Int)] 51)) x
      simp only [World.size_alloc] at n1 n2
      have N1 := Lib.hid n1
      have N2 := Lib.hid n2
      have hfb : Blk (wr.alloc (.cells #[.string c.name, .slice c.A c.b.length c.cap, .int .i64 (c.s : Int)] 51)) wr.heap.size 51 #[.string c.name, .slice c.A c.b.length c.cap, .int .i64 (c.s : Int)] := Blk.new _ _ _
      have HFB := Lib.hid hfb
      clear n1 n2 hfb
      cases ho : over x lk with
      | false =>
        have HO := Lib.hid ho
        clear ho
        by_cases hc : x.nm < c.nm
        · have hgt : ∀ w, (binOp BinOp.gtr 9 (.string c.name) (.string x.name)).run Try.prog w = .ok (.bool true) w := fun w => by rw [gtr_names]; rw [decide_eq_true (show x.name.data.toList < c.name.data.toList from hc)]
          have HC := Lib.hid hc
          clear hc
          go_wp2_with (first
            | (at_builtin; refine wpList_append_row _ rfl _ _ _ rfl W.heap.size 51 i0 _ 3 48 Try.underlying42 hi0 hz0 hz1 hz2 rfl (by omega) (.slice B (addTo x lk).length bc) (addTo x lk).length (fcells (addTo x lk)) rfl ((hrow0.out.alloc _).alloc _) _ _ 1 1 (fcells [x]) rfl N2.out (fcells_one _) (by simp only [maxLen]; omega) (by omega) (by simp; omega) ?_; intro v1 w1 hown1 hg1 hat1; obtain ⟨B1, bc1, rfl⟩ := hown1.slice; have bf1 := (HFB.out.alloc (.cells #[.string x.name, .slice x.A x.b.length x.cap, .int .i64 (x.s : Int)] 51)).grown hg1 (fun e => by have := (hrow0.out.lt _ e.symm).2; omega); have y0 : w1.cell? ⟨wr.heap.size, 0, none⟩ = some (.string c.name) := bf1.cell 0; have y1 : w1.cell? ⟨wr.heap.size, 1, none⟩ = some (.slice c.A c.b.length c.cap) := bf1.cell 1; have y2 : w1.cell? ⟨wr.heap.size, 2, none⟩ = some (.int .i64 (c.s : Int)) := bf1.cell 2; have hb1 : Below W.heap.size W w1 := ((hbw.alloc hbw.size _).alloc (by simp; omega) _).grown hg1 (by simp; omega) (fun j hj => (hrow0.out.lt j hj).1); have hs1 := hb1.size)
            | (at_builtin; refine wpList_append_row _ rfl _ _ _ rfl W.heap.size 51 i0 _ 3 48 Try.underlying42 hi0 hz0 hz1 hz2 rfl (by omega) (.slice B1 ((addTo x lk).length + 1) bc1) ((addTo x lk).length + 1) (fcells (addTo x lk) ++ fcells [x]) rfl (hown1.alloc _) _ _ 1 1 (fcells [c]) rfl (one_more w1 c) (fcells_one _) (by simp only [maxLen]; omega) (by omega) (by simp; omega) ?_; intro v2 w2 hown2 hg2 hat2))
          go_roundw
          case rel => exact ⟨k + 1, by omega, by go_num, by rw [HT.out, over_snoc, HO.out]; simp [HC.out], by rw [HT.out, add_here HO.out HC.out, List.length_append, List.length_append, fcells_append, fcells_append]; exact hown2, (hb1.alloc hs1 _).grown hg2 (by simp; omega) (fun j hj => (hown1.lt j hj).1)⟩
          case measure => simp [intOf]; omega
        · have hgt : ∀ w, (binOp BinOp.gtr 9 (.string c.name) (.string x.name)).run Try.prog w = .ok (.bool false) w := fun w => by rw [gtr_names]; rw [decide_eq_false (show ¬ x.name.data.toList < c.name.data.toList from hc)]
          have HC := Lib.hid hc
          clear hc
          go_wp2_with
            (at_builtin
             refine wpList_append_row _ rfl _ _ _ rfl W.heap.size 51 i0 _ 3 48 Try.underlying42 hi0 hz0 hz1 hz2 rfl (by omega) (.slice B (addTo x lk).length bc) (addTo x lk).length (fcells (addTo x lk)) rfl
               ((hrow0.out.alloc _).alloc _) _ _ 1 1 (fcells [c]) rfl N1.out (fcells_one _) (by simp only [maxLen]; omega) (by omega) (by simp; omega) ?_
             intro v1 w1 hown1 hg1 hat1)
          go_roundw
          case rel => exact ⟨k + 1, by omega, by go_num, by rw [HT.out, over_snoc, HO.out]; simp [HC.out], by rw [HT.out, add_not HO.out HC.out, List.length_append, fcells_append]; exact hown1, ((hbw.alloc hbw.size _).alloc (by simp; omega) _).grown hg1 (by simp; omega) (fun j hj => (hrow0.out.lt j hj).1)⟩
          case measure => simp [intOf]; omega
      | true =>
        have HO := Lib.hid ho
        clear ho
        go_wp2_with
          (at_builtin
           refine wpList_append_row _ rfl _ _ _ rfl W.heap.size 51 i0 _ 3 48 Try.underlying42 hi0 hz0 hz1 hz2 rfl (by omega) (.slice B (addTo x lk).length bc) (addTo x lk).length (fcells (addTo x lk)) rfl
             ((hrow0.out.alloc _).alloc _) _ _ 1 1 (fcells [c]) rfl N1.out (fcells_one _) (by simp only [maxLen]; omega) (by omega) (by simp; omega) ?_
           intro v1 w1 hown1 hg1 hat1)
        go_roundw
        case rel => exact ⟨k + 1, by omega, by go_num, by rw [HT.out, over_snoc, HO.out]; simp, by rw [HT.out, add_over HO.out, List.length_append, fcells_append]; exact hown1, ((hbw.alloc hbw.size _).alloc (by simp; omega) _).grown hg1 (by simp; omega) (fun j hj => (hrow0.out.lt j hj).1)⟩
        case measure => simp [intOf]; omega
    · obtain rfl : k = n := by omega
      have hbx := hbX.below hbw (by omega)
      have e0 : wr.cell? ⟨xd, 0, none⟩ = some (.slice A k cap) := hbx.cell 0
      have f0 : wr.frozen? ⟨xd, 0, none⟩ = false := hbx.frozen 0
      have hml := add_len x l
      have hll := HL.out
      rw [List.take_of_length_le (by rw [HL.out]; exact Nat.le_refl _)] at hrow hrow0 ⊢
      have hmw : Mods (· = xd) w wr := ((Mods.refl (· = xd) w).below hb0).below hbw
      have hsz := hbw.size
      cases ho : over x l with
      | true =>
        have HE := Lib.hid (add_end' ho)
        clear ho
        go_wp2
        go_end0
        refine ⟨rfl, ?_, hmw.setCell (p := ⟨xd, 0, none⟩) (fun _ => rfl) _⟩
        rw [HE.out]
        exact ⟨B, bc, hbx.set_ 0 _, (hrow0.out.far (fun e => by have := (hrow0.out.lt xd e).1; omega) _).base_ (by omega)⟩
      | false =>
        have HE := Lib.hid (add_end ho)
        clear ho
        have N2 := Lib.hid (one_more wr x)
        go_wp2_with
          (at_builtin
           refine wpList_append_row _ rfl _ _ _ rfl W.heap.size 51 i0 _ 3 48 Try.underlying42 hi0 hz0 hz1 hz2 rfl (by omega) (.slice B (addTo x l).length bc) (addTo x l).length (fcells (addTo x l)) rfl
             (hrow0.out.alloc _) _ _ 1 1 (fcells [x]) rfl N2.out (fcells_one _) (by simp only [maxLen]; omega) (by omega) (by simp; omega) ?_
           intro v1 w1 hown1 hg1 hat1
           obtain ⟨B1, bc1, rfl⟩ := hown1.slice
           have hbx1 := (hbx.alloc (.cells #[.string x.name, .slice x.A x.b.length x.cap, .int .i64 (x.s : Int)] 51)).grown hg1 (fun e => by have := (hrow0.out.lt _ e.symm).1; omega)
           have e1 : w1.cell? ⟨xd, 0, none⟩ = some (.slice A k cap) := hbx1.cell 0
           have f1 : w1.frozen? ⟨xd, 0, none⟩ = false := hbx1.frozen 0)
        go_end0
        refine ⟨rfl, ?_, ((hmw.alloc _).grown hg1 (fun j hj e => by have := (hrow0.out.lt j e).1; omega)).setCell (p := ⟨xd, 0, none⟩) (fun _ => rfl) _⟩
        rw [HE.out, List.length_append, fcells_append]
        exact ⟨B1, bc1, hbx1.set_ 0 _, (hown1.far (fun e => by have := (hown1.lt xd e).1; omega) _).base_ (by omega)⟩

end Go.Proofs.Ytkfmfllniakhkaa
