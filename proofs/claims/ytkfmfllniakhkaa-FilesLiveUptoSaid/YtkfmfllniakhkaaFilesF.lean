/- The program's disk: Crash: the walk. -/
import Derived.Test.YtkfmfllniakhkaaFilesE
import Derived.Sort.MapsRangeIn
import Derived.Laws.BitsAllLaws
namespace Go.Proofs.Ytkfmfllniakhkaa
open Go.RowKit Go.Maps Go.Sort Go.Shelf
set_option linter.unusedVariables false

attribute [local go_sem] Oper.semAt_some

/-- what a crash leaves of a file's tail -/
def tailOf (ts : List Tl) (nm : Nm) : Int × Bool := match ts.find? (fun t => decide (t.nm = nm)) with
  | some t => (t.keep, t.turn)
  | none => (0, false)
def kept (s len : Nat) (keep : Int) : Nat := s + min (max keep 0).toNat (len - s)
def turned (turn : Bool) (s n : Nat) (b : List UInt8) : List UInt8 := if turn = true ∧ s < n then b.set (n - 1) ((b[n - 1]?).getD 0 ^^^ 1) else b
def crashF (ts : List Tl) (f : Fl) : Fl := ⟨f.name, turned (tailOf ts f.name).2 f.s (kept f.s f.b.length (tailOf ts f.name).1) (f.b.take (kept f.s f.b.length (tailOf ts f.name).1)), kept f.s f.b.length (tailOf ts f.name).1⟩

/-- the tails, as a map's datum -/
def tailsUp (pre : List (Int × Tl)) : List Tl := pre.foldl (fun cs x => putS Tl.nm x.2 cs) []
theorem tailsUp_snoc (pre : List (Int × Tl)) (x : Int × Tl) : tailsUp (pre ++ [x]) = putS Tl.nm x.2 (tailsUp pre) := by simp [tailsUp]

def upT (l : List Tl) : List Tl := l.foldr (fun t cs => putS Tl.nm t cs) []
theorem tailsUp_eq (pre : List (Int × Tl)) : tailsUp pre = upT (pre.map (·.2)).reverse := by
  unfold tailsUp upT
  rw [List.foldr_reverse, List.foldl_map]
theorem tailsUp_all (ts : List Tl) : tailsUp (back ts ts.length) = upT ts := by rw [tailsUp_eq, back_all, List.reverse_reverse]
theorem upT_ris (l : List Tl) : (upT l).Pairwise (fun a b => a.nm < b.nm) := by
  induction l with
  | nil => simp [upT]
  | cons t l ih => exact ris_putS ih
theorem upT_mem (l : List Tl) (t : Tl) : t ∈ upT l ↔ l.find? (fun u => decide (u.nm = t.nm)) = some t := by
  induction l with
  | nil => simp [upT]
  | cons u l ih =>
    show t ∈ putS Tl.nm u (upT l) ↔ _
    rw [mem_putS, ih]
    by_cases h : u.nm = t.nm
    · rw [List.find?_cons_of_pos (by simpa using h)]
      constructor
      · rintro (rfl | ⟨_, hne⟩)
        · rfl
        · exact absurd h.symm hne
      · intro e; injection e with e; exact .inl e.symm
    · rw [List.find?_cons_of_neg (by simpa using h)]
      constructor
      · rintro (rfl | ⟨h1, _⟩)
        · exact absurd rfl h
        · exact h1
      · intro e; exact .inr ⟨e, fun e' => h e'.symm⟩
def zeroT : Value := .agg #[.string ⟨#[]⟩, .int .i64 0, .bool false]
theorem tails_at (ts : List Tl) (nm : Nm) : ∃ s, (datS Tl.nm Tl.val (upT ts)).atKey (.string nm) (.held zeroT) = .held (.agg #[.string s, .int .i64 (tailOf ts nm).1, .bool (tailOf ts nm).2]) := by
  unfold tailOf
  cases h : ts.find? (fun t => decide (t.nm = nm)) with
  | none =>
    refine ⟨_, datS_miss (fun c hc e => ?_) _⟩
    have := (upT_mem ts c).1 hc
    rw [e, h] at this
    cases this
  | some t =>
    have hk : t.nm = nm := by simpa using List.find?_some h
    refine ⟨t.name, ?_⟩
    rw [← hk]
    exact datS_hit (upT_ris ts) ((upT_mem ts t).2 (by rw [hk]; exact h)) _

theorem lawTl : Keyed Try.prog 9 := string_keyed Try.underlying9

/-- .. of a file of the program's -/
def crashC (ts : List Tl) (c : Fc) : Fc := ⟨c.name, (crashF ts c.fl).b, (crashF ts c.fl).s, c.blk, c.A, (crashF ts c.fl).s⟩
def gC (ts : List Tl) (left : Lit → Bool) (c : Fc) : Fc := if left (.string c.name) = true then c else crashC ts c
theorem gC_name (ts : List Tl) (left : Lit → Bool) (c : Fc) : (gC ts left c).name = c.name := by unfold gC; split <;> rfl
theorem gC_ptr (ts : List Tl) (left : Lit → Bool) (c : Fc) : (gC ts left c).ptr = c.ptr := by unfold gC; split <;> rfl

theorem lookT {w : World} {bt k : Nat} {ts : List Tl} (hown : w.ownsMap Try.prog 9 hld bt k (datS Tl.nm Tl.val (upT ts))) {s : ByteArray} (hs : s.size ≤ maxLen) :
    ∃ s', (Instr.lookup 79 (.map (some bt)) (.string s) false).run Try.prog w = .ok (.agg #[.string s', .int .i64 (tailOf ts s.data.toList).1, .bool (tailOf ts s.data.toList).2]) w := by
  obtain ⟨s', hat⟩ := tails_at ts s.data.toList
  obtain ⟨v', ps, hrun, hv⟩ := hown.lookup lawS Try.underlying79 (Try.zeroValue78 w) (zd := .held zeroT) (zp := []) rfl (WideMaps.keyOf_string_mk Try.underlying9 hs)
  rw [hat] at hv
  refine ⟨s', ?_⟩
  obtain rfl : v' = .agg #[.string s', .int .i64 (tailOf ts s.data.toList).1, .bool (tailOf ts s.data.toList).2] := by simp [hld] at hv; exact hv.1
  exact hrun

theorem crashC_len (ts : List Tl) (f : Fl) : (crashF ts f).b.length = min (crashF ts f).s f.b.length := by
  unfold crashF turned
  dsimp only
  split <;> simp
theorem datS_gC (ts : List Tl) (left : Lit → Bool) (cs : List Fc) : datS Fc.name Fc.ptr (cs.map (gC ts left)) = datS Fc.name Fc.ptr cs := datS_map (gC_name ts left) (fun c _ => gC_ptr ts left c)
theorem gC_step (ts : List Tl) (left : Lit → Bool) {cs : List Fc} (hr : cs.Pairwise (fun a b => a.name < b.name)) {c : Fc} (hc : c ∈ cs) (hl : left (.string c.name) = true) :
    putS Fc.name (crashC ts c) (cs.map (gC ts left)) = cs.map (gC ts (fun z => left z && !z.sameKey (.string c.name))) := by
  have hcg : gC ts left c = c := by unfold gC; rw [if_pos hl]
  rw [putS_turn (key := Fc.name) (ris_map hr _ (gC_name ts left)) (x := crashC ts c) (c := c) (List.mem_map.2 ⟨c, hc, hcg⟩) rfl, List.map_map]
  apply List.map_congr_left
  intro d hd
  show (if (gC ts left d).name = c.name then crashC ts c else gC ts left d) = _
  rw [gC_name]
  by_cases h : d.name = c.name
  · obtain rfl : d = c := keyS_inj hr hd hc h
    rw [if_pos rfl]
    unfold gC
    rw [if_neg (by simp [Lit.sameKey])]
  · rw [if_neg h]
    unfold gC
    simp [Lit.sameKey, h]

theorem crash_round {w4 w6 : World} {S : Nat → Prop} {bd bm : Nat} {room short fuse : Int} {cs : List Fc} {ts : List Tl} {left : Lit → Bool} (h : DiskOk w4 S bd bm room short fuse (cs.map (gC ts left)))
    (hr : cs.Pairwise (fun a b => a.name < b.name)) {c : Fc} (hc : c ∈ cs) (hl : left (.string c.name) = true) {k : Nat} (hk : (crashF ts c.fl).s = k) (hkl : (crashF ts c.fl).b.length = k)
    (hb : Blk w6 c.blk 49 #[.slice c.A k k, .int .i64 (k : Int)]) (hrow : Row w6 0 5 1 (.slice c.A k k) k (u8s (crashF ts c.fl).b))
    (hm : Mods (fun i => i = c.blk ∨ c.row.ownBlock = some i) w4 w6) :
    DiskOk w6 S bd bm room short fuse (cs.map (gC ts (fun z => left z && !z.sameKey (.string c.name)))) := by
  have hcg : gC ts left c = c := by unfold gC; rw [if_pos hl]
  have hcm : c ∈ cs.map (gC ts left) := List.mem_map.2 ⟨c, hc, hcg⟩
  obtain ⟨n1, n2, n3, n4, n5, n6⟩ := h.ne hcm hcm
  have hro : (crashC ts c).row.ownBlock = c.row.ownBlock := by unfold Fc.row crashC; cases c.A <;> rfl
  have hcrow : (crashC ts c).row = .slice c.A k k := by unfold Fc.row crashC; simp only [hkl, hk]
  have hcs : (crashC ts c).s = k := hk
  rw [← gC_step ts left hr hc hl]
  refine h.put (w' := w6) (crashC ts c) (h.hdr.mods hm (fun e => e.elim n2 n4)) (k := (cs.map (gC ts left)).length) ?_ ⟨?_, ?_⟩ ?_ ⟨h.ownd.1, h.ownd.2.1, (h.ownd.2.2 c hcm).1, fun g hg => (h.ownd.2.2 c hcm).2 g (hro ▸ hg), fun _ h => h⟩
  · rw [gC_step ts left hr hc hl, datS_gC, ← datS_gC ts left cs]
    exact map_mods h.map hm (fun e => e.elim n3 n5)
  · rw [hcrow, hcs]; exact hb
  · rw [hcrow]
    have : (crashC ts c).b.length = k := hkl
    rw [this]
    exact hrow
  · intro d hd hne
    obtain ⟨q1, q2⟩ := h.apart hcm hd hne
    obtain ⟨m1, _⟩ := h.ne hd hcm
    obtain ⟨m2, _⟩ := h.ne hcm hd
    exact ⟨⟨(h.con d hd).1.mods hm (fun e => e.elim q1 m1), (h.con d hd).2.mods hm (fun g hg e => e.elim (fun e => m2 (by rw [hg, e])) (fun e => q2 g hg e))⟩, q1, fun g hg => hro ▸ q2 g hg⟩

def CrashPost (S : Nat → Prop) (w : World) (bd bm : Nat) (room : Int) (L : List Fl) (e : Ending) (w' : World) : Prop :=
  e = .returned (.int .i64 0) ∧ (∃ cs', DiskOk w' (ext S w w') bd bm room (-1) (-1) cs' ∧ cs'.map Fc.fl = L) ∧ Mods S w w'

theorem cell_new_t (W : World) (v : Value) (t : TypeId) : (W.alloc (.cells #[v] t)).cell? ⟨W.heap.size, 0, none⟩ = some v := by
  simp

set_option maxRecDepth 100000 in
set_option maxHeartbeats 2000000 in
theorem crash_any {w : World} {S : Nat → Prop} {bd bm : Nat} {room short fuse : Int} {cs : List Fc} (h : DiskOk w S bd bm room short fuse cs) (hmax : cs.length ≤ 1000000) (hsm : ∀ c ∈ cs, c.b.length ≤ 1048576 ∧ c.s ≤ c.b.length)
    (ts : List Tl) (hts : ts.length ≤ 1000000000) (A : Option Addr) (cap : Nat) (hr : Reads w w.heap.size 3 A ts.length (tcells ts)) (hA : 0 < ts.length → ∀ ad, A = some ad → ¬ S ad.block) :
    Calls Try.prog 30 #[.pointer (some ⟨bd, 0, none⟩), .slice A ts.length cap] w (CrashPost S w bd bm room ((cs.map Fc.fl).map (crashF ts))) := by
  refine (callsIn_wide (n := 6)).1 ?_
  have hmd := callsIn_wide (n := 5) |>.2 (made_yes bd bm room short fuse w h.hdr)
  have c0 : w.cell? ⟨bd, 0, none⟩ = some (.map (some bm)) := h.hdr.cell 0
  have hbd := h.lt.1
  have hbm := h.lt.2.1
  have hmm := @run_makeMap Try.prog
  have H : Hid (DiskOk w (fun k => S k ∧ k < w.heap.size) bd bm room short fuse cs) := Lib.hid ⟨h.hdr, h.map, h.con, h.ris, h.sep, ⟨h.ownd.1, h.lt.1⟩, ⟨h.ownd.2.1, h.lt.2.1⟩, fun c hc => ⟨⟨(h.ownd.2.2 c hc).1, (h.lt.2.2 c hc).1⟩, fun g hg => ⟨(h.ownd.2.2 c hc).2 g hg, (h.lt.2.2 c hc).2 g hg⟩⟩⟩
  have hris := Lib.hid h.ris
  have hfM : Fence.wide.fn 10 := trivial
  have hfB : Fence.wide.fn 49 := trivial
  have cB := fun W => backward_in Fence.wide 5 trivial rfl A ts.length cap W
  clear h
  refine callsIn_of_wp_marks Try.func30 rfl trivial ?_ rfl
  simp only [Try.ntmps30, List.size_toArray, List.length_cons, List.length_nil, Nat.reduceAdd, Nat.reduceSub, Array.replicate_succ, Array.replicate_zero, List.push_toArray, List.append_toArray, List.nil_append, List.cons_append]
  gi_wp2_with (first
    | (gi_at_call 10; refine hmd.mono ?_; rintro e w' ⟨rfl, hw⟩; obtain rfl := hw.symm)
    | (gi_at_call 49; refine (cB _).mono ?_; rintro e w' ⟨rfl, rfl⟩))
  have hm0 := World.ownsMap_made w Try.prog 9 hld
  have cT := cell_new_t (w.alloc (.map #[] 0)) (.map (some w.heap.size)) 79
  have cN := cell_new_t ((w.alloc (.map #[] 0)).alloc (.cells #[.map (some w.heap.size)] 79)) (.slice A ts.length cap) 31
  simp only [World.size_alloc] at cT cN
  have hB0 : Below w.heap.size w (((w.alloc (.map #[] 0)).alloc (.cells #[.map (some w.heap.size)] 79)).alloc (.cells #[.slice A ts.length cap] 31)) := (((Below.refl _ w).alloc (Nat.le_refl _) _).alloc (by simp) _).alloc (by simp; omega) _
  have hsz : (((w.alloc (.map #[] 0)).alloc (.cells #[.map (some w.heap.size)] 79)).alloc (.cells #[.slice A ts.length cap] 31)).heap.size = w.heap.size + 3 := by simp
  have hm1 := (hm0.alloc (.cells #[.map (some w.heap.size)] 79)).alloc (.cells #[.slice A ts.length cap] 31)
  have cT1 : (((w.alloc (.map #[] 0)).alloc (.cells #[.map (some w.heap.size)] 79)).alloc (.cells #[.slice A ts.length cap] 31)).cell? ⟨w.heap.size + 1, 0, none⟩ = some (.map (some w.heap.size)) := (World.cell?_alloc_lt _ _ _ (by simp)).trans cT
  have hr1 : Reads (((w.alloc (.map #[] 0)).alloc (.cells #[.map (some w.heap.size)] 79)).alloc (.cells #[.slice A ts.length cap] 31)) w.heap.size 3 A ts.length (tcells ts) := hr.below hB0
  have hAl : ∀ ad, A = some ad → 0 < ts.length → ad.block < w.heap.size := fun ad e h0 => by obtain ⟨ad', e', hb, _⟩ := hr.2 h0; rw [e] at e'; injection e' with e'; rw [e']; exact hb
  generalize (((w.alloc (.map #[] 0)).alloc (.cells #[.map (some w.heap.size)] 79)).alloc (.cells #[.slice A ts.length cap] 31)) = W0 at *
  refine wpIn_rangeFunc_ownH rfl (by omega) (gf := 54) (lb := #[.pointer (some ⟨w.heap.size + 1 + 1, 0, none⟩)]) rfl trivial (enters_of Try.func54 (by kernel_rfl) rfl)
    (backward_stops Fence.wide 5 trivial rfl (by omega) (fun k => k = w.heap.size ∨ w.heap.size + 3 ≤ k) (w.heap.size + 1 + 1) W0.heap.size cap A ts (by omega) W0 (by omega) (Nat.le_refl _) (by omega) (fun ad e h0 => by have := hAl ad e h0; omega) cN (hr1.more (by omega))) modsK_t (modsK_b (by omega)) (Below.refl _ _) (fun _ => rfl)
    (fun pre W => (W.cell? ⟨w.heap.size + 1, 0, none⟩ = some (.map (some w.heap.size)) ∧ W.ownsMap Try.prog 9 hld w.heap.size pre.length (datS Tl.nm Tl.val (tailsUp pre)) ∧ w.heap.size + 3 ≤ W.heap.size) ∧ Below w.heap.size w W)
    (fun _ _ _ => False)
    (OwnFrom.and (fun s A B row hs hg hr => ⟨cell_kept hs.1 hg (fun r e => (hr r e).2), hs.2.1.kept hg (fun e => by have := (hr _ e.symm).1; omega), Nat.le_trans hs.2.2 hg.size⟩) (ownFrom_below (Nat.le_refl _) (by omega)))
    (fun _ _ _ _ _ hs _ _ => hs)
    ⟨⟨cT1, hm1, by omega⟩, hB0⟩
    (fun x a' W => ∃ Bx, w.heap.size + 3 ≤ Bx ∧ Blk W Bx 78 #[.string x.2.name, .int .i64 x.2.keep, .bool x.2.turn] ∧ a' = { tmps := #[.pointer (some ⟨bd, 0, none⟩), .slice A ts.length cap, undef, undef, .int .i64 0, .pointer (some ⟨w.heap.size + 1, 0, none⟩), undef, .pointer (some ⟨Bx, 0, none⟩), undef, undef, undef, undef, .pointer (some ⟨bd, 0, none⟩), .bool true, .bool false, .map (some w.heap.size), .slice A ts.length cap, .func (.func 54) #[] #[.pointer (some ⟨w.heap.size + 1 + 1, 0, none⟩)], .int .i64 x.1, .agg #[.string x.2.name, .int .i64 x.2.keep, .bool x.2.turn], undef, undef, undef, undef, undef, undef, undef, undef, undef, undef, undef, undef, undef, undef, undef, undef, undef, undef, undef, undef, undef, undef, undef, undef, undef, undef, undef, undef, undef, undef, undef, undef, undef, undef, undef, undef, undef, undef, undef, undef, undef, undef, undef, undef, undef, undef, undef, undef, undef, undef, undef, undef, undef, undef, undef, undef, undef, undef, undef, undef, undef, undef, undef, undef, undef, undef, undef, undef, undef, undef, undef, undef, undef, undef, undef, undef], defers := [] })
    (fun x a' _ X Y row hs hg hr => by obtain ⟨Bx, h1, h2, h3⟩ := hs; exact ⟨Bx, h1, h2.grown hg (fun e' => by obtain ⟨_, o, ho, hc⟩ := hr Bx e'.symm; rw [show X.heap[Bx]? = _ from h2] at ho; cases ho; cases hc), h3⟩)
    ?assign ?body ?done ?stop
  case assign =>
    rintro l pre x W K ⟨⟨c1, hown, hs3⟩, hB1⟩ hK
    dsimp only [encT, Tl.val]
    have hz := Try.zeroValue78
    gi_wp2
    exact hK _ _ ((KeepsOthers.alloc _ _).from _) ((Mods.refl _ W).alloc _) ⟨⟨(World.cell?_alloc_lt _ _ _ (by simp; omega)).trans c1, hown.alloc _, by simp; omega⟩, hB1.alloc hB1.size _⟩ ⟨W.heap.size, hs3, Blk.new _ _ _, rfl⟩
  case body =>
    rintro l pre x a' W hl ⟨r, hr⟩ ⟨⟨c1, hown, hs3⟩, hB1⟩ ⟨Bx, hBx, bX, rfl⟩ hlt
    have x0 : W.cell? ⟨Bx, 0, none⟩ = some (.string x.2.name) := bX.cell 0
    have x1 : W.cell? ⟨Bx, 1, none⟩ = some (.int .i64 x.2.keep) := bX.cell 1
    have x2 : W.cell? ⟨Bx, 2, none⟩ = some (.bool x.2.turn) := bX.cell 2
    gi_wp2_with (gi_at_mapUpdate; refine wpListIn_mapUpdate_own _ rfl _ _ _ 79 rfl 9 78 lawTl Try.underlying79 hld w.heap.size pre.length _ rfl hown (by simp only [maxLen]; omega) _ _ _ rfl rfl (WideMaps.keyOf_string_mk Try.underlying9 x.2.small) _ [] rfl ?_; intro w1 hown1 hgrow1)
    have hne : W.grownBy w1 (some w.heap.size) := hgrow1
    exact ⟨KeepsFrom.of_grownBy hgrow1 (fun j e => by cases e; omega), (Mods.refl _ W).grown hgrow1 (fun k _ e => by injection e with e; exact .inl e.symm),
      ⟨⟨(World.cell?_of_block (hgrow1.block (w.heap.size + 1) (by omega) (by simp))).trans c1, by rw [tailsUp_snoc, List.length_append, ← datS_put]; exact hown1, Nat.le_trans hs3 hgrow1.size⟩, hB1.grown hgrow1 hB1.size (fun k e => by cases e; exact Nat.le_refl _)⟩⟩
  case stop =>
    rintro D c pre W _ _ h _
    exact h.elim
  case done =>
    rintro D ys W1 hD rfl ⟨⟨c1, hown, hs3⟩, hB1⟩ hK
    rw [tailsUp_all, back_length] at hown
    have hO1 := H.out.below hB1
    have e0 : W1.cell? ⟨bd, 0, none⟩ = some (.map (some bm)) := hO1.hdr.cell 0
    have hown1 := hO1.map
    gi_wp2_with (gi_at_range; refine wpListIn_range_own _ rfl _ 39 rfl 9 46 lawS Try.underlying39 hld bm cs.length _ rfl hown1 ?_; intro w0 hrg0 hg0 hs0)
    have hm10 : Mods (fun _ => False) W1 w0 := (Mods.refl _ W1).grown hg0 (fun k _ e => by cases e)
    have hO0 := hO1.keep hm10 (fun _ _ h => h)
    have hown0 := map_mods hown hm10 (fun h => h)
    have c10 : w0.cell? ⟨w.heap.size + 1, 0, none⟩ = some (.map (some w.heap.size)) := (World.cell?_of_block (hm10.block (w.heap.size + 1) (by omega) (fun h => h))).trans c1
    have hK0 : w0.heap[D]? = some (.deferred (some [])) := (hm10.block D (Array.getElem?_eq_some_iff.1 hK).1 (fun h => h)).trans hK
    have hDl : D < W1.heap.size := (Array.getElem?_eq_some_iff.1 hK).1
    have hB10 : Below w.heap.size w w0 := hB1.grown hg0 hB1.size (fun k e => by cases e)
    have hst : cs.map (gC ts (Maps.has (datS Fc.name Fc.ptr cs))) = cs := by
      conv => rhs; rw [← List.map_id cs]
      apply List.map_congr_left
      intro c hc
      have : Maps.has (datS Fc.name Fc.ptr cs) (.string c.name) = true := by rw [datS_has, List.any_eq_true]; exact ⟨c, hc, by simp⟩
      simp [gC, this]
    rw [← hst] at hO0
    have hHS := Lib.hid hs0
    clear hs0 hst
    go_frame
    refine wpIn_wide.2 ?_
    go_loopw [9] (fun _ wr => ∃ (left : Lit → Bool) (cnt : Nat), wr.ranges Try.prog 9 hld bm W1.heap.size cs.length (datS Fc.name Fc.ptr cs) left cnt ∧ DiskOk wr (fun k => S k ∧ k < w.heap.size) bd bm room short fuse (cs.map (gC ts left)) ∧ Mods (fun k => (S k ∧ k < w.heap.size) ∨ k = W1.heap.size) w0 wr)
      (fun _ wr => wr.rangeLeft bm W1.heap.size)
    case atStart => exact ⟨_, _, hrg0, hO0, Mods.refl _ _⟩
    case round =>
      obtain ⟨left, cnt, hrg, hd, hmw⟩ := hrel
      go_wp2_with
        (at_next; refine wpList_next_ranges _ rfl _ rfl 9 lawS hld encStr id (fun key kl hk => by obtain ⟨x, hx, _⟩ := Maps.keyOf_str Try.underlying9 hk; exact ⟨x, hx⟩) (fun v y _ => ⟨v, rfl⟩) bm W1.heap.size cs.length _ _ _ rfl hrg ?_ ?_)
      · intro _ hl0
        have HL0 := Lib.hid hl0
        clear hl0
        have hb2 := hd.hdr.set_ 2 (.int .i64 (-1))
        have hb3 := hb2.set_ 3 (.int .i64 (-1))
        have f2 : wr.frozen? ⟨bd, 2, none⟩ = false := hd.hdr.frozen 2
        have f3 : wr.frozen? ⟨bd, 3, none⟩ = false := hd.hdr.frozen 3
        have g2 : wr.cell? ⟨bd, 2, none⟩ = some (.int .i64 short) := hd.hdr.cell 2
        have g3 : (wr.setCell ⟨bd, 2, none⟩ (.int .i64 (-1))).cell? ⟨bd, 3, none⟩ = some (.int .i64 fuse) := hb2.cell 3
        have hDn : ¬ ((S D ∧ D < w.heap.size) ∨ D = W1.heap.size) := fun e => e.elim (fun e => by have := e.2; omega) (fun e => by omega)
        have hKr : wr.heap[D]? = some (.deferred (some [])) := (hmw.block D (by have := hm10.size; omega) hDn).trans hK0
        have hDb : D ≠ bd := by omega
        have hK6 : ((wr.setCell ⟨bd, 2, none⟩ (.int .i64 (-1))).setCell ⟨bd, 3, none⟩ (.int .i64 (-1))).heap[D]? = some (.deferred (some [])) := (Below.heap_setCell _ _ _ D hDb).trans ((Below.heap_setCell _ _ _ D hDb).trans hKr)
        have hd6 := hd.head hb3 (((Mods.refl (· = bd) wr).setCell (p := ⟨bd, 2, none⟩) (fun _ => rfl) _).setCell (p := ⟨bd, 3, none⟩) (fun _ => rfl) _)
        have hM6 : Mods S w ((wr.setCell ⟨bd, 2, none⟩ (.int .i64 (-1))).setCell ⟨bd, 3, none⟩ (.int .i64 (-1))) :=
          ((((Mods.refl S w).below hB10).trans hmw (fun i hi e => e.elim (fun e => e.1) (fun e => by omega))).setCell (p := ⟨bd, 2, none⟩) (fun _ => H.out.ownd.1.1) _).setCell (p := ⟨bd, 3, none⟩) (fun _ => H.out.ownd.1.1) _
        go_wp2
        gi_wp2
        refine ⟨by simp, .inl ⟨_, _, rfl, run_takeDeferred hK6, ?_⟩⟩
        refine ⟨_, results_tmp rfl _ _ _, rfl, ⟨_, (hd6.keep ((Mods.refl (· = D) _).grown (grownBy_putObj' _ D _) (fun k _ e => by injection e with e; exact e.symm)) (fun k h e => by have := h.2; omega)).more (fun k h => .inl h.1), ?_⟩, hM6.grown (grownBy_putObj' _ D _) (fun k hk e => by injection e with e; omega)⟩
        rw [List.map_map, List.map_map]
        apply List.map_congr_left
        intro c _
        show (gC ts left c).fl = crashF ts c.fl
        unfold gC
        rw [if_neg (by rw [HL0.out]; decide)]
        rfl
      · intro x v kl yd yp w2 cnt2 hkey hlk hv hat hrg2 hlt hg2 hs2 hen
        obtain rfl : yd = .held v := by simp [hld] at hv; exact hv.1.symm
        obtain ⟨c, hc, rfl, rfl⟩ := datS_from hat
        obtain ⟨x', hx', hxn, hxl⟩ := Maps.keyOf_str Try.underlying9 hkey
        injection hxn with hxn
        have hz : (⟨c.name.toArray⟩ : ByteArray).size ≤ maxLen := by rw [hxn]; simpa [ByteArray.size] using hxl
        have hxe : encStr x = .string ⟨c.name.toArray⟩ := by rw [hx', ← hxn]
        have hm2 : Mods (fun k => (S k ∧ k < w.heap.size) ∨ k = W1.heap.size) w0 w2 := hmw.grown hg2 (fun k _ e => by injection e with e; exact .inr e.symm)
        have hd2 := hd.keep ((Mods.refl (· = W1.heap.size) wr).grown hg2 (fun k _ e => by injection e with e; exact e.symm)) (fun k h e => by have := h.2; omega)
        have hcg : gC ts left c = c := by unfold gC; rw [if_pos hlk]
        have hcm : c ∈ cs.map (gC ts left) := List.mem_map.2 ⟨c, hc, hcg⟩
        have hcon := hd2.con c hcm
        have d0 : w2.cell? ⟨c.blk, 0, none⟩ = some (.slice c.A c.b.length c.cap) := hcon.1.cell 0
        have d1 : w2.cell? ⟨c.blk, 1, none⟩ = some (.int .i64 c.s) := hcon.1.cell 1
        have f0 : w2.frozen? ⟨c.blk, 0, none⟩ = false := hcon.1.frozen 0
        have f1 : w2.frozen? ⟨c.blk, 1, none⟩ = false := hcon.1.frozen 1
        have c2 : w2.cell? ⟨w.heap.size + 1, 0, none⟩ = some (.map (some w.heap.size)) := (World.cell?_of_block (hm2.block (w.heap.size + 1) (by have := hm10.size; omega) (fun e => by rcases e with e | e; exact absurd e.2 (by omega); omega))).trans c10
        have hownT := map_mods hown0 hm2 (fun e => by rcases e with e | e; exact absurd e.2 (by omega); omega)
        obtain ⟨s', hlook⟩ := lookT hownT hz
        rw [hxe] at hen ⊢
        have HKEY := Lib.hid hkey
        have HC := Lib.hid hc
        have HLK := Lib.hid hlk
        have HLT := Lib.hid hlt
        have HRG := Lib.hid hrg2
        clear hkey hlk hlt hrg2 hs2 hx' hxe hat hv hxn hxl
        simp only [Fc.ptr] at hen ⊢
        have hsl := hsm c hc
        have hw1 : IntKind.i64.wrap ((c.b.length : Int) - (c.s : Int)) = (c.b.length : Int) - (c.s : Int) := IntWalk.i64_in _ (by omega)
        generalize hkp : tailOf ts c.name = kt at hlook ⊢
        obtain ⟨kp, tn⟩ := kt
        have HKP := Lib.hid hkp
        clear hkp
        go_wp2
        generalize hw3 : w2.alloc (Obj.cells #[Value.string s', Value.int IntKind.i64 kp, Value.bool tn] 78) = w3
        have hd3 := hd2.below (w' := w3) (hw3 ▸ (Below.refl _ w2).alloc (Nat.le_refl _) _)
        have hm3 : Mods (fun k => (S k ∧ k < w.heap.size) ∨ k = W1.heap.size) w0 w3 := hw3 ▸ hm2.alloc _
        have hT : Blk w3 w2.heap.size 78 #[Value.string s', Value.int IntKind.i64 kp, Value.bool tn] := hw3 ▸ Blk.new w2 _ _
        have e0 : w3.cell? ⟨c.blk, 0, none⟩ = some (.slice c.A c.b.length c.cap) := (hd3.con c hcm).1.cell 0
        have e1 : w3.cell? ⟨c.blk, 1, none⟩ = some (.int .i64 c.s) := (hd3.con c hcm).1.cell 1
        have t1 : w3.cell? ⟨w2.heap.size, 1, none⟩ = some (.int .i64 kp) := hT.cell 1
        have t2 : w3.cell? ⟨w2.heap.size, 2, none⟩ = some (.bool tn) := hT.cell 2
        clear d0 d1 f0 f1 c2 hlook hen
        go_region_held3 (fun w' => w'.cell? ⟨c.blk, 0, none⟩ = some (.slice c.A c.b.length c.cap) ∧ w'.cell? ⟨c.blk, 1, none⟩ = some (.int .i64 c.s) ∧ w'.cell? ⟨w2.heap.size, 1, none⟩ = some (.int .i64 kp)) (go_keep) (first | fail)
        have hkv : IntKind.i64.wrap ((c.s : Int) + min (max kp 0) ((c.b.length : Int) - (c.s : Int))) = ((kept c.s c.b.length kp : Nat) : Int) := by
          have : (c.s : Int) + min (max kp 0) ((c.b.length : Int) - (c.s : Int)) = ((kept c.s c.b.length kp : Nat) : Int) := by unfold kept; omega
          rw [this]
          exact IntWalk.i64_in _ (by unfold kept; omega)
        simp only [hkv]
        have hk1 : c.s ≤ kept c.s c.b.length kp := by unfold kept; omega
        have hk2 : kept c.s c.b.length kp ≤ c.b.length := by unfold kept; omega
        generalize hkk : kept c.s c.b.length kp = k at hk1 hk2 ⊢
        have HKK := Lib.hid hkk
        clear hkk hkv
        obtain ⟨_, hcap, hcapm⟩ := (hd3.con c hcm).2.cap
        have hd4 := hd3.below (w' := w3.drew) ((Below.refl _ w3).drew)
        have hm4 : Mods (fun k => (S k ∧ k < w.heap.size) ∨ k = W1.heap.size) w0 w3.drew := hm3.drew
        have e0' : w3.drew.cell? ⟨c.blk, 0, none⟩ = some (.slice c.A c.b.length c.cap) := e0
        have e1' : w3.drew.cell? ⟨c.blk, 1, none⟩ = some (.int .i64 c.s) := e1
        have t2' : w3.drew.cell? ⟨w2.heap.size, 2, none⟩ = some (.bool tn) := t2
        have hrg4 : w3.drew.ranges Try.prog 9 hld bm W1.heap.size cs.length (datS Fc.name Fc.ptr cs) (fun z => left z && !z.sameKey (.string c.name)) cnt2 := hw3 ▸ (HRG.out.alloc _)
        have hT4 : Blk w3.drew w2.heap.size 78 #[Value.string s', Value.int IntKind.i64 kp, Value.bool tn] := hT
        generalize w3.drew = w4 at hrg4 hd4 hm4 e0' e1' t2' hT4 ⊢
        clear e0 e1 t1 t2 hT hd3 hm3
        have hcn : c.cap ≤ 9223372036854775807 := by simp only [maxLen] at hcapm; omega
        have hg0 : w4.frozen? ⟨c.blk, 0, none⟩ = false := (hd4.con c hcm).1.frozen 0
        have hg1 : w4.frozen? ⟨c.blk, 1, none⟩ = false := (hd4.con c hcm).1.frozen 1
        have hcb := (hd4.con c hcm).1.set_ 0 (.slice c.A k k)
        have hbT : w2.heap.size ≠ c.blk := Blk.ne_ hT4 (hd4.con c hcm).1 (by decide)
        have hT5 := hT4.far (p := ⟨c.blk, 0, none⟩) hbT (.slice c.A k k)
        have t3 : (w4.setCell ⟨c.blk, 0, none⟩ (.slice c.A k k)).cell? ⟨w2.heap.size, 2, none⟩ = some (.bool tn) := hT5.cell 2
        have k1 : (w4.setCell ⟨c.blk, 0, none⟩ (.slice c.A k k)).cell? ⟨c.blk, 1, none⟩ = some (.int .i64 c.s) := hcb.cell 1
        have k0 : (w4.setCell ⟨c.blk, 0, none⟩ (.slice c.A k k)).cell? ⟨c.blk, 0, none⟩ = some (.slice c.A k k) := hcb.cell 0
        have hrw := (hd4.con c hcm).2.cut hk2
        rw [Nat.mul_one] at hrw
        have hrw5 := hrw.far (p := ⟨c.blk, 0, none⟩) (hrw.blk_ne (hd4.con c hcm).1 (by decide)) (.slice c.A k k)
        have hbl5 := hrw5.blk_ne hcb (by decide)
        have hm5 : Mods (fun i => i = c.blk ∨ c.row.ownBlock = some i) w4 (w4.setCell ⟨c.blk, 0, none⟩ (.slice c.A k k)) := (Mods.refl _ w4).setCell (p := ⟨c.blk, 0, none⟩) (fun _ => .inl rfl) _
        obtain ⟨n1, n2, n3, n4, n5, n6⟩ := hd4.ne hcm hcm
        have hks : (crashF ts c.fl).s = k := by show kept c.s c.b.length (tailOf ts c.name).1 = k; rw [HKP.out]; exact HKK.out
        have hkb : (crashF ts c.fl).b = turned tn c.s k (c.b.take k) := by
          show turned (tailOf ts c.name).2 c.s (kept c.s c.b.length (tailOf ts c.name).1) (c.b.take (kept c.s c.b.length (tailOf ts c.name).1)) = _
          rw [HKP.out]
          show turned tn c.s (kept c.s c.b.length kp) (c.b.take (kept c.s c.b.length kp)) = _
          rw [HKK.out]
        have hkl : (crashF ts c.fl).b.length = k := by
          rw [crashC_len, hks]
          show min k c.b.length = k
          omega
        have hSm : ∀ i, i < w0.heap.size → (i = c.blk ∨ c.row.ownBlock = some i) → (S i ∧ i < w.heap.size) ∨ i = W1.heap.size := fun i _ e => .inl (e.elim (fun e => e ▸ (hd4.ownd.2.2 c hcm).1) (fun e => (hd4.ownd.2.2 c hcm).2 i e))
        have hRn : ¬ (W1.heap.size = c.blk ∨ c.row.ownBlock = some W1.heap.size) := fun e => e.elim (fun e => by have := (hd4.ownd.2.2 c hcm).1.2; omega) (fun e => by have := ((hd4.ownd.2.2 c hcm).2 _ e).2; omega)
        have HM5 := Lib.hid hm5
        have HKS := Lib.hid hks
        have HKB := Lib.hid hkb
        have HKL := Lib.hid hkl
        have HSM := Lib.hid hSm
        have HRN := Lib.hid hRn
        clear hm5 hks hkb hkl hSm hRn
        rcases (show (tn = false ∨ (tn = true ∧ ¬ c.s < k)) ∨ (tn = true ∧ c.s < k) by cases tn <;> simp; omega) with hno | ⟨htn, hlt⟩
        · have hturn : turned tn c.s k (c.b.take k) = c.b.take k := by unfold turned; rw [if_neg (by rintro ⟨h1, h2⟩; rcases hno with h | ⟨_, h⟩; rw [h] at h1; cases h1; exact h h2)]
          have HTURN := Lib.hid hturn
          clear hturn
          rcases hno with rfl | ⟨rfl, hns⟩
          focus
            have t0 : True := trivial
          rotate_left
          focus
            have t0 : decide ((c.s : Int) < (k : Int)) = false := by simp; omega
            have t1 : ¬ (c.s : Int) < (k : Int) := by omega
          rotate_left
          all_goals go_wp2
          all_goals
            have hm6 := HM5.out.setCell (p := ⟨c.blk, 1, none⟩) (fun _ => .inl rfl) (.int .i64 (k : Int))
            have hrg6 := ranges_mods hrg4 hm6 (fun e => e.elim n3 n5) HRN.out
            exact ⟨⟨_, _, hrg6, crash_round hd4 hris.out HC.out HLK.out HKS.out HKL.out (hcb.set_ 1 _) (by rw [HKB.out, HTURN.out]; have := hrw5.far (p := ⟨c.blk, 1, none⟩) hbl5 (.int .i64 (k : Int)); simpa [u8s, List.map_take] using this) hm6, hm4.trans hm6 HSM.out⟩, by rw [hrg6.left_eq, hrg.left_eq]; exact HLT.out⟩
        · subst htn
          obtain ⟨k', rfl⟩ : ∃ k', k = k' + 1 := ⟨k - 1, by omega⟩
          obtain ⟨g, hA⟩ := hrw5.some_ (by omega)
          have hkb : k' < c.b.length := by omega
          have hwk : IntKind.i64.wrap (((k' + 1 : Nat) : Int) - 1) = (k' : Int) := by
            have : ((k' + 1 : Nat) : Int) - 1 = (k' : Int) := by omega
            rw [this]; exact IntWalk.i64_in _ (by omega)
          rw [hA] at hrw5 k0 hcb hbl5
          rw [hA] at t3 k1 hT5
          have HM5' := HM5.out
          rw [hA] at HM5'
          have HM5' := Lib.hid HM5'
          have hgb : c.row.ownBlock = some g := by unfold Fc.row; rw [hA]; rfl
          have p0 : (w4.setCell ⟨c.blk, 0, none⟩ (.slice (some ⟨g, 0, none⟩) (k' + 1) (k' + 1))).cell? ⟨g, k', none⟩ = some (.int .u8 ((c.b[k']).toNat : Int)) := by
            have := hrw5.cells (g := g) rfl k' (.int .u8 ((c.b[k']).toNat : Int)) (by simp [u8s, hkb])
            have ha : (⟨g, 0, none⟩ : Addr).add k' = ⟨g, k', none⟩ := by unfold Addr.add; by_cases h : k' = 0 <;> simp [h]
            rwa [ha] at this
          have p1 := hrw5.frozen rfl k'
          have hx : bits BinOp.xor IntKind.u8 ((c.b[k']).toNat : Int) 1 = ((c.b[k'] ^^^ 1).toNat : Int) := by
            have := u8_xor_nat (c.b[k']).toNat 1 (c.b[k']).toNat_lt (by decide)
            rw [UInt8.toNat_xor]
            exact this
          have hgc : c.blk ≠ g := fun e => hbl5 (by rw [e]; rfl)
          have hcb6 := hcb.far (p := ⟨g, k', none⟩) hgc (.int .u8 ((c.b[k'] ^^^ 1).toNat : Int))
          have q0 : ((w4.setCell ⟨c.blk, 0, none⟩ (.slice (some ⟨g, 0, none⟩) (k' + 1) (k' + 1))).setCell ⟨g, k', none⟩ (.int .u8 ((c.b[k'] ^^^ 1).toNat : Int))).cell? ⟨c.blk, 1, none⟩ = some (.int .i64 c.s) := hcb6.cell 1
          rw [hA]
          go_wp2
          have hxv : ((c.b[k'].toNat ^^^ 1 : Nat) : Int) = ((c.b[k'] ^^^ 1).toNat : Int) := by rw [UInt8.toNat_xor]; rfl
          have hke : (k' : Int) + 1 = ((k' + 1 : Nat) : Int) := rfl
          rw [hxv, hke]
          have hm6 := (HM5'.out.setCell (p := ⟨g, k', none⟩) (fun _ => .inr hgb) (.int .u8 ((c.b[k'] ^^^ 1).toNat : Int))).setCell (p := ⟨c.blk, 1, none⟩) (fun _ => .inl rfl) (.int .i64 ((k' + 1 : Nat) : Int))
          have hrg6 := ranges_mods hrg4 hm6 (fun e => e.elim n3 n5) HRN.out
          have hrow := (hrw5.set_ (i := k') (by simp [u8s_length]; omega) (.int .u8 ((c.b[k'] ^^^ 1).toNat : Int))).far (p := ⟨c.blk, 1, none⟩) (by simpa [Value.ownBlock] using fun e => hgc e.symm) (.int .i64 ((k' + 1 : Nat) : Int))
          have hbe : (crashF ts c.fl).b = (c.b.take (k' + 1)).set k' (c.b[k'] ^^^ 1) := by
            rw [HKB.out]
            unfold turned
            rw [if_pos ⟨rfl, hlt⟩]
            simp [hkb]
          exact ⟨⟨_, _, hrg6, crash_round hd4 hris.out HC.out HLK.out HKS.out HKL.out (by rw [hA]; exact hcb6.set_ 1 _) (by rw [hA, hbe]; simpa [u8s, List.map_take, List.map_set] using hrow) hm6, hm4.trans hm6 HSM.out⟩, by rw [hrg6.left_eq, hrg.left_eq]; exact HLT.out⟩

end Go.Proofs.Ytkfmfllniakhkaa
