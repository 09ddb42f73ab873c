/-
  FilesLive, where what it reads is of bulk at most 1048576: the law answers true for every room, every list of steps and every place of the copy, and leaves its arguments as they were. Condition: the bound on the bulk alone (the second form).
-/
import Derived.Test.YtkfmfllniakhkaaRows
import Derived.Test.YtkfmfllniakhkaaBulk
import Derived.Test.YtkfmfllniakhkaaLawF
import Derived.ProofKit
import Derived.OpenShut
import Derived.JoinedCond
import Derived.ChangeSlices
namespace Go.Proofs.Ytkfmfllniakhkaa
open Go.ChangeShapes Go.WideShapes Go.ChangeAt Go.RowKit Go.Deep
set_option linter.unusedVariables false

theorem own : ownKnob Try.prog.godebug = none := by kernel_rfl
theorem laidOut : laidOutB Try.prog = true := by kernel_rfl
theorem cellsStep : Try.prog.cellsOf 33 = 6 := by kernel_rfl
theorem cellsTail : Try.prog.cellsOf 78 = 3 := by kernel_rfl
theorem cellsU8 : Try.prog.cellsOf 5 = 1 := by kernel_rfl

theorem ofInts {zs : List Int} (h : ∀ n ∈ zs, (Lit.int .u8 n).wf = true) : u8s (zs.map fun z => UInt8.ofNat z.toNat) = zs.map (Value.int .u8) := by
  unfold u8s
  rw [List.map_map]
  apply List.map_congr_left
  intro z hz
  have := h z hz
  have hb : 0 ≤ z ∧ z ≤ 255 := by simpa [Lit.wf, IntKind.min, IntKind.max, IntKind.signed, IntKind.bits] using this
  simp only [Function.comp]
  congr 1
  rw [UInt8.toNat_ofNat']
  omega

/-- a slice of bytes that lies in a cell -/
theorem open_bytes {H : Type} {enc : TypeId × Value → H} {W : World} {fuel : Nat} {v : Value} {y : DataW H × List MemPlace} (h : DataW.trod enc Try.prog W 0 (fun _ => true) true fuel 30 [v] = some y) :
    ∃ A m c bs, v = .slice A m c ∧ Reads W W.heap.size 1 A m (u8s bs) ∧ m ≤ Rows.uptoBulk y.1 ∧ m ≤ c := by
  rcases open_ints Try.underlying30 Try.underlying5 cellsU8 h with ⟨hcs, hx⟩ | ⟨a, len, cap, zs, hcs, _, hl, hm, hzs, hx, hcell, hwf⟩
  · obtain rfl : v = .slice none 0 0 := by simpa using hcs
    exact ⟨none, 0, 0, [], rfl, Reads.none_, Nat.zero_le _, Nat.le_refl _⟩
  · obtain rfl : v = .slice (some a) len cap := by simpa using hcs
    simp only [if_true] at hzs
    have e := ofInts (zs := zs.take len) (fun n hn => hwf n (List.mem_of_mem_take hn))
    refine ⟨some a, len, cap, (zs.take len).map fun z => UInt8.ofNat z.toNat, rfl, ⟨by simp [u8s_length]; omega, fun h0 => ⟨a, rfl, ?_, fun j u hu => ?_⟩⟩, ?_, hl⟩
    · have := block_lt_of_cell (hcell 0 (by omega))
      rwa [block_of_add] at this
    · rw [e, List.getElem?_map, Option.map_eq_some_iff] at hu
      obtain ⟨z, hz, rfl⟩ := hu
      rw [List.getElem?_take] at hz
      split at hz
      · rw [hcell j (by omega)]
        simp [hz]
      · cases hz
    · subst hx
      have := bulks.slice_le (H := H) (lits .u8 (zs.take len)) (lits .u8 (zs.drop len))
      have e1 : (lits (H := H) .u8 (zs.take len)).length = len := by simp [lits]; omega
      show len ≤ Rows.uptoBulk (.slice (lits .u8 (zs.take len)) (lits .u8 (zs.drop len)))
      omega

theorem pick {α : Type} {n : Nat} {p : Nat → α → Prop} (h : ∀ i, i < n → ∃ x, p i x) : ∃ l : List α, l.length = n ∧ ∀ i (hi : i < l.length), p i l[i] := by
  induction n with
  | zero => exact ⟨[], rfl, fun i hi => by cases hi⟩
  | succ n ih =>
    obtain ⟨l, hl, hp⟩ := ih fun i hi => h i (by omega)
    obtain ⟨x, hx⟩ := h n (by omega)
    refine ⟨l ++ [x], by simp [hl], fun i hi => ?_⟩
    by_cases hin : i < l.length
    · rw [List.getElem_append_left hin]; exact hp i hin
    · have : i = n := by simp at hi; omega
      subst this
      rw [List.getElem_append_right (by omega)]
      simpa [hl] using hx

theorem tcells_reads {W : World} {a : Addr} {ts : List Tl} (h : ∀ i (hi : i < ts.length) r u, r < 3 → (tcell ts[i])[r]? = some u → W.cell? (a.add (i * 3 + r)) = some u) : ∀ j u, (tcells ts)[j]? = some u → W.cell? (a.add j) = some u := by
  intro j u hu
  have hj : j < (tcells ts).length := (List.getElem?_eq_some_iff.1 hu).1
  rw [tcells_length] at hj
  have hjd : j = j / 3 * 3 + j % 3 := by omega
  have hi : j / 3 < ts.length := by omega
  rw [hjd] at hu ⊢
  rw [tcells_at ts (j / 3) hi (j % 3) (by omega)] at hu
  exact h (j / 3) hi (j % 3) u (by omega) hu

/-- a slice of tails that lies in a cell -/
theorem open_tails {H : Type} {enc : TypeId × Value → H} {W : World} {fuel : Nat} {v : Value} {y : DataW H × List MemPlace} (h : DataW.trod enc Try.prog W 0 (fun _ => true) true fuel 31 [v] = some y) :
    ∃ TA tc ts, v = .slice TA ts.length tc ∧ Reads W W.heap.size 3 TA ts.length (tcells ts) ∧ ts.length ≤ Rows.uptoBulk y.1 := by
  rcases open_slice_fields Try.underlying31 Try.underlying78 (by kernel_rfl) cellsTail h with ⟨hcs, hx⟩ | ⟨a, len, cap, m, D, Pl, hcs, _, hl, hm, hmm, hx, hel⟩
  · obtain rfl : v = .slice none 0 0 := by simpa using hcs
    exact ⟨none, 0, [], rfl, Reads.none_, Nat.zero_le _⟩
  · obtain rfl : v = .slice (some a) len cap := by simpa using hcs
    simp only [if_true] at hmm
    have hex : ∀ i, i < len → ∃ t : Tl, ∀ r u, r < 3 → (tcell t)[r]? = some u → W.cell? (a.add (i * 3 + r)) = some u := by
      intro i hi
      obtain ⟨ys, n', hD, _, hyl, hf⟩ := hel i (by omega)
      obtain ⟨v0, y0, c0, hy0, t0⟩ := hf 0 _ rfl
      obtain ⟨v1, y1, c1, hy1, t1⟩ := hf 1 _ rfl
      obtain ⟨v2, y2, c2, hy2, t2⟩ := hf 2 _ rfl
      obtain ⟨s0, e0, _, w0⟩ := DataW.trod_string Try.underlying9 t0
      obtain ⟨z1, e1, _, w1⟩ := DataW.trod_int Try.underlying3 t1
      obtain ⟨b2, e2, _⟩ := DataW.trod_bool Try.underlying4 t2
      obtain rfl : v0 = .string s0 := by simpa using e0
      obtain rfl : v1 = .int .i64 z1 := by simpa using e1
      obtain rfl : v2 = .bool b2 := by simpa using e2
      refine ⟨⟨s0, z1, b2, w0⟩, fun r u hr hu => ?_⟩
      rcases (show r = 0 ∨ r = 1 ∨ r = 2 by omega) with rfl | rfl | rfl
      · have : u = .string s0 := by simpa [tcell] using hu.symm
        rw [this]; exact c0
      · have : u = .int .i64 z1 := by simpa [tcell] using hu.symm
        rw [this]; exact c1
      · have : u = .bool b2 := by simpa [tcell] using hu.symm
        rw [this]; exact c2
    obtain ⟨ts, hts, hp⟩ := pick hex
    subst hts
    have hc := tcells_reads (W := W) (a := a) (ts := ts) fun i hi r u hr hu => hp i hi r u hr hu
    refine ⟨some a, cap, ts, rfl, ⟨tcells_length ts, fun h0 => ⟨a, rfl, ?_, hc⟩⟩, ?_⟩
    · have h1 := hp 0 h0 0 (.string ts[0].name) (by omega) (by simp [tcell])
      have := block_lt_of_cell h1
      rwa [block_of_add] at this
    · subst hx
      have := bulks.slice_le (H := H) ((List.range ts.length).map D) ((List.range (m - ts.length)).map fun j => D (ts.length + j))
      simp at this
      show ts.length ≤ Rows.uptoBulk (.slice ((List.range ts.length).map D) ((List.range (m - ts.length)).map fun j => D (ts.length + j)))
      omega

theorem open_steps {H : Type} {enc : TypeId × Value → H} {W : World} {fuel len cap : Nat} {A0 : Option Addr} {x : DataW H × List MemPlace} (h : DataW.trod enc Try.prog W 0 (fun _ => true) true fuel 22 [.slice A0 len cap] = some x)
    (hb : Rows.uptoBulk x.1 ≤ 1048576) : len ≤ 1048576 ∧ ∀ i, i < len → StAny W A0 i := by
  rcases open_slice_fields Try.underlying22 Try.underlying33 (by kernel_rfl) cellsStep h with ⟨hcs, hx⟩ | ⟨a, len', cap', m, D, Pl, hcs, _, hl, hm, hmm, hx, hel⟩
  · have hcs' : A0 = none ∧ len = 0 ∧ cap = 0 := by simpa using hcs
    obtain ⟨rfl, rfl, rfl⟩ := hcs'
    exact ⟨Nat.zero_le _, fun i hi => absurd hi (by omega)⟩
  · have hcs' : A0 = some a ∧ len = len' ∧ cap = cap' := by simpa using hcs
    obtain ⟨rfl, rfl, rfl⟩ := hcs'
    simp only [if_true] at hmm
    subst hx
    dsimp only at hb
    have hb1 := bulks.slice_elems (H := H) ((List.range len).map D) ((List.range (m - len)).map fun j => D (len + j))
    refine ⟨?_, fun i hi => ?_⟩
    · have := bulks.slice_le (H := H) ((List.range len).map D) ((List.range (m - len)).map fun j => D (len + j))
      simp at this
      omega
    · obtain ⟨ys, n', hD, _, hyl, hf⟩ := hel i (by omega)
      obtain ⟨v0, y0, c0, hy0, t0⟩ := hf 0 _ rfl
      obtain ⟨v1, y1, c1, hy1, t1⟩ := hf 1 _ rfl
      obtain ⟨v2, y2, c2, hy2, t2⟩ := hf 2 _ rfl
      obtain ⟨v3, y3, c3, hy3, t3⟩ := hf 3 _ rfl
      obtain ⟨v4, y4, c4, hy4, t4⟩ := hf 4 _ rfl
      obtain ⟨v5, y5, c5, hy5, t5⟩ := hf 5 _ rfl
      obtain ⟨z0, e0, _, w0⟩ := DataW.trod_int Try.underlying3 t0
      obtain ⟨z1, e1, _, w1⟩ := DataW.trod_int Try.underlying3 t1
      obtain ⟨s2, e2, _, w2⟩ := DataW.trod_string Try.underlying9 t2
      obtain ⟨s3, e3, _, w3⟩ := DataW.trod_string Try.underlying9 t3
      obtain rfl : v0 = .int .i64 z0 := by simpa using e0
      obtain rfl : v1 = .int .i64 z1 := by simpa using e1
      obtain rfl : v2 = .string s2 := by simpa using e2
      obtain rfl : v3 = .string s3 := by simpa using e3
      obtain ⟨BA, bm, bc, bs, rfl, hrd, hbk, hbc⟩ := open_bytes t4
      obtain ⟨TA, tc, ts, rfl, htr, htk⟩ := open_tails t5
      have hDi : Rows.uptoBulk (D i) ≤ Rows.uptoBulkAll ((List.range len).map D) := bulks.part_le (List.mem_map_of_mem (List.mem_range.2 hi))
      have hy4' : Rows.uptoBulk y4.1 ≤ Rows.uptoBulkAll (ys.map (·.1)) := bulks.part_le (List.mem_map_of_mem (List.mem_of_getElem? hy4))
      have hy5' : Rows.uptoBulk y5.1 ≤ Rows.uptoBulkAll (ys.map (·.1)) := bulks.part_le (List.mem_map_of_mem (List.mem_of_getElem? hy5))
      rw [hD] at hDi
      simp only [Rows.uptoBulk] at hDi
      have hblk := block_lt_of_cell c0
      rw [block_of_add] at hblk
      have hn : -9223372036854775808 ≤ z1 ∧ z1 ≤ 9223372036854775807 := by simpa [Lit.wf, IntKind.min, IntKind.max, IntKind.signed, IntKind.bits] using w1
      exact ⟨z0, z1, s2, s3, BA, bm, bc, bs, TA, tc, ts, ⟨⟨a, rfl, hblk, c0, c1, c2, c3, c4, c5⟩, ⟨hrd, by omega, hbc, htr, by omega, w2, w3, hn⟩⟩⟩

set_option maxRecDepth 100000 in
theorem contract (H : Type) (enc : TypeId × Value → H) (W : World) (base : Nat) (args : Array Value) (ds gs : List (DataW H)) (before : List MemPlace)
    (hval : ∀ (j : Nat) t v, Try.f3.params[j]? = some t → args[j]? = some v → Value.okWide Try.prog W .any base t v)
    (hW : DataW.Whole enc Try.prog Try.f3.params.toList Rows.filesLiveSpec.vars false W args.toList ds gs before) (hk : Rows.uptoSmall H (ds ++ gs) = true) :
    Calls Try.prog 3 args W fun e W' => ∃ v, e = .returned v ∧ Rows.filesLiveSpec.post enc Try.prog Try.f3 false true false false W args v W' := by
  have hW' := hW
  obtain ⟨p, q, hA0, hV, rfl, hfz, hnd⟩ := hW
  have hA : DataW.TrodAll enc Try.prog W 0 (fun _ => true) true Try.f3.params.toList args.toList ds p := hA0
  rw [Try.params3] at hA hval
  obtain ⟨v0, vs0, d0, ds0, p0, q0, hargs, rfl, rfl, h0, r0⟩ := trodAll_cons hA
  obtain ⟨v1, vs1, d1, ds1, p1, q1, rfl, rfl, rfl, h1, r1⟩ := trodAll_cons r0
  obtain ⟨v2, vs2, d2, ds2, p2, q2, rfl, rfl, rfl, h2, r2⟩ := trodAll_cons r1
  obtain ⟨rfl, rfl, rfl⟩ := trodAll_nil r2
  obtain rfl : args = #[v0, v1, v2] := by cases args; simp_all
  obtain ⟨rfl, rfl⟩ := trodVars_none hV
  obtain ⟨room, rfl, rfl, rfl, hw0⟩ := open_int Try.underlying3 (hval 0 3 v0 rfl rfl) h0
  obtain ⟨A0, len, cap, rfl⟩ := okWide_slice Try.underlying22 (hval 1 22 v1 rfl rfl)
  obtain ⟨att, rfl, rfl, rfl, hw2⟩ := open_int Try.underlying3 (hval 2 3 v2 rfl rfl) h2
  have h1k := h1
  obtain ⟨fuel, hf⟩ := h1
  have hb := bulks.bound hk
  simp only [List.append_nil, Rows.uptoBulkAll] at hb
  obtain ⟨hlen, hst⟩ := open_steps (x := (d1, p1)) hf (by show Rows.uptoBulk d1 ≤ _; omega)
  clear hA0
  simp only [List.append_nil] at hW'
  have hwalk : Calls Try.prog 3 #[.int .i64 room, .slice A0 len cap, .int .i64 att] W fun e w' => e = .returned (.bool true) ∧ Below W.heap.size W w' := by
    by_cases hr : 0 ≤ room ∧ room ≤ 1099511627776
    · exact law_walk A0 len cap room att W hr.1 hr.2 hlen hst
    · exact law_bad A0 len cap room att W (by omega)
  refine hwalk.mono fun e W' ⟨he, hg⟩ => ?_
  subst he
  have hlt : ∀ x ∈ p1, x.block < W.heap.size := fun x hx => by simpa using hW'.lt x (by simpa using hx)
  exact ⟨_, rfl, ⟨_, _, _, [], _, [], hW', trodAll_mk1 (shut_bool Try.underlying4 true), trodAll_mk3 (shut_int Try.underlying3 hw0) (Below.trod laidOut (by kernel_rfl) (of_decide_eq_true (by kernel_rfl)) h1k hg hlt) (shut_int Try.underlying3 hw2), rfl, hg.frame _, fun h => by cases h⟩⟩

set_option maxRecDepth 100000 in
theorem lifted (os : Os) (started : os.Started) (H : Type) (enc : TypeId × Value → H) (F : Stop.Interp) :
    ReturnsInHanded {} Try.checked os 3 .any ((Rows.OpenSpec.upto Rows.filesLiveSpec).pre6 enc Try.prog Try.f3 Rows.filesLiveUptoRow.domain false) (((Rows.OpenSpec.upto Rows.filesLiveSpec).at F).post enc Try.prog Try.f3 false true false false) := by
  refine returnsInHanded_of_cond (C := Try.checked) (s := Rows.OpenSpec.upto Rows.filesLiveSpec) (k := Rows.uptoSmall) rfl own started (by kernel_rfl) Try.func3
    (OpenSpec.witness (enc := enc) (C := Try.checked) (s := Rows.OpenSpec.upto Rows.filesLiveSpec) (k := Rows.uptoSmall) rfl false ⟨#[], #[.int .i64 0, .slice none 0 0, .int .i64 0], []⟩ 8 (by kernel_rfl) (by kernel_rfl) (by kernel_rfl)
      (x := ([.lit (.int .i64 0), .nil, .lit (.int .i64 0)], [], [])) (by kernel_rfl) rfl (by kernel_rfl)) ?_
  intro W base args ds gs before hval hW _ hk _
  exact contract H enc W base args ds gs before hval hW hk

theorem holds_all : Rows.filesLiveUptoRow.holds Try.pinned (Rows.OpenSpec.upto Rows.filesLiveSpec) :=
  OpenClaim.holds_of_cond 3 Try.f3 rfl rfl rfl rfl rfl rfl rfl ⟨rfl, rfl, rfl, rfl, rfl⟩ rfl rfl rfl rfl rfl (by kernel_rfl) Try.func3 (by kernel_rfl)
    (of_decide_eq_true (by kernel_rfl)) (by unfold Func.isWrapper; first | (rw [if_pos (by decide +kernel)]; kernel_rfl) | (rw [if_neg (by decide +kernel)]; exact ⟨rfl, rfl⟩))
    (fun os started H enc _ F => lifted os started H enc F)

theorem filesLive_holds : Rows.FilesLiveUptoSaid := holds_all
#print axioms filesLive_holds

end Go.Proofs.Ytkfmfllniakhkaa
