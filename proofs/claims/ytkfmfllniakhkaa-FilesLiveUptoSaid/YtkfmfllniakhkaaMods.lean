/- What may have turned between two worlds: 'Mods S w w'' (only the blocks in S, and new ones); a map whose elements are kept as values. -/
import Derived.Test.YtkfmfllniakhkaaWords
import Derived.Laws.CopyOwn
import Derived.Laws.MakeOwn
namespace Go.Proofs.Ytkfmfllniakhkaa
open Go.RowKit Go.Maps
set_option linter.unusedVariables false

/-- an element of a map is kept as a value -/
def hld (v : Value) : Option (DataW Value × List MemPlace) := some (.held v, [])

/-- only the blocks in S, and new ones, may have turned -/
structure Mods (S : Nat → Prop) (w w' : World) : Prop where
  os : w'.os = w.os
  tape : w'.tape = w.tape
  output : w'.output = w.output
  size : w.heap.size ≤ w'.heap.size
  block : ∀ k, k < w.heap.size → ¬ S k → w'.heap[k]? = w.heap[k]?

/-- S, and what is new -/
def ext (S : Nat → Prop) (w w' : World) : Nat → Prop := fun k => S k ∨ (w.heap.size ≤ k ∧ k < w'.heap.size)

section
variable {S T : Nat → Prop} {a b c w w' : World}
theorem Mods.refl (S : Nat → Prop) (w : World) : Mods S w w := ⟨rfl, rfl, rfl, Nat.le_refl _, fun _ _ _ => rfl⟩
theorem Mods.trans (h : Mods S a b) (k : Mods T b c) (hT : ∀ i, i < a.heap.size → T i → S i) : Mods S a c :=
  ⟨k.os.trans h.os, k.tape.trans h.tape, k.output.trans h.output, Nat.le_trans h.size k.size, fun i hi hn => (k.block i (Nat.lt_of_lt_of_le hi h.size) fun t => hn (hT i hi t)).trans (h.block i hi hn)⟩
theorem Mods.mono (h : Mods S a b) (hS : ∀ i, i < a.heap.size → S i → T i) : Mods T a b :=
  ⟨h.os, h.tape, h.output, h.size, fun i hi hn => h.block i hi fun s => hn (hS i hi s)⟩
theorem Mods.drewN (h : Mods S a w) (n : Nat) : Mods S a (w.drewN n) := ⟨h.os, h.tape, h.output, h.size, h.block⟩
theorem Mods.drew (h : Mods S a w) : Mods S a w.drew := ⟨h.os, h.tape, h.output, h.size, h.block⟩
theorem Mods.alloc (h : Mods S a w) (o : Obj) : Mods S a (w.alloc o) :=
  ⟨h.os, h.tape, h.output, Nat.le_trans h.size (by simp), fun i hi hne => (Below.heap_alloc w o i (Nat.lt_of_lt_of_le hi h.size)).trans (h.block i hi hne)⟩
theorem Mods.setCell (h : Mods S a w) {p : Addr} (hp : p.block < a.heap.size → S p.block) (u : Value) : Mods S a (w.setCell p u) :=
  ⟨h.os, h.tape, h.output, by simpa [World.setCell] using h.size, fun i hi hne => (Below.heap_setCell w p u i (by rintro rfl; exact hne (hp hi))).trans (h.block i hi hne)⟩
theorem Mods.grown {row : Option Nat} (h : Mods S a w) (hg : w.grownBy w' row) (hr : ∀ k, k < a.heap.size → row = some k → S k) : Mods S a w' :=
  ⟨hg.os.trans h.os, hg.tape.trans h.tape, hg.output.trans h.output, Nat.le_trans h.size hg.size, fun i hi hne => (hg.block i (Nat.lt_of_lt_of_le hi h.size) fun e => hne (hr i hi e.symm)).trans (h.block i hi hne)⟩
theorem Mods.below (h : Mods S a w) (hb : Below w.heap.size w w') : Mods S a w' :=
  ⟨hb.os.trans h.os, hb.tape.trans h.tape, hb.output.trans h.output, Nat.le_trans h.size hb.size, fun i hi hne => (hb.block i (Nat.lt_of_lt_of_le hi h.size)).trans (h.block i hi hne)⟩
theorem Mods.below_of {B : Nat} (h : Mods S w w') (hS : ∀ k, S k → B ≤ k) (hB : B ≤ w.heap.size) : Below B w w' :=
  ⟨h.os, h.tape, h.output, h.size, fun k hk => h.block k (Nat.lt_of_lt_of_le hk hB) fun s => absurd (hS k s) (by omega)⟩

/-! what is kept -/
theorem Blk.mods {g : Nat} {t : TypeId} {cs : Array Value} (h : Blk w g t cs) (m : Mods S w w') (hg : ¬ S g) : Blk w' g t cs := (m.block g h.lt hg).trans h
theorem own_mods {base : Nat} {e : TypeId} {size n : Nat} {v : Value} {xs : List Value} (h : w.ownsRow base e size v n xs) (m : Mods S w w') (hg : ∀ g, v.ownBlock = some g → ¬ S g) : w'.ownsRow base e size v n xs := by
  obtain ⟨hl, h⟩ := h
  refine ⟨hl, ?_⟩
  rcases h with h | ⟨g, cap, cur, rfl, hb, hh, h⟩
  · exact .inl h
  · exact .inr ⟨g, cap, cur, rfl, hb, (m.block g (Array.getElem?_eq_some_iff.1 hh).1 (hg g rfl)).trans hh, h⟩
theorem map_mods {P : Program} {k : TypeId} {b n : Nat} {D : DataW Value} (h : w.ownsMap P k hld b n D) (m : Mods S w w') (hg : ¬ S b) : w'.ownsMap P k hld b n D := by
  have hlt := h.lt
  obtain ⟨es, clock, hb, F, hs, hD⟩ := h
  exact ⟨es, clock, (m.block b hlt hg).trans hb, F, hs, hD⟩
theorem Reads.mods {B size n : Nat} {A : Option Addr} {xs : List Value} (h : Reads w B size A n xs) (m : Mods S w w') (hB : B ≤ w.heap.size) (hS : ∀ k, k < B → ¬ S k) : Reads w' B size A n xs :=
  h.keep fun p hp => World.cell?_of_block (m.block p.block (by omega) (hS _ hp))
end

theorem Reads.modsA {S : Nat → Prop} {w w' : World} {B size n : Nat} {A : Option Addr} {xs : List Value} (h : Reads w B size A n xs) (m : Mods S w w') (hB : B ≤ w.heap.size) (hA : 0 < n → ∀ ad, A = some ad → ¬ S ad.block) : Reads w' B size A n xs := by
  refine ⟨h.1, fun hn => ?_⟩
  obtain ⟨ad, e, hb, hc⟩ := h.2 hn
  exact ⟨ad, e, hb, fun j u hu => (World.cell?_of_block (by rw [block_of_add]; exact m.block ad.block (by omega) (hA hn ad e))).trans (hc j u hu)⟩

/-! a map block and a block of cells are two -/
theorem map_ne {w : World} {P : Program} {k : TypeId} {b n : Nat} {D : DataW Value} {g : Nat} {t : TypeId} {cs : Array Value} (h : w.ownsMap P k hld b n D) (hb : Blk w g t cs) : b ≠ g := by
  obtain ⟨es, clock, hm, _⟩ := h
  rintro rfl
  unfold Blk at hb
  rw [hm] at hb
  cases hb
theorem map_ne_own {w : World} {P : Program} {k : TypeId} {b n : Nat} {D : DataW Value} {base : Nat} {e : TypeId} {size m : Nat} {v : Value} {xs : List Value} (h : w.ownsMap P k hld b n D) (ho : w.ownsRow base e size v m xs) : v.ownBlock ≠ some b := by
  rcases ho.2 with ⟨rfl, _⟩ | ⟨g, cap, cur, rfl, _, hh, _⟩
  · simp [Value.ownBlock]
  · intro he
    have : g = b := by simpa [Value.ownBlock] using he
    subst this
    exact map_ne h (g := g) hh rfl

/-- a map has at most as many entries as its datum -/
theorem own_size {w : World} {P : Program} {k : TypeId} {b n : Nat} {D : DataW Value} (h : w.ownsMap P k hld b n D) : w.ownsMap P k hld b (Maps.size D) D := by
  obtain ⟨es, clock, hb, F, hs, rfl⟩ := h
  refine ⟨es, clock, hb, F, ?_, rfl⟩
  rw [Maps.size_eq, length_sorted]
  simp

theorem own_base {w : World} {base base' : Nat} {e : TypeId} {size n : Nat} {v : Value} {xs : List Value} (h : w.ownsRow base e size v n xs) (hb : base' ≤ base) : w.ownsRow base' e size v n xs := by
  obtain ⟨hl, h⟩ := h
  refine ⟨hl, ?_⟩
  rcases h with h | ⟨g, cap, cur, rfl, hg, h⟩
  · exact .inl h
  · exact .inr ⟨g, cap, cur, rfl, by omega, h⟩

theorem own_slice {w : World} {base : Nat} {e : TypeId} {size n : Nat} {v : Value} {xs : List Value} (h : w.ownsRow base e size v n xs) : ∃ A cap, v = .slice A n cap := by
  rcases h.2 with ⟨rfl, rfl⟩ | ⟨g, cap, cur, rfl, _⟩
  · exact ⟨none, 0, rfl⟩
  · exact ⟨_, cap, rfl⟩

theorem own_far {w : World} {base : Nat} {e : TypeId} {size n : Nat} {v : Value} {xs : List Value} (h : w.ownsRow base e size v n xs) {p : Addr} (hp : v.ownBlock ≠ some p.block) (u : Value) : (w.setCell p u).ownsRow base e size v n xs := by
  obtain ⟨hl, h⟩ := h
  refine ⟨hl, ?_⟩
  rcases h with h | ⟨g, cap, cur, rfl, hb, hh, h⟩
  · exact .inl h
  · exact .inr ⟨g, cap, cur, rfl, hb, (Below.heap_setCell w p u g (fun e => hp (by simp [Value.ownBlock, e]))).trans hh, h⟩

/-- append onto a row of the call's own, as one step of a region that draws -/
theorem step_append_own {P : Program} (w : World) {ops : Array Oper} {o : Oper} {a : Act} {K : Act → World → Prop} {Q : Exit → Act → World → Prop} {E : Prop} (hgd : o.guard = none) (s x : Operand) (t : TypeId)
    (ho : o.op = .call { callee := .builtin .append, args := #[s, x], argTypes := #[t, t] })
    (base : Nat) (e : TypeId) (i : TypeInfo) (z : Value) (size bytes : Nat) (ht : P.underlying t = some (.slice e)) (hi : P.info? e = some i) (hz : i.zero = some z)
    (hsize : i.size = size) (hby : i.bytes = bytes) (hzs : z.cells.size = size) (hsz : 0 < size)
    (v : Value) (n : Nat) (xs : List Value) (hs : a.eval s = v) (hown : w.ownsRow base e size v n xs)
    (ad : Addr) (m c : Nat) (news : List Value) (hx : a.eval x = .slice (some ad) m c) (hl : news.length = m * size) (hnews : ∀ j u, news[j]? = some u → w.cell? (ad.add j) = some u) (h1 : ∀ u ∈ news, u.oneCell' = true)
    (h63 : n + m ≤ maxLen) (hbytes : (n + m) * bytes ≤ 140737488355328) (hbase : base ≤ w.heap.size)
    (h : ∀ v' w', w'.ownsRow base e size v' (n + m) (xs ++ news) → w.grownBy w' v.ownBlock → (v'.ownBlock = v.ownBlock ∨ v'.ownBlock = some w.heap.size) → K (a.put o.dst v') w') :
    if Region.wanted o (yielded ops a.tmps) = true then Oper.wp P o a w K Q else E := by
  have hw : Region.wanted o (yielded ops a.tmps) = true := by simp [Region.wanted, hgd]
  rw [if_pos hw]
  obtain ⟨v', w', hr, h2, h3, h4, h5⟩ := run_append_own_at (P := P) w base t o.type e i z size bytes ht hi hz hsize hby hzs hsz v n xs hown ad m c news hl hnews h1 h63 hbytes hbase
  unfold Oper.wp execOp
  simp only [ho, resolve, invoke, builtin, Sem.run_bind, Sem.run_pure, Result.andThen_ok, List.map_toArray, List.map_cons, List.map_nil, hs, hx, hr]
  exact h v' w' h2 h3 h5

theorem own_cap {w : World} {base : Nat} {e : TypeId} {size n m cap : Nat} {A : Option Addr} {xs : List Value} (h : w.ownsRow base e size (.slice A n cap) m xs) : n ≤ cap ∧ cap ≤ maxLen := by
  rcases h.2 with ⟨h, _⟩ | ⟨g, c, cur, h, _, _, h1, h2, _⟩
  · cases h; exact ⟨Nat.le_refl _, by simp [maxLen]⟩
  · cases h; exact ⟨h1, h2⟩
theorem own_some {w : World} {base : Nat} {e : TypeId} {size n m cap : Nat} {A : Option Addr} {xs : List Value} (h : w.ownsRow base e size (.slice A n cap) m xs) (h0 : 0 < m) : ∃ g, A = some ⟨g, 0, none⟩ := by
  rcases h.2 with ⟨_, h⟩ | ⟨g, c, cur, h, _⟩
  · omega
  · injection h with h; exact ⟨g, h⟩

theorem own_frozen {w : World} {base : Nat} {e : TypeId} {size n m cap g : Nat} {xs : List Value} (h : w.ownsRow base e size (.slice (some ⟨g, 0, none⟩) n cap) m xs) (i : Nat) : w.frozen? ⟨g, i, none⟩ = false := by
  rcases h.2 with ⟨h, _⟩ | ⟨g', c, cur, h, _, hh, _⟩
  · cases h
  · injection h with h
    injection h with h
    injection h with h
    subst h
    exact frozen_of_row w g i cur e hh
/-- one cell of an owned row is written -/
theorem own_set {w : World} {base : Nat} {e : TypeId} {size n cap g i : Nat} {xs : List Value} (h : w.ownsRow base e size (.slice (some ⟨g, 0, none⟩) n cap) n xs) (hi : i < xs.length) (u : Value) :
    (w.setCell ⟨g, i, none⟩ u).ownsRow base e size (.slice (some ⟨g, 0, none⟩) n cap) n (xs.set i u) := by
  obtain ⟨hl, h⟩ := h
  refine ⟨by simpa using hl, .inr ?_⟩
  rcases h with ⟨h, _⟩ | ⟨g', c, cur, h, hb, hh, h1, h2, h3, h4⟩
  · cases h
  · injection h with h hn hc
    injection h with h
    injection h with h
    subst h
    subst hc
    refine ⟨g, cap, cur.setIfInBounds i u, rfl, hb, ?_, h1, h2, by simpa using h3, ?_⟩
    · simp [World.setCell, Array.getElem?_modify, hh]
    · rw [← h4]
      simp only [Array.toList_setIfInBounds]
      rw [List.take_set]

/-- bytes as cells -/
def u8s (l : List UInt8) : List Value := l.map fun x => .int .u8 (x.toNat : Int)
theorem u8s_length (l : List UInt8) : (u8s l).length = l.length := by simp [u8s]
theorem u8s_append (a b : List UInt8) : u8s (a ++ b) = u8s a ++ u8s b := by simp [u8s]
theorem u8s_one (l : List UInt8) : ∀ u ∈ u8s l, u.oneCell' = true := by
  intro u hu
  obtain ⟨x, _, rfl⟩ := List.mem_map.1 hu
  rfl

/-- bytes as numbers -/
def u8i (l : List UInt8) : List Int := l.map fun x => (x.toNat : Int)
theorem u8i_map (l : List UInt8) : (u8i l).map (Value.int .u8) = u8s l := by simp [u8i, u8s]
theorem u8i_length (l : List UInt8) : (u8i l).length = l.length := by simp [u8i]
theorem u8s_getD (l : List UInt8) (i : Nat) (h : i < l.length) : (u8s l)[i]? = some (.int .u8 ((u8i l).getD i 0)) := by
  simp [u8s, u8i, h]

theorem mades (z : Value) (n : Nat) : madeCells #[z] n = Array.replicate n z := by
  apply Array.ext'
  apply List.ext_getElem?
  intro j
  unfold madeCells
  by_cases h : j < n <;> simp [h, Nat.mod_one]

/-- make of elements of one cell -/
theorem run_make_one {P : Program} (w : World) (t e : TypeId) (i : TypeInfo) (z : Value) (hz' : z.cells = #[z]) (ht : P.underlying t = some (.slice e)) (hi : P.info? e = some i) (hz : i.zero = some z) (hsize : i.size = 1)
    (n : Nat) (hbytes : i.bytes * n ≤ 281474976710656) (h63 : n ≤ 9223372036854775807) :
    (Instr.makeSlice t (.int .i64 (n : Int)) (.int .i64 (n : Int))).run P w = .ok (.slice (some ⟨w.heap.size, 0, none⟩) n n) (w.alloc (.cells (Array.replicate n z) e)) := by
  have hb : (i.bytes : Int) * (n : Int) ≤ 281474976710656 := by rw [← Int.natCast_mul]; omega
  rw [run_make (P := P) w t e i z ht hi hz .i64 .i64 (n : Int) n (by omega) (by omega) hb (by omega), hsize]
  simp only [Int.toNat_natCast, Nat.mul_one, hz', mades]

/-- copy into a block that is known whole, as many as there are -/
theorem run_copy_whole {P : Program} (w : World) (dT sT ty elem : TypeId) (hu : P.underlying dT = some (.slice elem)) (hs : (P.info? elem).map (·.size) = some 1)
    (g : Nat) (t : TypeId) (cur : Array Value) (n cap B : Nat) (A : Option Addr) (xs : List Value) (hg : Blk w g t cur) (hcur : cur.size = n) (hr : Reads w B 1 A n xs) (h1 : ∀ u ∈ xs, u.oneCell' = true) :
    ∃ w', (Builtin.copy_ #[dT, sT] ty #[.slice (some ⟨g, 0, none⟩) n n, .slice A n cap]).run P w = .ok (.int .i64 n) w' ∧ Blk w' g t xs.toArray ∧ w.grownBy w' (some g) ∧ w'.heap.size = w.heap.size := by
  have hl : xs.length = n := by have := hr.1; simpa using this
  rcases Nat.eq_zero_or_pos n with h0 | h0
  · subst h0
    have hxs : xs = [] := List.eq_nil_of_length_eq_zero hl
    subst hxs
    refine ⟨w, run_copy_none (P := P) w dT sT ty elem _ A 0 0 0 cap hu hs (by simp), ?_, World.grownBy.refl w _, rfl⟩
    have : cur = [].toArray := by simpa using hcur
    rw [this] at hg
    exact hg
  · obtain ⟨ad, rfl, _, hc⟩ := hr.2 h0
    refine ⟨w.setRow g xs.toArray, ?_, ?_, ?_, ?_⟩
    · rw [run_copy_row (P := P) w dT sT ty elem g 0 n n ad n cap cur t xs hu hs hg (by simp [hl]) hc (by omega) h1]
      have : cur.toList.drop (0 + xs.length) = [] := List.drop_of_length_le (by simp; omega)
      rw [this, hl]
      simp [goInt]
    · exact setRow_heap w g cur _ t (0, 0) hg
    · exact ⟨rfl, rfl, rfl, by simp, fun k hk hne => setRow_other w g k _ (fun e => hne (by rw [e]))⟩
    · simp

end Go.Proofs.Ytkfmfllniakhkaa
