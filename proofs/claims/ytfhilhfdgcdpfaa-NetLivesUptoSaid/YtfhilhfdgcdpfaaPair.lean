/- Both nets side by side. -/
import Derived.Test.YtfhilhfdgcdpfaaRefC
namespace Go.Proofs.Ytfhilhfdgcdpfaa
open Go.RowKit Go.Maps Go.Sort
set_option linter.unusedVariables false

structure Pair (W w : World) (S1 S2 : Nat → Prop) (bn xn : Nat) (l1 : Int) (M1 : List Ent) (l2 : Int) (M2 : List Ent) : Prop where
  net : NetAt w S1 bn l1 M1
  ref : RefAt w S2 xn l2 M2
  b1 : ∀ k, S1 k → W.heap.size ≤ k ∧ k < w.heap.size
  b2 : ∀ k, S2 k → W.heap.size ≤ k ∧ k < w.heap.size
  dj : ∀ k, S1 k → ¬ S2 k
  bel : Below W.heap.size W w

section
variable {W w w' : World} {S1 S2 : Nat → Prop} {bn xn : Nat} {l1 l2 l1' l2' : Int} {M1 M2 M1' M2' : List Ent}

theorem Pair.stepN (h : Pair W w S1 S2 bn xn l1 M1 l2 M2) (hn : NetAt w' (ext S1 w w') bn l1' M1') (hm : Mods S1 w w') : Pair W w' (ext S1 w w') S2 bn xn l1' M1' l2 M2 where
  net := hn
  ref := h.ref.keep hm fun k h2 h1 => h.dj k h1 h2
  b1 := fun k hk => hk.elim (fun s => ⟨(h.b1 k s).1, Nat.lt_of_lt_of_le (h.b1 k s).2 hm.size⟩) fun ⟨x, y⟩ => ⟨Nat.le_trans h.bel.size x, y⟩
  b2 := fun k hk => ⟨(h.b2 k hk).1, Nat.lt_of_lt_of_le (h.b2 k hk).2 hm.size⟩
  dj := fun k hk h2 => hk.elim (fun s => h.dj k s h2) fun ⟨x, y⟩ => by have := (h.b2 k h2).2; omega
  bel := h.bel.trans (hm.below_of (fun k s => (h.b1 k s).1) h.bel.size)

theorem Pair.stepR (h : Pair W w S1 S2 bn xn l1 M1 l2 M2) (hn : RefAt w' (ext S2 w w') xn l2' M2') (hm : Mods S2 w w') : Pair W w' S1 (ext S2 w w') bn xn l1 M1 l2' M2' where
  net := h.net.keep hm h.dj
  ref := hn
  b2 := fun k hk => hk.elim (fun s => ⟨(h.b2 k s).1, Nat.lt_of_lt_of_le (h.b2 k s).2 hm.size⟩) fun ⟨x, y⟩ => ⟨Nat.le_trans h.bel.size x, y⟩
  b1 := fun k hk => ⟨(h.b1 k hk).1, Nat.lt_of_lt_of_le (h.b1 k hk).2 hm.size⟩
  dj := fun k hk h2 => h2.elim (fun s => h.dj k hk s) fun ⟨x, y⟩ => by have := (h.b1 k hk).2; omega
  bel := h.bel.trans (hm.below_of (fun k s => (h.b2 k s).1) h.bel.size)

theorem Pair.below (h : Pair W w S1 S2 bn xn l1 M1 l2 M2) (hb : Below w.heap.size w w') : Pair W w' S1 S2 bn xn l1 M1 l2 M2 where
  net := h.net.keep (Mods.below (Mods.refl (fun _ => False) w) hb) (fun _ _ h => h)
  ref := h.ref.below hb
  b1 := fun k hk => ⟨(h.b1 k hk).1, Nat.lt_of_lt_of_le (h.b1 k hk).2 hb.size⟩
  b2 := fun k hk => ⟨(h.b2 k hk).1, Nat.lt_of_lt_of_le (h.b2 k hk).2 hb.size⟩
  dj := h.dj
  bel := h.bel.trans (hb.mono h.bel.size)
theorem Pair.alloc (h : Pair W w S1 S2 bn xn l1 M1 l2 M2) (o : Obj) : Pair W (w.alloc o) S1 S2 bn xn l1 M1 l2 M2 := h.below ((Below.refl _ _).alloc (Nat.le_refl _) _)
theorem Pair.drew (h : Pair W w S1 S2 bn xn l1 M1 l2 M2) : Pair W w.drew S1 S2 bn xn l1 M1 l2 M2 := h.below ((Below.refl _ _).drew)
theorem Pair.drewN (h : Pair W w S1 S2 bn xn l1 M1 l2 M2) (n : Nat) : Pair W (w.drewN n) S1 S2 bn xn l1 M1 l2 M2 := h.below (below_drewN (Below.refl _ _) n)

/-- a block of the call's own that is neither's -/
theorem Pair.blkN {g : Nat} {t : TypeId} {cs : Array Value} (h : Pair W w S1 S2 bn xn l1 M1 l2 M2) (hb : Blk w g t cs) (hg : ¬ S1 g) (hm : Mods S1 w w') : Blk w' g t cs ∧ ¬ ext S1 w w' g :=
  ⟨hb.mods hm hg, fun e => e.elim hg fun ⟨x, _⟩ => by have := hb.lt; omega⟩
theorem Pair.blkR {g : Nat} {t : TypeId} {cs : Array Value} (h : Pair W w S1 S2 bn xn l1 M1 l2 M2) (hb : Blk w g t cs) (hg : ¬ S2 g) (hm : Mods S2 w w') : Blk w' g t cs ∧ ¬ ext S2 w w' g :=
  ⟨hb.mods hm hg, fun e => e.elim hg fun ⟨x, _⟩ => by have := hb.lt; omega⟩
theorem Pair.fresh1 (h : Pair W w S1 S2 bn xn l1 M1 l2 M2) : ¬ S1 w.heap.size ∧ ¬ S2 w.heap.size := ⟨fun e => by have := (h.b1 _ e).2; omega, fun e => by have := (h.b2 _ e).2; omega⟩
end

/-- so many bytes at most behind k rounds -/
def tot (k : Nat) : Nat := k * 1048576
theorem tot_succ (k : Nat) : tot (k + 1) = tot k + 1048576 := Nat.succ_mul _ _
theorem tot_le {k n m : Nat} (h : n ≤ tot k) (hm : m ≤ 1048576) : n + m ≤ tot (k + 1) := by rw [tot_succ]; omega
theorem tot_mono {k n : Nat} (h : n ≤ tot k) : n ≤ tot (k + 1) := by rw [tot_succ]; omega
theorem tot_max {k n m : Nat} (h : n ≤ tot k) (hm : m ≤ 1048576) (hk : k ≤ 100) : n + m ≤ 1073741824 := by
  have h2 : tot k ≤ 100 * 1048576 := Nat.mul_le_mul_right _ hk
  omega
theorem tot_max0 {k n : Nat} (h : n ≤ tot k) (hk : k ≤ 100) : n ≤ 1073741824 := by
  have h2 : tot k ≤ 100 * 1048576 := Nat.mul_le_mul_right _ hk
  omega
/-- the loop's state behind k rounds -/
structure Inv (W w : World) (bn xn k : Nat) : Prop where
  ex : ∃ S1 S2 last M, Pair W w S1 S2 bn xn last M last M ∧ 0 ≤ last ∧ last ≤ k ∧ M.length ≤ k ∧ ∀ e ∈ M, e.bytes.length ≤ tot k

/-! what the document's words do to the bounds -/
theorem len_write (M : List Ent) (id : Int) (ms : List UInt8) : (mWrite M id ms).length = M.length := by simp [mWrite]
theorem len_take (M : List Ent) (id : Int) : (mTake M id).length = M.length := by simp [mTake]
theorem len_drop (M : List Ent) (id : Int) : (mDrop M id).length ≤ M.length := List.length_filter_le _ _
theorem len_dial (M : List Ent) (last ad : Int) : (mDial M last ad).length ≤ M.length + 1 := by unfold mDial; split <;> simp
theorem big_write {M : List Ent} {id : Int} {ms : List UInt8} {k : Nat} (h : ∀ e ∈ M, e.bytes.length ≤ tot k) (hm : ms.length ≤ 1048576) : ∀ e ∈ mWrite M id ms, e.bytes.length ≤ tot (k + 1) := by
  intro e he
  obtain ⟨d, hd, rfl⟩ := List.mem_map.1 he
  have := h d hd
  split
  · show (d.bytes ++ ms).length ≤ _
    rw [List.length_append]
    exact tot_le this hm
  · exact tot_mono this
theorem big_take {M : List Ent} {id : Int} {k : Nat} (h : ∀ e ∈ M, e.bytes.length ≤ tot k) : ∀ e ∈ mTake M id, e.bytes.length ≤ tot (k + 1) := by
  intro e he
  obtain ⟨d, hd, rfl⟩ := List.mem_map.1 he
  have := h d hd
  split
  · exact Nat.zero_le _
  · exact tot_mono this
theorem big_drop {M : List Ent} {id : Int} {k : Nat} (h : ∀ e ∈ M, e.bytes.length ≤ tot k) : ∀ e ∈ mDrop M id, e.bytes.length ≤ tot (k + 1) := by
  intro e he
  exact tot_mono (h e (List.mem_filter.1 he).1)
theorem big_dial {M : List Ent} {last ad : Int} {k : Nat} (h : ∀ e ∈ M, e.bytes.length ≤ tot k) : ∀ e ∈ mDial M last ad, e.bytes.length ≤ tot (k + 1) := by
  intro e he
  unfold mDial at he
  split at he
  · rcases List.mem_append.1 he with he | he
    · exact tot_mono (h e he)
    · obtain rfl := List.mem_singleton.1 he; exact Nat.zero_le _
  · exact tot_mono (h e he)
theorem last_dial (last ad : Int) : (0 ≤ last → 0 ≤ mLast last ad) ∧ mLast last ad ≤ last + 1 := by
  unfold mLast; split <;> omega

end Go.Proofs.Ytfhilhfdgcdpfaa
