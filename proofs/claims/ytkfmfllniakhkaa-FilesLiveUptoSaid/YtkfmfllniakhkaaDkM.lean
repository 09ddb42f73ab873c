/- The document's disk in plain words: what each step answers and leaves. -/
import Derived.Test.YtkfmfllniakhkaaFilesF
import Derived.Test.YtkfmfllniakhkaaFilesB
namespace Go.Proofs.Ytkfmfllniakhkaa
open Go.RowKit Go.Maps Go.Sort
set_option linter.unusedVariables false

def fnd (l : List Fl) (nm : Nm) : Option Fl := l.find? fun f => decide (f.name = nm)
theorem fnd_none {l : List Fl} {nm : Nm} (h : fnd l nm = none) : ∀ f ∈ l, f.name ≠ nm := fun f hf => by simpa using List.find?_eq_none.1 h f hf
theorem fnd_some {l : List Fl} {nm : Nm} {f : Fl} (h : fnd l nm = some f) : f ∈ l ∧ f.name = nm := ⟨List.mem_of_find?_eq_some h, by simpa using List.find?_some h⟩
theorem fnd_hit {l : List Fl} (hp : l.Pairwise (fun a b => a.name < b.name)) {f : Fl} (hf : f ∈ l) : fnd l f.name = some f := by
  unfold fnd
  cases h : l.find? (fun d => decide (d.name = f.name)) with
  | none => exact absurd (List.find?_eq_none.1 h f hf) (by simp)
  | some d =>
    have hk := List.find?_some h
    simp at hk
    rw [keyS_inj (key := Fl.name) hp (List.mem_of_find?_eq_some h) hf hk]

def Dk.bn (D : Dk) : Dk := ⟨D.l, D.room, D.short, burn D.fuse⟩
/-- what is written of bytes -/
def cutTo (short : Int) (ms : List UInt8) : List UInt8 := if 0 ≤ short ∧ short < ms.length then ms.take short.toNat else ms
def isPart (short : Int) (m : Nat) : Int := if 0 ≤ short ∧ short < m then 61 else 0
def oldB (l : List Fl) (nm : Nm) : List UInt8 := ((fnd l nm).map (·.b)).getD []
def oldS (l : List Fl) (nm : Nm) : Nat := ((fnd l nm).map (·.s)).getD 0
instance (room : Int) (u : Nat) (ob : List UInt8) (m : Nat) : Decidable (Full room u ob m) := inferInstanceAs (Decidable (_ ∨ _))
def mAppend (D : Dk) (nm : Nm) (ms : List UInt8) : Dk × Int × Int :=
  if nameOk nm = false then (D, 0, 1) else if D.fuse = 0 then (D, 0, 62) else
  if Full D.room (used D.l) (oldB D.l nm) (cutTo D.short ms).length then (⟨D.l, D.room, -1, burn D.fuse⟩, 0, 4)
  else (⟨putS Fl.name ⟨nm, oldB D.l nm ++ cutTo D.short ms, oldS D.l nm⟩ D.l, D.room, -1, burn D.fuse⟩, ((cutTo D.short ms).length : Int), isPart D.short ms.length)
def mSync (D : Dk) (nm : Nm) : Dk × Int :=
  if D.fuse = 0 then (D, 62) else match fnd D.l nm with
  | none => (D.bn, 60)
  | some f => (⟨putS Fl.name ⟨f.name, f.b, f.b.length⟩ D.l, D.room, D.short, burn D.fuse⟩, 0)
def tooLong (l : List Fl) (nm : Nm) (n : Int) : Bool := match fnd l nm with
  | none => false
  | some f => decide ((f.b.length : Int) < n)
def mCut (D : Dk) (nm : Nm) (n : Int) : Dk × Int :=
  if n < 0 then (D, 1) else if tooLong D.l nm n = true then (D, 1) else if D.fuse = 0 then (D, 62) else match fnd D.l nm with
  | none => (D.bn, 60)
  | some f => (⟨putS Fl.name ⟨f.name, f.b.take n.toNat, min f.s n.toNat⟩ D.l, D.room, D.short, burn D.fuse⟩, 0)
def mRename (D : Dk) (nm to : Nm) : Dk × Int :=
  if nameOk to = false then (D, 1) else if D.fuse = 0 then (D, 62) else match fnd D.l nm with
  | none => (D.bn, 60)
  | some f => (⟨putS Fl.name ⟨to, f.b, f.s⟩ (D.l.filter fun d => decide (d.name ≠ nm)), D.room, D.short, burn D.fuse⟩, 0)
def mRemove (D : Dk) (nm : Nm) : Dk × Int :=
  if D.fuse = 0 then (D, 62) else match fnd D.l nm with
  | none => (D.bn, 60)
  | some f => (⟨D.l.filter fun d => decide (d.name ≠ nm), D.room, D.short, burn D.fuse⟩, 0)
def mShort (D : Dk) (n : Int) : Dk × Int := (⟨D.l, D.room, setVal n n D.short, D.fuse⟩, setErr n n)
def mRoom (D : Dk) (n : Int) : Dk × Int := (⟨D.l, setVal n 1099511627776 D.room, D.short, D.fuse⟩, setErr n 1099511627776)
def mFuse (D : Dk) (n : Int) : Dk × Int := (⟨D.l, D.room, D.short, setVal n n D.fuse⟩, setErr n n)
def mCrash (D : Dk) (ts : List Tl) : Dk := ⟨D.l.map (crashF ts), D.room, -1, -1⟩

/-- a step's answer, and what it leaves -/
def StepPost (S : Nat → Prop) (w : World) (bd : Nat) (o : Dk × Int) (e : Ending) (w' : World) : Prop :=
  e = .returned (.int .i64 o.2) ∧ DiskAt w' (ext S w w') bd o.1 ∧ Mods S w w'
def AppendPost (S : Nat → Prop) (w : World) (bd : Nat) (o : Dk × Int × Int) (e : Ending) (w' : World) : Prop :=
  e = .returned (.tuple #[.int .i64 o.2.1, .int .i64 o.2.2]) ∧ DiskAt w' (ext S w w') bd o.1 ∧ Mods S w w'

/-! bounds -/
theorem burn_ok {f : Int} (h : -1 ≤ f ∧ f ≤ 9223372036854775807) : -1 ≤ burn f ∧ burn f ≤ 9223372036854775807 := by unfold burn; split <;> omega
theorem mem_fls {D : Dk} (h : DkOk D) {f : Fl} {nm : Nm} (hf : fnd D.l nm = some f) : f.name = nm ∧ f ∈ D.l ∧ f.name.length ≤ 32 ∧ f.b.length ≤ 1048576 ∧ f.s ≤ f.b.length :=
  ⟨(fnd_some hf).2, (fnd_some hf).1, h.fls f (fnd_some hf).1⟩
theorem put_ok {D : Dk} (h : DkOk D) {f : Fl} (hf : f.name.length ≤ 32 ∧ f.b.length ≤ 1048576 ∧ f.s ≤ f.b.length) {short : Int} (hs : -1 ≤ short ∧ short ≤ 9223372036854775807) (p : Fl → Bool) : DkOk ⟨putS Fl.name f (D.l.filter p), D.room, short, burn D.fuse⟩ :=
  ⟨ris_putS (ris_sub h.ris p), fun g hg => by
    rcases mem_putS.1 hg with rfl | ⟨hg, _⟩
    · exact hf
    · exact h.fls g (List.mem_filter.1 hg).1, h.room, hs, burn_ok h.fuse⟩
theorem put_ok' {D : Dk} (h : DkOk D) {f : Fl} (hf : f.name.length ≤ 32 ∧ f.b.length ≤ 1048576 ∧ f.s ≤ f.b.length) {short : Int} (hs : -1 ≤ short ∧ short ≤ 9223372036854775807) : DkOk ⟨putS Fl.name f D.l, D.room, short, burn D.fuse⟩ := by
  have := put_ok h hf hs (fun _ => true)
  rwa [List.filter_eq_self.2 (fun _ _ => rfl)] at this
theorem len_insS {α : Type} (key : α → Nm) (x : α) (l : List α) : (insS key x l).length = l.length + 1 := by
  induction l with
  | nil => rfl
  | cons y l ih => unfold insS; split <;> simp [ih]
theorem len_putS {α : Type} (key : α → Nm) (x : α) (l : List α) : (putS key x l).length ≤ l.length + 1 := by
  unfold putS
  rw [len_insS]
  have := List.length_filter_le (fun d => decide (key d ≠ key x)) l
  omega
theorem bn_ok {D : Dk} (h : DkOk D) : DkOk D.bn := ⟨h.ris, h.fls, h.room, h.short, burn_ok h.fuse⟩
theorem nameOk_len {nm : Nm} (h : ¬ nameOk nm = false) : nm.length ≤ 32 := by
  have : nameOk nm = true := by simpa using h
  unfold nameOk at this
  simp at this
  exact this.1.2
theorem old_ok {D : Dk} (h : DkOk D) (nm : Nm) : (oldB D.l nm).length ≤ 1048576 ∧ oldS D.l nm ≤ (oldB D.l nm).length := by
  unfold oldB oldS
  cases hf : fnd D.l nm with
  | none => simp
  | some f => obtain ⟨_, _, _, h1, h2⟩ := mem_fls h hf; exact ⟨h1, h2⟩
theorem mAppend_ok {D : Dk} (h : DkOk D) (nm : Nm) (ms : List UInt8) : DkOk (mAppend D nm ms).1 ∧ (mAppend D nm ms).1.l.length ≤ D.l.length + 1 := by
  unfold mAppend
  have h1 := old_ok h nm
  split
  · exact ⟨h, Nat.le_succ _⟩
  · rename_i hn
    split
    · exact ⟨h, Nat.le_succ _⟩
    · split
      · exact ⟨⟨h.ris, h.fls, h.room, ⟨Int.le_refl _, (by decide : (-1 : Int) ≤ 9223372036854775807)⟩, burn_ok h.fuse⟩, Nat.le_succ _⟩
      · rename_i hF
        unfold Full at hF
        exact ⟨put_ok' h (f := ⟨nm, oldB D.l nm ++ cutTo D.short ms, oldS D.l nm⟩) ⟨nameOk_len hn, by simp only [List.length_append]; omega, by simp only [List.length_append]; omega⟩ (by omega), len_putS _ _ _⟩
theorem mSync_ok {D : Dk} (h : DkOk D) (nm : Nm) : DkOk (mSync D nm).1 ∧ (mSync D nm).1.l.length ≤ D.l.length + 1 := by
  unfold mSync
  split
  · exact ⟨h, Nat.le_succ _⟩
  · split
    · exact ⟨bn_ok h, Nat.le_succ _⟩
    · rename_i f hf
      obtain ⟨_, _, h1, h2, h3⟩ := mem_fls h hf
      exact ⟨put_ok' h (f := ⟨f.name, f.b, f.b.length⟩) ⟨h1, h2, Nat.le_refl _⟩ h.short, len_putS _ _ _⟩
theorem mCut_ok {D : Dk} (h : DkOk D) (nm : Nm) (n : Int) : DkOk (mCut D nm n).1 ∧ (mCut D nm n).1.l.length ≤ D.l.length + 1 := by
  unfold mCut
  split
  · exact ⟨h, Nat.le_succ _⟩
  · rename_i h0
    split
    · exact ⟨h, Nat.le_succ _⟩
    · rename_i h9
      split
      · exact ⟨h, Nat.le_succ _⟩
      · split
        · exact ⟨bn_ok h, Nat.le_succ _⟩
        · rename_i f hf
          obtain ⟨_, _, h1, h2, h3⟩ := mem_fls h hf
          unfold tooLong at h9
          rw [hf] at h9
          simp at h9
          exact ⟨put_ok' h (f := ⟨f.name, f.b.take n.toNat, min f.s n.toNat⟩) ⟨h1, by simp only [List.length_take]; omega, by simp only [List.length_take]; omega⟩ h.short, len_putS _ _ _⟩
theorem mRename_ok {D : Dk} (h : DkOk D) (nm to : Nm) : DkOk (mRename D nm to).1 ∧ (mRename D nm to).1.l.length ≤ D.l.length + 1 := by
  unfold mRename
  split
  · exact ⟨h, Nat.le_succ _⟩
  · rename_i hn
    split
    · exact ⟨h, Nat.le_succ _⟩
    · split
      · exact ⟨bn_ok h, Nat.le_succ _⟩
      · rename_i f hf
        obtain ⟨_, _, h1, h2, h3⟩ := mem_fls h hf
        exact ⟨put_ok h (f := ⟨to, f.b, f.s⟩) ⟨nameOk_len hn, h2, h3⟩ h.short _, Nat.le_trans (len_putS _ _ _) (Nat.succ_le_succ (List.length_filter_le _ _))⟩
theorem mRemove_ok {D : Dk} (h : DkOk D) (nm : Nm) : DkOk (mRemove D nm).1 ∧ (mRemove D nm).1.l.length ≤ D.l.length + 1 := by
  unfold mRemove
  split
  · exact ⟨h, Nat.le_succ _⟩
  · split
    · exact ⟨bn_ok h, Nat.le_succ _⟩
    · exact ⟨⟨ris_sub h.ris _, fun g hg => h.fls g (List.mem_filter.1 hg).1, h.room, h.short, burn_ok h.fuse⟩, Nat.le_trans (List.length_filter_le _ _) (Nat.le_succ _)⟩
theorem set_ok {n most old : Int} (ho : -1 ≤ old ∧ old ≤ 9223372036854775807) (hn : n ≤ 9223372036854775807) : -1 ≤ setVal n most old ∧ setVal n most old ≤ 9223372036854775807 := by unfold setVal; split <;> omega
theorem mShort_ok {D : Dk} (h : DkOk D) {n : Int} (hn : n ≤ 9223372036854775807) : DkOk (mShort D n).1 := ⟨h.ris, h.fls, h.room, set_ok h.short hn, h.fuse⟩
theorem mFuse_ok {D : Dk} (h : DkOk D) {n : Int} (hn : n ≤ 9223372036854775807) : DkOk (mFuse D n).1 := ⟨h.ris, h.fls, h.room, h.short, set_ok h.fuse hn⟩
theorem mRoom_ok {D : Dk} (h : DkOk D) (n : Int) : DkOk (mRoom D n).1 := ⟨h.ris, h.fls, by have := h.room; unfold mRoom setVal; dsimp only; split <;> omega, h.short, h.fuse⟩
theorem mCrash_ok {D : Dk} (h : DkOk D) (ts : List Tl) : DkOk (mCrash D ts) := by
  refine ⟨ris_map h.ris _ (fun _ => rfl), fun f hf => ?_, h.room, by unfold mCrash; dsimp only; omega, by unfold mCrash; dsimp only; omega⟩
  obtain ⟨g, hg, rfl⟩ := List.mem_map.1 hf
  obtain ⟨h1, h2, h3⟩ := h.fls g hg
  rw [crashC_len]
  refine ⟨h1, by omega, ?_⟩
  have : (crashF ts g).s ≤ g.b.length := by show kept _ _ _ ≤ _; unfold kept; omega
  omega

end Go.Proofs.Ytkfmfllniakhkaa
