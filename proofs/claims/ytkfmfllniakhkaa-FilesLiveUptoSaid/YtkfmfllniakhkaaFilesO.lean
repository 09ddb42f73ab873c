/- The program's disk as an object: what it holds. -/
import Derived.Test.YtkfmfllniakhkaaFilesW4
import Derived.Test.YtkfmfllniakhkaaKeysS
import Derived.Maps.RangeWalk
namespace Go.Proofs.Ytkfmfllniakhkaa
open Go.RowKit Go.Maps Go.Sort
set_option linter.unusedVariables false

/-- a file -/
structure Fl where
  name : Nm
  b : List UInt8
  s : Nat
/-- a disk -/
structure Dk where
  l : List Fl
  room : Int
  short : Int
  fuse : Int

/-- a file of the program's -/
structure Fc where
  name : Nm
  b : List UInt8
  s : Nat
  blk : Nat
  A : Option Addr
  cap : Nat
def Fc.row (c : Fc) : Value := .slice c.A c.b.length c.cap
def Fc.fl (c : Fc) : Fl := ⟨c.name, c.b, c.s⟩
def Fc.ptr (c : Fc) : Value := .pointer (some ⟨c.blk, 0, none⟩)

structure DiskOk (w : World) (S : Nat → Prop) (bd bm : Nat) (room short fuse : Int) (cs : List Fc) : Prop where
  hdr : Hd w bd bm room short fuse
  map : w.ownsMap Try.prog 9 hld bm cs.length (datS Fc.name Fc.ptr cs)
  con : ∀ c ∈ cs, Blk w c.blk 49 #[c.row, .int .i64 (c.s : Int)] ∧ Row w 0 5 1 c.row c.b.length (u8s c.b)
  ris : cs.Pairwise (fun a b => a.name < b.name)
  sep : cs.Pairwise (fun a b => a.blk ≠ b.blk ∧ ∀ g, a.row.ownBlock = some g → b.row.ownBlock ≠ some g)
  ownd : S bd ∧ S bm ∧ ∀ c ∈ cs, S c.blk ∧ ∀ g, c.row.ownBlock = some g → S g

/-- at bd lies the disk D, in blocks of S alone -/
def DiskAt (w : World) (S : Nat → Prop) (bd : Nat) (D : Dk) : Prop := ∃ bm cs, DiskOk w S bd bm D.room D.short D.fuse cs ∧ cs.map Fc.fl = D.l

/-- what is true of every disk here -/
structure DkOk (D : Dk) : Prop where
  ris : D.l.Pairwise (fun a b => a.name < b.name)
  fls : ∀ f ∈ D.l, f.name.length ≤ 32 ∧ f.b.length ≤ 1048576 ∧ f.s ≤ f.b.length
  room : 0 ≤ D.room ∧ D.room ≤ 1099511627776
  short : -1 ≤ D.short ∧ D.short ≤ 9223372036854775807
  fuse : -1 ≤ D.fuse ∧ D.fuse ≤ 9223372036854775807

theorem ext_new {S : Nat → Prop} {w w' : World} {k : Nat} (h : w.heap.size ≤ k) (h' : k < w'.heap.size) : ext S w w' k := .inr ⟨h, h'⟩

section
variable {w w' : World} {S T : Nat → Prop} {bd bm : Nat} {room short fuse : Int} {cs : List Fc} {D : Dk}

theorem DiskOk.keep (h : DiskOk w S bd bm room short fuse cs) (m : Mods T w w') (hd : ∀ k, S k → ¬ T k) : DiskOk w' S bd bm room short fuse cs := by
  obtain ⟨o1, o2, o3⟩ := h.ownd
  exact ⟨h.hdr.mods m (hd _ o1), map_mods h.map m (hd _ o2), fun c hc => ⟨(h.con c hc).1.mods m (hd _ (o3 c hc).1), (h.con c hc).2.mods m fun g hg => hd _ ((o3 c hc).2 g hg)⟩, h.ris, h.sep, h.ownd⟩
theorem DiskAt.keep (h : DiskAt w S bd D) (m : Mods T w w') (hd : ∀ k, S k → ¬ T k) : DiskAt w' S bd D := by
  obtain ⟨bm, cs, h, e⟩ := h
  exact ⟨bm, cs, h.keep m hd, e⟩
theorem DiskAt.more (h : DiskAt w S bd D) (hS : ∀ k, S k → T k) : DiskAt w T bd D := by
  obtain ⟨bm, cs, h, e⟩ := h
  exact ⟨bm, cs, ⟨h.hdr, h.map, h.con, h.ris, h.sep, hS _ h.ownd.1, hS _ h.ownd.2.1, fun c hc => ⟨hS _ (h.ownd.2.2 c hc).1, fun g hg => hS _ ((h.ownd.2.2 c hc).2 g hg)⟩⟩, e⟩
theorem DiskAt.below (h : DiskAt w S bd D) (hb : Below w.heap.size w w') : DiskAt w' S bd D := h.keep (Mods.below (Mods.refl (fun _ => False) w) hb) (fun _ _ h => h)
theorem DiskOk.below (h : DiskOk w S bd bm room short fuse cs) (hb : Below w.heap.size w w') : DiskOk w' S bd bm room short fuse cs := h.keep (Mods.below (Mods.refl (fun _ => False) w) hb) (fun _ _ h => h)

theorem DiskOk.lt (h : DiskOk w S bd bm room short fuse cs) : bd < w.heap.size ∧ bm < w.heap.size ∧ ∀ c ∈ cs, c.blk < w.heap.size ∧ ∀ g, c.row.ownBlock = some g → g < w.heap.size :=
  ⟨h.hdr.lt, h.map.lt, fun c hc => ⟨(h.con c hc).1.lt, fun g hg => ((h.con c hc).2.lt g hg).2⟩⟩
theorem DiskOk.ne (h : DiskOk w S bd bm room short fuse cs) {c : Fc} (hc : c ∈ cs) {d : Fc} (hd : d ∈ cs) : d.row.ownBlock ≠ some c.blk ∧ bd ≠ c.blk ∧ bm ≠ c.blk ∧ d.row.ownBlock ≠ some bd ∧ d.row.ownBlock ≠ some bm ∧ bm ≠ bd :=
  ⟨(h.con d hd).2.blk_ne (h.con c hc).1 (by decide), Blk.ne_ h.hdr (h.con c hc).1 (by decide), map_ne h.map (h.con c hc).1, (h.con d hd).2.blk_ne h.hdr (by decide), (h.con d hd).2.map_ne h.map, map_ne h.map h.hdr⟩
theorem DiskOk.apart (h : DiskOk w S bd bm room short fuse cs) {c d : Fc} (hc : c ∈ cs) (hd : d ∈ cs) (hne : d.name ≠ c.name) : d.blk ≠ c.blk ∧ ∀ g, d.row.ownBlock = some g → c.row.ownBlock ≠ some g := by
  have key : ∀ l : List Fc, l.Pairwise (fun a b => a.blk ≠ b.blk ∧ ∀ g, a.row.ownBlock = some g → b.row.ownBlock ≠ some g) → d ∈ l → c ∈ l → d ≠ c → d.blk ≠ c.blk ∧ ∀ g, d.row.ownBlock = some g → c.row.ownBlock ≠ some g := by
    intro l
    induction l with
    | nil => intro _ h; cases h
    | cons x l ih =>
      intro hp h1 h2 hne
      rw [List.pairwise_cons] at hp
      rcases List.mem_cons.1 h1 with e1 | h1'
      · rcases List.mem_cons.1 h2 with e2 | h2'
        · exact absurd (e1.trans e2.symm) hne
        · subst e1; exact hp.1 c h2'
      · rcases List.mem_cons.1 h2 with e2 | h2'
        · subst e2
          have := hp.1 d h1'
          exact ⟨fun e => this.1 e.symm, fun g hg hg' => this.2 g hg' hg⟩
        · exact ih hp.2 h1' h2' hne
  exact key cs h.sep hd hc (fun e => hne (by rw [e]))
end

/-! how many bytes -/
def used (l : List Fl) : Nat := (l.map (·.b.length)).sum
/-- .. of those that are still to come -/
def remain (left : Lit → Bool) (cs : List Fc) : Nat := ((cs.filter fun c => left (.string c.name)).map (·.b.length)).sum

theorem remain_step {left : Lit → Bool} {cs : List Fc} (hr : cs.Pairwise (fun a b => a.name < b.name)) {c : Fc} (hc : c ∈ cs) (hl : left (.string c.name) = true) :
    remain left cs = c.b.length + remain (fun z => left z && !z.sameKey (.string c.name)) cs := by
  induction cs with
  | nil => cases hc
  | cons d cs ih =>
    rw [List.pairwise_cons] at hr
    unfold remain at ih ⊢
    rcases List.mem_cons.1 hc with e | hc'
    · subst e
      have h1 : (cs.filter fun d => left (.string d.name) && !(Lit.string d.name).sameKey (.string c.name)) = cs.filter fun d => left (.string d.name) := by
        apply List.filter_congr
        intro d hd
        have := hr.1 d hd
        have hne : d.name ≠ c.name := fun e => by rw [e] at this; exact nm_irrefl _ this
        simp [Lit.sameKey, hne]
      rw [List.filter_cons_of_pos (p := fun c : Fc => left (.string c.name)) hl, List.filter_cons_of_neg (p := fun d : Fc => left (.string d.name) && !(Lit.string d.name).sameKey (.string c.name)) (by simp [Lit.sameKey]), h1]
      simp
    · have hne : d.name ≠ c.name := fun e => by have := hr.1 c hc'; rw [e] at this; exact nm_irrefl _ this
      have ih' := ih hr.2 hc'
      have e2 : (left (.string d.name) && !(Lit.string d.name).sameKey (.string c.name)) = left (.string d.name) := by simp [Lit.sameKey, hne]
      by_cases hd : left (.string d.name) = true
      · rw [List.filter_cons_of_pos (p := fun c : Fc => left (.string c.name)) hd, List.filter_cons_of_pos (p := fun d : Fc => left (.string d.name) && !(Lit.string d.name).sameKey (.string c.name)) (by rw [e2]; exact hd)]
        simp only [List.map_cons, List.sum_cons]
        dsimp only at ih'
        omega
      · rw [List.filter_cons_of_neg (p := fun c : Fc => left (.string c.name)) hd, List.filter_cons_of_neg (p := fun d : Fc => left (.string d.name) && !(Lit.string d.name).sameKey (.string c.name)) (by rw [e2]; exact hd)]
        exact ih'
theorem remain_start {cs : List Fc} (hr : cs.Pairwise (fun a b => a.name < b.name)) : remain (Maps.has (datS Fc.name Fc.ptr cs)) cs = used (cs.map Fc.fl) := by
  unfold remain used
  have : (cs.filter fun c => Maps.has (datS Fc.name Fc.ptr cs) (.string c.name)) = cs := by
    rw [List.filter_eq_self]
    intro c hc
    rw [datS_has, List.any_eq_true]
    exact ⟨c, hc, by simp⟩
  rw [this, List.map_map]
  rfl
theorem remain_end {left : Lit → Bool} (cs : List Fc) (h : ∀ kl, left kl = false) : remain left cs = 0 := by
  unfold remain
  have : (cs.filter fun c => left (.string c.name)) = [] := by
    rw [List.filter_eq_nil_iff]
    intro c _
    simp [h]
  rw [this]
  rfl
theorem used_le {l : List Fl} (h : ∀ f ∈ l, f.b.length ≤ 1048576) : used l ≤ l.length * 1048576 := by
  unfold used
  induction l with
  | nil => simp
  | cons f l ih =>
    have h1 := h f (List.mem_cons_self ..)
    have h2 := ih fun g hg => h g (List.mem_cons_of_mem _ hg)
    simp only [List.map_cons, List.sum_cons, List.length_cons, Nat.succ_mul]
    omega
theorem remain_le (left : Lit → Bool) (cs : List Fc) : remain left cs ≤ used (cs.map Fc.fl) := by
  unfold remain used
  induction cs with
  | nil => simp
  | cons c cs ih =>
    by_cases h : left (.string c.name) = true
    · rw [List.filter_cons_of_pos (p := fun c : Fc => left (.string c.name)) h]
      simp only [List.map_cons, List.sum_cons]
      have : c.fl.b.length = c.b.length := rfl
      omega
    · rw [List.filter_cons_of_neg (p := fun c : Fc => left (.string c.name)) h]
      simp only [List.map_cons, List.sum_cons]
      omega

def UsedPost (w : World) (n : Nat) (e : Ending) (w' : World) : Prop := e = .returned (.int .i64 (n : Int)) ∧ Below w.heap.size w w'

set_option maxHeartbeats 1000000 in
theorem used_any {w : World} {S : Nat → Prop} {bd bm : Nat} {room short fuse : Int} {cs : List Fc} (h : DiskOk w S bd bm room short fuse cs) (hu : used (cs.map Fc.fl) ≤ 4611686018427387904) :
    Calls Try.prog 34 #[.pointer (some ⟨bd, 0, none⟩)] w (UsedPost w (used (cs.map Fc.fl))) := by
  have hmd := Lib.hid (made_yes bd bm room short fuse w h.hdr)
  have c0 : w.cell? ⟨bd, 0, none⟩ = some (.map (some bm)) := h.hdr.cell 0
  have hown := h.map
  have hris := Lib.hid h.ris
  have HST := Lib.hid (remain_start h.ris)
  have H := Lib.hid h
  clear h
  generalize hU : used (cs.map Fc.fl) = U at hu HST
  have HU := Lib.hid hU
  clear hU
  go_enter Try.func34, Try.ntmps34
  go_wp2_with (first
    | (go_at_call 10; refine hmd.out.mono ?_; rintro e w' ⟨rfl, hw⟩; obtain rfl := hw.symm)
    | (at_range; refine wpList_range_own _ rfl _ 39 rfl 9 46 lawS Try.underlying39 hld bm cs.length _ rfl hown ?_; intro w0 hrg0 hg0 hs0))
  go_frame
  go_loopw [3] (fun v wr => ∃ (left : Lit → Bool) (cnt : Nat), wr.ranges Try.prog 9 hld bm w.heap.size cs.length (datS Fc.name Fc.ptr cs) left cnt ∧ v = .int .i64 ((U - remain left cs : Nat) : Int) ∧ Below w.heap.size w wr)
    (fun _ wr => wr.rangeLeft bm w.heap.size)
  case atStart => exact ⟨_, _, hrg0, by rw [HST.out, Nat.sub_self]; rfl, (Below.refl _ w).grown hg0 (Nat.le_refl _) (fun k e => by cases e)⟩
  case round =>
    obtain ⟨left, cnt, hrg, rfl, hbw⟩ := hrel
    go_wp2_with
      (at_next; refine wpList_next_ranges _ rfl _ rfl 9 lawS hld encStr id (fun key kl hk => by obtain ⟨x, hx, _⟩ := Maps.keyOf_str Try.underlying9 hk; exact ⟨x, hx⟩) (fun v y _ => ⟨v, rfl⟩) bm w.heap.size cs.length _ _ _ rfl hrg ?_ ?_)
    · intro _ hl0
      have HR := Lib.hid (remain_end cs hl0)
      go_wp2
      go_ret
      refine ⟨?_, hbw⟩
      rw [HR.out]
      rfl
    · intro x v kl yd yp w2 cnt2 hkey hlk hv hat hrg2 hlt hg2 hs2 hen
      obtain rfl : yd = .held v := by simp [hld] at hv; exact hv.1.symm
      obtain ⟨c, hc, rfl, rfl⟩ := datS_from hat
      have hbw2 := hbw.grown hg2 hbw.size (fun j hj => by cases hj; exact Nat.le_refl _)
      have d0 : w2.cell? ⟨c.blk, 0, none⟩ = some (.slice c.A c.b.length c.cap) := ((H.out.below hbw2).con c hc).1.cell 0
      have hst := remain_step hris.out hc hlk
      have hrl := remain_le left cs
      rw [HU.out] at hrl
      have hw1 : IntKind.i64.wrap (((U - remain left cs : Nat) : Int) + (c.b.length : Int)) = ((U - remain left cs : Nat) : Int) + (c.b.length : Int) := IntWalk.i64_in _ (by omega)
      have HE := Lib.hid (by omega : U - remain left cs + c.b.length = U - remain (fun z => left z && !z.sameKey (.string c.name)) cs)
      have HSZ := Lib.hid hs2
      clear hst hs2
      simp only [Fc.ptr] at hen ⊢
      have hV : U - remain left cs ≤ U := Nat.sub_le _ _
      generalize U - remain left cs = V at hw1 HE hV hen ⊢
      go_wp2
      go_roundw
      case rel => exact ⟨_, _, hrg2, by rw [← HE.out]; go_num, hbw2⟩
      case measure => rw [hrg2.left_eq, hrg.left_eq]; exact hlt

end Go.Proofs.Ytkfmfllniakhkaa
