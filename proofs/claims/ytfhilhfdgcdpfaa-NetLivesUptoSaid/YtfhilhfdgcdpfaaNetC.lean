/- The program's net: what each method answers and makes, in the document's words. -/
import Derived.Test.YtfhilhfdgcdpfaaNetO
namespace Go.Proofs.Ytfhilhfdgcdpfaa
open Go.RowKit Go.Maps Go.Sort
set_option linter.unusedVariables false

def has (M : List Ent) (id : Int) : Bool := M.any fun e => decide (e.id = id)
def mErr (M : List Ent) (id : Int) : Int := if has M id then 0 else 150
def mWrite (M : List Ent) (id : Int) (ms : List UInt8) : List Ent := M.map fun e => if e.id = id then ⟨e.id, e.addr, e.bytes ++ ms⟩ else e
def mTake (M : List Ent) (id : Int) : List Ent := M.map fun e => if e.id = id then ⟨e.id, e.addr, []⟩ else e
def mDrop (M : List Ent) (id : Int) : List Ent := M.filter fun e => decide (e.id ≠ id)
def mGot (M : List Ent) (id : Int) : List UInt8 := ((M.find? fun e => decide (e.id = id)).map (·.bytes)).getD []
def mAddr (M : List Ent) (id : Int) : Int := ((M.find? fun e => decide (e.id = id)).map (·.addr)).getD 0
def okAddr (ad : Int) : Bool := decide (0 ≤ ad ∧ ad ≤ 4294967295)
def mDial (M : List Ent) (last ad : Int) : List Ent := if okAddr ad then M ++ [⟨last + 1, ad, []⟩] else M
def mLast (last ad : Int) : Int := if okAddr ad then last + 1 else last
def mNum (last ad : Int) : Int := if okAddr ad then last + 1 else 0
def mDerr (ad : Int) : Int := if okAddr ad then 0 else 1

/-! in terms of the list -/
theorem has_no {M : List Ent} {id : Int} (h : has M id = false) : ∀ e ∈ M, e.id ≠ id := by
  intro e he hid
  unfold has at h
  rw [List.any_eq_false] at h
  exact h e he (by simpa using hid)
theorem has_yes {M : List Ent} {id : Int} (h : has M id = true) : ∃ e ∈ M, e.id = id := by
  unfold has at h
  rw [List.any_eq_true] at h
  obtain ⟨e, he, h⟩ := h
  exact ⟨e, he, by simpa using h⟩
theorem map_no {M : List Ent} {id : Int} (h : has M id = false) (f : Ent → Ent) : M.map (fun e => if e.id = id then f e else e) = M := by
  conv => rhs; rw [← List.map_id M]
  apply List.map_congr_left
  intro e he
  rw [if_neg (has_no h e he)]
  rfl
theorem find_no {M : List Ent} {id : Int} (h : has M id = false) : M.find? (fun e => decide (e.id = id)) = none :=
  List.find?_eq_none.2 fun e he => by simpa using has_no h e he
theorem find_yes {M : List Ent} {id : Int} (hp : M.Pairwise (fun a b => a.id < b.id)) {e : Ent} (he : e ∈ M) (hid : e.id = id) : M.find? (fun e => decide (e.id = id)) = some e := by
  cases h : M.find? (fun e => decide (e.id = id)) with
  | none => exact absurd (List.find?_eq_none.1 h e he) (by simpa using hid)
  | some d =>
    have h1 := List.mem_of_find?_eq_some h
    have h2 := List.find?_some h
    simp at h2
    rw [key_inj (key := Ent.id) hp h1 he (by rw [h2, hid])]

section
variable {w : World} {S : Nat → Prop} {bn : Nat} {last : Int} {M : List Ent}

theorem NetOk.entris {bm : Nat} {cs : List Cc} (h : NetOk w S bn bm last cs) : (cs.map Cc.ent).Pairwise (fun a b => a.id < b.id) := by
  rw [List.pairwise_map]
  exact h.ris

def WritePost (S : Nat → Prop) (w : World) (bn : Nat) (last : Int) (M : List Ent) (id : Int) (ms : List UInt8) (e : Ending) (w' : World) : Prop :=
  e = .returned (.int .i64 (mErr M id)) ∧ NetAt w' (ext S w w') bn last (mWrite M id ms) ∧ Mods S w w'

theorem net_write (h : NetAt w S bn last M) {id : Int} (hid : (Lit.int .i64 id).wf = true) {B m mc : Nat} {A : Option Addr} {ms : List UInt8} (hs : Reads w B 1 A m (u8s ms)) (hN : ∀ e ∈ M, e.bytes.length + m ≤ 1073741824) :
    Calls Try.prog 7 #[.pointer (some ⟨bn, 0, none⟩), .int .i64 id, .slice A m mc] w (WritePost S w bn last M id ms) := by
  obtain ⟨bm, cs, hn, rfl⟩ := h
  obtain ⟨k, hk, hm⟩ := hn.map
  have c0 : w.cell? ⟨bn, 0, none⟩ = some (.map (some bm)) := hn.hdr.cell 0
  cases hh : has (cs.map Cc.ent) id with
  | false =>
    have hat : (datI Cc.id Cc.ptr cs).atKey (.int .i64 id) (.held (.pointer none)) = .held (.pointer none) := datI_miss (fun c hc => has_no hh c.ent (List.mem_map_of_mem hc)) _
    refine (write_no id bn bm k m mc A _ w c0 hm hid hat).mono fun e w' ⟨he, hw⟩ => ?_
    subst hw
    refine ⟨by rw [he]; simp [mErr, hh], ⟨bm, cs, hn, ?_⟩ |> fun h => NetAt.more h fun _ h => .inl h, Mods.refl _ _⟩
    unfold mWrite
    rw [map_no hh]
  | true =>
    obtain ⟨e0, he0, hid0⟩ := has_yes hh
    obtain ⟨c, hc, rfl⟩ := List.mem_map.1 he0
    have hid1 : c.id = id := hid0
    have hat : (datI Cc.id Cc.ptr cs).atKey (.int .i64 id) (.held (.pointer none)) = .held (.pointer (some ⟨c.blk, 0, none⟩)) := by rw [← hid1]; exact datI_hit hn.ris hc _
    obtain ⟨hb, ho⟩ := hn.con c hc
    have hmm : ms.length = m := by have := hs.1; simp [u8s_length] at this; exact this
    refine (write_yes id c.addr bn bm k c.blk c.bytes.length c.cap m mc B c.A A c.bytes ms _ w c0 hm hid hat hb ho hs (hN _ he0)).mono fun e w' ⟨v, he, hv, hb', hm', hat'⟩ => ?_
    obtain ⟨A', cap', rfl⟩ := own_slice hv
    have hlen : c.bytes.length + m = (c.bytes ++ ms).length := by simp [hmm]
    rw [hlen] at hv hb' hat'
    refine ⟨by rw [he]; simp [mErr, hh], ⟨bm, _, hn.turn (c' := ⟨c.id, c.addr, c.bytes ++ ms, c.blk, A', cap'⟩) hc rfl rfl rfl hm' hb' hv ?_, ?_⟩, hm'.mono ?_⟩
    · intro g hg
      rcases hat' with h | h
      · exact .inl (by rw [← hg]; exact h.symm)
      · have : (Value.slice A' (c.bytes ++ ms).length cap').ownBlock = some g := hg
        rw [h] at this
        injection this with this
        omega
    · unfold mWrite
      rw [List.map_map, List.map_map]
      apply List.map_congr_left
      intro d hd
      simp only [Function.comp]
      by_cases e : d.id = c.id
      · obtain rfl := key_inj hn.ris hd hc e
        have e1 : d.ent.id = id := hid1
        rw [if_pos rfl, if_pos e1]
        rfl
      · have e1 : ¬ d.ent.id = id := fun h => e (by rw [hid1]; exact h)
        rw [if_neg e, if_neg e1]
    · rintro i hi (rfl | e)
      · exact (hn.ownd.2.2 c hc).1
      · exact (hn.ownd.2.2 c hc).2 i e
theorem net_addr (h : NetAt w S bn last M) {id : Int} (hid : (Lit.int .i64 id).wf = true) :
    Calls Try.prog 14 #[.pointer (some ⟨bn, 0, none⟩), .int .i64 id] w fun e w' => e = .returned (.tuple #[.int .i64 (mAddr M id), .bool (has M id)]) ∧ w' = w := by
  obtain ⟨bm, cs, hn, rfl⟩ := h
  obtain ⟨k, hk, hm⟩ := hn.map
  have c0 : w.cell? ⟨bn, 0, none⟩ = some (.map (some bm)) := hn.hdr.cell 0
  cases hh : has (cs.map Cc.ent) id with
  | false =>
    have hat : (datI Cc.id Cc.ptr cs).atKey (.int .i64 id) (.held (.pointer none)) = .held (.pointer none) := datI_miss (fun c hc => has_no hh c.ent (List.mem_map_of_mem hc)) _
    refine (addr_no id bn bm k _ w c0 hm hid hat).mono fun e w' ⟨he, hw⟩ => ⟨?_, hw⟩
    rw [he]; unfold mAddr; rw [find_no hh]; rfl
  | true =>
    obtain ⟨e0, he0, hid0⟩ := has_yes hh
    obtain ⟨c, hc, rfl⟩ := List.mem_map.1 he0
    have hid1 : c.id = id := hid0
    have hat : (datI Cc.id Cc.ptr cs).atKey (.int .i64 id) (.held (.pointer none)) = .held (.pointer (some ⟨c.blk, 0, none⟩)) := by rw [← hid1]; exact datI_hit hn.ris hc _
    refine (addr_yes id c.addr bn bm k c.blk _ w c0 hm hid hat ((hn.con c hc).1.cell 0)).mono fun e w' ⟨he, hw⟩ => ⟨?_, hw⟩
    rw [he]; unfold mAddr; rw [find_yes hn.entris he0 hid0]; rfl

def TakePost (S : Nat → Prop) (w : World) (bn : Nat) (last : Int) (M : List Ent) (id : Int) (e : Ending) (w' : World) : Prop :=
  ∃ A n cap, e = .returned (.tuple #[.slice A n cap, .int .i64 (mErr M id)]) ∧ w'.ownsRow 0 5 1 (.slice A n cap) n (u8s (mGot M id)) ∧ (∀ g, (Value.slice A n cap).ownBlock = some g → ext S w w' g) ∧ NetAt w' (ext S w w') bn last (mTake M id) ∧ Mods S w w'

theorem net_take (h : NetAt w S bn last M) {id : Int} (hid : (Lit.int .i64 id).wf = true) (hN : ∀ e ∈ M, e.bytes.length ≤ 1073741824) :
    Calls Try.prog 9 #[.pointer (some ⟨bn, 0, none⟩), .int .i64 id] w (TakePost S w bn last M id) := by
  obtain ⟨bm, cs, hn, rfl⟩ := h
  obtain ⟨k, hk, hm⟩ := hn.map
  have c0 : w.cell? ⟨bn, 0, none⟩ = some (.map (some bm)) := hn.hdr.cell 0
  cases hh : has (cs.map Cc.ent) id with
  | false =>
    have hat : (datI Cc.id Cc.ptr cs).atKey (.int .i64 id) (.held (.pointer none)) = .held (.pointer none) := datI_miss (fun c hc => has_no hh c.ent (List.mem_map_of_mem hc)) _
    refine (take_no id bn bm k _ w c0 hm hid hat).mono fun e w' ⟨he, hw⟩ => ?_
    subst hw
    refine ⟨none, 0, 0, by rw [he]; simp [mErr, hh], ?_, (fun g hg => by cases hg), ⟨bm, cs, hn, ?_⟩ |> fun h => NetAt.more h fun _ h => .inl h, Mods.refl _ _⟩
    · unfold mGot; rw [find_no hh]; exact ⟨rfl, .inl ⟨rfl, rfl⟩⟩
    · unfold mTake; rw [map_no hh]
  | true =>
    obtain ⟨e0, he0, hid0⟩ := has_yes hh
    obtain ⟨c, hc, rfl⟩ := List.mem_map.1 he0
    have hid1 : c.id = id := hid0
    have hat : (datI Cc.id Cc.ptr cs).atKey (.int .i64 id) (.held (.pointer none)) = .held (.pointer (some ⟨c.blk, 0, none⟩)) := by rw [← hid1]; exact datI_hit hn.ris hc _
    obtain ⟨hb, ho⟩ := hn.con c hc
    refine (take_yes id c.addr bn bm k c.blk c.bytes.length c.cap c.A c.bytes _ w c0 hm hid hat hb ho (hN _ he0)).mono fun e w' ⟨v, he, hv, hb', hm'⟩ => ?_
    obtain ⟨A', cap', rfl⟩ := own_slice hv
    have hg : mGot (cs.map Cc.ent) id = c.bytes := by unfold mGot; rw [find_yes hn.entris he0 hid0]; rfl
    refine ⟨A', c.bytes.length, cap', by rw [he]; simp [mErr, hh], by rw [hg]; exact own_base hv (Nat.zero_le _), (fun g hg => ext_new (hv.lt g hg).1 (hv.lt g hg).2), ⟨bm, _, hn.turn (c' := ⟨c.id, c.addr, [], c.blk, none, 0⟩) hc rfl rfl rfl (hm'.mono fun i _ e => .inl e) hb' ⟨rfl, .inl ⟨rfl, rfl⟩⟩ (fun g hg => by cases hg), ?_⟩, hm'.mono ?_⟩
    · unfold mTake
      rw [List.map_map, List.map_map]
      apply List.map_congr_left
      intro d hd
      simp only [Function.comp]
      by_cases e : d.id = c.id
      · obtain rfl := key_inj hn.ris hd hc e
        have e1 : d.ent.id = id := hid1
        rw [if_pos rfl, if_pos e1]
        rfl
      · have e1 : ¬ d.ent.id = id := fun h => e (by rw [hid1]; exact h)
        rw [if_neg e, if_neg e1]
    · rintro i hi rfl
      exact (hn.ownd.2.2 c hc).1

theorem mods_of_map {w w' : World} {b : Nat} (h : w.mapTurned w' b) : Mods (· = b) w w' := by
  obtain ⟨es, clock, es', clock', hb, rfl⟩ := h
  exact ⟨rfl, rfl, rfl, by simp [ChangeMaps.setBlock], fun k hk hne => ChangeMaps.heap_setBlock_other hb _ hne⟩

def DropPost (S : Nat → Prop) (w : World) (bn : Nat) (last : Int) (M : List Ent) (id : Int) (e : Ending) (w' : World) : Prop :=
  e = .returned (.int .i64 (mErr M id)) ∧ NetAt w' (ext S w w') bn last (mDrop M id) ∧ Mods S w w'

theorem net_drop (h : NetAt w S bn last M) {id : Int} (hid : (Lit.int .i64 id).wf = true) :
    Calls Try.prog 12 #[.pointer (some ⟨bn, 0, none⟩), .int .i64 id] w (DropPost S w bn last M id) := by
  obtain ⟨bm, cs, hn, rfl⟩ := h
  obtain ⟨k, hk, hm⟩ := hn.map
  have c0 : w.cell? ⟨bn, 0, none⟩ = some (.map (some bm)) := hn.hdr.cell 0
  cases hh : has (cs.map Cc.ent) id with
  | false =>
    have hat : (datI Cc.id Cc.ptr cs).atKey (.int .i64 id) (.held (.pointer none)) = .held (.pointer none) := datI_miss (fun c hc => has_no hh c.ent (List.mem_map_of_mem hc)) _
    refine (drop_no id bn bm k _ w c0 hm hid hat).mono fun e w' ⟨he, hw⟩ => ?_
    subst hw
    refine ⟨by rw [he]; simp [mErr, hh], ⟨bm, cs, hn, ?_⟩ |> fun h => NetAt.more h fun _ h => .inl h, Mods.refl _ _⟩
    unfold mDrop
    symm
    rw [List.filter_eq_self]
    intro e he
    simpa using has_no hh e he
  | true =>
    obtain ⟨e0, he0, hid0⟩ := has_yes hh
    obtain ⟨c, hc, rfl⟩ := List.mem_map.1 he0
    have hid1 : c.id = id := hid0
    have hat : (datI Cc.id Cc.ptr cs).atKey (.int .i64 id) (.held (.pointer none)) = .held (.pointer (some ⟨c.blk, 0, none⟩)) := by rw [← hid1]; exact datI_hit hn.ris hc _
    refine (drop_yes id bn bm k ⟨c.blk, 0, none⟩ _ w c0 hm hid hat).mono fun e w' ⟨he, hm', ht⟩ => ?_
    have hmo := mods_of_map ht
    rw [datI_del] at hm'
    have hsub : (cs.filter fun d => decide (d.id ≠ id)).Sublist cs := List.filter_sublist
    refine ⟨by rw [he]; simp [mErr, hh], ⟨bm, cs.filter fun d => decide (d.id ≠ id), ⟨hn.hdr.mods hmo (fun e => map_ne hm hn.hdr e.symm), ⟨k, hk, hm'⟩, fun d hd => ?_, hn.ris.sublist hsub, fun d hd => hn.rng d (hsub.mem hd), hn.sep.sublist hsub, .inl hn.ownd.1, .inl hn.ownd.2.1, fun d hd => ⟨.inl (hn.ownd.2.2 d (hsub.mem hd)).1, fun g hg => .inl ((hn.ownd.2.2 d (hsub.mem hd)).2 g hg)⟩⟩, ?_⟩, hmo.mono ?_⟩
    · have hd' := hsub.mem hd
      obtain ⟨q1, q2, q3, q4, q5⟩ := ptr_ne hn hd' hd'
      exact ⟨(hn.con d hd').1.mods hmo (fun e => q3 e.symm), own_mods (hn.con d hd').2 hmo (fun g hg e => q5 (by rw [hg, e]))⟩
    · unfold mDrop
      rw [List.filter_map]
      rfl
    · rintro i hi rfl
      exact hn.ownd.2.1

def ConnsPost (w : World) (M : List Ent) (e : Ending) (w' : World) : Prop :=
  ∃ A n cap, e = .returned (.slice A n cap) ∧ w'.ownsRow w.heap.size 3 1 (.slice A n cap) n (M.map fun e => .int .i64 e.id) ∧ Below w.heap.size w w'

theorem net_conns (h : NetAt w S bn last M) (hl : M.length ≤ 1000000) :
    Calls Try.prog 17 #[.pointer (some ⟨bn, 0, none⟩)] w (ConnsPost w M) := by
  obtain ⟨bm, cs, hn, rfl⟩ := h
  obtain ⟨k, hk, hm⟩ := hn.map
  have c0 : w.cell? ⟨bn, 0, none⟩ = some (.map (some bm)) := hn.hdr.cell 0
  rw [List.length_map] at hl
  refine (conns_any bn bm k _ w c0 hm (by rw [datI_size]; simp only [maxLen]; omega) (by rw [datI_size]; omega)).mono fun e w' ⟨v, ss, he, hp, hv, hb⟩ => ?_
  rw [datI_keys] at hp
  rw [sorted_of_rising hn.ris hp] at hv
  obtain ⟨A', cap', rfl⟩ := own_slice hv
  exact ⟨A', _, cap', he, by rw [List.map_map] at hv ⊢; exact hv, hb⟩

def DialPost (S : Nat → Prop) (w : World) (bn : Nat) (last : Int) (M : List Ent) (ad : Int) (e : Ending) (w' : World) : Prop :=
  e = .returned (.tuple #[.int .i64 (mNum last ad), .int .i64 (mDerr ad)]) ∧ NetAt w' (ext S w w') bn (mLast last ad) (mDial M last ad) ∧ Mods S w w'

theorem net_dial (h : NetAt w S bn last M) (ad : Int) (hl0 : 0 ≤ last) (hl1 : last ≤ 1000000) :
    Calls Try.prog 5 #[.pointer (some ⟨bn, 0, none⟩), .int .i64 ad] w (DialPost S w bn last M ad) := by
  obtain ⟨bm, cs, hn, rfl⟩ := h
  obtain ⟨k, hk, hm⟩ := hn.map
  have c0 : w.cell? ⟨bn, 0, none⟩ = some (.map (some bm)) := hn.hdr.cell 0
  by_cases hok : 0 ≤ ad ∧ ad ≤ 4294967295
  · have hok' : okAddr ad = true := by simp [okAddr, hok]
    refine (dial_ok ad last bn bm k _ w hn.hdr hm (by simp only [maxLen]; omega) hok.1 hok.2 hl0 hl1).mono fun e w' ⟨he, hb1, hb2, hm', hmo⟩ => ?_
    have hput := datI_put_end (key := Cc.id) (val := Cc.ptr) (l := cs) (c := ⟨last + 1, ad, [], w.heap.size, none, 0⟩) (fun d hd => by have := hn.rng d hd; show d.id < last + 1; omega)
    have hlt := hn.lt
    have hsz : w.heap.size < w'.heap.size := hb2.lt
    refine ⟨by rw [he]; simp [mNum, mDerr, hok'], ⟨bm, cs ++ [⟨last + 1, ad, [], w.heap.size, none, 0⟩], ⟨?_, ⟨k + 1, by simp only [mLast, hok', if_true]; omega, ?_⟩, ?_, ?_, ?_, ?_, ?_⟩, ?_⟩, ?_⟩
    · simp only [mLast, hok', if_true]; exact hb1
    · rw [← hput]; exact hm'
    · intro d hd
      rcases List.mem_append.1 hd with hd | hd
      · obtain ⟨q1, q2, q3, q4, q5⟩ := ptr_ne hn hd hd
        exact ⟨(hn.con d hd).1.mods hmo (fun h => h.elim (fun e => q2 e.symm) (fun e => q3 e.symm)), own_mods (hn.con d hd).2 hmo (fun g hg h => h.elim (fun e => q4 (by rw [hg, e])) (fun e => q5 (by rw [hg, e])))⟩
      · obtain rfl := List.mem_singleton.1 hd
        exact ⟨hb2, rfl, .inl ⟨rfl, rfl⟩⟩
    · rw [List.pairwise_append]
      refine ⟨hn.ris, List.pairwise_singleton _ _, fun a ha b hb => ?_⟩
      obtain rfl := List.mem_singleton.1 hb
      have := hn.rng a ha
      show a.id < last + 1
      omega
    · intro d hd
      simp only [mLast, hok', if_true]
      rcases List.mem_append.1 hd with hd | hd
      · have := hn.rng d hd; omega
      · obtain rfl := List.mem_singleton.1 hd
        exact Int.le_refl _
    · rw [List.pairwise_append]
      refine ⟨hn.sep, List.pairwise_singleton _ _, fun a ha b hb => ?_⟩
      obtain rfl := List.mem_singleton.1 hb
      have := (hlt.2.2 a ha).1
      exact ⟨by show a.blk ≠ w.heap.size; omega, fun g hg h => by cases h⟩
    · refine ⟨.inl hn.ownd.1, .inl hn.ownd.2.1, fun d hd => ?_⟩
      rcases List.mem_append.1 hd with hd | hd
      · exact ⟨.inl (hn.ownd.2.2 d hd).1, fun g hg => .inl ((hn.ownd.2.2 d hd).2 g hg)⟩
      · obtain rfl := List.mem_singleton.1 hd
        exact ⟨ext_new (Nat.le_refl _) hsz, fun g hg => by cases hg⟩
    · simp [mDial, hok', Cc.ent]
    · refine hmo.mono ?_
      rintro i hi (rfl | rfl)
      · exact hn.ownd.1
      · exact hn.ownd.2.1
  · have hok' : okAddr ad = false := by simpa [okAddr] using hok
    refine (dial_bad ad bn bm w c0 (by omega)).mono fun e w' ⟨he, hw⟩ => ?_
    subst hw
    refine ⟨by rw [he]; simp [mNum, mDerr, hok'], NetAt.more (S := S) ⟨bm, cs, ?_, ?_⟩ fun _ h => .inl h, Mods.refl _ _⟩
    · simp only [mLast, hok']; exact hn
    · simp [mDial, hok']
end

end Go.Proofs.Ytfhilhfdgcdpfaa
