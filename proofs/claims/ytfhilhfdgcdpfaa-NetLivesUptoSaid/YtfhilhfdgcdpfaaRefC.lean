/- The document's net as an object: what it holds, and what each method answers and makes. -/
import Derived.Test.YtfhilhfdgcdpfaaNetC
import Derived.Test.YtfhilhfdgcdpfaaRefW4
namespace Go.Proofs.Ytfhilhfdgcdpfaa
open Go.RowKit Go.Maps Go.Sort
set_option linter.unusedVariables false

/-- a connection of the document's -/
structure Rx where
  id : Int
  addr : Int
  bytes : List UInt8
  A : Option Addr
  cap : Nat
def Rx.rc (c : Rx) : Rc := ⟨c.id, c.addr, c.A, c.bytes.length, c.cap⟩
def Rx.ent (c : Rx) : Ent := ⟨c.id, c.addr, c.bytes⟩
def Rx.row (c : Rx) : Value := .slice c.A c.bytes.length c.cap

structure RefOk (w : World) (S : Nat → Prop) (xn : Nat) (last : Int) (A : Option Addr) (n cap : Nat) (xs : List Rx) : Prop where
  hdr : Blk w xn 28 #[.slice A n cap, .int .i64 last]
  row : w.ownsRow 0 54 3 (.slice A n cap) n (rcells (xs.map Rx.rc))
  con : ∀ c ∈ xs, w.ownsRow 0 5 1 c.row c.bytes.length (u8s c.bytes)
  ris : xs.Pairwise (fun a b => a.id < b.id)
  rng : ∀ c ∈ xs, c.id ≤ last
  ownd : S xn ∧ (∀ g, (Value.slice A n cap).ownBlock = some g → S g) ∧ ∀ c ∈ xs, ∀ g, c.row.ownBlock = some g → S g

def RefAt (w : World) (S : Nat → Prop) (xn : Nat) (last : Int) (M : List Ent) : Prop := ∃ A n cap xs, RefOk w S xn last A n cap xs ∧ xs.map Rx.ent = M

theorem own_own_ne {w : World} {b b' : Nat} {e e' : TypeId} {s s' n n' : Nat} {v v' : Value} {xs xs' : List Value} (h : w.ownsRow b e s v n xs) (h' : w.ownsRow b' e' s' v' n' xs') (hne : e ≠ e') : ∀ g, v.ownBlock = some g → v'.ownBlock ≠ some g := by
  intro g hg
  rcases h.2 with ⟨rfl, _⟩ | ⟨g1, cap, cur, rfl, _, hh, _⟩
  · cases hg
  · obtain rfl : g1 = g := by simpa [Value.ownBlock] using hg
    exact own_blk_ne h' (g := g1) hh (fun e => hne e.symm)

section
variable {w w' : World} {S T : Nat → Prop} {xn n cap : Nat} {A : Option Addr} {last : Int} {M : List Ent} {xs : List Rx}

theorem RefOk.keep (h : RefOk w S xn last A n cap xs) (m : Mods T w w') (hd : ∀ k, S k → ¬ T k) : RefOk w' S xn last A n cap xs := by
  obtain ⟨o1, o2, o3⟩ := h.ownd
  exact ⟨h.hdr.mods m (hd _ o1), own_mods h.row m (fun g hg => hd _ (o2 g hg)), fun c hc => own_mods (h.con c hc) m fun g hg => hd _ (o3 c hc g hg), h.ris, h.rng, h.ownd⟩
theorem RefAt.keep (h : RefAt w S xn last M) (m : Mods T w w') (hd : ∀ k, S k → ¬ T k) : RefAt w' S xn last M := by
  obtain ⟨A, n, cap, xs, h, e⟩ := h
  exact ⟨A, n, cap, xs, h.keep m hd, e⟩
theorem RefAt.more (h : RefAt w S xn last M) (hS : ∀ k, S k → T k) : RefAt w T xn last M := by
  obtain ⟨A, n, cap, xs, h, e⟩ := h
  exact ⟨A, n, cap, xs, ⟨h.hdr, h.row, h.con, h.ris, h.rng, hS _ h.ownd.1, fun g hg => hS _ (h.ownd.2.1 g hg), fun c hc g hg => hS _ (h.ownd.2.2 c hc g hg)⟩, e⟩
theorem RefAt.below (h : RefAt w S xn last M) (hb : Below w.heap.size w w') : RefAt w' S xn last M := h.keep (Mods.below (Mods.refl (fun _ => False) w) hb) (fun _ _ h => h)

theorem RefOk.len (h : RefOk w S xn last A n cap xs) : xs.length = n := by have := own_len h.row; simpa using this
theorem RefOk.risr (h : RefOk w S xn last A n cap xs) : (xs.map Rx.rc).Pairwise (fun a b => a.id < b.id) := by
  rw [List.pairwise_map]
  exact h.ris
theorem RefOk.entris (h : RefOk w S xn last A n cap xs) : (xs.map Rx.ent).Pairwise (fun a b => a.id < b.id) := by
  rw [List.pairwise_map]
  exact h.ris

theorem place_of_no {id : Int} (hh : has (xs.map Rx.ent) id = false) : placeOf (xs.map Rx.rc) id = -1 := by
  unfold placeOf
  rw [if_neg]
  rintro ⟨c, hc, he⟩
  obtain ⟨x, hx, rfl⟩ := List.mem_map.1 hc
  exact has_no hh x.ent (List.mem_map_of_mem hx) he

theorem place_of_yes {id : Int} (h : RefOk w S xn last A n cap xs) {x : Rx} (hx : x ∈ xs) (hid : x.id = id) : ∃ k : Nat, xs[k]? = some x ∧ placeOf (xs.map Rx.rc) id = (k : Int) := by
  obtain ⟨k, hk, e⟩ := List.mem_iff_getElem.1 hx
  have hkx : xs[k]? = some x := by rw [List.getElem?_eq_getElem hk, e]
  refine ⟨k, hkx, place_hit (c := x.rc) (by simp [hkx]) hid fun j hj c hc hcid => ?_⟩
  rw [List.getElem?_map, Option.map_eq_some_iff] at hc
  obtain ⟨y, hy, rfl⟩ := hc
  have hlt := List.pairwise_iff_getElem.1 h.ris j k (by omega) hk hj
  rw [List.getElem?_eq_getElem (by omega)] at hy
  injection hy with hy
  have e2 : (xs[j]'(by omega)).id = y.id := by rw [hy]
  have e3 : xs[k].id = x.id := by rw [e]
  have e4 : y.id = id := hcid
  omega

def RAddrPost (S : Nat → Prop) (w : World) (xn : Nat) (last : Int) (M : List Ent) (id : Int) (e : Ending) (w' : World) : Prop :=
  e = .returned (.tuple #[.int .i64 (mAddr M id), .bool (has M id)]) ∧ Below w.heap.size w w'

theorem ref_addr (h : RefAt w S xn last M) (id : Int) (hl : M.length ≤ 1000000) :
    Calls Try.prog 15 #[.pointer (some ⟨xn, 0, none⟩), .int .i64 id] w (RAddrPost S w xn last M id) := by
  obtain ⟨A, n, cap, xs, hn, rfl⟩ := h
  have hn1 := hn.len
  rw [List.length_map] at hl
  cases hh : has (xs.map Rx.ent) id with
  | false =>
    refine (raddr_no id last xn n cap A _ w hn.hdr hn.row (by omega) (place_of_no hh)).mono fun e w' ⟨he, hw⟩ => ⟨?_, hw⟩
    rw [he, hh]; unfold mAddr; rw [find_no hh]; rfl
  | true =>
    obtain ⟨e0, he0, hid0⟩ := has_yes hh
    obtain ⟨x, hx, rfl⟩ := List.mem_map.1 he0
    obtain ⟨k, hk, hp⟩ := place_of_yes hn hx hid0
    refine (raddr_yes id last xn n cap k A _ x.rc w hn.hdr hn.row (by omega) (by simp [hk]) hp).mono fun e w' ⟨he, hw⟩ => ⟨?_, hw⟩
    rw [he, hh]; unfold mAddr; rw [find_yes hn.entris he0 hid0]; rfl

theorem ref_conns (h : RefAt w S xn last M) (hl : M.length ≤ 1000000) :
    Calls Try.prog 18 #[.pointer (some ⟨xn, 0, none⟩)] w (ConnsPost w M) := by
  obtain ⟨A, n, cap, xs, hn, rfl⟩ := h
  have hn1 := hn.len
  rw [List.length_map] at hl
  refine (rconns_any last xn n cap A _ w hn.hdr hn.row (by omega)).mono fun e w' ⟨v, he, hv, hb⟩ => ?_
  obtain ⟨A', cap', rfl⟩ := own_slice hv
  refine ⟨A', n, cap', he, ?_, hb⟩
  unfold ids at hv
  rw [List.map_map] at hv ⊢
  exact hv

/-- connection k has turned -/
theorem RefOk.turn {c c' : Rx} (h : RefOk w S xn last A n cap xs) {k : Nat} (hk : xs[k]? = some c) (hid : c'.id = c.id) (had : c'.addr = c.addr) (hA : A ≠ none) (hS' : ∀ g, c'.row.ownBlock = some g → w.heap.size ≤ g)
    (m : Mods (fun k => (Value.slice A n cap).ownBlock = some k) w w') (hb : Blk w' xn 28 #[.slice A n cap, .int .i64 last]) (hr : w'.ownsRow 0 54 3 (.slice A n cap) n (rcells ((xs.map Rx.rc).set k c'.rc)))
    (ho : w'.ownsRow 0 5 1 c'.row c'.bytes.length (u8s c'.bytes)) : RefOk w' (ext S w w') xn last A n cap (xs.map fun d => if d.id = c.id then c' else d) := by
  have hc : c ∈ xs := List.mem_of_getElem? hk
  refine ⟨hb, ?_, ?_, ?_, ?_, .inl h.ownd.1, fun g hg => .inl (h.ownd.2.1 g hg), ?_⟩
  · have : (xs.map fun d => if d.id = c.id then c' else d) = xs.set k c' := (set_eq_map (key := Rx.id) h.ris hk c').symm
    rw [this, List.map_set]
    exact hr
  · intro d hd
    obtain ⟨d0, hd0, rfl⟩ := List.mem_map.1 hd
    by_cases e : d0.id = c.id
    · rw [if_pos e]; exact ho
    · rw [if_neg e]
      exact own_mods (h.con d0 hd0) m fun g hg hg' => own_own_ne (h.con d0 hd0) h.row (by decide) g hg hg'
  · rw [List.pairwise_map]
    refine h.ris.imp fun {a b} hab => ?_
    split <;> split <;> simp_all <;> omega
  · intro d hd
    obtain ⟨d0, hd0, rfl⟩ := List.mem_map.1 hd
    split
    · rw [hid]; exact h.rng c hc
    · exact h.rng d0 hd0
  · intro d hd g hg
    obtain ⟨d0, hd0, rfl⟩ := List.mem_map.1 hd
    by_cases e : d0.id = c.id
    · simp only [if_pos e] at hg
      exact ext_new (hS' g hg) (ho.lt g hg).2
    · simp only [if_neg e] at hg
      exact .inl (h.ownd.2.2 d0 hd0 g hg)

theorem map_turn {xs : List Rx} (hr : xs.Pairwise (fun a b => a.id < b.id)) {c c' : Rx} (hc : c ∈ xs) {id : Int} (hid : c.id = id) (f : Ent → Ent) (hf : f c.ent = c'.ent) :
    (xs.map fun d => if d.id = c.id then c' else d).map Rx.ent = (xs.map Rx.ent).map fun e => if e.id = id then f e else e := by
  rw [List.map_map, List.map_map]
  apply List.map_congr_left
  intro d hd
  simp only [Function.comp]
  by_cases e : d.id = c.id
  · obtain rfl := key_inj (key := Rx.id) hr hd hc e
    have e1 : d.ent.id = id := hid
    rw [if_pos rfl, if_pos e1, hf]
  · have e1 : ¬ d.ent.id = id := fun h => e (by rw [hid]; exact h)
    rw [if_neg e, if_neg e1]

def RWritePost (S : Nat → Prop) (w : World) (xn : Nat) (last : Int) (M : List Ent) (id : Int) (ms : List UInt8) (e : Ending) (w' : World) : Prop :=
  e = .returned (.int .i64 (mErr M id)) ∧ RefAt w' (ext S w w') xn last (mWrite M id ms) ∧ Mods S w w'

theorem ref_write (h : RefAt w S xn last M) {id : Int} {m mc : Nat} {B : Option Addr} {ms : List UInt8} (hs : Reads w w.heap.size 1 B m (u8s ms)) (hN : ∀ e ∈ M, e.bytes.length + m ≤ 1073741824) (hl : M.length ≤ 1000000) :
    Calls Try.prog 8 #[.pointer (some ⟨xn, 0, none⟩), .int .i64 id, .slice B m mc] w (RWritePost S w xn last M id ms) := by
  obtain ⟨A, n, cap, xs, hn, rfl⟩ := h
  have hn1 := hn.len
  rw [List.length_map] at hl
  cases hh : has (xs.map Rx.ent) id with
  | false =>
    refine (rwrite_no id last xn n cap m mc A B _ w hn.hdr hn.row (by omega) (place_of_no hh)).mono fun e w' ⟨he, hw⟩ => ?_
    refine ⟨by rw [he]; simp [mErr, hh], ?_, Mods.below (Mods.refl _ _) hw⟩
    unfold mWrite
    rw [map_no hh]
    exact (RefAt.below ⟨A, n, cap, xs, hn, rfl⟩ hw).more fun _ h => .inl h
  | true =>
    obtain ⟨e0, he0, hid0⟩ := has_yes hh
    obtain ⟨x, hx, rfl⟩ := List.mem_map.1 he0
    obtain ⟨k, hk, hp⟩ := place_of_yes hn hx hid0
    obtain ⟨g, rfl⟩ := own_some hn.row (by have := (List.getElem?_eq_some_iff.1 hk).1; omega)
    have hmm : ms.length = m := by have := hs.1; simp [u8s_length] at this; exact this
    refine (rwrite_yes id last xn n cap k g m mc B ms x.bytes _ x.rc w hn.hdr hn.row (by omega) (by simp [hk]) hp (hn.con x hx) hs (hN _ he0)).mono fun e w' ⟨A', cap', he, hb, hr, ho, hmo⟩ => ?_
    have hlen : x.bytes.length + m = (x.bytes ++ ms).length := by simp [hmm]
    have hmo' : Mods (fun k => (Value.slice (some ⟨g, 0, none⟩) n cap).ownBlock = some k) w w' := hmo.mono fun i _ e => by rw [e]; rfl
    change w'.ownsRow w.heap.size 5 1 (.slice A' (x.bytes.length + m) cap') (x.bytes.length + m) _ at ho
    change w'.ownsRow 0 54 3 _ n (rcells ((xs.map Rx.rc).set k ⟨x.id, x.addr, A', x.bytes.length + m, cap'⟩)) at hr
    rw [hlen] at ho hr
    refine ⟨by rw [he]; simp [mErr, hh], ⟨_, n, cap, _, hn.turn (c' := ⟨x.id, x.addr, x.bytes ++ ms, A', cap'⟩) hk rfl rfl (by simp) (fun g hg => (ho.lt g hg).1) hmo' hb hr (own_base ho (Nat.zero_le _)), ?_⟩, hmo.mono ?_⟩
    · exact map_turn hn.ris hx hid0 (fun e => ⟨e.id, e.addr, e.bytes ++ ms⟩) rfl
    · rintro i hi rfl
      exact hn.ownd.2.1 _ rfl

def RTakePost (S : Nat → Prop) (w : World) (xn : Nat) (last : Int) (M : List Ent) (id : Int) (e : Ending) (w' : World) : Prop :=
  ∃ A n cap, e = .returned (.tuple #[.slice A n cap, .int .i64 (mErr M id)]) ∧ w'.ownsRow 0 5 1 (.slice A n cap) n (u8s (mGot M id)) ∧ RefAt w' (ext S w w') xn last (mTake M id) ∧ Mods S w w'

theorem ref_take (h : RefAt w S xn last M) {id : Int} (hl : M.length ≤ 1000000) :
    Calls Try.prog 10 #[.pointer (some ⟨xn, 0, none⟩), .int .i64 id] w (RTakePost S w xn last M id) := by
  obtain ⟨A, n, cap, xs, hn, rfl⟩ := h
  have hn1 := hn.len
  rw [List.length_map] at hl
  cases hh : has (xs.map Rx.ent) id with
  | false =>
    refine (rtake_no id last xn n cap A _ w hn.hdr hn.row (by omega) (place_of_no hh)).mono fun e w' ⟨he, hw⟩ => ?_
    refine ⟨none, 0, 0, by rw [he]; simp [mErr, hh], ?_, ?_, Mods.below (Mods.refl _ _) hw⟩
    · unfold mGot; rw [find_no hh]; exact ⟨rfl, .inl ⟨rfl, rfl⟩⟩
    · unfold mTake
      rw [map_no hh]
      exact (RefAt.below ⟨A, n, cap, xs, hn, rfl⟩ hw).more fun _ h => .inl h
  | true =>
    obtain ⟨e0, he0, hid0⟩ := has_yes hh
    obtain ⟨x, hx, rfl⟩ := List.mem_map.1 he0
    obtain ⟨k, hk, hp⟩ := place_of_yes hn hx hid0
    obtain ⟨g, rfl⟩ := own_some hn.row (by have := (List.getElem?_eq_some_iff.1 hk).1; omega)
    refine (rtake_yes id last xn n cap k g _ x.rc w hn.hdr hn.row (by omega) (by simp [hk]) hp).mono fun e w' ⟨he, hb, hr, hmo⟩ => ?_
    have hmo' : Mods (fun k => (Value.slice (some ⟨g, 0, none⟩) n cap).ownBlock = some k) w w' := hmo.mono fun i _ e => by rw [e]; rfl
    have hg : mGot (xs.map Rx.ent) id = x.bytes := by unfold mGot; rw [find_yes hn.entris he0 hid0]; rfl
    refine ⟨x.A, x.bytes.length, x.cap, by rw [he]; simp [mErr, hh, Rx.rc], ?_, ⟨_, n, cap, _, hn.turn (c' := ⟨x.id, x.addr, [], none, 0⟩) hk rfl rfl (by simp) (fun g hg => by cases hg) hmo' hb hr ⟨rfl, .inl ⟨rfl, rfl⟩⟩, ?_⟩, hmo.mono ?_⟩
    · rw [hg]
      exact own_mods (hn.con x hx) hmo' fun g hg hg' => own_own_ne (hn.con x hx) hn.row (by decide) g hg hg'
    · exact map_turn hn.ris hx hid0 (fun e => ⟨e.id, e.addr, []⟩) rfl
    · rintro i hi rfl
      exact hn.ownd.2.1 _ rfl

def RDropP (S : Nat → Prop) (w : World) (xn : Nat) (last : Int) (M : List Ent) (id : Int) (e : Ending) (w' : World) : Prop :=
  e = .returned (.int .i64 (mErr M id)) ∧ RefAt w' (ext S w w') xn last (mDrop M id) ∧ Mods S w w'

theorem ref_drop (h : RefAt w S xn last M) {id : Int} (hl : M.length ≤ 1000000) :
    Calls Try.prog 13 #[.pointer (some ⟨xn, 0, none⟩), .int .i64 id] w (RDropP S w xn last M id) := by
  obtain ⟨A, n, cap, xs, hn, rfl⟩ := h
  have hn1 := hn.len
  rw [List.length_map] at hl
  cases hh : has (xs.map Rx.ent) id with
  | false =>
    refine (rdrop_no id last xn n cap A _ w hn.hdr hn.row (by omega) (place_of_no hh)).mono fun e w' ⟨he, hw⟩ => ?_
    refine ⟨by rw [he]; simp [mErr, hh], ?_, Mods.below (Mods.refl _ _) hw⟩
    have : mDrop (xs.map Rx.ent) id = xs.map Rx.ent := by
      unfold mDrop
      rw [List.filter_eq_self]
      intro e he
      simpa using has_no hh e he
    rw [this]
    exact (RefAt.below ⟨A, n, cap, xs, hn, rfl⟩ hw).more fun _ h => .inl h
  | true =>
    obtain ⟨e0, he0, hid0⟩ := has_yes hh
    obtain ⟨x, hx, rfl⟩ := List.mem_map.1 he0
    obtain ⟨k, hk, hp⟩ := place_of_yes hn hx hid0
    have hkl := (List.getElem?_eq_some_iff.1 hk).1
    obtain ⟨g, rfl⟩ := own_some hn.row (by omega)
    refine (rdrop_yes id last xn n cap k g _ w hn.hdr hn.row (by omega) (by simpa using hkl) hp).mono fun e w' ⟨A', cap', he, hb, hr, hmo⟩ => ?_
    have hf : xs.take k ++ xs.drop (k + 1) = xs.filter fun d => decide (d.id ≠ id) := by
      rw [erase_eq_filter (key := Rx.id) hn.ris hk]
      have e0 : x.id = id := hid0
      rw [e0]
    have hsub : (xs.filter fun d => decide (d.id ≠ id)).Sublist xs := List.filter_sublist
    have hr' : w'.ownsRow w.heap.size 54 3 (.slice A' (n - 1) cap') (n - 1) (rcells ((xs.filter fun d => decide (d.id ≠ id)).map Rx.rc)) := by
      rw [← hf, List.map_append, List.map_take, List.map_drop]
      exact hr
    refine ⟨by rw [he]; simp [mErr, hh], ⟨A', n - 1, cap', _, ⟨hb, own_base hr' (Nat.zero_le _), fun d hd => own_mods (hn.con d (hsub.mem hd)) hmo (fun g hg e => own_blk_ne (hn.con d (hsub.mem hd)) hn.hdr (by decide) (by rw [hg, e])), hn.ris.sublist hsub, fun d hd => hn.rng d (hsub.mem hd),
      .inl hn.ownd.1, fun g hg => ext_new (hr'.lt g hg).1 (hr'.lt g hg).2, fun d hd g hg => .inl (hn.ownd.2.2 d (hsub.mem hd) g hg)⟩, ?_⟩, hmo.mono ?_⟩
    · unfold mDrop
      rw [List.filter_map]
      rfl
    · rintro i hi rfl
      exact hn.ownd.1

def RDialPost (S : Nat → Prop) (w : World) (xn : Nat) (last : Int) (M : List Ent) (ad : Int) (e : Ending) (w' : World) : Prop :=
  e = .returned (.tuple #[.int .i64 (mNum last ad), .int .i64 (mDerr ad)]) ∧ RefAt w' (ext S w w') xn (mLast last ad) (mDial M last ad) ∧ Mods S w w'

theorem ref_dial (h : RefAt w S xn last M) (ad : Int) (hl0 : 0 ≤ last) (hl1 : last ≤ 1000000) (hl : M.length ≤ 1000000) :
    Calls Try.prog 6 #[.pointer (some ⟨xn, 0, none⟩), .int .i64 ad] w (RDialPost S w xn last M ad) := by
  obtain ⟨A, n, cap, xs, hn, rfl⟩ := h
  have hn1 := hn.len
  rw [List.length_map] at hl
  by_cases hok : 0 ≤ ad ∧ ad ≤ 4294967295
  · have hok' : okAddr ad = true := by simp [okAddr, hok]
    refine (rdial_ok ad last xn n cap A _ w hn.hdr hn.row (by omega) hok.1 (by omega) hl0 hl1).mono fun e w' ⟨A', cap', he, hb, hr, hmo, hat⟩ => ?_
    have hmo' : Mods S w w' := hmo.mono fun i _ h => h.elim (fun e => e ▸ hn.ownd.1) (fun e => hn.ownd.2.1 i e)
    refine ⟨by rw [he]; simp [mNum, mDerr, hok'], ⟨A', n + 1, cap', xs ++ [⟨last + 1, ad, [], none, 0⟩], ⟨?_, ?_, ?_, ?_, ?_, .inl hn.ownd.1, ?_, ?_⟩, ?_⟩, hmo'⟩
    · simp only [mLast, hok', if_true]; exact hb
    · rw [List.map_append]; exact hr
    · intro d hd
      rcases List.mem_append.1 hd with hd | hd
      · exact own_mods (hn.con d hd) hmo fun g hg h => h.elim (fun e => own_blk_ne (hn.con d hd) hn.hdr (by decide) (by rw [hg, e])) (fun e => own_own_ne (hn.con d hd) hn.row (by decide) g hg e)
      · obtain rfl := List.mem_singleton.1 hd
        exact ⟨rfl, .inl ⟨rfl, rfl⟩⟩
    · rw [List.pairwise_append]
      refine ⟨hn.ris, List.pairwise_singleton _ _, fun a ha b hb => ?_⟩
      obtain rfl := List.mem_singleton.1 hb
      have := hn.rng a ha
      show a.id < last + 1
      omega
    · intro d hd
      simp only [mLast, hok', if_true]
      rcases List.mem_append.1 hd with hd | hd
      · have := hn.rng d hd; omega
      · obtain rfl := List.mem_singleton.1 hd
        exact Int.le_refl _
    · intro g hg
      rcases hat with h | ⟨g', h, hg'⟩
      · exact .inl (hn.ownd.2.1 g (by rw [← h]; exact hg))
      · rw [h] at hg
        injection hg with hg
        subst hg
        exact ext_new hg' (hr.lt g' h).2
    · intro d hd g hg
      rcases List.mem_append.1 hd with hd | hd
      · exact .inl (hn.ownd.2.2 d hd g hg)
      · obtain rfl := List.mem_singleton.1 hd
        cases hg
    · simp [mDial, hok', Rx.ent]
  · have hok' : okAddr ad = false := by simpa [okAddr] using hok
    refine (rdial_bad ad xn w (by omega)).mono fun e w' ⟨he, hw⟩ => ?_
    subst hw
    refine ⟨by rw [he]; simp [mNum, mDerr, hok'], RefAt.more (S := S) ⟨A, n, cap, xs, ?_, ?_⟩ fun _ h => .inl h, Mods.refl _ _⟩
    · simp only [mLast, hok']; exact hn
    · simp [mDial, hok']
end

end Go.Proofs.Ytfhilhfdgcdpfaa
