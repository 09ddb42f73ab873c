/- The program's net as an object: what it holds, and what each method makes of it. -/
import Derived.Test.YtfhilhfdgcdpfaaKeys
import Derived.Test.YtfhilhfdgcdpfaaNetW2
namespace Go.Proofs.Ytfhilhfdgcdpfaa
open Go.RowKit Go.Maps Go.Sort
set_option linter.unusedVariables false

/-- a connection: its number, whose it is, what was written -/
structure Ent where
  id : Int
  addr : Int
  bytes : List UInt8

/-- a connection of the program's -/
structure Cc where
  id : Int
  addr : Int
  bytes : List UInt8
  blk : Nat
  A : Option Addr
  cap : Nat
def Cc.row (c : Cc) : Value := .slice c.A c.bytes.length c.cap
def Cc.ent (c : Cc) : Ent := ⟨c.id, c.addr, c.bytes⟩
def Cc.ptr (c : Cc) : Value := .pointer (some ⟨c.blk, 0, none⟩)

structure NetOk (w : World) (S : Nat → Prop) (bn bm : Nat) (last : Int) (cs : List Cc) : Prop where
  hdr : Blk w bn 49 #[.map (some bm), .int .i64 last]
  map : ∃ k : Nat, (k : Int) ≤ last ∧ w.ownsMap Try.prog 3 hld bm k (datI Cc.id Cc.ptr cs)
  con : ∀ c ∈ cs, Blk w c.blk 52 #[.int .i64 c.addr, c.row] ∧ w.ownsRow 0 5 1 c.row c.bytes.length (u8s c.bytes)
  ris : cs.Pairwise (fun a b => a.id < b.id)
  rng : ∀ c ∈ cs, c.id ≤ last
  sep : cs.Pairwise (fun a b => a.blk ≠ b.blk ∧ ∀ g, a.row.ownBlock = some g → b.row.ownBlock ≠ some g)
  ownd : S bn ∧ S bm ∧ ∀ c ∈ cs, S c.blk ∧ ∀ g, c.row.ownBlock = some g → S g

/-- at bn lies a net of these connections, in blocks of S alone -/
def NetAt (w : World) (S : Nat → Prop) (bn : Nat) (last : Int) (M : List Ent) : Prop := ∃ bm cs, NetOk w S bn bm last cs ∧ cs.map Cc.ent = M

theorem ext_new {S : Nat → Prop} {w w' : World} {k : Nat} (h : w.heap.size ≤ k) (h' : k < w'.heap.size) : ext S w w' k := .inr ⟨h, h'⟩

theorem NetOk.lt {w : World} {S : Nat → Prop} {bn bm : Nat} {last : Int} {cs : List Cc} (h : NetOk w S bn bm last cs) : bn < w.heap.size ∧ bm < w.heap.size ∧ ∀ c ∈ cs, c.blk < w.heap.size ∧ ∀ g, c.row.ownBlock = some g → g < w.heap.size := by
  obtain ⟨k, _, hm⟩ := h.map
  exact ⟨h.hdr.lt, hm.lt, fun c hc => ⟨(h.con c hc).1.lt, fun g hg => ((h.con c hc).2.lt g hg).2⟩⟩

/-- what lies elsewhere may turn -/
theorem NetOk.keep {w w' : World} {S T : Nat → Prop} {bn bm : Nat} {last : Int} {cs : List Cc} (h : NetOk w S bn bm last cs) (m : Mods T w w') (hd : ∀ k, S k → ¬ T k) : NetOk w' S bn bm last cs := by
  obtain ⟨o1, o2, o3⟩ := h.ownd
  obtain ⟨k, hk, hm⟩ := h.map
  exact ⟨h.hdr.mods m (hd _ o1), ⟨k, hk, map_mods hm m (hd _ o2)⟩,
    fun c hc => ⟨(h.con c hc).1.mods m (hd _ (o3 c hc).1), own_mods (h.con c hc).2 m fun g hg => hd _ ((o3 c hc).2 g hg)⟩, h.ris, h.rng, h.sep, h.ownd⟩
theorem NetAt.keep {w w' : World} {S T : Nat → Prop} {bn : Nat} {last : Int} {M : List Ent} (h : NetAt w S bn last M) (m : Mods T w w') (hd : ∀ k, S k → ¬ T k) : NetAt w' S bn last M := by
  obtain ⟨bm, cs, h, e⟩ := h
  exact ⟨bm, cs, h.keep m hd, e⟩
theorem NetAt.more {w : World} {S T : Nat → Prop} {bn : Nat} {last : Int} {M : List Ent} (h : NetAt w S bn last M) (hS : ∀ k, S k → T k) : NetAt w T bn last M := by
  obtain ⟨bm, cs, h, e⟩ := h
  exact ⟨bm, cs, ⟨h.hdr, h.map, h.con, h.ris, h.rng, h.sep, hS _ h.ownd.1, hS _ h.ownd.2.1, fun c hc => ⟨hS _ (h.ownd.2.2 c hc).1, fun g hg => hS _ ((h.ownd.2.2 c hc).2 g hg)⟩⟩, e⟩

theorem ptr_ne {w : World} {S : Nat → Prop} {bn bm : Nat} {last : Int} {cs : List Cc} (h : NetOk w S bn bm last cs) {c : Cc} (hc : c ∈ cs) {d : Cc} (hd : d ∈ cs) : d.row.ownBlock ≠ some c.blk ∧ bn ≠ c.blk ∧ bm ≠ c.blk ∧ d.row.ownBlock ≠ some bn ∧ d.row.ownBlock ≠ some bm := by
  obtain ⟨k, _, hm⟩ := h.map
  exact ⟨own_blk_ne (h.con d hd).2 (h.con c hc).1 (by decide), Blk.ne_ h.hdr (h.con c hc).1 (by decide), map_ne hm (h.con c hc).1, own_blk_ne (h.con d hd).2 h.hdr (by decide), map_ne_own hm (h.con d hd).2⟩

/-- one connection has turned, the others have not -/
theorem NetOk.turn {w w' : World} {S : Nat → Prop} {bn bm : Nat} {last : Int} {cs : List Cc} (h : NetOk w S bn bm last cs) {c c' : Cc} (hc : c ∈ cs) (hid : c'.id = c.id) (had : c'.addr = c.addr) (hbl : c'.blk = c.blk)
    (m : Mods (fun k => k = c.blk ∨ c.row.ownBlock = some k) w w') (hb : Blk w' c.blk 52 #[.int .i64 c.addr, c'.row]) (ho : w'.ownsRow 0 5 1 c'.row c'.bytes.length (u8s c'.bytes))
    (hr : ∀ g, c'.row.ownBlock = some g → c.row.ownBlock = some g ∨ w.heap.size ≤ g) : NetOk w' (ext S w w') bn bm last (cs.map fun d => if d.id = c.id then c' else d) := by
  obtain ⟨o1, o2, o3⟩ := h.ownd
  obtain ⟨k, hk, hm⟩ := h.map
  obtain ⟨n1, n2, n3, n4, n5⟩ := ptr_ne h hc hc
  have hlt := h.lt
  have hother : ∀ d ∈ cs, d.id ≠ c.id → d.blk ≠ c.blk ∧ ∀ g, d.row.ownBlock = some g → c.row.ownBlock ≠ some g := by
    intro d hd hne
    have hs := h.sep
    have key : ∀ l : List Cc, l.Pairwise (fun a b => a.blk ≠ b.blk ∧ ∀ g, a.row.ownBlock = some g → b.row.ownBlock ≠ some g) → d ∈ l → c ∈ l → d ≠ c → d.blk ≠ c.blk ∧ ∀ g, d.row.ownBlock = some g → c.row.ownBlock ≠ some g := by
      intro l
      induction l with
      | nil => intro _ h; cases h
      | cons x l ih =>
        intro hp h1 h2 hne
        rw [List.pairwise_cons] at hp
        rcases List.mem_cons.1 h1 with e1 | h1'
        · rcases List.mem_cons.1 h2 with e2 | h2'
          · exact absurd (e1.trans e2.symm) hne
          · subst e1; exact hp.1 c h2'
        · rcases List.mem_cons.1 h2 with e2 | h2'
          · subst e2
            have := hp.1 d h1'
            exact ⟨fun e => this.1 e.symm, fun g hg hg' => this.2 g hg' hg⟩
          · exact ih hp.2 h1' h2' hne
    exact key cs hs hd hc (fun e => hne (by rw [e]))
  refine ⟨h.hdr.mods m (fun h => h.elim n2 n4), ⟨k, hk, ?_⟩, ?_, ?_, ?_, ?_, .inl o1, .inl o2, ?_⟩
  · have hdat : datI Cc.id Cc.ptr (cs.map fun d => if d.id = c.id then c' else d) = datI Cc.id Cc.ptr cs := by
      apply datI_map (fun d => if d.id = c.id then c' else d)
      · intro d; split
        · rename_i e; rw [hid, e]
        · rfl
      · intro d hd; split
        · rename_i e; rw [key_inj h.ris hd hc e]; simp [Cc.ptr, hbl]
        · rfl
    rw [hdat]
    exact map_mods hm m (fun h => h.elim n3 n5)
  · intro d hd
    obtain ⟨d0, hd0, rfl⟩ := List.mem_map.1 hd
    by_cases e : d0.id = c.id
    · simp only [if_pos e]
      exact ⟨by rw [hbl, had]; exact hb, ho⟩
    · simp only [if_neg e]
      obtain ⟨p1, p2⟩ := hother d0 hd0 e
      obtain ⟨q1, q2, q3, q4, q5⟩ := ptr_ne h hc hd0
      obtain ⟨r1, _⟩ := ptr_ne h hd0 hc
      exact ⟨(h.con d0 hd0).1.mods m (fun h => h.elim p1 r1), own_mods (h.con d0 hd0).2 m (fun g hg h => h.elim (fun e => q1 (by rw [hg, e])) (p2 g hg))⟩
  · rw [List.pairwise_map]
    refine h.ris.imp fun {a b} hab => ?_
    split <;> split <;> simp_all <;> omega
  · intro d hd
    obtain ⟨d0, hd0, rfl⟩ := List.mem_map.1 hd
    split
    · rw [hid]; exact h.rng c hc
    · exact h.rng d0 hd0
  · rw [List.pairwise_map]
    have hmem : cs.Pairwise (fun a b => a ∈ cs ∧ b ∈ cs ∧ a.id < b.id ∧ (a.blk ≠ b.blk ∧ ∀ g, a.row.ownBlock = some g → b.row.ownBlock ≠ some g)) := by
      have h2 := List.Pairwise.and_mem.1 (h.ris.and h.sep)
      exact h2.imp fun ⟨a, b, c, d⟩ => ⟨a, b, c, d⟩
    refine hmem.imp fun {a b} ⟨ha, hb', hlt', hs1, hs2⟩ => ?_
    by_cases ea : a.id = c.id
    · have eb : ¬ b.id = c.id := by omega
      rw [if_pos ea, if_neg eb]
      obtain ⟨p1, p2⟩ := hother b hb' eb
      refine ⟨by rw [hbl]; exact fun e => p1 e.symm, fun g hg hg' => ?_⟩
      rcases hr g hg with h1 | h1
      · exact p2 g hg' h1
      · have := (hlt.2.2 b hb').2 g hg'; omega
    · by_cases eb : b.id = c.id
      · rw [if_neg ea, if_pos eb]
        obtain ⟨p1, p2⟩ := hother a ha ea
        refine ⟨by rw [hbl]; exact p1, fun g hg hg' => ?_⟩
        rcases hr g hg' with h1 | h1
        · exact p2 g hg h1
        · have := (hlt.2.2 a ha).2 g hg; omega
      · rw [if_neg ea, if_neg eb]
        exact ⟨hs1, hs2⟩
  · intro d hd
    obtain ⟨d0, hd0, rfl⟩ := List.mem_map.1 hd
    by_cases e : d0.id = c.id
    · simp only [if_pos e]
      refine ⟨.inl (by rw [hbl]; exact (o3 c hc).1), fun g hg => ?_⟩
      rcases hr g hg with h1 | h1
      · exact .inl ((o3 c hc).2 g h1)
      · exact ext_new h1 (ho.lt g hg).2
    · simp only [if_neg e]
      exact ⟨.inl (o3 d0 hd0).1, fun g hg => .inl ((o3 d0 hd0).2 g hg)⟩

end Go.Proofs.Ytfhilhfdgcdpfaa
