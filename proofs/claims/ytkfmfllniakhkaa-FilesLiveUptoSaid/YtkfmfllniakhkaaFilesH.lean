/- The program's disk: Append, and what only reads, in the document's words. -/
import Derived.Test.YtkfmfllniakhkaaFilesG
namespace Go.Proofs.Ytkfmfllniakhkaa
open Go.RowKit Go.Maps Go.Sort
set_option linter.unusedVariables false

def room1 : Nat := 1048576
theorem dk_used {D : Dk} (hD : DkOk D) (hlen : D.l.length ≤ 1000000) : used D.l ≤ 1048576000000 := by
  have h1 := used_le (l := D.l) fun f hf => (hD.fls f hf).2.1
  have h2 : D.l.length * 1048576 ≤ 1000000 * 1048576 := Nat.mul_le_mul_right _ hlen
  omega

section
variable {w w' : World} {S S' : Nat → Prop} {bd bm : Nat} {D : Dk}

theorem disk_append (h : DiskAt w S bd D) (hD : DkOk D) (hlen : D.l.length ≤ 1000000) {s : ByteArray} (hs : s.size ≤ maxLen) {M : Option Addr} {m mc : Nat} {ms : List UInt8} (hr : Reads w w.heap.size 1 M m (u8s ms)) (hm : m ≤ 140737488355328) (hmc : m ≤ mc) (hM : 0 < m → ∀ ad, M = some ad → ¬ S ad.block) :
    Calls Try.prog 12 #[.pointer (some ⟨bd, 0, none⟩), .string s, .slice M m mc] w (AppendPost S w bd (mAppend D s.data.toList ms)) := by
  have hus := dk_used hD hlen
  obtain ⟨l, room, short, fuse⟩ := D
  obtain ⟨bm, cs, h, rfl⟩ := h
  have hfu := hD.fuse
  have hsh := hD.short
  have hold := old_ok hD s.data.toList
  dsimp only at h hfu hsh hlen hold hus
  rw [List.length_map] at hlen
  have hml : ms.length = m := by have := hr.1; simpa [u8s_length] using this
  unfold mAppend
  dsimp only
  have hsame : ∀ (r : Int) e w', AppBadPost w r e w' → AppendPost S w bd (⟨cs.map Fc.fl, room, short, fuse⟩, 0, r) e w' := by
    rintro r e w' ⟨rfl, hb⟩
    exact ⟨rfl, ⟨bm, cs, (h.below hb).more fun _ h => .inl h, rfl⟩, (Mods.refl _ _).below hb⟩
  cases hno : nameOk s.data.toList with
  | false =>
    rw [if_pos rfl]
    exact (append_bad bd bm room short fuse w s M m mc h.hdr hs hno).mono (hsame _)
  | true =>
    rw [if_neg (by decide)]
    by_cases hf : fuse = 0
    · subst hf
      rw [if_pos rfl]
      exact (append_dead bd bm room short w s M m mc h.hdr hs hno).mono (hsame _)
    · rw [if_neg hf]
      have hpart : Part short m ms (cutTo short ms).length (cutTo short ms) (isPart short ms.length) := by
        unfold Part cutTo isPart
        by_cases hp : 0 ≤ short ∧ short < ms.length
        · rw [if_pos hp, if_pos hp]
          exact .inr ⟨short.toNat, by omega, by omega, by rw [List.length_take]; omega, rfl, rfl⟩
        · rw [if_neg hp, if_neg hp]
          exact .inl ⟨by omega, hml, rfl, rfl⟩
      have hex : (∃ c ∈ cs, c.name = s.data.toList ∧ oldB (cs.map Fc.fl) s.data.toList = c.b ∧ oldS (cs.map Fc.fl) s.data.toList = c.s) ∨ ((∀ c ∈ cs, c.name ≠ s.data.toList) ∧ oldB (cs.map Fc.fl) s.data.toList = [] ∧ oldS (cs.map Fc.fl) s.data.toList = 0) := by
        unfold oldB oldS
        cases hfd : fnd (cs.map Fc.fl) s.data.toList with
        | none => exact .inr ⟨fun c hc => fnd_none hfd c.fl (List.mem_map_of_mem hc), rfl, rfl⟩
        | some f =>
          obtain ⟨c, hc, rfl, hcn, _⟩ := at_some h hfd
          exact .inl ⟨c, hc, hcn, rfl, rfl⟩
      obtain ⟨hF, hN⟩ := append_go h (by omega) s hs hno hf hfu.1 hfu.2 hsh.2 hlen M m mc _ ms _ _ hr hm hmc hM hpart _ _ hex hold.1
      have hfin : ∀ L n r e w', AppPost S w bd bm room fuse L n r e w' → AppendPost S w bd (⟨L, room, -1, burn fuse⟩, n, r) e w' := by
        rintro L n r e w' ⟨rfl, ⟨cs', hd, hl⟩, hm⟩
        exact ⟨rfl, ⟨bm, cs', hd, hl⟩, hm⟩
      by_cases hfull : Full room (used (cs.map Fc.fl)) (oldB (cs.map Fc.fl) s.data.toList) (cutTo short ms).length
      · rw [if_pos hfull]
        exact (hF hfull).mono (hfin _ _ _)
      · rw [if_neg hfull]
        exact (hN hfull).mono (hfin _ _ _)

/-! what only reads -/
def mRead (D : Dk) (nm : Nm) : List UInt8 × Int := match fnd D.l nm with
  | none => ([], 60)
  | some f => (f.b, 0)
def GotPost (w : World) (o : List UInt8 × Int) (e : Ending) (w' : World) : Prop := ∃ v, e = .returned (.tuple #[v, .int .i64 o.2]) ∧ Row w' w.heap.size 5 1 v o.1.length (u8s o.1) ∧ Below w.heap.size w w'

theorem disk_read (h : DiskAt w S bd D) (hD : DkOk D) {s : ByteArray} (hs : s.size ≤ maxLen) : Calls Try.prog 36 #[.pointer (some ⟨bd, 0, none⟩), .string s] w (GotPost w (mRead D s.data.toList)) := by
  obtain ⟨l, room, short, fuse⟩ := D
  obtain ⟨bm, cs, h, rfl⟩ := h
  have hfl := hD.fls
  dsimp only at h hfl
  unfold mRead
  dsimp only
  cases hfd : fnd (cs.map Fc.fl) s.data.toList with
  | none =>
    refine (read_no bd bm _ room short fuse _ w s h.hdr h.map hs (at_none h hfd)).mono ?_
    rintro e w' ⟨rfl, rfl⟩
    exact ⟨_, rfl, Row.nil _ _ _ _, Below.refl _ _⟩
  | some f =>
    obtain ⟨c, hc, rfl, hcn, hat⟩ := at_some h hfd
    have := (hfl c.fl (List.mem_map_of_mem hc)).2.1
    refine (read_yes bd bm _ room short fuse _ w s c.blk c.A c.b.length c.cap c.s c.b h.hdr h.map hs hat (h.con c hc).1 (h.con c hc).2 (by have : c.b.length ≤ 1048576 := this; omega)).mono ?_
    rintro e w' ⟨v, rfl, hv, hb⟩
    exact ⟨v, rfl, hv, hb⟩

def IntPost (w : World) (n : Int) (e : Ending) (w' : World) : Prop := e = .returned (.int .i64 n) ∧ Below w.heap.size w w'
theorem disk_used (h : DiskAt w S bd D) (hD : DkOk D) (hlen : D.l.length ≤ 1000000) : Calls Try.prog 34 #[.pointer (some ⟨bd, 0, none⟩)] w (IntPost w (used D.l)) := by
  have hus := dk_used hD hlen
  obtain ⟨bm, cs, h, hl⟩ := h
  rw [← hl] at hus ⊢
  exact used_any h (by omega)
theorem disk_synced (h : DiskAt w S bd D) {s : ByteArray} (hs : s.size ≤ maxLen) : Calls Try.prog 39 #[.pointer (some ⟨bd, 0, none⟩), .string s] w (IntPost w (oldS D.l s.data.toList)) := by
  obtain ⟨bm, cs, h, hl⟩ := h
  rw [← hl]
  unfold oldS
  cases hfd : fnd (cs.map Fc.fl) s.data.toList with
  | none =>
    refine (synced_no bd bm _ D.room D.short D.fuse _ w s h.hdr h.map hs (at_none h hfd)).mono ?_
    rintro e w' ⟨rfl, rfl⟩
    exact ⟨rfl, Below.refl _ _⟩
  | some f =>
    obtain ⟨c, hc, rfl, hcn, hat⟩ := at_some h hfd
    refine (synced_yes bd bm _ D.room D.short D.fuse _ w s c.blk _ _ h.hdr h.map hs hat (h.con c hc).1).mono ?_
    rintro e w' ⟨rfl, rfl⟩
    exact ⟨rfl, Below.refl _ _⟩
theorem disk_list (h : DiskAt w S bd D) (hlen : D.l.length ≤ 1000000) : Calls Try.prog 33 #[.pointer (some ⟨bd, 0, none⟩)] w (ListPost w (D.l.map Fl.name)) := by
  obtain ⟨bm, cs, h, hl⟩ := h
  rw [← hl, List.length_map] at hlen
  have := list_any h hlen
  rw [← hl, List.map_map]
  exact this
def NewPost (w : World) (D : Dk) (e : Ending) (w' : World) : Prop := ∃ bd, e = .returned (.pointer (some ⟨bd, 0, none⟩)) ∧ DiskAt w' (fun k => w.heap.size ≤ k ∧ k < w'.heap.size) bd D ∧ Below w.heap.size w w'
theorem disk_copy (h : DiskAt w S bd D) (hD : DkOk D) (hlen : D.l.length ≤ 1000000) : Calls Try.prog 6 #[.pointer (some ⟨bd, 0, none⟩)] w (NewPost w D) := by
  obtain ⟨l, room, short, fuse⟩ := D
  obtain ⟨bm, cs, h, rfl⟩ := h
  have hfl := hD.fls
  dsimp only at h hfl hlen
  rw [List.length_map] at hlen
  refine (copy_any h hlen fun c hc => (hfl c.fl (List.mem_map_of_mem hc)).2.1).mono ?_
  rintro e w' ⟨bd', bm', cs', rfl, hd, hl, hb⟩
  exact ⟨bd', rfl, ⟨bm', cs', hd, hl⟩, hb⟩
def OkPost (w : World) (D : Dk) (e : Ending) (w' : World) : Prop := ∃ bd, e = .returned (.tuple #[.pointer (some ⟨bd, 0, none⟩), .int .i64 0]) ∧ DiskAt w' (fun k => w.heap.size ≤ k ∧ k < w'.heap.size) bd D ∧ Below w.heap.size w w'
theorem disk_new {room : Int} (h0 : 0 ≤ room) (h1 : room ≤ 1099511627776) : Calls Try.prog 4 #[.int .i64 room] w (OkPost w ⟨[], room, -1, -1⟩) := by
  refine (new_ok room w h0 h1).mono ?_
  rintro e w' ⟨rfl, rfl⟩
  have hb : Blk ((w.alloc (.map #[] 0)).alloc (.cells #[.map (some w.heap.size), .int .i64 room, .int .i64 (-1), .int .i64 (-1)] 41 (0, 0))) (w.heap.size + 1) 41 #[.map (some w.heap.size), .int .i64 room, .int .i64 (-1), .int .i64 (-1)] := by
    have := Blk.new (w.alloc (.map #[] 0)) 41 #[.map (some w.heap.size), .int .i64 room, .int .i64 (-1), .int .i64 (-1)]
    rwa [World.size_alloc] at this
  exact ⟨_, rfl, ⟨w.heap.size, [], ⟨hb, (World.ownsMap_made w Try.prog 9 hld).alloc _, by simp, by simp, by simp, ⟨by simp, by simp⟩, ⟨by simp, by simp; omega⟩, by simp⟩, rfl⟩, ((Below.refl _ w).alloc (Nat.le_refl _) _).alloc (by simp) _⟩
end

end Go.Proofs.Ytkfmfllniakhkaa
