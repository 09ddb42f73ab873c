/- The program's disk: Append. -/
import Derived.Test.YtkfmfllniakhkaaFilesO
namespace Go.Proofs.Ytkfmfllniakhkaa
open Go.RowKit Go.Maps Go.Sort
set_option linter.unusedVariables false

section
variable {w w' : World} {S S' : Nat → Prop} {bd bm : Nat} {room short fuse room' short' fuse' : Int} {cs : List Fc}

theorem DiskOk.put (h : DiskOk w S bd bm room short fuse cs) (c : Fc) (hdr' : Hd w' bd bm room' short' fuse') {k : Nat} (map' : w'.ownsMap Try.prog 9 hld bm k (datS Fc.name Fc.ptr (putS Fc.name c cs)))
    (con' : Blk w' c.blk 49 #[c.row, .int .i64 (c.s : Int)] ∧ Row w' 0 5 1 c.row c.b.length (u8s c.b))
    (oth : ∀ d ∈ cs, d.name ≠ c.name → (Blk w' d.blk 49 #[d.row, .int .i64 (d.s : Int)] ∧ Row w' 0 5 1 d.row d.b.length (u8s d.b)) ∧ d.blk ≠ c.blk ∧ ∀ g, d.row.ownBlock = some g → c.row.ownBlock ≠ some g)
    (own' : S' bd ∧ S' bm ∧ S' c.blk ∧ (∀ g, c.row.ownBlock = some g → S' g) ∧ ∀ k, S k → S' k) : DiskOk w' S' bd bm room' short' fuse' (putS Fc.name c cs) := by
  have hr := ris_putS (key := Fc.name) (x := c) h.ris
  refine ⟨hdr', ?_, ?_, hr, ?_, own'.1, own'.2.1, ?_⟩
  · have := own_size map'
    rw [datS_size] at this
    exact this
  · intro d hd
    rcases mem_putS.1 hd with rfl | ⟨hd, hne⟩
    · exact con'
    · exact (oth d hd hne).1
  · -- two of the new list lie apart
    have hmem : ∀ x ∈ putS Fc.name c cs, ∀ y ∈ putS Fc.name c cs, x.name ≠ y.name → x.blk ≠ y.blk ∧ ∀ g, x.row.ownBlock = some g → y.row.ownBlock ≠ some g := by
      intro x hx y hy hne
      rcases mem_putS.1 hx with ex | ⟨hx, hxn⟩
      · rcases mem_putS.1 hy with ey | ⟨hy, hyn⟩
        · exact absurd (by rw [ex, ey]) hne
        · obtain ⟨_, h1, h2⟩ := oth y hy hyn
          subst ex
          exact ⟨fun e => h1 e.symm, fun g hg hg' => h2 g hg' hg⟩
      · rcases mem_putS.1 hy with ey | ⟨hy, hyn⟩
        · rw [ey]; exact (oth x hx hxn).2
        · exact h.apart hy hx hne
    exact (List.Pairwise.and_mem.1 hr).imp fun {a b} ⟨ha, hb, hlt⟩ => hmem a ha b hb (fun e => by rw [e] at hlt; exact nm_irrefl _ hlt)
  · intro d hd
    rcases mem_putS.1 hd with rfl | ⟨hd, hne⟩
    · exact ⟨own'.2.2.1, own'.2.2.2.1⟩
    · exact ⟨own'.2.2.2.2 _ (h.ownd.2.2 d hd).1, fun g hg => own'.2.2.2.2 _ ((h.ownd.2.2 d hd).2 g hg)⟩

theorem DiskOk.more (h : DiskOk w S bd bm room short fuse cs) (hS : ∀ k, S k → S' k) : DiskOk w S' bd bm room short fuse cs :=
  ⟨h.hdr, h.map, h.con, h.ris, h.sep, hS _ h.ownd.1, hS _ h.ownd.2.1, fun c hc => ⟨hS _ (h.ownd.2.2 c hc).1, fun g hg => hS _ ((h.ownd.2.2 c hc).2 g hg)⟩⟩

/-- only the header's numbers have turned -/
theorem DiskOk.head (h : DiskOk w S bd bm room short fuse cs) (hdr' : Hd w' bd bm room' short' fuse') (m : Mods (· = bd) w w') : DiskOk w' S bd bm room' short' fuse' cs where
  hdr := hdr'
  map := map_mods h.map m (map_ne h.map h.hdr)
  con := fun c hc => ⟨(h.con c hc).1.mods m (fun e => (h.ne hc hc).2.1 e.symm), (h.con c hc).2.mods m (fun g hg e => (h.ne hc hc).2.2.2.1 (by rw [hg, e]))⟩
  ris := h.ris
  sep := h.sep
  ownd := h.ownd
end

section
variable (bd bm : Nat) (room short fuse : Int) (w : World) (s : ByteArray) (M : Option Addr) (m mc : Nat)

def AppBadPost (w : World) (r : Int) (e : Ending) (w' : World) : Prop := e = .returned (.tuple #[.int .i64 0, .int .i64 r]) ∧ Below w.heap.size w w'

theorem append_bad (hb : Hd w bd bm room short fuse) (hs : s.size ≤ maxLen) (hn : nameOk s.data.toList = false) :
    Calls Try.prog 12 #[.pointer (some ⟨bd, 0, none⟩), .string s, .slice M m mc] w (AppBadPost w 1) := by
  have hi := isName_any s w hs
  rw [hn] at hi
  have HI := Lib.hid hi
  clear hi hn
  go_enter Try.func12, Try.ntmps12
  go_wp2_with (first
    | (go_at_call 42; refine HI.out.mono ?_; rintro e w1 ⟨rfl, hb1⟩)
    | (go_at_call 41; refine (change_bad bd bm room short fuse _ (hb.below hb1 hb.lt)).mono ?_; rintro e w' ⟨rfl, rfl⟩))
  go_ret2
  exact ⟨rfl, hb1⟩

theorem append_dead (hb : Hd w bd bm room short 0) (hs : s.size ≤ maxLen) (hn : nameOk s.data.toList = true) :
    Calls Try.prog 12 #[.pointer (some ⟨bd, 0, none⟩), .string s, .slice M m mc] w (AppBadPost w 62) := by
  have hi := isName_any s w hs
  rw [hn] at hi
  have HI := Lib.hid hi
  clear hi hn
  go_enter Try.func12, Try.ntmps12
  go_wp2_with (first
    | (go_at_call 42; refine HI.out.mono ?_; rintro e w1 ⟨rfl, hb1⟩)
    | (go_at_call 41; refine (change_dead bd bm room short _ (hb.below hb1 hb.lt)).mono ?_; rintro e w' ⟨rfl, rfl⟩))
  go_ret2
  exact ⟨rfl, hb1⟩
end

def AppPost (S : Nat → Prop) (w : World) (bd bm : Nat) (room fuse : Int) (L : List Fl) (n r : Int) (e : Ending) (w' : World) : Prop :=
  e = .returned (.tuple #[.int .i64 n, .int .i64 r]) ∧ (∃ cs', DiskOk w' (ext S w w') bd bm room (-1) (burn fuse) cs' ∧ cs'.map Fc.fl = L) ∧ Mods S w w'

/-- the file that is written to: one of the disk's, or a new one -/
structure Hand (w0 w : World) (S : Nat → Prop) (cs : List Fc) (name : Nm) (blk : Nat) (A : Option Addr) (cap : Nat) (ob : List UInt8) (sy : Nat) : Prop where
  b : Blk w blk 49 #[.slice A ob.length cap, .int .i64 (sy : Int)]
  r : Row w 0 5 1 (.slice A ob.length cap) ob.length (u8s ob)
  o : ∀ d ∈ cs, d.name ≠ name → d.blk ≠ blk ∧ ∀ g, d.row.ownBlock = some g → (Value.slice A ob.length cap).ownBlock ≠ some g
  s1 : S blk ∨ w0.heap.size ≤ blk
  s2 : ∀ g, (Value.slice A ob.length cap).ownBlock = some g → S g ∨ w0.heap.size ≤ g
theorem Hand.below {w0 w w' : World} {S : Nat → Prop} {cs : List Fc} {name : Nm} {blk : Nat} {A : Option Addr} {cap : Nat} {ob : List UInt8} {sy : Nat} (h : Hand w0 w S cs name blk A cap ob sy) (hb : Below w.heap.size w w') : Hand w0 w' S cs name blk A cap ob sy :=
  ⟨h.b.below hb h.b.lt, h.r.below hb rfl, h.o, h.s1, h.s2⟩
theorem Hand.old {w0 w : World} {S : Nat → Prop} {bd bm : Nat} {room short fuse : Int} {cs : List Fc} (h : DiskOk w S bd bm room short fuse cs) {c : Fc} (hc : c ∈ cs) : Hand w0 w S cs c.name c.blk c.A c.cap c.b c.s :=
  ⟨(h.con c hc).1, (h.con c hc).2, fun d hd hne => h.apart hc hd hne, .inl (h.ownd.2.2 c hc).1, fun g hg => .inl ((h.ownd.2.2 c hc).2 g hg)⟩
theorem Hand.new {w0 w : World} {S : Nat → Prop} {bd bm : Nat} {room short fuse : Int} {cs : List Fc} (h : DiskOk w S bd bm room short fuse cs) (hsz : w0.heap.size ≤ w.heap.size) (name : Nm) :
    Hand w0 (w.alloc (.cells #[.slice none 0 0, .int .i64 0] 49)) S cs name w.heap.size none 0 [] 0 :=
  ⟨Blk.new _ _ _, Row.nil _ _ _ _, fun d hd _ => ⟨fun e => by have := (h.lt.2.2 d hd).1; omega, fun g _ hg => by cases hg⟩, .inr hsz, fun g hg => by cases hg⟩

/-- behind the append and the store -/
theorem app_end {w0 w4 w5 w7 : World} {S : Nat → Prop} {bd bm : Nat} {room fuse : Int} {cs : List Fc} {name : Nm} {blk : Nat} {A : Option Addr} {cap : Nat} {ob : List UInt8} {sy : Nat}
    (h4 : DiskOk w4 S bd bm room (-1) fuse cs) (hh : Hand w0 w4 S cs name blk A cap ob sy) (hm4 : Mods S w0 w4) {A5 : Option Addr} {cap5 m k : Nat} {ms : List UInt8} (hms : ms.length = m)
    (hrow5 : Row w5 0 5 1 (.slice A5 (ob.length + m) cap5) (ob.length + m) (u8s ob ++ u8s ms)) (hg5 : w4.grownBy w5 (Value.slice A ob.length cap).ownBlock)
    (hat5 : (Value.slice A5 (ob.length + m) cap5).ownBlock = (Value.slice A ob.length cap).ownBlock ∨ (Value.slice A5 (ob.length + m) cap5).ownBlock = some w4.heap.size)
    (ho7 : w7.ownsMap Try.prog 9 hld bm k ((datS Fc.name Fc.ptr cs).put (.string name) (.held (.pointer (some ⟨blk, 0, none⟩)))))
    (ht7 : Mods (· = bm) (w5.setCell ⟨blk, 0, none⟩ (.slice A5 (ob.length + m) cap5)) w7) :
    (∃ cs', DiskOk w7 (ext S w0 w7) bd bm room (-1) fuse cs' ∧ cs'.map Fc.fl = putS Fl.name ⟨name, ob ++ ms, sy⟩ (cs.map Fc.fl)) ∧ Mods S w0 w7 := by
  have hlen : ob.length + m = (ob ++ ms).length := by simp [hms]
  rw [hlen] at hrow5 hat5 ht7
  have hne1 := hh.r.blk_ne hh.b (by decide)
  have hne2 := hh.r.blk_ne h4.hdr (by decide)
  have hne3 := hh.r.map_ne h4.map
  have hne4 : bd ≠ blk := Blk.ne_ h4.hdr hh.b (by decide)
  have hne5 : bm ≠ blk := map_ne h4.map hh.b
  have hne6 : bm ≠ bd := map_ne h4.map h4.hdr
  have m5 : Mods (fun i => (Value.slice A ob.length cap).ownBlock = some i ∨ i = blk) w4 (w5.setCell ⟨blk, 0, none⟩ (.slice A5 (ob ++ ms).length cap5)) :=
    ((Mods.refl _ w4).grown hg5 (fun i _ e => .inl e)).setCell (p := ⟨blk, 0, none⟩) (fun _ => .inr rfl) _
  have m7 : Mods (fun i => (Value.slice A ob.length cap).ownBlock = some i ∨ i = blk ∨ i = bm) w4 w7 := (m5.mono fun i _ e => e.elim .inl (fun e => .inr (.inl e))).trans ht7 (fun i _ e => .inr (.inr e))
  have b5 : Blk w5 blk 49 #[.slice A ob.length cap, .int .i64 (sy : Int)] := hh.b.grown hg5 (fun e => hne1 e.symm)
  have b6 := b5.set_ 0 (.slice A5 (ob ++ ms).length cap5)
  have b7 : Blk w7 blk 49 #[.slice A5 (ob ++ ms).length cap5, .int .i64 (sy : Int)] := b6.mods ht7 (fun e => hne5 e.symm)
  have hrb5 := hrow5.blk_ne b5 (by decide)
  have r6 := hrow5.far (p := ⟨blk, 0, none⟩) hrb5 (.slice A5 (ob ++ ms).length cap5)
  have hrm : ∀ g, (Value.slice A5 (ob ++ ms).length cap5).ownBlock = some g → g ≠ bm := by
    intro g hg e
    subst e
    rcases hat5 with h | h
    · exact hne3 (by rw [← h]; exact hg)
    · rw [h] at hg; injection hg with hg; have := h4.map.lt; omega
  have r7 := r6.mods ht7 hrm
  have hnew : ∀ g, (Value.slice A5 (ob ++ ms).length cap5).ownBlock = some g → (Value.slice A ob.length cap).ownBlock = some g ∨ g = w4.heap.size := by
    intro g hg
    rcases hat5 with h | h
    · exact .inl (by rw [← h]; exact hg)
    · rw [h] at hg; injection hg with hg; exact .inr hg.symm
  have hput := datS_put (key := Fc.name) (val := Fc.ptr) cs ⟨name, ob ++ ms, sy, blk, A5, cap5⟩
  have hM : Mods S w0 w7 := hm4.trans m7 (fun i hi e => by
    rcases e with e | rfl | rfl
    · exact (hh.s2 i e).resolve_right (by omega)
    · exact hh.s1.resolve_right (by omega)
    · exact h4.ownd.2.1)
  refine ⟨⟨_, h4.put (w' := w7) (S' := ext S w0 w7) ⟨name, ob ++ ms, sy, blk, A5, cap5⟩ ?_ (k := k) (by rw [← hput]; exact ho7) ⟨b7, by rw [u8s_append]; exact r7⟩ ?_ ?_, ?_⟩, hM⟩
  · exact h4.hdr.mods m7 (fun e => by rcases e with e | e | e; exact hne2 e; exact hne4 e; exact hne6 e.symm)
  · intro d hd hne
    obtain ⟨p1, p2⟩ := hh.o d hd hne
    obtain ⟨q1, q2, q3, q4, q5, _⟩ := h4.ne hd hd
    have hbr := hh.r.blk_ne (h4.con d hd).1 (by decide)
    have hrb := (h4.con d hd).2.blk_ne hh.b (by decide)
    refine ⟨⟨(h4.con d hd).1.mods m7 (fun e => by rcases e with e | e | e; exact hbr e; exact p1 e; exact q3 e.symm), (h4.con d hd).2.mods m7 (fun g hg e => by rcases e with e | e | e; exact p2 g hg e; exact hrb (by rw [hg, e]); exact q5 (by rw [hg, e]))⟩, p1, fun g hg hg' => ?_⟩
    rcases hnew g hg' with h | h
    · exact p2 g hg h
    · have := (h4.lt.2.2 d hd).2 g hg; omega
  · refine ⟨.inl h4.ownd.1, .inl h4.ownd.2.1, ?_, fun g hg => ?_, fun i hi => .inl hi⟩
    · rcases hh.s1 with h | h
      · exact .inl h
      · exact .inr ⟨h, b7.lt⟩
    · rcases hnew g hg with h | h
      · rcases hh.s2 g h with h | h
        · exact .inl h
        · exact .inr ⟨h, (r7.lt g hg).2⟩
      · exact .inr ⟨by have := hm4.size; omega, (r7.lt g hg).2⟩
  · exact putS_mapf (key := Fc.name) (key' := Fl.name) Fc.fl (fun _ => rfl) ⟨name, ob ++ ms, sy, blk, A5, cap5⟩ cs

end Go.Proofs.Ytkfmfllniakhkaa
