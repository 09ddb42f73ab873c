/- The document's disk: Used, drop, add: walks. -/
import Derived.Test.YtkfmfllniakhkaaRefF
namespace Go.Proofs.Ytkfmfllniakhkaa
open Go.RowKit Go.Maps Go.Sort
set_option linter.unusedVariables false

def usedR (l : List Rf) : Nat := (l.map (·.b.length)).sum
theorem usedR_eq (l : List Rf) : usedR l = used (l.map Rf.fl) := by unfold usedR used; rw [List.map_map]; rfl
theorem usedR_take (l : List Rf) (k : Nat) (h : k < l.length) : usedR (l.take (k + 1)) = usedR (l.take k) + l[k].b.length := by
  unfold usedR
  rw [List.take_succ_eq_append_getElem h, List.map_append, List.sum_append]
  simp only [List.map_cons, List.map_nil, List.sum_cons, List.sum_nil]
  omega
theorem usedR_le (l : List Rf) (k : Nat) : usedR (l.take k) ≤ usedR l := by
  unfold usedR
  conv => rhs; rw [← List.take_append_drop k l]
  rw [List.map_append, List.sum_append]
  omega

set_option maxHeartbeats 400000 in
theorem rused_any (room short fuse : Int) (xd n cap : Nat) (A : Option Addr) (l : List Rf) (w : World) (hb : Xh w xd A n cap room short fuse)
    (hr : Row w 0 51 3 (.slice A n cap) n (fcells l)) (hn : n ≤ 1000000) (hu : usedR l ≤ 4611686018427387904) :
    Calls Try.prog 35 #[.pointer (some ⟨xd, 0, none⟩)] w (IntPost w (usedR l : Nat)) := by
  have c0 : w.cell? ⟨xd, 0, none⟩ = some (.slice A n cap) := hb.cell 0
  have HL := Lib.hid (frow_len hr)
  go_enter Try.func35, Try.ntmps35
  go_wp2
  go_loopw [3, 11] (fun v i wr => ∃ k : Nat, k ≤ n ∧ i = .int .i64 k ∧ v = .int .i64 (usedR (l.take k) : Nat) ∧ Below w.heap.size w wr) (fun _ i _ => n - (intOf i).toNat)
  case atStart => exact ⟨0, Nat.zero_le _, rfl, rfl, Below.refl _ _⟩
  case round =>
    obtain ⟨k, hk, rfl, rfl, hbw⟩ := hrel
    by_cases hlt : k < n
    · obtain ⟨g, rfl⟩ := hr.some_ (by omega)
      have hkl : k < l.length := by rw [HL.out]; exact hlt
      obtain ⟨d0, d1, d2⟩ := file3 hr hbw k hkl
      have hts := usedR_take l k hkl
      have hle := usedR_le l (k + 1)
      have hw1 : IntKind.i64.wrap ((usedR (l.take k) : Int) + (l[k].b.length : Int)) = (usedR (l.take k) : Int) + (l[k].b.length : Int) := IntWalk.i64_in _ (by omega)
      have HT := Lib.hid hts
      clear hts hle
      generalize usedR (l.take k) = u at hw1 HT
      go_wp2
      go_roundw
      case rel => exact ⟨k + 1, by omega, by go_num, by rw [HT.out]; rfl, hbw.alloc hbw.size _⟩
      case measure => simp [intOf]; omega
    · obtain rfl : k = n := by omega
      go_wp2
      go_ret
      refine ⟨?_, hbw⟩
      rw [List.take_of_length_le (by rw [HL.out]; exact Nat.le_refl _)]
      rfl

theorem Blk.reads {w : World} {g size : Nat} {t : TypeId} {xs : List Value} (h : Blk w g t xs.toArray) (hl : xs.length = size) : Reads w w.heap.size size (some ⟨g, 0, none⟩) 1 xs :=
  ⟨by omega, fun _ => ⟨_, rfl, h.lt, fun j u hu => by
    have ha : (⟨g, 0, none⟩ : Addr).add j = ⟨g, j, none⟩ := by unfold Addr.add; by_cases h : j = 0 <;> simp [h]
    rw [ha, h.cell j, List.getElem?_toArray]
    exact hu⟩⟩
theorem info_rf : (Try.prog.info? 51).map (fun i => (i.zero, i.size, i.bytes)) = some (some (.agg #[.string ⟨#[]⟩, .slice none 0 0, .int .i64 0]), 3, 48) := by kernel_rfl

def without (l : List Rf) (nm : Nm) : List Rf := l.filter fun c => decide (c.nm ≠ nm)
theorem without_take (l : List Rf) (nm : Nm) (k : Nat) (h : k < l.length) : without (l.take (k + 1)) nm = without (l.take k) nm ++ without [l[k]] nm := by
  unfold without
  rw [List.take_succ_eq_append_getElem h, List.filter_append]

def LinePost (w : World) (xd : Nat) (room short fuse : Int) (l : List Rf) (e : Ending) (w' : World) : Prop :=
  e = .returned (.tuple #[]) ∧ (∃ A cap, Xh w' xd A l.length cap room short fuse ∧ Row w' w.heap.size 51 3 (.slice A l.length cap) l.length (fcells l)) ∧ Mods (· = xd) w w'

set_option maxRecDepth 10000 in
set_option maxHeartbeats 800000 in
theorem rdrop_any (room short fuse : Int) (xd n cap : Nat) (A : Option Addr) (l : List Rf) (w : World) (s : ByteArray) (hb : Xh w xd A n cap room short fuse)
    (hr : Row w 0 51 3 (.slice A n cap) n (fcells l)) (hn : n ≤ 1000000) :
    Calls Try.prog 47 #[.pointer (some ⟨xd, 0, none⟩), .string s] w (LinePost w xd room short fuse (without l s.data.toList)) := by
  have c0 : w.cell? ⟨xd, 0, none⟩ = some (.slice A n cap) := hb.cell 0
  have HL := Lib.hid (frow_len hr)
  have hxl := hb.lt
  obtain ⟨i0, hi0, hz0, hz1, hz2⟩ := info_parts info_rf
  go_enter Try.func47, Try.ntmps47
  go_wp2
  go_loopw [4, 12] (fun v i wr => ∃ k : Nat, k ≤ n ∧ i = .int .i64 k ∧ Row wr w.heap.size 51 3 v (without (l.take k) s.data.toList).length (fcells (without (l.take k) s.data.toList)) ∧ Below w.heap.size w wr) (fun _ i _ => n - (intOf i).toNat)
  case atStart => exact ⟨0, Nat.zero_le _, rfl, Row.nil _ _ _ _, Below.refl _ _⟩
  case round =>
    obtain ⟨k, hk, rfl, hrow, hbw⟩ := hrel
    have hrow0 := Lib.hid hrow
    obtain ⟨B, bc, rfl⟩ := hrow.slice
    by_cases hlt : k < n
    · obtain ⟨g, rfl⟩ := hr.some_ (by omega)
      have hkl : k < l.length := by rw [HL.out]; exact hlt
      obtain ⟨d0, d1, d2⟩ := file3 hr hbw k hkl
      have HT := Lib.hid (without_take l s.data.toList k hkl)
      have hml : (without (l.take k) s.data.toList).length ≤ 1000000 := by
        have h1 : (without (l.take k) s.data.toList).length ≤ (l.take k).length := List.length_filter_le _ _
        rw [List.length_take] at h1
        omega
      generalize l[k] = c at d0 d1 d2 HT
      generalize hm : (without (l.take k) s.data.toList) = lk at hml hrow hrow0 HT ⊢
      clear hm
      by_cases he : c.name = s
      · have hee : (c.name.toList == s.toList) = true := by rw [he]; exact beq_self_eq_true _
        have HW := Lib.hid (show without [c] s.data.toList = [] by unfold without; simp [Rf.nm, he])
        clear he
        go_wp2
        go_roundw
        case rel => exact ⟨k + 1, by omega, by go_num, by rw [HT.out, HW.out, List.append_nil]; exact hrow0.out.alloc _, hbw.alloc hbw.size _⟩
        case measure => simp [intOf]; omega
      · have hne : (c.name.toList == s.toList) = false := beq_eq_false_iff_ne.2 (fun e => he (name_eq.2 (by rw [ByteArray.toList_eq, ByteArray.toList_eq] at e; exact e)))
        have HW := Lib.hid (show without [c] s.data.toList = [c] by unfold without; rw [List.filter_eq_self]; intro d hd; rw [List.mem_singleton] at hd; subst hd; exact decide_eq_true (fun h => he (name_eq.2 h)))
        clear he
        have hsz := hbw.size
        have hnews : Reads ((wr.alloc (.cells #[.string c.name, .slice c.A c.b.length c.cap, .int .i64 (c.s : Int)] 51)).alloc (.cells #[.string c.name, .slice c.A c.b.length c.cap, .int .i64 (c.s : Int)] 51)) (wr.heap.size + 1 + 1) 3 (some ⟨wr.heap.size + 1, 0, none⟩) 1 (fcells [c]) := by
          have := Blk.reads (xs := fcells [c]) (Blk.new (wr.alloc (.cells #[.string c.name, .slice c.A c.b.length c.cap, .int .i64 (c.s : Int)] 51)) 51 _) rfl
          simp only [World.size_alloc] at this
          exact this
        have HNEWS := Lib.hid hnews
        clear hnews
        go_wp2_with
          (at_builtin
           refine wpList_append_row _ rfl (.tmp 20) (.tmp 22) _ rfl w.heap.size 51 i0 _ 3 48 Try.underlying42 hi0 hz0 hz1 hz2 rfl (by omega) (.slice B lk.length bc) lk.length (fcells lk) rfl
             ((hrow0.out.alloc _).alloc _) _ _ 1 1 (fcells [c]) rfl HNEWS.out (fcells_one _) (by simp only [maxLen]; omega) (by omega) (by simp; omega) ?_
           intro v1 w1 hown1 hg1 hat1)
        go_roundw
        case rel => exact ⟨k + 1, by omega, by go_num, by rw [HT.out, HW.out, List.length_append, fcells_append]; exact hown1, ((hbw.alloc hbw.size _).alloc (by simp; omega) _).grown hg1 (by simp; omega) (fun j hj => (hrow0.out.lt j hj).1)⟩
        case measure => simp [intOf]; omega
    · obtain rfl : k = n := by omega
      have hbx := hb.below hbw hxl
      have e0 : wr.cell? ⟨xd, 0, none⟩ = some (.slice A k cap) := hbx.cell 0
      have f0 : wr.frozen? ⟨xd, 0, none⟩ = false := hbx.frozen 0
      rw [List.take_of_length_le (by rw [HL.out]; exact Nat.le_refl _)] at hrow hrow0 ⊢
      go_wp2
      go_end0
      exact ⟨rfl, ⟨B, bc, hbx.set_ 0 _, hrow0.out.far (fun e => by have := (hrow0.out.lt xd e).1; omega) _⟩, ((Mods.refl (· = xd) w).below hbw).setCell (p := ⟨xd, 0, none⟩) (fun _ => rfl) _⟩

end Go.Proofs.Ytkfmfllniakhkaa
