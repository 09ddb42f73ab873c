/- The document's disk: List, Read. -/
import Derived.Test.YtkfmfllniakhkaaRefF8
namespace Go.Proofs.Ytkfmfllniakhkaa
open Go.RowKit Go.Maps Go.Sort
set_option linter.unusedVariables false

theorem info_str : (Try.prog.info? 9).map (fun i => (i.zero, i.size, i.bytes)) = some (some (.string ⟨#[]⟩), 1, 16) := by kernel_rfl
def nms (l : List Rf) : List Value := l.map fun c => .string c.name
theorem nms_enc (l : List Rf) : nms l = (l.map Rf.nm).map encStr := by
  unfold nms
  rw [List.map_map]
  apply List.map_congr_left
  intro c _
  show Value.string c.name = encStr c.name.data.toList
  obtain ⟨⟨d⟩⟩ := c.name
  rfl

def RListPost (w : World) (ns : List Nm) (e : Ending) (w' : World) : Prop := ∃ v, e = .returned v ∧ Row w' w.heap.size 9 1 v ns.length (ns.map encStr) ∧ Below w.heap.size w w'

set_option maxRecDepth 10000 in
set_option maxHeartbeats 800000 in
theorem rlist_any (room short fuse : Int) (xd n cap : Nat) (A : Option Addr) (l : List Rf) (w : World) (hb : Xh w xd A n cap room short fuse)
    (hr : Row w 0 51 3 (.slice A n cap) n (fcells l)) (hn : n ≤ 1000000) :
    Calls Try.prog 31 #[.pointer (some ⟨xd, 0, none⟩)] w (RListPost w (l.map Rf.nm)) := by
  have c0 : w.cell? ⟨xd, 0, none⟩ = some (.slice A n cap) := hb.cell 0
  have HL := Lib.hid (frow_len hr)
  obtain ⟨i0, hi0, hz0, hz1, hz2⟩ := info_parts info_str
  go_enter Try.func31, Try.ntmps31
  go_wp2
  go_loopw [3, 11] (fun v i wr => ∃ k : Nat, k ≤ n ∧ i = .int .i64 k ∧ Row wr w.heap.size 9 1 v k (nms (l.take k)) ∧ Below w.heap.size w wr) (fun _ i _ => n - (intOf i).toNat)
  case atStart => exact ⟨0, Nat.zero_le _, rfl, Row.nil _ _ _ _, Below.refl _ _⟩
  case round =>
    obtain ⟨k, hk, rfl, hrow, hbw⟩ := hrel
    have hrow0 := Lib.hid hrow
    obtain ⟨B, bc, rfl⟩ := hrow.slice
    by_cases hlt : k < n
    · obtain ⟨g, rfl⟩ := hr.some_ (by omega)
      have hkl : k < l.length := by rw [HL.out]; exact hlt
      obtain ⟨d0, d1, d2⟩ := file3 hr hbw k hkl
      have HT := Lib.hid (show nms (l.take (k + 1)) = nms (l.take k) ++ [.string l[k].name] by rw [take_snoc hkl]; unfold nms; rw [List.map_append]; rfl)
      generalize l[k] = c at d0 d1 d2 HT
      have hsz := hbw.size
      have hnews : Reads ((wr.alloc (.cells #[.string c.name, .slice c.A c.b.length c.cap, .int .i64 (c.s : Int)] 51)).alloc (.cells #[.string c.name] 9)) (wr.heap.size + 1 + 1) 1 (some ⟨wr.heap.size + 1, 0, none⟩) 1 [.string c.name] := by
        have := Blk.reads (xs := [Value.string c.name]) (Blk.new (wr.alloc (.cells #[.string c.name, .slice c.A c.b.length c.cap, .int .i64 (c.s : Int)] 51)) 9 _) rfl
        simp only [World.size_alloc] at this
        exact this
      have HN := Lib.hid hnews
      clear hnews
      go_wp2_with
        (at_builtin
         refine wpList_append_row _ rfl _ _ _ rfl w.heap.size 9 i0 _ 1 16 Try.underlying62 hi0 hz0 hz1 hz2 rfl (by omega) (.slice B k bc) k (nms (l.take k)) rfl
           ((hrow0.out.alloc _).alloc _) _ _ 1 1 [.string c.name] rfl HN.out (by simp [Value.oneCell']) (by simp only [maxLen]; omega) (by omega) (by simp; omega) ?_
         intro v1 w1 hown1 hg1 hat1)
      go_roundw
      case rel => exact ⟨k + 1, by omega, by go_num, by rw [HT.out]; exact hown1, ((hbw.alloc hbw.size _).alloc (by simp; omega) _).grown hg1 (by simp; omega) (fun j hj => (hrow0.out.lt j hj).1)⟩
      case measure => simp [intOf]; omega
    · obtain rfl : k = n := by omega
      go_wp2
      go_ret
      refine ⟨_, rfl, ?_, hbw⟩
      have := hrow0.out
      rw [List.take_of_length_le (by rw [HL.out]; exact Nat.le_refl _), nms_enc] at this
      rw [List.length_map, HL.out]
      exact this

theorem rdisk_list {w : World} {S : Nat → Prop} {xd : Nat} {D : Dk} (h : RdAt w S xd D) (hlen : D.l.length ≤ 1000000) : Calls Try.prog 31 #[.pointer (some ⟨xd, 0, none⟩)] w (RListPost w (D.l.map Fl.name)) := by
  obtain ⟨A, cap, rs, h, hl⟩ := h
  rw [← hl] at hlen ⊢
  rw [List.length_map] at hlen
  have := rlist_any _ _ _ xd rs.length cap A rs w h.hdr h.row hlen
  rw [List.map_map]
  exact this

end Go.Proofs.Ytkfmfllniakhkaa
