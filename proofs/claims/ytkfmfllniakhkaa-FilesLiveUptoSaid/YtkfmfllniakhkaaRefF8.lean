/- The document's disk: Short, Room, Fuse as steps; Synced, Used, New. -/
import Derived.Test.YtkfmfllniakhkaaRefF7
namespace Go.Proofs.Ytkfmfllniakhkaa
open Go.RowKit Go.Maps Go.Sort
set_option linter.unusedVariables false

section
variable {w w' : World} {S S' : Nat → Prop} {xd : Nat} {D : Dk}

theorem rstep_short (h : RdAt w S xd D) (n : Int) : Calls Try.prog 24 #[.pointer (some ⟨xd, 0, none⟩), .int .i64 n] w (RStep S w xd (mShort D n)) := by
  obtain ⟨A, cap, rs, h, hl⟩ := h
  refine (rshort_any _ _ n h.hdr).mono ?_
  rintro e w' ⟨rfl, hh, hm⟩
  exact ⟨rfl, ⟨A, cap, rs, (h.head hh hm).more fun _ h => .inl h, hl⟩, hm.mono fun i _ e => e ▸ h.ownd.1⟩
theorem rstep_fuse (h : RdAt w S xd D) (n : Int) : Calls Try.prog 28 #[.pointer (some ⟨xd, 0, none⟩), .int .i64 n] w (RStep S w xd (mFuse D n)) := by
  obtain ⟨A, cap, rs, h, hl⟩ := h
  refine (rfuse_any _ _ n h.hdr).mono ?_
  rintro e w' ⟨rfl, hh, hm⟩
  exact ⟨rfl, ⟨A, cap, rs, (h.head hh hm).more fun _ h => .inl h, hl⟩, hm.mono fun i _ e => e ▸ h.ownd.1⟩
theorem rstep_room (h : RdAt w S xd D) (n : Int) : Calls Try.prog 26 #[.pointer (some ⟨xd, 0, none⟩), .int .i64 n] w (RStep S w xd (mRoom D n)) := by
  obtain ⟨A, cap, rs, h, hl⟩ := h
  refine (rroom_any _ _ n h.hdr).mono ?_
  rintro e w' ⟨rfl, hh, hm⟩
  exact ⟨rfl, ⟨A, cap, rs, (h.head hh hm).more fun _ h => .inl h, hl⟩, hm.mono fun i _ e => e ▸ h.ownd.1⟩
theorem rdisk_synced (h : RdAt w S xd D) (hlen : D.l.length ≤ 1000000) (s : ByteArray) : Calls Try.prog 40 #[.pointer (some ⟨xd, 0, none⟩), .string s] w (IntPost w (oldS D.l s.data.toList : Nat)) := by
  obtain ⟨A, cap, rs, h, hl⟩ := h
  rw [← hl] at hlen ⊢
  rw [List.length_map] at hlen
  exact rsynced_any h hlen s
theorem rdisk_used (h : RdAt w S xd D) (hD : DkOk D) (hlen : D.l.length ≤ 1000000) : Calls Try.prog 35 #[.pointer (some ⟨xd, 0, none⟩)] w (IntPost w (used D.l : Nat)) := by
  have hus := dk_used hD hlen
  obtain ⟨A, cap, rs, h, hl⟩ := h
  rw [← hl] at hus hlen ⊢
  rw [List.length_map] at hlen
  rw [← usedR_eq] at hus ⊢
  exact rused_any _ _ _ xd rs.length cap A rs w h.hdr h.row hlen (by omega)
def ROk (w : World) (D : Dk) (e : Ending) (w' : World) : Prop := ∃ xd, e = .returned (.tuple #[.pointer (some ⟨xd, 0, none⟩), .int .i64 0]) ∧ RdAt w' (fun k => w.heap.size ≤ k ∧ k < w'.heap.size) xd D ∧ Below w.heap.size w w'
theorem rdisk_new {room : Int} (h0 : 0 ≤ room) (h1 : room ≤ 1099511627776) : Calls Try.prog 5 #[.int .i64 room] w (ROk w ⟨[], room, -1, -1⟩) := by
  have h0' : ¬ room < 0 := by omega
  have h1' : ¬ 1099511627776 < room := by omega
  go_enter Try.func5, Try.ntmps5
  go_wp2
  all_goals go_ret2
  all_goals
    exact ⟨w.heap.size, rfl, ⟨none, 0, [], ⟨Blk.new w _ _, Row.nil _ _ _ _, by simp, by simp, by simp, ⟨Nat.le_refl _, by simp⟩, by simp [Value.ownBlock], by simp⟩, rfl⟩, (Below.refl _ w).alloc (Nat.le_refl _) _⟩
theorem rdisk_new_bad {room : Int} (h : room < 0 ∨ 1099511627776 < room) : Calls Try.prog 5 #[.int .i64 room] w fun e w' => e = .returned (.tuple #[.pointer none, .int .i64 1]) ∧ w' = w := by
  rcases h with h | h
  · go_enter Try.func5, Try.ntmps5
    go_wp2
    all_goals go_ret2
    all_goals exact ⟨rfl, rfl⟩
  · have h' : ¬ room < 0 := by omega
    go_enter Try.func5, Try.ntmps5
    go_wp2
    all_goals go_ret2
    all_goals exact ⟨rfl, rfl⟩
end

end Go.Proofs.Ytkfmfllniakhkaa
