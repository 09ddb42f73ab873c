/- The program's disk: Read, List: walks. -/
import Derived.Test.YtkfmfllniakhkaaFilesO
import Derived.Shelf.SlIter.Nil
import Derived.Shelf.SortM.Plain
import Derived.Shelf.SortM.SortNone
namespace Go.Proofs.Ytkfmfllniakhkaa
open Go.RowKit Go.Maps Go.Sort Go.Shelf
set_option linter.unusedVariables false

/-- new bytes are handed back -/
def ClonePost (w : World) (n : Nat) (bs : List UInt8) (e : Ending) (w' : World) : Prop := ∃ v, e = .returned v ∧ Row w' w.heap.size 5 1 v n (u8s bs) ∧ Below w.heap.size w w'

theorem clone_any {w : World} {B n cap : Nat} {A : Option Addr} {bs : List UInt8} (h : Reads w B 1 A n (u8s bs)) (hn : n ≤ 140737488355328) : Calls Try.prog 11 #[.slice A n cap] w (ClonePost w n bs) := by
  have hl : bs.length = n := by have := h.1; simpa [u8s_length] using this
  rcases A with _ | ad
  · have h0 : n = 0 := by
      rcases Nat.eq_zero_or_pos n with h0 | h0
      · exact h0
      · obtain ⟨ad, h, _⟩ := h.2 h0
        cases h
    subst h0
    obtain rfl : bs = [] := List.eq_nil_of_length_eq_zero hl
    refine (Try.bytes_Clone_nil 0 cap w).mono ?_
    rintro e w' ⟨rfl, rfl⟩
    exact ⟨_, rfl, Row.nil _ _ _ _, Below.refl _ _⟩
  · refine (Try.bytes_Clone_at ad n cap (u8i bs) w (by rw [u8i_length]; exact hl) hn (fun i hi => ?_)).mono ?_
    · obtain ⟨ad', h', _, hc⟩ := h.2 (by omega)
      injection h' with h'
      subst h'
      exact hc i _ (u8s_getD bs i (by omega))
    · rintro e w' ⟨v, rfl, hv, _, hb⟩
      rw [u8i_map] at hv
      exact ⟨v, rfl, Row.of_own hv, hb⟩

def ReadPost (w : World) (n : Nat) (bs : List UInt8) (e : Ending) (w' : World) : Prop := ∃ v, e = .returned (.tuple #[v, .int .i64 0]) ∧ Row w' w.heap.size 5 1 v n (u8s bs) ∧ Below w.heap.size w w'

section
variable (bd bm k : Nat) (room short fuse : Int) (D : DataW Value) (w : World) (s : ByteArray)

theorem read_no (hb : Hd w bd bm room short fuse) (hown : w.ownsMap Try.prog 9 hld bm k D) (hs : s.size ≤ maxLen) (hat : D.atKey (.string s.data.toList) (.held (.pointer none)) = .held (.pointer none)) :
    Calls Try.prog 36 #[.pointer (some ⟨bd, 0, none⟩), .string s] w fun e w' => e = .returned (.tuple #[.slice none 0 0, .int .i64 60]) ∧ w' = w := by
  have hmd := Lib.hid (made_yes bd bm room short fuse w hb)
  have hl1 := look hown hs hat
  have c0 : w.cell? ⟨bd, 0, none⟩ = some (.map (some bm)) := hb.cell 0
  clear hat
  go_enter Try.func36, Try.ntmps36
  go_wp2_with (go_at_call 10; refine hmd.out.mono ?_; rintro e w' ⟨rfl, rfl⟩)
  go_ret2
  exact ⟨rfl, rfl⟩

theorem read_yes (c : Nat) (A : Option Addr) (n cap : Nat) (sy : Int) (bs : List UInt8) (hb : Hd w bd bm room short fuse) (hown : w.ownsMap Try.prog 9 hld bm k D) (hs : s.size ≤ maxLen) (hat : D.atKey (.string s.data.toList) (.held (.pointer none)) = .held (.pointer (some ⟨c, 0, none⟩)))
    (hc : Blk w c 49 #[.slice A n cap, .int .i64 sy]) (hr : Row w 0 5 1 (.slice A n cap) n (u8s bs)) (hn : n ≤ 140737488355328) :
    Calls Try.prog 36 #[.pointer (some ⟨bd, 0, none⟩), .string s] w (ReadPost w n bs) := by
  have hmd := Lib.hid (made_yes bd bm room short fuse w hb)
  have hl1 := look hown hs hat
  have c0 : w.cell? ⟨bd, 0, none⟩ = some (.map (some bm)) := hb.cell 0
  have d0 : w.cell? ⟨c, 0, none⟩ = some (.slice A n cap) := hc.cell 0
  have hcl := Lib.hid (clone_any (cap := cap) hr.reads hn)
  clear hat
  go_enter Try.func36, Try.ntmps36
  go_wp2_with (first
    | (go_at_call 10; refine hmd.out.mono ?_; rintro e w' ⟨rfl, hw⟩; obtain rfl := hw.symm)
    | (go_at_call 11; refine hcl.out.mono ?_; rintro e w1 ⟨v, rfl, hv, hb1⟩))
  go_ret2
  exact ⟨v, rfl, hv, hb1⟩
end

theorem sortsA (m : Nat) : AnyZ.SortsIn Try.prog Try.sortedA_ren Fence.wide m :=
  ⟨fun blk off cap ss W hH hblk hsz => callsIn_wide.2 (AnyM.slices_Sort_string Try.sortA blk off cap ss W hH hblk hsz),
   fun p cap W => callsIn_wide.2 (AnyM.slices_Sort_string_none Try.sortA p cap W)⟩

def ListPost (w : World) (ns : List Nm) (e : Ending) (w' : World) : Prop := ∃ v, e = .returned v ∧ w'.ownsRow w.heap.size 9 1 v ns.length (ns.map encStr) ∧ Below w.heap.size w w'

set_option maxHeartbeats 1000000 in
theorem list_any {w : World} {S : Nat → Prop} {bd bm : Nat} {room short fuse : Int} {cs : List Fc} (h : DiskOk w S bd bm room short fuse cs) (hmax : cs.length ≤ 1000000) :
    Calls Try.prog 33 #[.pointer (some ⟨bd, 0, none⟩)] w (ListPost w (cs.map Fc.name)) := by
  refine (callsIn_wide (n := 6)).1 ?_
  have hmd := callsIn_wide (n := 5) |>.2 (made_yes bd bm room short fuse w h.hdr)
  have c0 : w.cell? ⟨bd, 0, none⟩ = some (.map (some bm)) := h.hdr.cell 0
  have hown := h.map
  have hbl := hown.lt
  have HR := Lib.hid h.ris
  have hsz := datS_size (key := Fc.name) (val := Fc.ptr) cs
  have hseq : SeqGives Fence.wide 2 Try.prog 57 #[.pointer (some ⟨w.heap.size, 0, none⟩)] encStr (fun ss => ss.Perm (strKeys (datS Fc.name Fc.ptr cs))) (Maps.size (datS Fc.name Fc.ptr cs)) (w.alloc (.cells #[.map (some bm)] 39)) :=
    AnyZ.keys_gives (ρ := Try.keysA_ren) { Try.keysA with } Fence.wide _ trivial rfl (by omega) w.heap.size bm cs.length _ _ (by simp) (by simp) (by
      obtain ⟨es, clock, hb, Ft, hs, hD⟩ := hown
      exact ⟨es, clock, (Below.heap_alloc _ _ bm hbl).trans hb, Ft, hs, hD⟩)
  have cK : ∀ mb W, CallsIn Fence.wide 5 Try.prog 51 #[.map mb] W fun e w' => e = .returned (.func (.func 57) #[] #[.pointer (some ⟨W.heap.size, 0, none⟩)]) ∧ w' = W.alloc (.cells #[.map mb] 39) := fun mb W => AnyZ.keys_in Try.keysA Fence.wide 5 trivial rfl mb W
  have cS := AnyZ.sorted_in Try.sortedA Fence.wide 5 trivial trivial trivial trivial rfl (by omega) (sortsA _) (enters_of Try.func56 (by kernel_rfl) rfl) 57 #[.pointer (some ⟨w.heap.size, 0, none⟩)] trivial (enters_of Try.func57 (by kernel_rfl) rfl) _ _ (by rw [hsz]; simp only [maxLen]; omega) (by rw [hsz]; omega) _ hseq
  change CallsIn _ _ Try.prog 50 _ _ _ at cS
  have hfK : Fence.wide.fn 51 := trivial
  have hfS : Fence.wide.fn 50 := trivial
  have hfM : Fence.wide.fn 10 := trivial
  refine callsIn_of_wp Try.func33 rfl trivial ?_ rfl
  simp only [Try.ntmps33, List.size_toArray, List.length_cons, List.length_nil, Nat.reduceAdd, Nat.reduceSub, Array.replicate_succ, Array.replicate_zero, List.push_toArray, List.append_toArray, List.nil_append, List.cons_append]
  gi_wp2_with (first
    | (gi_at_call 10; refine hmd.mono ?_; rintro e w' ⟨rfl, hw⟩; obtain rfl := hw.symm)
    | (gi_at_call 51; refine (cK _ _).mono ?_; rintro e w' ⟨rfl, rfl⟩)
    | (gi_at_call 50; refine cS.mono ?_; rintro e w' ⟨v, ss, rfl, hS, hrow, hnil, hb⟩))
  go_ret
  rw [datS_keys] at hS
  have hlen := hS.length_eq
  rw [sortedS HR.out hS, hlen] at hrow
  exact ⟨v, rfl, own_base hrow (by simp), ((Below.refl _ w).alloc (Nat.le_refl _) _).trans (hb.mono (by simp))⟩

end Go.Proofs.Ytkfmfllniakhkaa
