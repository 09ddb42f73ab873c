/- The program's net: its walks, function by function, in primitive words. -/
import Derived.Test.YtfhilhfdgcdpfaaMods
import Derived.Test.YtfhilhfdgcdpfaaShelf
import Derived.Test.YtfhilhfdgcdpfaaIter
import Derived.Deep.RegionHeld3
import Derived.Deep.RegionWith
import Derived.Deep.QuietTactic
import Derived.BigQuiet
import Derived.StillTailTactics
import Derived.Deep.DeepFit
import Derived.Maps.OwnOps
import Derived.WalkSpells
namespace Go.Proofs.Ytfhilhfdgcdpfaa
open Go.RowKit Go.Maps
set_option linter.unusedVariables false

theorem lawI : Keyed Try.prog 3 := int_keyed Try.underlying3
theorem zeroC (w : World) : (zeroValue 50).run Try.prog w = .ok (.pointer none) w := by kernel_rfl
theorem info_u8 : (Try.prog.info? 5).map (fun i => (i.zero, i.size, i.bytes)) = some (some (.int .u8 0), 1, 1) := by kernel_rfl

theorem of_any (id : Int) (bn bm k : Nat) (v : Option Addr) (D : DataW Value) (w : World) (c0 : w.cell? ⟨bn, 0, none⟩ = some (.map (some bm))) (hown : w.ownsMap Try.prog 3 hld bm k D)
    (hid : (Lit.int .i64 id).wf = true) (hat : D.atKey (.int .i64 id) (.held (.pointer none)) = .held (.pointer v)) :
    Calls Try.prog 19 #[.pointer (some ⟨bn, 0, none⟩), .int .i64 id] w fun e w' => e = .returned (.tuple #[.pointer v, .int .i64 (if v.isNone then 150 else 0)]) ∧ w' = w := by
  obtain ⟨v', ps, hrun, hv⟩ := hown.lookup lawI Try.underlying47 (zeroC w) (zd := .held (.pointer none)) (zp := []) rfl (keyOf_int_mk Try.underlying3 hid)
  rw [hat] at hv
  obtain rfl : v' = .pointer v := by simp [hld] at hv; exact hv.1
  have hmn := run_eql_map_nil (P := Try.prog) w 47 3 50 (some bm) Try.underlying47
  cases v with
  | none =>
    go_enter Try.func19, Try.ntmps19
    go_wp2
    go_ret2
    exact ⟨rfl, rfl⟩
  | some a =>
    go_enter Try.func19, Try.ntmps19
    go_wp2
    go_ret2
    exact ⟨rfl, rfl⟩

theorem new_any (w : World) : Calls Try.prog 4 #[] w fun e w' => e = .returned (.pointer (some ⟨w.heap.size + 1, 0, none⟩)) ∧ w' = (w.alloc (.map #[] 0)).alloc (.cells #[.map (some w.heap.size), .int .i64 0] 49 (0, 0)) := by
  have hmm := @run_makeMap Try.prog
  go_enter Try.func4, Try.ntmps4
  go_wp2
  go_ret
  exact ⟨rfl, rfl⟩

theorem addr_yes (id ad : Int) (bn bm k c : Nat) (D : DataW Value) (w : World) (c0 : w.cell? ⟨bn, 0, none⟩ = some (.map (some bm))) (hown : w.ownsMap Try.prog 3 hld bm k D)
    (hid : (Lit.int .i64 id).wf = true) (hat : D.atKey (.int .i64 id) (.held (.pointer none)) = .held (.pointer (some ⟨c, 0, none⟩))) (c1 : w.cell? ⟨c, 0, none⟩ = some (.int .i64 ad)) :
    Calls Try.prog 14 #[.pointer (some ⟨bn, 0, none⟩), .int .i64 id] w fun e w' => e = .returned (.tuple #[.int .i64 ad, .bool true]) ∧ w' = w := by
  have hof := Lib.hid (of_any id bn bm k (some ⟨c, 0, none⟩) D w c0 hown hid hat)
  clear hat
  go_enter Try.func14, Try.ntmps14
  go_wp2_with (go_at_call 19; refine hof.out.mono ?_; rintro e w' ⟨rfl, rfl⟩)
  go_ret2
  exact ⟨rfl, rfl⟩

theorem addr_no (id : Int) (bn bm k : Nat) (D : DataW Value) (w : World) (c0 : w.cell? ⟨bn, 0, none⟩ = some (.map (some bm))) (hown : w.ownsMap Try.prog 3 hld bm k D)
    (hid : (Lit.int .i64 id).wf = true) (hat : D.atKey (.int .i64 id) (.held (.pointer none)) = .held (.pointer none)) :
    Calls Try.prog 14 #[.pointer (some ⟨bn, 0, none⟩), .int .i64 id] w fun e w' => e = .returned (.tuple #[.int .i64 0, .bool false]) ∧ w' = w := by
  have hof := Lib.hid (of_any id bn bm k none D w c0 hown hid hat)
  clear hat
  go_enter Try.func14, Try.ntmps14
  go_wp2_with (go_at_call 19; refine hof.out.mono ?_; rintro e w' ⟨rfl, rfl⟩)
  go_ret2
  exact ⟨rfl, rfl⟩

theorem drop_no (id : Int) (bn bm k : Nat) (D : DataW Value) (w : World) (c0 : w.cell? ⟨bn, 0, none⟩ = some (.map (some bm))) (hown : w.ownsMap Try.prog 3 hld bm k D)
    (hid : (Lit.int .i64 id).wf = true) (hat : D.atKey (.int .i64 id) (.held (.pointer none)) = .held (.pointer none)) :
    Calls Try.prog 12 #[.pointer (some ⟨bn, 0, none⟩), .int .i64 id] w fun e w' => e = .returned (.int .i64 150) ∧ w' = w := by
  have hof := Lib.hid (of_any id bn bm k none D w c0 hown hid hat)
  clear hat
  go_enter Try.func12, Try.ntmps12
  go_wp2_with (go_at_call 19; refine hof.out.mono ?_; rintro e w' ⟨rfl, rfl⟩)
  go_ret
  exact ⟨rfl, rfl⟩

theorem write_no (id : Int) (bn bm k m mc : Nat) (M : Option Addr) (D : DataW Value) (w : World) (c0 : w.cell? ⟨bn, 0, none⟩ = some (.map (some bm))) (hown : w.ownsMap Try.prog 3 hld bm k D)
    (hid : (Lit.int .i64 id).wf = true) (hat : D.atKey (.int .i64 id) (.held (.pointer none)) = .held (.pointer none)) :
    Calls Try.prog 7 #[.pointer (some ⟨bn, 0, none⟩), .int .i64 id, .slice M m mc] w fun e w' => e = .returned (.int .i64 150) ∧ w' = w := by
  have hof := Lib.hid (of_any id bn bm k none D w c0 hown hid hat)
  clear hat
  go_enter Try.func7, Try.ntmps7
  go_wp2_with (go_at_call 19; refine hof.out.mono ?_; rintro e w' ⟨rfl, rfl⟩)
  go_ret
  exact ⟨rfl, rfl⟩

theorem take_no (id : Int) (bn bm k : Nat) (D : DataW Value) (w : World) (c0 : w.cell? ⟨bn, 0, none⟩ = some (.map (some bm))) (hown : w.ownsMap Try.prog 3 hld bm k D)
    (hid : (Lit.int .i64 id).wf = true) (hat : D.atKey (.int .i64 id) (.held (.pointer none)) = .held (.pointer none)) :
    Calls Try.prog 9 #[.pointer (some ⟨bn, 0, none⟩), .int .i64 id] w fun e w' => e = .returned (.tuple #[.slice none 0 0, .int .i64 150]) ∧ w' = w := by
  have hof := Lib.hid (of_any id bn bm k none D w c0 hown hid hat)
  clear hat
  go_enter Try.func9, Try.ntmps9
  go_wp2_with (go_at_call 19; refine hof.out.mono ?_; rintro e w' ⟨rfl, rfl⟩)
  go_ret2
  exact ⟨rfl, rfl⟩

theorem drop_yes (id : Int) (bn bm k : Nat) (a : Addr) (D : DataW Value) (w : World) (c0 : w.cell? ⟨bn, 0, none⟩ = some (.map (some bm))) (hown : w.ownsMap Try.prog 3 hld bm k D)
    (hid : (Lit.int .i64 id).wf = true) (hat : D.atKey (.int .i64 id) (.held (.pointer none)) = .held (.pointer (some a))) :
    Calls Try.prog 12 #[.pointer (some ⟨bn, 0, none⟩), .int .i64 id] w fun e w' => e = .returned (.int .i64 0) ∧ w'.ownsMap Try.prog 3 hld bm k (D.del (.int .i64 id)) ∧ w.mapTurned w' bm := by
  have hof := Lib.hid (of_any id bn bm k (some a) D w c0 hown hid hat)
  clear hat
  have hkey := keyOf_int_mk Try.underlying3 hid
  go_enter Try.func12, Try.ntmps12
  go_wp2_with (first
    | (go_at_call 19; refine hof.out.mono ?_; rintro e w' ⟨rfl, rfl⟩)
    | (at_delete; refine wpList_delete_own _ rfl _ _ 47 3 rfl 50 lawI Try.underlying47 hld bm k D rfl hown _ _ rfl hkey ?_; intro w1 hown1 hturn1))
  go_ret
  exact ⟨rfl, hown1, hturn1⟩

end Go.Proofs.Ytfhilhfdgcdpfaa
