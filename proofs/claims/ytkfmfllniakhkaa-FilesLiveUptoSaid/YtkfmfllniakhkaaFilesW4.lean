/- The program's disk: Cut, Rename: walks. -/
import Derived.Test.YtkfmfllniakhkaaFilesW3
namespace Go.Proofs.Ytkfmfllniakhkaa
open Go.RowKit Go.Maps
set_option linter.unusedVariables false

section
variable (bd bm k : Nat) (room short fuse : Int) (D : DataW Value) (w : World) (s : ByteArray)

theorem cut_neg (n : Int) (v : Option Addr) (hb : Hd w bd bm room short fuse) (hown : w.ownsMap Try.prog 9 hld bm k D) (hs : s.size ≤ maxLen) (hat : D.atKey (.string s.data.toList) (.held (.pointer none)) = .held (.pointer v)) (hn : n < 0) :
    Calls Try.prog 17 #[.pointer (some ⟨bd, 0, none⟩), .string s, .int .i64 n] w fun e w' => e = .returned (.int .i64 1) ∧ w' = w := by
  have hmd := Lib.hid (made_yes bd bm room short fuse w hb)
  have hch := Lib.hid (change_bad bd bm room short fuse w hb)
  have hl1 := look hown hs hat
  have c0 : w.cell? ⟨bd, 0, none⟩ = some (.map (some bm)) := hb.cell 0
  have hn' : decide (0 ≤ n) = false := by simpa using hn
  clear hat
  go_enter Try.func17, Try.ntmps17
  go_wp2_with (first
    | (go_at_call 10; refine hmd.out.mono ?_; rintro e w' ⟨rfl, rfl⟩)
    | (go_at_call 41; refine hch.out.mono ?_; rintro e w' ⟨rfl, rfl⟩))
  all_goals go_ret
  all_goals exact ⟨rfl, rfl⟩

theorem cut_long (n : Int) (c m cap : Nat) (A : Option Addr) (x : Value) (hb : Hd w bd bm room short fuse) (hown : w.ownsMap Try.prog 9 hld bm k D) (hs : s.size ≤ maxLen) (hat : D.atKey (.string s.data.toList) (.held (.pointer none)) = .held (.pointer (some ⟨c, 0, none⟩)))
    (hc : Blk w c 49 #[.slice A m cap, x]) (hn : (m : Int) < n) :
    Calls Try.prog 17 #[.pointer (some ⟨bd, 0, none⟩), .string s, .int .i64 n] w fun e w' => e = .returned (.int .i64 1) ∧ w' = w := by
  have hmd := Lib.hid (made_yes bd bm room short fuse w hb)
  have hch := Lib.hid (change_bad bd bm room short fuse w hb)
  have hl1 := look hown hs hat
  have c0 : w.cell? ⟨bd, 0, none⟩ = some (.map (some bm)) := hb.cell 0
  have d0 : w.cell? ⟨c, 0, none⟩ = some (.slice A m cap) := hc.cell 0
  have hn0 : 0 ≤ n := by omega
  have hn' : decide (n ≤ (m : Int)) = false := by simpa using hn
  clear hat
  go_enter Try.func17, Try.ntmps17
  go_wp2_with (first
    | (go_at_call 10; refine hmd.out.mono ?_; rintro e w' ⟨rfl, rfl⟩)
    | (go_at_call 41; refine hch.out.mono ?_; rintro e w' ⟨rfl, rfl⟩))
  all_goals go_ret
  all_goals exact ⟨rfl, rfl⟩

theorem cut_dead (n : Nat) (c m cap : Nat) (A : Option Addr) (x : Value) (hb : Hd w bd bm room short 0) (hown : w.ownsMap Try.prog 9 hld bm k D) (hs : s.size ≤ maxLen) (hat : D.atKey (.string s.data.toList) (.held (.pointer none)) = .held (.pointer (some ⟨c, 0, none⟩)))
    (hc : Blk w c 49 #[.slice A m cap, x]) (hn : n ≤ m) :
    Calls Try.prog 17 #[.pointer (some ⟨bd, 0, none⟩), .string s, .int .i64 (n : Int)] w fun e w' => e = .returned (.int .i64 62) ∧ w' = w := by
  have hmd := Lib.hid (made_yes bd bm room short 0 w hb)
  have hch := Lib.hid (change_dead bd bm room short w hb)
  have hl1 := look hown hs hat
  have c0 : w.cell? ⟨bd, 0, none⟩ = some (.map (some bm)) := hb.cell 0
  have d0 : w.cell? ⟨c, 0, none⟩ = some (.slice A m cap) := hc.cell 0
  have hn' : (n : Int) ≤ (m : Int) := by omega
  clear hat
  go_enter Try.func17, Try.ntmps17
  go_wp2_with (first
    | (go_at_call 10; refine hmd.out.mono ?_; rintro e w' ⟨rfl, rfl⟩)
    | (go_at_call 41; refine hch.out.mono ?_; rintro e w' ⟨rfl, rfl⟩))
  all_goals go_ret
  all_goals exact ⟨rfl, rfl⟩

theorem cut_dead_no (n : Nat) (hb : Hd w bd bm room short 0) (hown : w.ownsMap Try.prog 9 hld bm k D) (hs : s.size ≤ maxLen) (hat : D.atKey (.string s.data.toList) (.held (.pointer none)) = .held (.pointer none)) :
    Calls Try.prog 17 #[.pointer (some ⟨bd, 0, none⟩), .string s, .int .i64 (n : Int)] w fun e w' => e = .returned (.int .i64 62) ∧ w' = w := by
  have hmd := Lib.hid (made_yes bd bm room short 0 w hb)
  have hch := Lib.hid (change_dead bd bm room short w hb)
  have hl1 := look hown hs hat
  have c0 : w.cell? ⟨bd, 0, none⟩ = some (.map (some bm)) := hb.cell 0
  clear hat
  go_enter Try.func17, Try.ntmps17
  go_wp2_with (first
    | (go_at_call 10; refine hmd.out.mono ?_; rintro e w' ⟨rfl, rfl⟩)
    | (go_at_call 41; refine hch.out.mono ?_; rintro e w' ⟨rfl, rfl⟩))
  all_goals go_ret
  all_goals exact ⟨rfl, rfl⟩

theorem cut_no (n : Nat) (hb : Hd w bd bm room short fuse) (hown : w.ownsMap Try.prog 9 hld bm k D) (hs : s.size ≤ maxLen) (hat : D.atKey (.string s.data.toList) (.held (.pointer none)) = .held (.pointer none)) (hf : fuse ≠ 0) (hl : -1 ≤ fuse) (hh : fuse ≤ 9223372036854775807) :
    Calls Try.prog 17 #[.pointer (some ⟨bd, 0, none⟩), .string s, .int .i64 (n : Int)] w (NoFilePost w bd bm room short fuse) := by
  have hmd := Lib.hid (made_yes bd bm room short fuse w hb)
  have hch := Lib.hid (change_ok bd bm room short fuse w hb hf hl hh)
  have hl1 := look hown hs hat
  have c0 : w.cell? ⟨bd, 0, none⟩ = some (.map (some bm)) := hb.cell 0
  clear hat hf
  go_enter Try.func17, Try.ntmps17
  go_wp2_with (first
    | (go_at_call 10; refine hmd.out.mono ?_; rintro e w' ⟨rfl, rfl⟩)
    | (go_at_call 41; refine hch.out.mono ?_; rintro e w1 ⟨rfl, hb1, hm1, hz⟩; have HZ := Lib.hid hz; clear hz))
  all_goals go_ret
  all_goals exact ⟨rfl, hb1, hm1⟩

def CutPost (w : World) (bd bm : Nat) (room short fuse : Int) (c : Nat) (A : Option Addr) (n : Nat) (sy : Int) (e : Ending) (w' : World) : Prop :=
  e = .returned (.int .i64 0) ∧ Hd w' bd bm room short (burn fuse) ∧ Blk w' c 49 #[.slice A n n, .int .i64 (min sy (n : Int))] ∧ Mods (fun i => i = bd ∨ i = c) w w'

theorem cut_yes (n : Nat) (c m cap : Nat) (A : Option Addr) (sy : Int) (hb : Hd w bd bm room short fuse) (hown : w.ownsMap Try.prog 9 hld bm k D) (hs : s.size ≤ maxLen) (hat : D.atKey (.string s.data.toList) (.held (.pointer none)) = .held (.pointer (some ⟨c, 0, none⟩)))
    (hf : fuse ≠ 0) (hl : -1 ≤ fuse) (hh : fuse ≤ 9223372036854775807) (hc : Blk w c 49 #[.slice A m cap, .int .i64 sy]) (hn : n ≤ m) (hmc : m ≤ cap) (hcm : cap ≤ 9223372036854775807) (hA : A = none → cap = 0) :
    Calls Try.prog 17 #[.pointer (some ⟨bd, 0, none⟩), .string s, .int .i64 (n : Int)] w (CutPost w bd bm room short fuse c A n sy) := by
  have hmd := Lib.hid (made_yes bd bm room short fuse w hb)
  have hch := Lib.hid (change_ok bd bm room short fuse w hb hf hl hh)
  have hl1 := look hown hs hat
  have hnc : c ≠ bd := Blk.ne_ hc hb (by decide)
  have c0 : w.cell? ⟨bd, 0, none⟩ = some (.map (some bm)) := hb.cell 0
  have d0 : w.cell? ⟨c, 0, none⟩ = some (.slice A m cap) := hc.cell 0
  have hn' : (n : Int) ≤ (m : Int) := by omega
  have hnc' : n ≤ cap := by omega
  clear hat hf
  go_enter Try.func17, Try.ntmps17
  go_wp2_with (first
    | (go_at_call 10; refine hmd.out.mono ?_; rintro e w' ⟨rfl, rfl⟩)
    | (go_at_call 41; refine hch.out.mono ?_; rintro e w1 ⟨rfl, hb1, hm1, hz⟩; have HZ := Lib.hid hz; clear hz; have hc1 := hc.mods hm1 hnc; have d0' : w1.cell? ⟨c, 0, none⟩ = some (.slice A m cap) := hc1.cell 0; have d1' : w1.cell? ⟨c, 1, none⟩ = some (.int .i64 sy) := hc1.cell 1; have f0' : w1.frozen? ⟨c, 0, none⟩ = false := hc1.frozen 0; have f1' : w1.frozen? ⟨c, 1, none⟩ = false := hc1.frozen 1))
  go_ret
  exact ⟨rfl, (hb1.far (p := ⟨c, 0, none⟩) (fun e => hnc e.symm) _).far (p := ⟨c, 1, none⟩) (fun e => hnc e.symm) _, (hc1.set_ 0 _).set_ 1 _, ((hm1.mono fun i _ e => .inl e).setCell (p := ⟨c, 0, none⟩) (fun _ => .inr rfl) _).setCell (p := ⟨c, 1, none⟩) (fun _ => .inr rfl) _⟩

variable (to : ByteArray)
def SamePost (w : World) (r : Int) (e : Ending) (w' : World) : Prop := e = .returned (.int .i64 r) ∧ Below w.heap.size w w'

theorem rename_bad (hb : Hd w bd bm room short fuse) (ht : to.size ≤ maxLen) (hn : nameOk to.data.toList = false) :
    Calls Try.prog 19 #[.pointer (some ⟨bd, 0, none⟩), .string s, .string to] w (SamePost w 1) := by
  have hi := isName_any to w ht
  rw [hn] at hi
  have HI := Lib.hid hi
  clear hi hn
  go_enter Try.func19, Try.ntmps19
  go_wp2_with (first
    | (go_at_call 42; refine HI.out.mono ?_; rintro e w1 ⟨rfl, hb1⟩)
    | (go_at_call 41; refine (change_bad bd bm room short fuse _ (hb.below hb1 hb.lt)).mono ?_; rintro e w' ⟨rfl, rfl⟩))
  go_ret
  exact ⟨rfl, hb1⟩

theorem rename_dead (hb : Hd w bd bm room short 0) (ht : to.size ≤ maxLen) (hn : nameOk to.data.toList = true) :
    Calls Try.prog 19 #[.pointer (some ⟨bd, 0, none⟩), .string s, .string to] w (SamePost w 62) := by
  have hi := isName_any to w ht
  rw [hn] at hi
  have HI := Lib.hid hi
  clear hi hn
  go_enter Try.func19, Try.ntmps19
  go_wp2_with (first
    | (go_at_call 42; refine HI.out.mono ?_; rintro e w1 ⟨rfl, hb1⟩)
    | (go_at_call 41; refine (change_dead bd bm room short _ (hb.below hb1 hb.lt)).mono ?_; rintro e w' ⟨rfl, rfl⟩))
  go_ret
  exact ⟨rfl, hb1⟩

theorem rename_no (hb : Hd w bd bm room short fuse) (hown : w.ownsMap Try.prog 9 hld bm k D) (hs : s.size ≤ maxLen) (ht : to.size ≤ maxLen) (hn : nameOk to.data.toList = true) (hat : D.atKey (.string s.data.toList) (.held (.pointer none)) = .held (.pointer none)) (hf : fuse ≠ 0) (hl : -1 ≤ fuse) (hh : fuse ≤ 9223372036854775807) :
    Calls Try.prog 19 #[.pointer (some ⟨bd, 0, none⟩), .string s, .string to] w (NoFilePost w bd bm room short fuse) := by
  have hi := isName_any to w ht
  rw [hn] at hi
  have HI := Lib.hid hi
  have hne := map_ne hown hb
  have hbl := hb.lt
  have hml := hown.lt
  have HAT := Lib.hid hat
  have HF := Lib.hid hf
  clear hi hn hat hf
  go_enter Try.func19, Try.ntmps19
  go_wp2_with (first
    | (go_at_call 42; refine HI.out.mono ?_; rintro e w1 ⟨rfl, hb1⟩; have hd1 := hb.below hb1 hbl; have ho1 := map_mods hown (Mods.below (Mods.refl (fun _ => False) w) hb1) (fun h => h))
    | (go_at_call 41; refine (change_ok bd bm room short fuse _ hd1 HF.out hl hh).mono ?_; rintro e w2 ⟨rfl, hb2, hm2, hz⟩; have HZ := Lib.hid hz; clear hz; have hl1 := look (map_mods ho1 hm2 hne) hs HAT.out; have c0 : w2.cell? ⟨bd, 0, none⟩ = some (.map (some bm)) := hb2.cell 0))
  go_ret
  exact ⟨rfl, hb2, (Mods.below (Mods.refl _ w) hb1).trans hm2 (fun i _ e => e)⟩

def RenamePost (w : World) (bd bm k : Nat) (room short fuse : Int) (D : DataW Value) (from_ to : List UInt8) (a : Addr) (e : Ending) (w' : World) : Prop :=
  e = .returned (.int .i64 0) ∧ Hd w' bd bm room short (burn fuse) ∧ w'.ownsMap Try.prog 9 hld bm (k + 1) ((D.del (.string from_)).put (.string to) (.held (.pointer (some a)))) ∧ Mods (fun i => i = bd ∨ i = bm) w w'

theorem rename_yes (a : Addr) (hb : Hd w bd bm room short fuse) (hown : w.ownsMap Try.prog 9 hld bm k D) (hkk : k < maxLen) (hs : s.size ≤ maxLen) (ht : to.size ≤ maxLen) (hn : nameOk to.data.toList = true) (hat : D.atKey (.string s.data.toList) (.held (.pointer none)) = .held (.pointer (some a)))
    (hf : fuse ≠ 0) (hl : -1 ≤ fuse) (hh : fuse ≤ 9223372036854775807) :
    Calls Try.prog 19 #[.pointer (some ⟨bd, 0, none⟩), .string s, .string to] w (RenamePost w bd bm k room short fuse D s.data.toList to.data.toList a) := by
  have hi := isName_any to w ht
  rw [hn] at hi
  have HI := Lib.hid hi
  have hne := map_ne hown hb
  have hbl := hb.lt
  have hml := hown.lt
  have HAT := Lib.hid hat
  have HF := Lib.hid hf
  have hkey := Lib.hid (WideMaps.keyOf_string_mk (P := Try.prog) Try.underlying9 hs)
  have hkeyt := Lib.hid (WideMaps.keyOf_string_mk (P := Try.prog) Try.underlying9 ht)
  clear hi hn hat hf
  go_enter Try.func19, Try.ntmps19
  go_wp2_with (first
    | (go_at_call 42; refine HI.out.mono ?_; rintro e w1 ⟨rfl, hb1⟩; have hd1 := hb.below hb1 hbl; have ho1 := map_mods hown (Mods.below (Mods.refl (fun _ => False) w) hb1) (fun h => h))
    | (go_at_call 41; refine (change_ok bd bm room short fuse _ hd1 HF.out hl hh).mono ?_; rintro e w2 ⟨rfl, hb2, hm2, hz⟩; have HZ := Lib.hid hz; clear hz; have ho2 := map_mods ho1 hm2 hne; have hl1 := look ho2 hs HAT.out; have c0 : w2.cell? ⟨bd, 0, none⟩ = some (.map (some bm)) := hb2.cell 0)
    | (at_delete; refine wpList_delete_own _ rfl _ _ 39 9 rfl 46 lawS Try.underlying39 hld bm k D rfl ho2 _ _ rfl hkey.out ?_; intro w3 ho3 ht3; have hm3 := mods_of_map ht3; have hb3 := hb2.mods hm3 (fun e => hne e.symm); have c3 : w3.cell? ⟨bd, 0, none⟩ = some (.map (some bm)) := hb3.cell 0)
    | (at_mapUpdate; refine wpList_mapUpdate_in _ rfl _ _ _ 39 rfl 9 46 lawS Try.underlying39 hld bm k _ rfl ho3 hkk _ _ _ rfl rfl hkeyt.out _ [] rfl ?_; intro w4 ho4 ht4))
  go_ret
  have hm4 := mods_of_map ht4
  exact ⟨rfl, hb3.mods hm4 (fun e => hne e.symm), ho4, ((((Mods.below (Mods.refl _ w) hb1).trans hm2 (fun i _ e => e)).mono fun i _ e => .inl e).trans hm3 (fun i _ e => .inr e)).trans hm4 (fun i _ e => .inr e)⟩
end

end Go.Proofs.Ytkfmfllniakhkaa
