/- The program's disk: Sync, Remove, Cut, Rename, Synced: walks. -/
import Derived.Test.YtkfmfllniakhkaaFilesW2
namespace Go.Proofs.Ytkfmfllniakhkaa
open Go.RowKit Go.Maps
set_option linter.unusedVariables false

theorem look {w : World} {bm k : Nat} {D : DataW Value} (hown : w.ownsMap Try.prog 9 hld bm k D) {s : ByteArray} (hs : s.size ≤ maxLen) {v : Option Addr}
    (hat : D.atKey (.string s.data.toList) (.held (.pointer none)) = .held (.pointer v)) : (Instr.lookup 39 (.map (some bm)) (.string s) false).run Try.prog w = .ok (.pointer v) w := by
  obtain ⟨v', ps, hrun, hv⟩ := hown.lookup lawS Try.underlying39 (zeroF w) (zd := .held (.pointer none)) (zp := []) rfl (WideMaps.keyOf_string_mk Try.underlying9 hs)
  rw [hat] at hv
  obtain rfl : v' = .pointer v := by simp [hld] at hv; exact hv.1
  exact hrun

section
variable (bd bm k : Nat) (room short fuse : Int) (D : DataW Value) (w : World) (s : ByteArray)

theorem sync_dead (hb : Hd w bd bm room short 0) : Calls Try.prog 15 #[.pointer (some ⟨bd, 0, none⟩), .string s] w fun e w' => e = .returned (.int .i64 62) ∧ w' = w := by
  have hch := Lib.hid (change_dead bd bm room short w hb)
  go_enter Try.func15, Try.ntmps15
  go_wp2_with (go_at_call 41; refine hch.out.mono ?_; rintro e w' ⟨rfl, rfl⟩)
  go_ret
  exact ⟨rfl, rfl⟩

theorem remove_dead (hb : Hd w bd bm room short 0) : Calls Try.prog 21 #[.pointer (some ⟨bd, 0, none⟩), .string s] w fun e w' => e = .returned (.int .i64 62) ∧ w' = w := by
  have hch := Lib.hid (change_dead bd bm room short w hb)
  go_enter Try.func21, Try.ntmps21
  go_wp2_with (go_at_call 41; refine hch.out.mono ?_; rintro e w' ⟨rfl, rfl⟩)
  go_ret
  exact ⟨rfl, rfl⟩

def NoFilePost (w : World) (bd bm : Nat) (room short fuse : Int) (e : Ending) (w' : World) : Prop :=
  e = .returned (.int .i64 60) ∧ Hd w' bd bm room short (burn fuse) ∧ Mods (· = bd) w w'

theorem sync_no (hb : Hd w bd bm room short fuse) (hown : w.ownsMap Try.prog 9 hld bm k D) (hs : s.size ≤ maxLen) (hat : D.atKey (.string s.data.toList) (.held (.pointer none)) = .held (.pointer none)) (hf : fuse ≠ 0) (hl : -1 ≤ fuse) (hh : fuse ≤ 9223372036854775807) :
    Calls Try.prog 15 #[.pointer (some ⟨bd, 0, none⟩), .string s] w (NoFilePost w bd bm room short fuse) := by
  have hch := Lib.hid (change_ok bd bm room short fuse w hb hf hl hh)
  have hne := map_ne hown hb
  have HAT := Lib.hid hat
  clear hat hf
  go_enter Try.func15, Try.ntmps15
  go_wp2_with (go_at_call 41; refine hch.out.mono ?_; rintro e w1 ⟨rfl, hb1, hm1, hz⟩; have HZ := Lib.hid hz; clear hz; have hl1 := look (map_mods hown hm1 hne) hs HAT.out; have c0 : w1.cell? ⟨bd, 0, none⟩ = some (.map (some bm)) := hb1.cell 0)
  go_ret
  exact ⟨rfl, hb1, hm1⟩

theorem remove_no (hb : Hd w bd bm room short fuse) (hown : w.ownsMap Try.prog 9 hld bm k D) (hs : s.size ≤ maxLen) (hat : D.atKey (.string s.data.toList) (.held (.pointer none)) = .held (.pointer none)) (hf : fuse ≠ 0) (hl : -1 ≤ fuse) (hh : fuse ≤ 9223372036854775807) :
    Calls Try.prog 21 #[.pointer (some ⟨bd, 0, none⟩), .string s] w (NoFilePost w bd bm room short fuse) := by
  have hch := Lib.hid (change_ok bd bm room short fuse w hb hf hl hh)
  have hne := map_ne hown hb
  have HAT := Lib.hid hat
  clear hat hf
  go_enter Try.func21, Try.ntmps21
  go_wp2_with (go_at_call 41; refine hch.out.mono ?_; rintro e w1 ⟨rfl, hb1, hm1, hz⟩; have HZ := Lib.hid hz; clear hz; have hl1 := look (map_mods hown hm1 hne) hs HAT.out; have c0 : w1.cell? ⟨bd, 0, none⟩ = some (.map (some bm)) := hb1.cell 0)
  go_ret
  exact ⟨rfl, hb1, hm1⟩

def SyncPost (w : World) (bd bm : Nat) (room short fuse : Int) (c : Nat) (A : Option Addr) (n cap : Nat) (e : Ending) (w' : World) : Prop :=
  e = .returned (.int .i64 0) ∧ Hd w' bd bm room short (burn fuse) ∧ Blk w' c 49 #[.slice A n cap, .int .i64 n] ∧ Mods (fun i => i = bd ∨ i = c) w w'

theorem sync_yes (c n cap : Nat) (A : Option Addr) (sy : Int) (hb : Hd w bd bm room short fuse) (hown : w.ownsMap Try.prog 9 hld bm k D) (hs : s.size ≤ maxLen) (hat : D.atKey (.string s.data.toList) (.held (.pointer none)) = .held (.pointer (some ⟨c, 0, none⟩)))
    (hf : fuse ≠ 0) (hl : -1 ≤ fuse) (hh : fuse ≤ 9223372036854775807) (hc : Blk w c 49 #[.slice A n cap, .int .i64 sy]) :
    Calls Try.prog 15 #[.pointer (some ⟨bd, 0, none⟩), .string s] w (SyncPost w bd bm room short fuse c A n cap) := by
  have hch := Lib.hid (change_ok bd bm room short fuse w hb hf hl hh)
  have hne := map_ne hown hb
  have hnc : c ≠ bd := Blk.ne_ hc hb (by decide)
  have HAT := Lib.hid hat
  clear hat hf
  go_enter Try.func15, Try.ntmps15
  go_wp2_with (go_at_call 41; refine hch.out.mono ?_; rintro e w1 ⟨rfl, hb1, hm1, hz⟩; have HZ := Lib.hid hz; clear hz; have hl1 := look (map_mods hown hm1 hne) hs HAT.out; have c0 : w1.cell? ⟨bd, 0, none⟩ = some (.map (some bm)) := hb1.cell 0; have hc1 := hc.mods hm1 hnc; have d0 : w1.cell? ⟨c, 0, none⟩ = some (.slice A n cap) := hc1.cell 0; have d1 : w1.cell? ⟨c, 1, none⟩ = some (.int .i64 sy) := hc1.cell 1; have f1 : w1.frozen? ⟨c, 1, none⟩ = false := hc1.frozen 1)
  go_ret
  exact ⟨rfl, hb1.far (p := ⟨c, 1, none⟩) (fun e => hnc e.symm) _, hc1.set_ 1 _, (hm1.mono fun i _ e => .inl e).setCell (p := ⟨c, 1, none⟩) (fun _ => .inr rfl) _⟩

def RemovePost (w : World) (bd bm k : Nat) (room short fuse : Int) (D : DataW Value) (nm : List UInt8) (e : Ending) (w' : World) : Prop :=
  e = .returned (.int .i64 0) ∧ Hd w' bd bm room short (burn fuse) ∧ w'.ownsMap Try.prog 9 hld bm k (D.del (.string nm)) ∧ Mods (fun i => i = bd ∨ i = bm) w w'

theorem mods_of_map {w w' : World} {b : Nat} (h : w.mapTurned w' b) : Mods (· = b) w w' := by
  obtain ⟨es, clock, es', clock', hb, rfl⟩ := h
  exact ⟨rfl, rfl, rfl, by simp [ChangeMaps.setBlock], fun k hk hne => ChangeMaps.heap_setBlock_other hb _ hne⟩

theorem remove_yes (a : Addr) (hb : Hd w bd bm room short fuse) (hown : w.ownsMap Try.prog 9 hld bm k D) (hs : s.size ≤ maxLen) (hat : D.atKey (.string s.data.toList) (.held (.pointer none)) = .held (.pointer (some a)))
    (hf : fuse ≠ 0) (hl : -1 ≤ fuse) (hh : fuse ≤ 9223372036854775807) :
    Calls Try.prog 21 #[.pointer (some ⟨bd, 0, none⟩), .string s] w (RemovePost w bd bm k room short fuse D s.data.toList) := by
  have hch := Lib.hid (change_ok bd bm room short fuse w hb hf hl hh)
  have hne := map_ne hown hb
  have hkey := Lib.hid (WideMaps.keyOf_string_mk (P := Try.prog) Try.underlying9 hs)
  have HAT := Lib.hid hat
  clear hat hf
  go_enter Try.func21, Try.ntmps21
  go_wp2_with (first
    | (go_at_call 41; refine hch.out.mono ?_; rintro e w1 ⟨rfl, hb1, hm1, hz⟩; have HZ := Lib.hid hz; clear hz; have hown1 := map_mods hown hm1 hne; have hl1 := look hown1 hs HAT.out; have c0 : w1.cell? ⟨bd, 0, none⟩ = some (.map (some bm)) := hb1.cell 0)
    | (at_delete; refine wpList_delete_own _ rfl _ _ 39 9 rfl 46 lawS Try.underlying39 hld bm k D rfl hown1 _ _ rfl hkey.out ?_; intro w2 hown2 hturn2))
  go_ret
  have hm2 := mods_of_map hturn2
  exact ⟨rfl, hb1.mods hm2 (fun e => hne e.symm), hown2, (hm1.mono fun i _ e => .inl e).trans hm2 (fun i _ e => .inr e)⟩

theorem synced_no (hb : Hd w bd bm room short fuse) (hown : w.ownsMap Try.prog 9 hld bm k D) (hs : s.size ≤ maxLen) (hat : D.atKey (.string s.data.toList) (.held (.pointer none)) = .held (.pointer none)) :
    Calls Try.prog 39 #[.pointer (some ⟨bd, 0, none⟩), .string s] w fun e w' => e = .returned (.int .i64 0) ∧ w' = w := by
  have hmd := Lib.hid (made_yes bd bm room short fuse w hb)
  have hl1 := look hown hs hat
  have c0 : w.cell? ⟨bd, 0, none⟩ = some (.map (some bm)) := hb.cell 0
  clear hat
  go_enter Try.func39, Try.ntmps39
  go_wp2_with (go_at_call 10; refine hmd.out.mono ?_; rintro e w' ⟨rfl, rfl⟩)
  go_ret
  exact ⟨rfl, rfl⟩

theorem synced_yes (c : Nat) (v : Value) (sy : Int) (hb : Hd w bd bm room short fuse) (hown : w.ownsMap Try.prog 9 hld bm k D) (hs : s.size ≤ maxLen) (hat : D.atKey (.string s.data.toList) (.held (.pointer none)) = .held (.pointer (some ⟨c, 0, none⟩)))
    (hc : Blk w c 49 #[v, .int .i64 sy]) :
    Calls Try.prog 39 #[.pointer (some ⟨bd, 0, none⟩), .string s] w fun e w' => e = .returned (.int .i64 sy) ∧ w' = w := by
  have hmd := Lib.hid (made_yes bd bm room short fuse w hb)
  have hl1 := look hown hs hat
  have c0 : w.cell? ⟨bd, 0, none⟩ = some (.map (some bm)) := hb.cell 0
  have d1 : w.cell? ⟨c, 1, none⟩ = some (.int .i64 sy) := hc.cell 1
  clear hat
  go_enter Try.func39, Try.ntmps39
  go_wp2_with (go_at_call 10; refine hmd.out.mono ?_; rintro e w' ⟨rfl, rfl⟩)
  go_ret
  exact ⟨rfl, rfl⟩
end

end Go.Proofs.Ytkfmfllniakhkaa
