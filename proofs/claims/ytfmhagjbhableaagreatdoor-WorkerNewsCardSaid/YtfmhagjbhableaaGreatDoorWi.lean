/-
  The walk of WorkerNews, a part.
-/
import Derived.Test.YtfmhagjbhableaaGreatDoorChecked
import Derived.Test.YtfmhagjbhableaaGreatDoorRows
import Derived.ProofKit
import Derived.LaidMore
import Derived.Lay
set_option linter.unusedVariables false
set_option maxRecDepth 100000
namespace Go.Proofs.YtfmhagjbhableaaGreatDoor
open Go
/-! A world in which the listed variables are laid: what the kit's function lays, written out. -/
def row2 : List Value := [.int .u64 1, .int .u64 10, .int .u64 100, .int .u64 1000, .int .u64 10000, .int .u64 100000, .int .u64 1000000, .int .u64 10000000, .int .u64 100000000, .int .u64 1000000000, .int .u64 10000000000, .int .u64 100000000000, .int .u64 1000000000000, .int .u64 10000000000000, .int .u64 100000000000000, .int .u64 1000000000000000, .int .u64 10000000000000000, .int .u64 100000000000000000, .int .u64 1000000000000000000, .int .u64 10000000000000000000]
def row4 : List Value := [.int .u8 0, .int .u8 1, .int .u8 28, .int .u8 2, .int .u8 29, .int .u8 14, .int .u8 24, .int .u8 3, .int .u8 30, .int .u8 22, .int .u8 20, .int .u8 15, .int .u8 25, .int .u8 17, .int .u8 4, .int .u8 8, .int .u8 31, .int .u8 27, .int .u8 13, .int .u8 23, .int .u8 21, .int .u8 19, .int .u8 16, .int .u8 7, .int .u8 26, .int .u8 12, .int .u8 18, .int .u8 6, .int .u8 11, .int .u8 5, .int .u8 10, .int .u8 9]
def row5 : List Value := [.int .u8 0, .int .u8 1, .int .u8 56, .int .u8 2, .int .u8 57, .int .u8 49, .int .u8 28, .int .u8 3, .int .u8 61, .int .u8 58, .int .u8 42, .int .u8 50, .int .u8 38, .int .u8 29, .int .u8 17, .int .u8 4, .int .u8 62, .int .u8 47, .int .u8 59, .int .u8 36, .int .u8 45, .int .u8 43, .int .u8 51, .int .u8 22, .int .u8 53, .int .u8 39, .int .u8 33, .int .u8 30, .int .u8 24, .int .u8 18, .int .u8 12, .int .u8 5, .int .u8 63, .int .u8 55, .int .u8 48, .int .u8 27, .int .u8 60, .int .u8 41, .int .u8 37, .int .u8 16, .int .u8 46, .int .u8 35, .int .u8 44, .int .u8 21, .int .u8 52, .int .u8 32, .int .u8 23, .int .u8 11, .int .u8 54, .int .u8 26, .int .u8 40, .int .u8 15, .int .u8 34, .int .u8 20, .int .u8 31, .int .u8 10, .int .u8 25, .int .u8 14, .int .u8 19, .int .u8 9, .int .u8 13, .int .u8 8, .int .u8 7, .int .u8 6]
def row7 : List Value := [.iface 702 (.pointer (some ⟨16, 0, none⟩))]
def row8 : List Value := [.iface 702 (.pointer (some ⟨17, 0, none⟩))]
def row3 : List Value := [.string ⟨#[]⟩, .bool false, .bool false, .bool false, .int .i64 0, .int .i64 0, .string ⟨#[110, 117, 108, 108]⟩, .bool false, .bool false, .bool false, .int .i64 0, .int .i64 1, .string ⟨#[98, 111, 111, 108]⟩, .bool true, .bool false, .bool false, .int .i64 0, .int .i64 1, .string ⟨#[105, 110, 116]⟩, .bool true, .bool false, .bool false, .int .i64 0, .int .i64 1, .string ⟨#[115, 116, 114]⟩, .bool false, .bool true, .bool false, .int .i64 0, .int .i64 1, .string ⟨#[108, 111, 97, 100]⟩, .bool true, .bool false, .bool false, .int .i64 0, .int .i64 1, .string ⟨#[115, 116, 111, 114, 101]⟩, .bool true, .bool false, .bool false, .int .i64 1, .int .i64 0, .string ⟨#[112, 111, 112]⟩, .bool false, .bool false, .bool false, .int .i64 1, .int .i64 0, .string ⟨#[117, 110, 97, 114, 121]⟩, .bool false, .bool true, .bool false, .int .i64 1, .int .i64 1, .string ⟨#[98, 105, 110, 97, 114, 121]⟩, .bool false, .bool true, .bool false, .int .i64 2, .int .i64 1, .string ⟨#[105, 110, 100, 101, 120]⟩, .bool false, .bool false, .bool false, .int .i64 2, .int .i64 1, .string ⟨#[108, 105, 115, 116]⟩, .bool true, .bool false, .bool false, .int .i64 (-1), .int .i64 1, .string ⟨#[109, 97, 112]⟩, .bool true, .bool false, .bool true, .int .i64 (-1), .int .i64 1, .string ⟨#[106, 117, 109, 112]⟩, .bool true, .bool false, .bool false, .int .i64 0, .int .i64 0, .string ⟨#[102, 97, 108, 115, 101]⟩, .bool true, .bool false, .bool false, .int .i64 1, .int .i64 0, .string ⟨#[116, 101, 115, 116]⟩, .bool false, .bool false, .bool false, .int .i64 1, .int .i64 1, .string ⟨#[100, 117, 112]⟩, .bool false, .bool false, .bool false, .int .i64 1, .int .i64 2, .string ⟨#[99, 97, 108, 108]⟩, .bool true, .bool false, .bool false, .int .i64 (-1), .int .i64 1, .string ⟨#[98, 117, 105, 108, 116]⟩, .bool true, .bool true, .bool false, .int .i64 (-1), .int .i64 1, .string ⟨#[104, 111, 115, 116]⟩, .bool true, .bool true, .bool false, .int .i64 (-1), .int .i64 1, .string ⟨#[114, 101, 116, 117, 114, 110]⟩, .bool false, .bool false, .bool false, .int .i64 1, .int .i64 0]
def row9 : List Value := [.int .u8 240, .int .u8 240, .int .u8 240, .int .u8 240, .int .u8 240, .int .u8 240, .int .u8 240, .int .u8 240, .int .u8 240, .int .u8 240, .int .u8 240, .int .u8 240, .int .u8 240, .int .u8 240, .int .u8 240, .int .u8 240, .int .u8 240, .int .u8 240, .int .u8 240, .int .u8 240, .int .u8 240, .int .u8 240, .int .u8 240, .int .u8 240, .int .u8 240, .int .u8 240, .int .u8 240, .int .u8 240, .int .u8 240, .int .u8 240, .int .u8 240, .int .u8 240, .int .u8 240, .int .u8 240, .int .u8 240, .int .u8 240, .int .u8 240, .int .u8 240, .int .u8 240, .int .u8 240, .int .u8 240, .int .u8 240, .int .u8 240, .int .u8 240, .int .u8 240, .int .u8 240, .int .u8 240, .int .u8 240, .int .u8 240, .int .u8 240, .int .u8 240, .int .u8 240, .int .u8 240, .int .u8 240, .int .u8 240, .int .u8 240, .int .u8 240, .int .u8 240, .int .u8 240, .int .u8 240, .int .u8 240, .int .u8 240, .int .u8 240, .int .u8 240, .int .u8 240, .int .u8 240, .int .u8 240, .int .u8 240, .int .u8 240, .int .u8 240, .int .u8 240, .int .u8 240, .int .u8 240, .int .u8 240, .int .u8 240, .int .u8 240, .int .u8 240, .int .u8 240, .int .u8 240, .int .u8 240, .int .u8 240, .int .u8 240, .int .u8 240, .int .u8 240, .int .u8 240, .int .u8 240, .int .u8 240, .int .u8 240, .int .u8 240, .int .u8 240, .int .u8 240, .int .u8 240, .int .u8 240, .int .u8 240, .int .u8 240, .int .u8 240, .int .u8 240, .int .u8 240, .int .u8 240, .int .u8 240, .int .u8 240, .int .u8 240, .int .u8 240, .int .u8 240, .int .u8 240, .int .u8 240, .int .u8 240, .int .u8 240, .int .u8 240, .int .u8 240, .int .u8 240, .int .u8 240, .int .u8 240, .int .u8 240, .int .u8 240, .int .u8 240, .int .u8 240, .int .u8 240, .int .u8 240, .int .u8 240, .int .u8 240, .int .u8 240, .int .u8 240, .int .u8 240, .int .u8 240, .int .u8 240, .int .u8 240, .int .u8 240, .int .u8 241, .int .u8 241, .int .u8 241, .int .u8 241, .int .u8 241, .int .u8 241, .int .u8 241, .int .u8 241, .int .u8 241, .int .u8 241, .int .u8 241, .int .u8 241, .int .u8 241, .int .u8 241, .int .u8 241, .int .u8 241, .int .u8 241, .int .u8 241, .int .u8 241, .int .u8 241, .int .u8 241, .int .u8 241, .int .u8 241, .int .u8 241, .int .u8 241, .int .u8 241, .int .u8 241, .int .u8 241, .int .u8 241, .int .u8 241, .int .u8 241, .int .u8 241, .int .u8 241, .int .u8 241, .int .u8 241, .int .u8 241, .int .u8 241, .int .u8 241, .int .u8 241, .int .u8 241, .int .u8 241, .int .u8 241, .int .u8 241, .int .u8 241, .int .u8 241, .int .u8 241, .int .u8 241, .int .u8 241, .int .u8 241, .int .u8 241, .int .u8 241, .int .u8 241, .int .u8 241, .int .u8 241, .int .u8 241, .int .u8 241, .int .u8 241, .int .u8 241, .int .u8 241, .int .u8 241, .int .u8 241, .int .u8 241, .int .u8 241, .int .u8 241, .int .u8 241, .int .u8 241, .int .u8 2, .int .u8 2, .int .u8 2, .int .u8 2, .int .u8 2, .int .u8 2, .int .u8 2, .int .u8 2, .int .u8 2, .int .u8 2, .int .u8 2, .int .u8 2, .int .u8 2, .int .u8 2, .int .u8 2, .int .u8 2, .int .u8 2, .int .u8 2, .int .u8 2, .int .u8 2, .int .u8 2, .int .u8 2, .int .u8 2, .int .u8 2, .int .u8 2, .int .u8 2, .int .u8 2, .int .u8 2, .int .u8 2, .int .u8 2, .int .u8 19, .int .u8 3, .int .u8 3, .int .u8 3, .int .u8 3, .int .u8 3, .int .u8 3, .int .u8 3, .int .u8 3, .int .u8 3, .int .u8 3, .int .u8 3, .int .u8 3, .int .u8 35, .int .u8 3, .int .u8 3, .int .u8 52, .int .u8 4, .int .u8 4, .int .u8 4, .int .u8 68, .int .u8 241, .int .u8 241, .int .u8 241, .int .u8 241, .int .u8 241, .int .u8 241, .int .u8 241, .int .u8 241, .int .u8 241, .int .u8 241, .int .u8 241]
def row10 : List Value := [.int .u8 128, .int .u8 191, .int .u8 160, .int .u8 191, .int .u8 128, .int .u8 159, .int .u8 144, .int .u8 191, .int .u8 128, .int .u8 143, .int .u8 0, .int .u8 0, .int .u8 0, .int .u8 0, .int .u8 0, .int .u8 0, .int .u8 0, .int .u8 0, .int .u8 0, .int .u8 0, .int .u8 0, .int .u8 0, .int .u8 0, .int .u8 0, .int .u8 0, .int .u8 0, .int .u8 0, .int .u8 0, .int .u8 0, .int .u8 0, .int .u8 0, .int .u8 0]
def rowsL : List (Nat × List Value) := [(2, row2), (4, row4), (5, row5), (7, row7), (8, row8), (3, row3), (9, row9), (10, row10)]
def objsL : List Obj := [.cells #[.string ⟨#[105, 110, 118, 97, 108, 105, 100, 32, 115, 121, 110, 116, 97, 120]⟩] 704, .cells #[.string ⟨#[118, 97, 108, 117, 101, 32, 111, 117, 116, 32, 111, 102, 32, 114, 97, 110, 103, 101]⟩] 704]
theorem lay_eq : Lay.layList Tryz.prog 16 Rows.workerNewsRow.laid = some (rowsL, objsL) := by kernel_rfl
noncomputable abbrev hold (os : Os) : World := World.holding Tryz.prog os ⟨#[], #[], []⟩
theorem hold_size (os : Os) : (hold os).heap.size = 16 := by kernel_rfl
noncomputable def wit (os : Os) : World := { hold os with heap := ⟨Lay.setRows (hold os).heap.toList rowsL ++ objsL⟩ }
theorem wit_eq (os : Os) : World.laidAll Tryz.prog os Rows.workerNewsRow.laid = wit os := by
  unfold World.laidAll World.layVars
  have e : Lay.layList Tryz.prog (World.holding Tryz.prog os ⟨#[], #[], []⟩).heap.size Rows.workerNewsRow.laid = some (rowsL, objsL) := by
    rw [hold_size]; exact lay_eq
  rw [e]
  rfl
def witArgs : Array Value := #[.string ⟨#[]⟩, .agg #[.slice none 0 0, .int .i64 0, .int .i64 0, .int .i64 0, .int .i64 0, .int .i64 0, .int .i64 0, .int .i64 0, .int .i64 0, .int .i64 0, .int .i64 0, .int .i64 0],
  .agg #[.string ⟨#[]⟩, .string ⟨#[]⟩, .string ⟨#[]⟩, .string ⟨#[]⟩, .string ⟨#[]⟩, .int .i64 0, .string ⟨#[]⟩, .slice none 0 0, .string ⟨#[]⟩, .int .i64 0, .int .i64 0, .string ⟨#[]⟩]]
theorem fits_lit (os : Os) : (decide (rowsL.map (·.1)).Nodup && (rowsL.all fun r => Lay.isRow (hold os).heap.toList[r.1]? && !([] : List Nat).contains r.1) && ([] : List Nat).all (· < (hold os).heap.size)) = true := by kernel_rfl
theorem ifaces_lit (os : Os) : ((rowsL.all fun r => r.2.all (Lay.okV Tryz.prog (wit os))) && objsL.all (Lay.okO Tryz.prog (wit os))) = true := by kernel_rfl
theorem wit_laid (os : Os) : laidMet Tryz.prog Rows.workerNewsRow.laid ((wit os).forCall (fun _ _ => 0) ⟨#[], witArgs, []⟩).memory := by
  have hf : (hold os).layFits Tryz.prog Rows.workerNewsRow.laid [] = true := by
    unfold World.layFits
    have e : Lay.layList Tryz.prog (hold os).heap.size Rows.workerNewsRow.laid = some (rowsL, objsL) := by
      rw [hold_size]; exact lay_eq
    rw [e]
    exact fits_lit os
  have hi : (hold os).layIfaces Tryz.prog Rows.workerNewsRow.laid (World.laidAll Tryz.prog os Rows.workerNewsRow.laid) = true := by
    rw [wit_eq]
    unfold World.layIfaces
    have e : Lay.layList Tryz.prog (hold os).heap.size Rows.workerNewsRow.laid = some (rowsL, objsL) := by
      rw [hold_size]; exact lay_eq
    rw [e]
    exact ifaces_lit os
  have := laidMet_laidAll (P := Tryz.prog) (os := os) (laid := Rows.workerNewsRow.laid) witArgs hf hi
  rw [wit_eq] at this
  exact this
theorem wit_os (os : Os) : (wit os).os = os := rfl
theorem wit_zip (os : Os) : ((wit os).forCall (fun _ _ => 0) ⟨#[], witArgs, []⟩).variablesZipB Tryz.prog = true := by kernel_rfl
theorem wit_rest (os : Os) : (((wit os).forCall (fun _ _ => 0) ⟨#[], witArgs, []⟩).heap.toList.drop Tryz.prog.globals.size).take ((begin Tryz.prog (fun _ _ => 0) default).world.heap.size - Tryz.prog.globals.size) =
      (begin Tryz.prog (fun _ _ => 0) default).world.heap.toList.drop Tryz.prog.globals.size := by kernel_rfl
theorem wit_ok (os : Os) : Input.okWideB Tryz.prog ((wit os).forCall (fun _ _ => 0) ⟨#[], witArgs, []⟩) 8 ⟨#[], witArgs, []⟩ = true := by kernel_rfl
theorem wit_pre {H : Type} (enc : TypeId × Value → H) (os : Os) : Rows.workerNewsSpec.preB enc Tryz.prog Tryz.f8 Rows.workerNewsRow.domain false ((wit os).forCall (fun _ _ => 0) ⟨#[], witArgs, []⟩).memory witArgs 8 = true := by kernel_rfl
theorem wit_sized {H : Type} (enc : TypeId × Value → H) (os : Os) : Rows.workerNewsSpec.sizedB enc Tryz.prog Tryz.f8 false ((wit os).forCall (fun _ _ => 0) ⟨#[], witArgs, []⟩).memory witArgs 8 = true := by kernel_rfl
end Go.Proofs.YtfmhagjbhableaaGreatDoor
