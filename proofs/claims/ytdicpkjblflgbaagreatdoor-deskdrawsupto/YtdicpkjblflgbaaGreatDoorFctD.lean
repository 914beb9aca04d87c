/-
  The law's number out of its name, in hundreds. Conditions: those that each statement below names, and no other.
-/
import Derived.Test.YtdicpkjblflgbaaGreatDoorFctA
import Derived.Test.YtdicpkjblflgbaaGreatDoorProg
import Derived.KernelRfl
set_option linter.all false

/-
  The law's number out of its name, in hundreds.
-/
namespace Go.Proofs.YtdicpkjblflgbaaGreatDoor
open Go
def lawName : String := "typecase/typecaselaw59.DeskDraws"
def doorName : String := "gosem.cut.vars"
theorem lawName_row0 : (List.range' 0 100).all (onlyName Tryz.prog lawName 3) = true := by kernel_rfl
theorem lawName_row1 : (List.range' 100 100).all (onlyName Tryz.prog lawName 3) = true := by kernel_rfl
theorem lawName_row2 : (List.range' 200 100).all (onlyName Tryz.prog lawName 3) = true := by kernel_rfl
theorem lawName_row3 : (List.range' 300 100).all (onlyName Tryz.prog lawName 3) = true := by kernel_rfl
theorem lawName_row4 : (List.range' 400 100).all (onlyName Tryz.prog lawName 3) = true := by kernel_rfl
theorem lawName_row5 : (List.range' 500 100).all (onlyName Tryz.prog lawName 3) = true := by kernel_rfl
theorem lawName_row6 : (List.range' 600 100).all (onlyName Tryz.prog lawName 3) = true := by kernel_rfl
theorem lawName_row7 : (List.range' 700 100).all (onlyName Tryz.prog lawName 3) = true := by kernel_rfl
theorem lawName_row8 : (List.range' 800 100).all (onlyName Tryz.prog lawName 3) = true := by kernel_rfl
theorem lawName_at : (Tryz.prog.funcs[3]?).any (·.name == lawName) = true := by kernel_rfl
theorem doorName_row0 : (List.range' 0 100).all (onlyName Tryz.prog doorName 802) = true := by kernel_rfl
theorem doorName_row1 : (List.range' 100 100).all (onlyName Tryz.prog doorName 802) = true := by kernel_rfl
theorem doorName_row2 : (List.range' 200 100).all (onlyName Tryz.prog doorName 802) = true := by kernel_rfl
theorem doorName_row3 : (List.range' 300 100).all (onlyName Tryz.prog doorName 802) = true := by kernel_rfl
theorem doorName_row4 : (List.range' 400 100).all (onlyName Tryz.prog doorName 802) = true := by kernel_rfl
theorem doorName_row5 : (List.range' 500 100).all (onlyName Tryz.prog doorName 802) = true := by kernel_rfl
theorem doorName_row6 : (List.range' 600 100).all (onlyName Tryz.prog doorName 802) = true := by kernel_rfl
theorem doorName_row7 : (List.range' 700 100).all (onlyName Tryz.prog doorName 802) = true := by kernel_rfl
theorem doorName_row8 : (List.range' 800 100).all (onlyName Tryz.prog doorName 802) = true := by kernel_rfl
theorem doorName_at : (Tryz.prog.funcs[802]?).any (·.name == doorName) = true := by kernel_rfl
theorem funcs_size : Tryz.prog.funcs.size = 803 := by kernel_rfl
theorem law_named : Tryz.prog.funcNamed lawName = some 3 := funcNamed_of funcs_size (by decide) lawName_at fun i hi => range_all (n := 900) (k := 9) rfl (fun j hj => by
  match j, hj with
  | 0, _ => exact lawName_row0
  | 1, _ => exact lawName_row1
  | 2, _ => exact lawName_row2
  | 3, _ => exact lawName_row3
  | 4, _ => exact lawName_row4
  | 5, _ => exact lawName_row5
  | 6, _ => exact lawName_row6
  | 7, _ => exact lawName_row7
  | 8, _ => exact lawName_row8
  ) i (by omega)
theorem door_named : Tryz.prog.funcNamed doorName = some 802 := funcNamed_of funcs_size (by decide) doorName_at fun i hi => range_all (n := 900) (k := 9) rfl (fun j hj => by
  match j, hj with
  | 0, _ => exact doorName_row0
  | 1, _ => exact doorName_row1
  | 2, _ => exact doorName_row2
  | 3, _ => exact doorName_row3
  | 4, _ => exact doorName_row4
  | 5, _ => exact doorName_row5
  | 6, _ => exact doorName_row6
  | 7, _ => exact doorName_row7
  | 8, _ => exact doorName_row8
  ) i (by omega)
end Go.Proofs.YtdicpkjblflgbaaGreatDoor
