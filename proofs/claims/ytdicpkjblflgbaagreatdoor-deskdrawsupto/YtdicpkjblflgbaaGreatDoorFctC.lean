/-
  What the row asks of every type of the program, in hundreds. Conditions: those that each statement below names, and no other.
-/
import Derived.Test.YtdicpkjblflgbaaGreatDoorFctA
import Derived.Test.YtdicpkjblflgbaaGreatDoorProg
import Derived.KernelRfl
import GoSem.ClaimJoined
set_option linter.all false

/-
  What the row asks of every type, in hundreds.
-/
namespace Go.Proofs.YtdicpkjblflgbaaGreatDoor
open Go
noncomputable def okT (t : Nat) : Bool := rowFine Tryz.prog t && (match Tryz.prog.underlying t with | some (.map _ e) => decide (e < 901) | _ => true)
theorem typesRow0 : (List.range' 0 100).all okT = true := by kernel_rfl
theorem typesRow1 : (List.range' 100 100).all okT = true := by kernel_rfl
theorem typesRow2 : (List.range' 200 100).all okT = true := by kernel_rfl
theorem typesRow3 : (List.range' 300 100).all okT = true := by kernel_rfl
theorem typesRow4 : (List.range' 400 100).all okT = true := by kernel_rfl
theorem typesRow5 : (List.range' 500 100).all okT = true := by kernel_rfl
theorem typesRow6 : (List.range' 600 100).all okT = true := by kernel_rfl
theorem typesRow7 : (List.range' 700 100).all okT = true := by kernel_rfl
theorem typesRow8 : (List.range' 800 100).all okT = true := by kernel_rfl
theorem typesRow9 : (List.range' 900 100).all okT = true := by kernel_rfl
theorem types_len : Tryz.prog.types.size = 901 := by kernel_rfl
end Go.Proofs.YtdicpkjblflgbaaGreatDoor
