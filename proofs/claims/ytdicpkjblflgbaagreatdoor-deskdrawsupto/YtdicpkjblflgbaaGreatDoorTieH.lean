/-
  A fact of the tie. Conditions: those that each statement below names, and no other.
-/
import Derived.Test.YtdicpkjblflgbaaGreatDoorTieZ
set_option linter.all false

namespace Go.Proofs.YtdicpkjblflgbaaGreatDoor
open Go
set_option maxRecDepth 100000
theorem tie_h13 : ∀ os tape, (DataW.laidRun Tryz.prog (varsWorld Tryz.prog 400 802 os tape).memory 8 (tieList.map (·.1))).map (·.1) = some tieList := fun _ _ => by kernel_rfl
end Go.Proofs.YtdicpkjblflgbaaGreatDoor
