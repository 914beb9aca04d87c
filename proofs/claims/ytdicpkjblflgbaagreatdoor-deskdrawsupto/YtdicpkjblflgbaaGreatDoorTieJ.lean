/-
  A fact of the tie. Conditions: those that each statement below names, and no other.
-/
import Derived.Test.YtdicpkjblflgbaaGreatDoorTieZ
set_option linter.all false

namespace Go.Proofs.YtdicpkjblflgbaaGreatDoor
open Go
set_option maxRecDepth 100000
theorem tie_pin1 : Tryz.pinned.checked.prog.pinnedFits "unicode/utf8.first" = true := by kernel_rfl
end Go.Proofs.YtdicpkjblflgbaaGreatDoor
