/-
  A piece of the closed run, reckoned by the kernel. Conditions: those that each statement below names, and no other.
-/
import Derived.Test.YtdicpkjblflgbaaGreatDoorTabB
set_option linter.all false

namespace Go.Proofs.YtdicpkjblflgbaaGreatDoor
open Go.Rv
theorem k_r6 (e3 e6 : Nat) : (evCode rvTab rvCall 37 100000 (runLoop) r5e (r5s e3 e6)).om (rvTrim r6K) = some (r6X, r6e, r6s e3 e6) := by kernel_rfl
end Go.Proofs.YtdicpkjblflgbaaGreatDoor
