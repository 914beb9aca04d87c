/-
  A piece of the closed run, reckoned by the kernel. Conditions: those that each statement below names, and no other.
-/
import Derived.Test.YtdicpkjblflgbaaGreatDoorTabB
set_option linter.all false

namespace Go.Proofs.YtdicpkjblflgbaaGreatDoor
open Go.Rv
theorem k_r7 (e3 e6 : Nat) : (evCode rvTab rvCall 37 100000 (runLoop) r6e (r6s e3 e6)).om (rvTrim r7K) = some (r7X, r7e, r7s e3 e6) := by kernel_rfl
end Go.Proofs.YtdicpkjblflgbaaGreatDoor
