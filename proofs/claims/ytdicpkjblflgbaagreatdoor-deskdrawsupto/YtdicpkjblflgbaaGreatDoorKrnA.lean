/-
  Pieces of the closed run, reckoned by the kernel. Conditions: those that each statement below names, and no other.
-/
import Derived.Test.YtdicpkjblflgbaaGreatDoorTabB
set_option linter.all false

namespace Go.Proofs.YtdicpkjblflgbaaGreatDoor
open Go.Rv
theorem k_new (e3 e6 : Nat) : (evFn rvTab 100000 60 9 [] (zs e3 e6)).om (fun r => (r.1, (⟨onlyT r.2.heap iniK .nil, r.2.next, 0, 0, []⟩ : St))) = some (iniV, inis e3 e6) := by kernel_rfl
theorem k_of (e3 e6 : Nat) : (evFn rvTab0 100000 60 156 [.int .i32 97] (zs e3 e6)).om (fun r => r.1) = some rvOfA := by kernel_rfl
theorem k_p0 (e3 e6 : Nat) : (evCode rvTab rvCall 37 100000 (seqL runBody) inie (inis e3 e6)).om (rvTrim p0K) = some (p0X, p0e, p0s e3 e6) := by kernel_rfl
theorem k_p1 (e3 e6 : Nat) : (evCode rvTab rvCall 37 100000 (seqL (seqR runBody)) p0e (p0s e3 e6)).om (rvTrim p1K) = some (p1X, p1e, p1s e3 e6) := by kernel_rfl
theorem k_p2 (e3 e6 : Nat) : (evCode rvTab rvCall 37 100000 (seqL (seqR (seqR runBody))) p1e (p1s e3 e6)).om (rvTrim p2K) = some (p2X, p2e, p2s e3 e6) := by kernel_rfl
theorem k_r0 (e3 e6 : Nat) : (evCode rvTab rvCall 37 100000 (runLoop) p2e (p2s e3 e6)).om (rvTrim r0K) = some (r0X, r0e, r0s e3 e6) := by kernel_rfl
theorem k_r1 (e3 e6 : Nat) : (evCode rvTab rvCall 37 100000 (runLoop) r0e (r0s e3 e6)).om (rvTrim r1K) = some (r1X, r1e, r1s e3 e6) := by kernel_rfl
theorem k_r2 (e3 e6 : Nat) : (evCode rvTab rvCall 37 100000 (runLoop) r1e (r1s e3 e6)).om (rvTrim r2K) = some (r2X, r2e, r2s e3 e6) := by kernel_rfl
theorem k_r3 (e3 e6 : Nat) : (evCode rvTab rvCall 37 100000 (runLoop) r2e (r2s e3 e6)).om (rvTrim r3K) = some (r3X, r3e, r3s e3 e6) := by kernel_rfl
theorem k_r4 (e3 e6 : Nat) : (evCode rvTab rvCall 37 100000 (runLoop) r3e (r3s e3 e6)).om (rvTrim r4K) = some (r4X, r4e, r4s e3 e6) := by kernel_rfl
theorem k_r8 (e3 e6 : Nat) : (evCode rvTab rvCall 37 100000 (runLoop) r7e (r7s e3 e6)).om (rvTrim r8K) = some (r8X, r8e, r8s e3 e6) := by kernel_rfl
theorem k_q0 (e3 e6 : Nat) : (evCode rvTab rvCall 37 100000 (runLast) r8e (r8s e3 e6)).om (rvTrim q0K) = some (q0X, q0e, q0s e3 e6) := by kernel_rfl
end Go.Proofs.YtdicpkjblflgbaaGreatDoor
