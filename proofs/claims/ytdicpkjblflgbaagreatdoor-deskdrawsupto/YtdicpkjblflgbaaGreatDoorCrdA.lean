/-
  The card's small facts. Conditions: those that each statement below names, and no other.
-/
import Derived.Test.YtdicpkjblflgbaaGreatDoorCtct
import Derived.Test.YtdicpkjblflgbaaGreatDoorTieY
import Derived.Test.YtdicpkjblflgbaaGreatDoorFctE
set_option linter.all false

/-
  The card's small facts.
-/
namespace Go.Proofs.YtdicpkjblflgbaaGreatDoor
open Go.ChangeShapes Go.WideShapes Go.ChangeAt Go.RowKit
theorem own : ownKnob Tryz.prog.godebug = none := by kernel_rfl
theorem noLooks : true = Tryz.prog.looks [] := by kernel_rfl
theorem noStand : Tryz.prog.wantsStandIn 24 = false := by kernel_rfl
theorem pinnedProg : Tryz.pinned.checked.prog = Tryz.prog := rfl
theorem plain (f : FuncId) (fn : Func) (hf : Tryz.pinned.checked.prog.funcNamed "typecase/typecaselaw59.DeskDraws" = some f) (hfn : Tryz.pinned.checked.prog.funcs[f]? = some fn) :
    true = Tryz.pinned.checked.prog.looks [] ∧ ∀ (j : Nat) t, fn.params[j]? = some t → Tryz.pinned.checked.prog.wantsStandIn t = false := by
  rw [pinnedProg] at hf hfn ⊢
  obtain rfl : f = 3 := Option.some.inj (lawNamed.symm.trans hf) |>.symm
  obtain rfl : fn = Tryz.f3 := (Option.some.inj (Tryz.func3.symm.trans hfn)).symm
  refine ⟨noLooks, fun j t ht => ?_⟩
  rw [Tryz.params3] at ht
  obtain rfl : t = 24 := by simpa using Array.mem_of_getElem? ht
  exact noStand
theorem mainOf : Tryz.pinned.checked.prog.mainIs = some (true, "fef7b33325abadad569f9b5c05212659e14f6704ad43693faa73fd55d1220c4b".toList) := by kernel_rfl
theorem byText : OpenClaim.wfByText (Rows.OpenSpec.upto Rows.deskDrawsSpec) Rows.deskDrawsUptoRow = true := by kernel_rfl
theorem noInstance : Tryz.f3.isInstance Tryz.prog Rows.deskDrawsUptoRow.origin Rows.deskDrawsUptoRow.targs := of_decide_eq_true (by kernel_rfl)
theorem noMain : Check.packageOf Tryz.f3.name ≠ "main" := of_decide_eq_true (by kernel_rfl)
theorem noWrapper : Tryz.f3.isWrapper Tryz.prog Rows.deskDrawsUptoRow.wrapper Rows.deskDrawsUptoRow.mainSum := by
  unfold Func.isWrapper
  rw [if_neg noMain]
  exact ⟨rfl, rfl⟩
theorem noInit : Tryz.prog.inits.idxOf? 3 = none := by kernel_rfl
end Go.Proofs.YtdicpkjblflgbaaGreatDoor
