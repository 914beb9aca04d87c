/-
  typecaselaw59.DeskDraws returns true for every layout, and the layout reads behind the call as it read before: the second form's card. Conditions: what the argument reads as is of bulk at most 1048576; the listed variables hold what their initialisers lay, which the card ties to the program's text.
-/
import Derived.Test.YtdicpkjblflgbaaGreatDoorCrdA
import Derived.Test.YtdicpkjblflgbaaGreatDoorWitA
set_option linter.all false

/-
  The law's statement at inputs of bounded bulk, and its card.
-/
namespace Go.Proofs.YtdicpkjblflgbaaGreatDoor
open Go.ChangeShapes Go.WideShapes Go.ChangeAt Go.RowKit

theorem witness_pre (os : Os) {H : Type} (enc : TypeId × Value → H) :
    (Rows.OpenSpec.upto Rows.deskDrawsSpec).preRow enc Tryz.prog Tryz.f3 Rows.deskDrawsUptoRow.domain false Rows.deskDrawsUptoRow.laid (callW os).memory #[argV] := by
  obtain ⟨places, hx⟩ := reads_arg os enc
  exact OpenSpec.preRow_of_cond 8 hx (by kernel_rfl) (fun k hk => by cases hk; kernel_rfl) (by kernel_rfl) (laid_met os)

theorem found (os : Os) {H : Type} (enc : TypeId × Value → H) : ∃ (w : World) (tape : Tape) (i : Input), w.os = os ∧ (w.forCall tape i).Shaped Tryz.prog ∧ i.vars = [] ∧ Input.okWide Tryz.prog (w.forCall tape i) .any w.heap.size 3 i ∧
      (Rows.OpenSpec.upto Rows.deskDrawsSpec).preRow enc Tryz.prog Tryz.f3 Rows.deskDrawsUptoRow.domain false Rows.deskDrawsUptoRow.laid (w.forCall tape i).memory i.args ∧ ({} : Assume).holds Tryz.prog (lone (Frame.enter Tryz.prog 3 i.args .normal) [] (w.forCall tape i)) :=
  ⟨laidWorld os, fun _ _ => 0, ⟨#[], #[argV], []⟩, laidWorld_os os, World.shaped_of_ZipB (zipB os) (restB os), (Input.okWide_of_okWideB (base := 0) (okB os)).1, (Input.okWide_of_okWideB (okB os)).2, witness_pre os enc, by
    simp only [Assume.holds]
    exact ⟨by simp, by simp, fun _ => Modest.zero, by simp, by simp⟩⟩

set_option maxRecDepth 100000 in
theorem liftedUpto (os : Os) (started : os.Started) (H : Type) (enc : TypeId × Value → H) (F : Stop.Interp) :
    ReturnsInHanded {} Tryz.checked os 3 .any ((Rows.OpenSpec.upto Rows.deskDrawsSpec).preRow enc Tryz.prog Tryz.f3 Rows.deskDrawsUptoRow.domain false Rows.deskDrawsUptoRow.laid) (((Rows.OpenSpec.upto Rows.deskDrawsSpec).at F).post enc Tryz.prog Tryz.f3 false true false false) := by
  refine returnsInHanded_of_row (C := Tryz.checked) (s := Rows.OpenSpec.upto Rows.deskDrawsSpec) own started noInit Tryz.func3 (found os enc) ?_
  intro W base args ds gs before hval hW _ hcond _ hL hsh _
  exact contract H enc W base args ds gs before hval hW (hcond _ rfl) hL hsh

set_option maxRecDepth 100000 in
theorem saidUpto : Rows.DeskDrawsUptoSaid :=
  OpenClaim.holds_of_cond 3 Tryz.f3 rfl rfl rfl rfl rfl rfl rfl ⟨rfl, rfl, rfl, rfl, rfl⟩ rfl rfl rfl rfl rfl lawNamed Tryz.func3 joined noInstance noWrapper
    (fun os started H enc _ F => by rw [OpenClaim.pre_eq_preRow]; exact liftedUpto os started H enc F)

/-- The second form's card. -/
theorem cardUpto : Rows.DeskDrawsUptoCardSaid :=
  Claim7.holds_tied_plain_at .later [] _ _ _ _ saidUpto (fun _ h => by cases h) byText (fun _ h => by cases h) ownUpto_row_tie rfl ⟨rfl, rfl⟩ mainOf rfl plain goesNot
end Go.Proofs.YtdicpkjblflgbaaGreatDoor
