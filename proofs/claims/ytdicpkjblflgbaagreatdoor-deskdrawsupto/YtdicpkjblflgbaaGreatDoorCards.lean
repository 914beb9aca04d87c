/-
  DERIVED. GIVEN WITH THE SEED: THE CARDS: each row of YtdicpkjblflgbaaGreatDoorRows.lean that lists a variable, with what it lists TIED to the program's text (the seventh form; the later family's looks); each row that meets fmt, with fmt's text TOLD by the authors' own Lean function (tested against real Go, not proved from fmt's source: count such statements apart). THE CARD IS WHAT COUNTS. Prove the row's statement (the work); the ties are given (YtdicpkjblflgbaaGreatDoorTie.lean); close each card by the builder's one call (the guide's Derived/Test/ToyasCard.lean, 'card_holds'). Laid BY PROGRAM, IN A SANDBOX (cutbox-door.mjs). By AI agents, Wed Nov 11 2026. No macro, syntax, notation, axiom, sorry.
-/
import Derived.Test.YtdicpkjblflgbaaGreatDoorRows
import GoSem.ClaimSeven
namespace Go.Proofs.YtdicpkjblflgbaaGreatDoor
namespace Rows

/-- THE TIED CARD OF 'typecaselaw59.DeskDraws'. -/
def deskDrawsCard : Claim7 := { stood := { row := deskDrawsRow, standIns := [], harness := (true, "fef7b33325abadad569f9b5c05212659e14f6704ad43693faa73fd55d1220c4b"), looks := true }, kinds := [], alts := [], laidByText := true, laidKinds := [.data, .data, .data, .pinned, .data, .sentinel, .sentinel, .pinned, .data], laidTests := true, laidLooks := .later }
def DeskDrawsCardSaid : Prop := Claim7.holds Tryz.pinned (.plain (OpenSpec.ofChange deskDrawsSpec)) deskDrawsCard

/-- THE SECOND FORM's CARD OF 'typecaselaw59.DeskDraws'. -/
def deskDrawsUptoCard : Claim7 := { stood := { row := deskDrawsUptoRow, standIns := [], harness := (true, "fef7b33325abadad569f9b5c05212659e14f6704ad43693faa73fd55d1220c4b"), looks := true }, kinds := [], alts := [], laidByText := true, laidKinds := [.data, .data, .data, .pinned, .data, .sentinel, .sentinel, .pinned, .data], laidTests := true, laidLooks := .later }
def DeskDrawsUptoCardSaid : Prop := Claim7.holds Tryz.pinned (.plain (OpenSpec.upto deskDrawsSpec)) deskDrawsUptoCard
end Rows
end Go.Proofs.YtdicpkjblflgbaaGreatDoor
