/-
  DERIVED. GIVEN WITH THE SEED: THE CARDS: each row of YteeiccpbiniljaaGreatDoorRows.lean that lists a variable, with what it lists TIED to the program's text (the seventh form; the later family's looks); each row that meets fmt, with fmt's text TOLD by the authors' own Lean function (tested against real Go, not proved from fmt's source: count such statements apart). THE CARD IS WHAT COUNTS. Prove the row's statement (the work); the ties are given (YteeiccpbiniljaaGreatDoorTie.lean); close each card by the builder's one call (the guide's Derived/Test/ToyasCard.lean, 'card_holds'). Laid BY PROGRAM, IN A SANDBOX (cutbox-door.mjs). By AI agents, Wed Nov 11 2026. No macro, syntax, notation, axiom, sorry.
-/
import Derived.Test.YteeiccpbiniljaaGreatDoorRows
import GoSem.ClaimSeven
namespace Go.Proofs.YteeiccpbiniljaaGreatDoor
namespace Rows

/-- THE TIED CARD OF 'alfillaw09.MoveTexts'. -/
def moveTextsCard : Claim7 := { stood := { row := moveTextsRow, standIns := [], harness := (true, "1d3cc6d876fe25118779041e5aa24516a9f7079c8302026f6d66c395a2683d61"), looks := false }, kinds := [], alts := [], laidByText := true, laidKinds := [.data, .pinned, .pinned], laidTests := true, laidLooks := .later }
def MoveTextsCardSaid : Prop := Claim7.holds Tryz.pinned (.plain (OpenSpec.ofChange moveTextsSpec)) moveTextsCard

/-- THE SECOND FORM's CARD OF 'alfillaw09.MoveTexts'. -/
def moveTextsUptoCard : Claim7 := { stood := { row := moveTextsUptoRow, standIns := [], harness := (true, "1d3cc6d876fe25118779041e5aa24516a9f7079c8302026f6d66c395a2683d61"), looks := false }, kinds := [], alts := [], laidByText := true, laidKinds := [.data, .pinned, .pinned], laidTests := true, laidLooks := .later }
def MoveTextsUptoCardSaid : Prop := Claim7.holds Tryz.pinned (.plain (OpenSpec.upto moveTextsSpec)) moveTextsUptoCard
end Rows
end Go.Proofs.YteeiccpbiniljaaGreatDoor
