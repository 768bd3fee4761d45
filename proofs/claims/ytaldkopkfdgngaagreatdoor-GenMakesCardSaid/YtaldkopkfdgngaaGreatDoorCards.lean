/-
  DERIVED. GIVEN WITH THE SEED: THE CARDS: each row of YtaldkopkfdgngaaGreatDoorRows.lean that lists a variable, with what it lists TIED to the program's text (the seventh form; the later family's looks); each row that meets fmt, with fmt's text TOLD by the authors' own Lean function (tested against real Go, not proved from fmt's source: count such statements apart). THE CARD IS WHAT COUNTS. Prove the row's statement (the work); the ties are given (YtaldkopkfdgngaaGreatDoorTie.lean); close each card by the builder's one call (the guide's Derived/Test/ToyasCard.lean, 'card_holds'). Laid BY PROGRAM, IN A SANDBOX (cutbox-door.mjs). By AI agents, Wed Nov 11 2026. No macro, syntax, notation, axiom, sorry.
-/
import Derived.Test.YtaldkopkfdgngaaGreatDoorRows
import GoSem.ClaimSeven
namespace Go.Proofs.YtaldkopkfdgngaaGreatDoor
namespace Rows

/-- THE TIED CARD OF 'alfillaw10.GenAll'. -/
def genAllCard : Claim7 := { stood := { row := genAllRow, standIns := [], harness := (true, "e34fddeac766f410e4ce3e28218500a39e1a4a4ea9f13688301cd5a4ed19283d"), looks := false }, kinds := [], alts := [], laidByText := true, laidKinds := [.data, .pinned, .pinned], laidTests := true, laidLooks := .later }
def GenAllCardSaid : Prop := Claim7.holds Tryz.pinned (.plain (OpenSpec.ofChange genAllSpec)) genAllCard

/-- THE TIED CARD OF 'alfillaw10.GenTurned'. -/
def genTurnedCard : Claim7 := { stood := { row := genTurnedRow, standIns := [], harness := (true, "e34fddeac766f410e4ce3e28218500a39e1a4a4ea9f13688301cd5a4ed19283d"), looks := false }, kinds := [], alts := [], laidByText := true, laidKinds := [.data, .pinned, .pinned], laidTests := true, laidLooks := .later }
def GenTurnedCardSaid : Prop := Claim7.holds Tryz.pinned (.plain (OpenSpec.ofChange genTurnedSpec)) genTurnedCard

/-- THE TIED CARD OF 'alfillaw10.GenFrom'. -/
def genFromCard : Claim7 := { stood := { row := genFromRow, standIns := [], harness := (true, "e34fddeac766f410e4ce3e28218500a39e1a4a4ea9f13688301cd5a4ed19283d"), looks := false }, kinds := [], alts := [], laidByText := true, laidKinds := [.data, .pinned, .pinned], laidTests := true, laidLooks := .later }
def GenFromCardSaid : Prop := Claim7.holds Tryz.pinned (.plain (OpenSpec.ofChange genFromSpec)) genFromCard

/-- THE TIED CARD OF 'alfillaw10.GenNil'. -/
def genNilCard : Claim7 := { stood := { row := genNilRow, standIns := [], harness := (true, "e34fddeac766f410e4ce3e28218500a39e1a4a4ea9f13688301cd5a4ed19283d"), looks := false }, kinds := [], alts := [], laidByText := true, laidKinds := [.data, .pinned, .pinned], laidTests := true, laidLooks := .later }
def GenNilCardSaid : Prop := Claim7.holds Tryz.pinned (.plain (OpenSpec.ofChange genNilSpec)) genNilCard

/-- THE TIED CARD OF 'alfillaw10.GenMakes'. -/
def genMakesCard : Claim7 := { stood := { row := genMakesRow, standIns := [], harness := (true, "e34fddeac766f410e4ce3e28218500a39e1a4a4ea9f13688301cd5a4ed19283d"), looks := false }, kinds := [], alts := [], laidByText := true, laidKinds := [.data, .pinned, .pinned], laidTests := true, laidLooks := .later }
def GenMakesCardSaid : Prop := Claim7.holds Tryz.pinned (.plain (OpenSpec.ofChange genMakesSpec)) genMakesCard

/-- THE SECOND FORM's CARD OF 'alfillaw10.GenAll'. -/
def genAllUptoCard : Claim7 := { stood := { row := genAllUptoRow, standIns := [], harness := (true, "e34fddeac766f410e4ce3e28218500a39e1a4a4ea9f13688301cd5a4ed19283d"), looks := false }, kinds := [], alts := [], laidByText := true, laidKinds := [.data, .pinned, .pinned], laidTests := true, laidLooks := .later }
def GenAllUptoCardSaid : Prop := Claim7.holds Tryz.pinned (.plain (OpenSpec.upto genAllSpec)) genAllUptoCard

/-- THE SECOND FORM's CARD OF 'alfillaw10.GenTurned'. -/
def genTurnedUptoCard : Claim7 := { stood := { row := genTurnedUptoRow, standIns := [], harness := (true, "e34fddeac766f410e4ce3e28218500a39e1a4a4ea9f13688301cd5a4ed19283d"), looks := false }, kinds := [], alts := [], laidByText := true, laidKinds := [.data, .pinned, .pinned], laidTests := true, laidLooks := .later }
def GenTurnedUptoCardSaid : Prop := Claim7.holds Tryz.pinned (.plain (OpenSpec.upto genTurnedSpec)) genTurnedUptoCard

/-- THE SECOND FORM's CARD OF 'alfillaw10.GenFrom'. -/
def genFromUptoCard : Claim7 := { stood := { row := genFromUptoRow, standIns := [], harness := (true, "e34fddeac766f410e4ce3e28218500a39e1a4a4ea9f13688301cd5a4ed19283d"), looks := false }, kinds := [], alts := [], laidByText := true, laidKinds := [.data, .pinned, .pinned], laidTests := true, laidLooks := .later }
def GenFromUptoCardSaid : Prop := Claim7.holds Tryz.pinned (.plain (OpenSpec.upto genFromSpec)) genFromUptoCard

/-- THE SECOND FORM's CARD OF 'alfillaw10.GenNil'. -/
def genNilUptoCard : Claim7 := { stood := { row := genNilUptoRow, standIns := [], harness := (true, "e34fddeac766f410e4ce3e28218500a39e1a4a4ea9f13688301cd5a4ed19283d"), looks := false }, kinds := [], alts := [], laidByText := true, laidKinds := [.data, .pinned, .pinned], laidTests := true, laidLooks := .later }
def GenNilUptoCardSaid : Prop := Claim7.holds Tryz.pinned (.plain (OpenSpec.upto genNilSpec)) genNilUptoCard

/-- THE SECOND FORM's CARD OF 'alfillaw10.GenMakes'. -/
def genMakesUptoCard : Claim7 := { stood := { row := genMakesUptoRow, standIns := [], harness := (true, "e34fddeac766f410e4ce3e28218500a39e1a4a4ea9f13688301cd5a4ed19283d"), looks := false }, kinds := [], alts := [], laidByText := true, laidKinds := [.data, .pinned, .pinned], laidTests := true, laidLooks := .later }
def GenMakesUptoCardSaid : Prop := Claim7.holds Tryz.pinned (.plain (OpenSpec.upto genMakesSpec)) genMakesUptoCard
end Rows
end Go.Proofs.YtaldkopkfdgngaaGreatDoor
