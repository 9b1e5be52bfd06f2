/-
  DERIVED. GIVEN WITH THE SEED: THE CARDS: each row of YtfccofgchjieeaaGreatDoorRows.lean that lists a variable, with what it lists TIED to the program's text (the seventh form; the later family's looks); each row that meets fmt, with fmt's text TOLD by the authors' own Lean function (tested against real Go, not proved from fmt's source: count such statements apart). THE CARD IS WHAT COUNTS. Prove the row's statement (the work); the ties are given (YtfccofgchjieeaaGreatDoorTie.lean); close each card by the builder's one call (the guide's Derived/Test/ToyasCard.lean, 'card_holds'). Laid BY PROGRAM, IN A SANDBOX (cutbox-door.mjs). By AI agents, Wed Nov 11 2026. No macro, syntax, notation, axiom, sorry.
-/
import Derived.Test.YtfccofgchjieeaaGreatDoorRows
import GoSem.ClaimSeven
namespace Go.Proofs.YtfccofgchjieeaaGreatDoor
namespace Rows

/-- THE TIED CARD OF 'vellumlaw15.PredLogic'. -/
def predLogicCard : Claim7 := { stood := { row := predLogicRow, standIns := [], harness := (true, "855b5c26fcd88bce7d126969123eb7d1d99120aad1d004863a6c4ad5e548fc1d"), looks := true }, kinds := [], alts := [], laidByText := true, laidKinds := [.data, .data, .widerDeep, .widerDeep, .data, .data, .data, .data, .data, .data, .sentinel, .sentinel, .widerDeep, .widerDeep, .widerDeep, .data, .widerDeep, .pinned, .pinned, .pinned, .pinned], laidTests := true, laidLooks := .later }
def PredLogicCardSaid : Prop := Claim7.holds Tryz.pinned (.plain (OpenSpec.ofChange predLogicSpec)) predLogicCard

/-- THE TIED CARD OF 'vellumlaw15.PredChecks'. -/
def predChecksCard : Claim7 := { stood := { row := predChecksRow, standIns := [], harness := (true, "855b5c26fcd88bce7d126969123eb7d1d99120aad1d004863a6c4ad5e548fc1d"), looks := true }, kinds := [], alts := [], laidByText := true, laidKinds := [.data, .data, .widerDeep, .widerDeep, .data, .data, .data, .data, .data, .data, .sentinel, .sentinel, .widerDeep, .widerDeep, .widerDeep, .data, .widerDeep, .pinned, .pinned, .pinned, .pinned], laidTests := true, laidLooks := .later }
def PredChecksCardSaid : Prop := Claim7.holds Tryz.pinned (.plain (OpenSpec.ofChange predChecksSpec)) predChecksCard

/-- THE TIED CARD OF 'vellumlaw15.PredEvals'. -/
def predEvalsCard : Claim7 := { stood := { row := predEvalsRow, standIns := [], harness := (true, "855b5c26fcd88bce7d126969123eb7d1d99120aad1d004863a6c4ad5e548fc1d"), looks := true }, kinds := [], alts := [], laidByText := true, laidKinds := [.data, .data, .widerDeep, .widerDeep, .data, .data, .data, .data, .data, .data, .sentinel, .sentinel, .widerDeep, .widerDeep, .widerDeep, .data, .widerDeep, .pinned, .pinned, .pinned, .pinned], laidTests := true, laidLooks := .later }
def PredEvalsCardSaid : Prop := Claim7.holds Tryz.pinned (.plain (OpenSpec.ofChange predEvalsSpec)) predEvalsCard

/-- THE TIED CARD OF 'vellumlaw15.PredTakes'. -/
def predTakesCard : Claim7 := { stood := { row := predTakesRow, standIns := [], harness := (true, "855b5c26fcd88bce7d126969123eb7d1d99120aad1d004863a6c4ad5e548fc1d"), looks := true }, kinds := [], alts := [], laidByText := true, laidKinds := [.data, .data, .widerDeep, .widerDeep, .data, .data, .data, .data, .data, .data, .sentinel, .sentinel, .widerDeep, .widerDeep, .widerDeep, .data, .widerDeep, .pinned, .pinned, .pinned, .pinned], laidTests := true, laidLooks := .later }
def PredTakesCardSaid : Prop := Claim7.holds Tryz.pinned (.plain (OpenSpec.ofChange predTakesSpec)) predTakesCard

/-- THE SECOND FORM's CARD OF 'vellumlaw15.PredLogic'. -/
def predLogicUptoCard : Claim7 := { stood := { row := predLogicUptoRow, standIns := [], harness := (true, "855b5c26fcd88bce7d126969123eb7d1d99120aad1d004863a6c4ad5e548fc1d"), looks := true }, kinds := [], alts := [], laidByText := true, laidKinds := [.data, .data, .widerDeep, .widerDeep, .data, .data, .data, .data, .data, .data, .sentinel, .sentinel, .widerDeep, .widerDeep, .widerDeep, .data, .widerDeep, .pinned, .pinned, .pinned, .pinned], laidTests := true, laidLooks := .later }
def PredLogicUptoCardSaid : Prop := Claim7.holds Tryz.pinned (.plain (OpenSpec.upto predLogicSpec)) predLogicUptoCard

/-- THE SECOND FORM's CARD OF 'vellumlaw15.PredChecks'. -/
def predChecksUptoCard : Claim7 := { stood := { row := predChecksUptoRow, standIns := [], harness := (true, "855b5c26fcd88bce7d126969123eb7d1d99120aad1d004863a6c4ad5e548fc1d"), looks := true }, kinds := [], alts := [], laidByText := true, laidKinds := [.data, .data, .widerDeep, .widerDeep, .data, .data, .data, .data, .data, .data, .sentinel, .sentinel, .widerDeep, .widerDeep, .widerDeep, .data, .widerDeep, .pinned, .pinned, .pinned, .pinned], laidTests := true, laidLooks := .later }
def PredChecksUptoCardSaid : Prop := Claim7.holds Tryz.pinned (.plain (OpenSpec.upto predChecksSpec)) predChecksUptoCard

/-- THE SECOND FORM's CARD OF 'vellumlaw15.PredEvals'. -/
def predEvalsUptoCard : Claim7 := { stood := { row := predEvalsUptoRow, standIns := [], harness := (true, "855b5c26fcd88bce7d126969123eb7d1d99120aad1d004863a6c4ad5e548fc1d"), looks := true }, kinds := [], alts := [], laidByText := true, laidKinds := [.data, .data, .widerDeep, .widerDeep, .data, .data, .data, .data, .data, .data, .sentinel, .sentinel, .widerDeep, .widerDeep, .widerDeep, .data, .widerDeep, .pinned, .pinned, .pinned, .pinned], laidTests := true, laidLooks := .later }
def PredEvalsUptoCardSaid : Prop := Claim7.holds Tryz.pinned (.plain (OpenSpec.upto predEvalsSpec)) predEvalsUptoCard

/-- THE SECOND FORM's CARD OF 'vellumlaw15.PredTakes'. -/
def predTakesUptoCard : Claim7 := { stood := { row := predTakesUptoRow, standIns := [], harness := (true, "855b5c26fcd88bce7d126969123eb7d1d99120aad1d004863a6c4ad5e548fc1d"), looks := true }, kinds := [], alts := [], laidByText := true, laidKinds := [.data, .data, .widerDeep, .widerDeep, .data, .data, .data, .data, .data, .data, .sentinel, .sentinel, .widerDeep, .widerDeep, .widerDeep, .data, .widerDeep, .pinned, .pinned, .pinned, .pinned], laidTests := true, laidLooks := .later }
def PredTakesUptoCardSaid : Prop := Claim7.holds Tryz.pinned (.plain (OpenSpec.upto predTakesSpec)) predTakesUptoCard
end Rows
end Go.Proofs.YtfccofgchjieeaaGreatDoor
