/-
  DERIVED. GIVEN WITH THE SEED: THE CARDS: each row of YtiolbhmbobelcaaGreatDoorRows.lean that lists a variable, with what it lists TIED to the program's text (the seventh form; the later family's looks); each row that meets fmt, with fmt's text TOLD by the authors' own Lean function (tested against real Go, not proved from fmt's source: count such statements apart). THE CARD IS WHAT COUNTS. Prove the row's statement (the work); the ties are given (YtiolbhmbobelcaaGreatDoorTie.lean); close each card by the builder's one call (the guide's Derived/Test/ToyasCard.lean, 'card_holds'). Laid BY PROGRAM, IN A SANDBOX (cutbox-door.mjs). By AI agents, Wed Nov 11 2026. No macro, syntax, notation, axiom, sorry.
-/
import Derived.Test.YtiolbhmbobelcaaGreatDoorRows
import GoSem.ClaimSeven
namespace Go.Proofs.YtiolbhmbobelcaaGreatDoor
namespace Rows

/-- THE TIED CARD OF 'vellumlaw16.CursorTurned'. -/
def cursorTurnedCard : Claim7 := { stood := { row := cursorTurnedRow, standIns := [], harness := (true, "0f09d3f860f08323fceea09addc384a163e6541d8dab7c4ec191d6784ed568c7"), looks := true }, kinds := [], alts := [], laidByText := true, laidKinds := [.data, .data, .widerDeep, .widerDeep, .data, .data, .data, .data, .data, .data, .sentinel, .sentinel, .pinned, .pinned, .pinned], laidTests := true, laidLooks := .later }
def CursorTurnedCardSaid : Prop := Claim7.holds Tryz.pinned (.plain (OpenSpec.ofChange cursorTurnedSpec)) cursorTurnedCard

/-- THE TIED CARD OF 'vellumlaw16.CursorNobody'. -/
def cursorNobodyCard : Claim7 := { stood := { row := cursorNobodyRow, standIns := [], harness := (true, "0f09d3f860f08323fceea09addc384a163e6541d8dab7c4ec191d6784ed568c7"), looks := true }, kinds := [], alts := [], laidByText := true, laidKinds := [.data, .data, .widerDeep, .widerDeep, .data, .data, .data, .data, .data, .data, .sentinel, .sentinel, .widerDeep, .widerDeep, .widerDeep, .data, .pinned, .pinned, .pinned], laidTests := true, laidLooks := .later }
def CursorNobodyCardSaid : Prop := Claim7.holds Tryz.pinned (.plain (OpenSpec.ofChange cursorNobodySpec)) cursorNobodyCard

/-- THE SECOND FORM's CARD OF 'vellumlaw16.CursorTurned'. -/
def cursorTurnedUptoCard : Claim7 := { stood := { row := cursorTurnedUptoRow, standIns := [], harness := (true, "0f09d3f860f08323fceea09addc384a163e6541d8dab7c4ec191d6784ed568c7"), looks := true }, kinds := [], alts := [], laidByText := true, laidKinds := [.data, .data, .widerDeep, .widerDeep, .data, .data, .data, .data, .data, .data, .sentinel, .sentinel, .pinned, .pinned, .pinned], laidTests := true, laidLooks := .later }
def CursorTurnedUptoCardSaid : Prop := Claim7.holds Tryz.pinned (.plain (OpenSpec.upto cursorTurnedSpec)) cursorTurnedUptoCard

/-- THE SECOND FORM's CARD OF 'vellumlaw16.CursorNobody'. -/
def cursorNobodyUptoCard : Claim7 := { stood := { row := cursorNobodyUptoRow, standIns := [], harness := (true, "0f09d3f860f08323fceea09addc384a163e6541d8dab7c4ec191d6784ed568c7"), looks := true }, kinds := [], alts := [], laidByText := true, laidKinds := [.data, .data, .widerDeep, .widerDeep, .data, .data, .data, .data, .data, .data, .sentinel, .sentinel, .widerDeep, .widerDeep, .widerDeep, .data, .pinned, .pinned, .pinned], laidTests := true, laidLooks := .later }
def CursorNobodyUptoCardSaid : Prop := Claim7.holds Tryz.pinned (.plain (OpenSpec.upto cursorNobodySpec)) cursorNobodyUptoCard
end Rows
end Go.Proofs.YtiolbhmbobelcaaGreatDoor
