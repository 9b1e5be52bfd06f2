/-
  DERIVED. GIVEN WITH THE SEED: THE CARDS: each row of YthkigadgbckpoaaGreatDoorRows.lean that lists a variable, with what it lists TIED to the program's text (the seventh form; the later family's looks); each row that meets fmt, with fmt's text TOLD by the authors' own Lean function (tested against real Go, not proved from fmt's source: count such statements apart). THE CARD IS WHAT COUNTS. Prove the row's statement (the work); the ties are given (YthkigadgbckpoaaGreatDoorTie.lean); close each card by the builder's one call (the guide's Derived/Test/ToyasCard.lean, 'card_holds'). Laid BY PROGRAM, IN A SANDBOX (cutbox-door.mjs). By AI agents, Wed Nov 11 2026. No macro, syntax, notation, axiom, sorry.
-/
import Derived.Test.YthkigadgbckpoaaGreatDoorRows
import GoSem.ClaimSeven
namespace Go.Proofs.YthkigadgbckpoaaGreatDoor
namespace Rows

/-- THE TIED CARD OF 'vellumlaw01.ValueBetween'. -/
def valueBetweenCard : Claim7 := { stood := { row := valueBetweenRow, standIns := [], harness := (true, "963e4c5df1aa480bac6d8c032d4b03028e5cf95517cc159ee49ea3968a64316a"), looks := true }, kinds := [], alts := [], laidByText := true, laidKinds := [.data, .data, .widerDeep, .widerDeep, .data, .data, .data, .data, .data, .data, .sentinel, .sentinel, .pinned, .pinned, .pinned], laidTests := true, laidLooks := .later }
def ValueBetweenCardSaid : Prop := Claim7.holds Tryz.pinned (.plain (OpenSpec.ofChange valueBetweenSpec)) valueBetweenCard

/-- THE SECOND FORM's CARD OF 'vellumlaw01.ValueBetween'. -/
def valueBetweenUptoCard : Claim7 := { stood := { row := valueBetweenUptoRow, standIns := [], harness := (true, "963e4c5df1aa480bac6d8c032d4b03028e5cf95517cc159ee49ea3968a64316a"), looks := true }, kinds := [], alts := [], laidByText := true, laidKinds := [.data, .data, .widerDeep, .widerDeep, .data, .data, .data, .data, .data, .data, .sentinel, .sentinel, .pinned, .pinned, .pinned], laidTests := true, laidLooks := .later }
def ValueBetweenUptoCardSaid : Prop := Claim7.holds Tryz.pinned (.plain (OpenSpec.upto valueBetweenSpec)) valueBetweenUptoCard
end Rows
end Go.Proofs.YthkigadgbckpoaaGreatDoor
