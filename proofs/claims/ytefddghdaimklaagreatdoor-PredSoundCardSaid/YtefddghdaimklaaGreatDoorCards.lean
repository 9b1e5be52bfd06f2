/-
  DERIVED. GIVEN WITH THE SEED: THE CARDS: each row of YtefddghdaimklaaGreatDoorRows.lean that lists a variable, with what it lists TIED to the program's text (the seventh form; the later family's looks); each row that meets fmt, with fmt's text TOLD by the authors' own Lean function (tested against real Go, not proved from fmt's source: count such statements apart). THE CARD IS WHAT COUNTS. Prove the row's statement (the work); the ties are given (YtefddghdaimklaaGreatDoorTie.lean); close each card by the builder's one call (the guide's Derived/Test/ToyasCard.lean, 'card_holds'). Laid BY PROGRAM, IN A SANDBOX (cutbox-door.mjs). By AI agents, Wed Nov 11 2026. No macro, syntax, notation, axiom, sorry.
-/
import Derived.Test.YtefddghdaimklaaGreatDoorRows
import GoSem.ClaimSeven
namespace Go.Proofs.YtefddghdaimklaaGreatDoor
namespace Rows

/-- THE TIED CARD OF 'vellumlaw15.PredBounds'. -/
def predBoundsCard : Claim7 := { stood := { row := predBoundsRow, standIns := [], harness := (true, "81db1d3ac5258b5bd076f739c735744e89abf03c8973a8c6756808faf7015f54"), looks := true }, kinds := [], alts := [], laidByText := true, laidKinds := [.data, .data, .widerDeep, .widerDeep, .data, .data, .data, .data, .data, .data, .sentinel, .sentinel, .widerDeep, .widerDeep, .widerDeep, .data, .data, .widerDeep, .pinned, .pinned, .pinned, .pinned], laidTests := true, laidLooks := .later }
def PredBoundsCardSaid : Prop := Claim7.holds Tryz.pinned (.plain (OpenSpec.ofChange predBoundsSpec)) predBoundsCard

/-- THE TIED CARD OF 'vellumlaw15.PredSound'. -/
def predSoundCard : Claim7 := { stood := { row := predSoundRow, standIns := [], harness := (true, "81db1d3ac5258b5bd076f739c735744e89abf03c8973a8c6756808faf7015f54"), looks := true }, kinds := [], alts := [], laidByText := true, laidKinds := [.data, .data, .widerDeep, .widerDeep, .data, .data, .data, .data, .data, .data, .sentinel, .sentinel, .widerDeep, .widerDeep, .widerDeep, .data, .data, .widerDeep, .pinned, .pinned, .pinned, .pinned], laidTests := true, laidLooks := .later }
def PredSoundCardSaid : Prop := Claim7.holds Tryz.pinned (.plain (OpenSpec.ofChange predSoundSpec)) predSoundCard

/-- THE SECOND FORM's CARD OF 'vellumlaw15.PredBounds'. -/
def predBoundsUptoCard : Claim7 := { stood := { row := predBoundsUptoRow, standIns := [], harness := (true, "81db1d3ac5258b5bd076f739c735744e89abf03c8973a8c6756808faf7015f54"), looks := true }, kinds := [], alts := [], laidByText := true, laidKinds := [.data, .data, .widerDeep, .widerDeep, .data, .data, .data, .data, .data, .data, .sentinel, .sentinel, .widerDeep, .widerDeep, .widerDeep, .data, .data, .widerDeep, .pinned, .pinned, .pinned, .pinned], laidTests := true, laidLooks := .later }
def PredBoundsUptoCardSaid : Prop := Claim7.holds Tryz.pinned (.plain (OpenSpec.upto predBoundsSpec)) predBoundsUptoCard

/-- THE SECOND FORM's CARD OF 'vellumlaw15.PredSound'. -/
def predSoundUptoCard : Claim7 := { stood := { row := predSoundUptoRow, standIns := [], harness := (true, "81db1d3ac5258b5bd076f739c735744e89abf03c8973a8c6756808faf7015f54"), looks := true }, kinds := [], alts := [], laidByText := true, laidKinds := [.data, .data, .widerDeep, .widerDeep, .data, .data, .data, .data, .data, .data, .sentinel, .sentinel, .widerDeep, .widerDeep, .widerDeep, .data, .data, .widerDeep, .pinned, .pinned, .pinned, .pinned], laidTests := true, laidLooks := .later }
def PredSoundUptoCardSaid : Prop := Claim7.holds Tryz.pinned (.plain (OpenSpec.upto predSoundSpec)) predSoundUptoCard
end Rows
end Go.Proofs.YtefddghdaimklaaGreatDoor
