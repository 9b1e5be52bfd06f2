/-
  DERIVED. GIVEN WITH THE SEED: THE CARDS: each row of YtfgfdpbeddnfhaaGreatDoorRows.lean that lists a variable, with what it lists TIED to the program's text (the seventh form; the later family's looks); each row that meets fmt, with fmt's text TOLD by the authors' own Lean function (tested against real Go, not proved from fmt's source: count such statements apart). THE CARD IS WHAT COUNTS. Prove the row's statement (the work); the ties are given (YtfgfdpbeddnfhaaGreatDoorTie.lean); close each card by the builder's one call (the guide's Derived/Test/ToyasCard.lean, 'card_holds'). Laid BY PROGRAM, IN A SANDBOX (cutbox-door.mjs). By AI agents, Wed Nov 11 2026. No macro, syntax, notation, axiom, sorry.
-/
import Derived.Test.YtfgfdpbeddnfhaaGreatDoorRows
import GoSem.ClaimSeven
namespace Go.Proofs.YtfgfdpbeddnfhaaGreatDoor
namespace Rows

/-- THE TIED CARD OF 'vellumlaw03.SchemaNames'. -/
def schemaNamesCard : Claim7 := { stood := { row := schemaNamesRow, standIns := [], harness := (true, "87ed25e9985085a9f82d7fbc3a26d01c29ff04b3acfa6bb6b34b8d713e58cd1e"), looks := false }, kinds := [], alts := [], laidByText := true, laidKinds := [.data, .data, .data, .data, .data, .widerDeep, .pinned, .pinned, .pinned], laidTests := true, laidLooks := .later }
def SchemaNamesCardSaid : Prop := Claim7.holds Tryz.pinned (.plain (OpenSpec.ofChange schemaNamesSpec)) schemaNamesCard

/-- THE TIED CARD OF 'vellumlaw03.SchemaChecks'. -/
def schemaChecksCard : Claim7 := { stood := { row := schemaChecksRow, standIns := [], harness := (true, "87ed25e9985085a9f82d7fbc3a26d01c29ff04b3acfa6bb6b34b8d713e58cd1e"), looks := false }, kinds := [], alts := [], laidByText := true, laidKinds := [.data, .data, .data, .data, .data, .widerDeep, .pinned, .pinned, .pinned], laidTests := true, laidLooks := .later }
def SchemaChecksCardSaid : Prop := Claim7.holds Tryz.pinned (.plain (OpenSpec.ofChange schemaChecksSpec)) schemaChecksCard

/-- THE TIED CARD OF 'vellumlaw03.SchemaAdmits'. -/
def schemaAdmitsCard : Claim7 := { stood := { row := schemaAdmitsRow, standIns := [], harness := (true, "87ed25e9985085a9f82d7fbc3a26d01c29ff04b3acfa6bb6b34b8d713e58cd1e"), looks := false }, kinds := [], alts := [], laidByText := true, laidKinds := [.data, .data, .data, .data, .data, .widerDeep, .pinned, .pinned, .pinned], laidTests := true, laidLooks := .later }
def SchemaAdmitsCardSaid : Prop := Claim7.holds Tryz.pinned (.plain (OpenSpec.ofChange schemaAdmitsSpec)) schemaAdmitsCard

/-- THE TIED CARD OF 'vellumlaw03.SchemaFills'. -/
def schemaFillsCard : Claim7 := { stood := { row := schemaFillsRow, standIns := [], harness := (true, "87ed25e9985085a9f82d7fbc3a26d01c29ff04b3acfa6bb6b34b8d713e58cd1e"), looks := false }, kinds := [], alts := [], laidByText := true, laidKinds := [.data, .data, .data, .data, .data, .widerDeep, .pinned, .pinned, .pinned], laidTests := true, laidLooks := .later }
def SchemaFillsCardSaid : Prop := Claim7.holds Tryz.pinned (.plain (OpenSpec.ofChange schemaFillsSpec)) schemaFillsCard

/-- THE TIED CARD OF 'vellumlaw03.SchemaColumns'. -/
def schemaColumnsCard : Claim7 := { stood := { row := schemaColumnsRow, standIns := [], harness := (true, "87ed25e9985085a9f82d7fbc3a26d01c29ff04b3acfa6bb6b34b8d713e58cd1e"), looks := false }, kinds := [], alts := [], laidByText := true, laidKinds := [.data, .data, .data, .data, .data, .widerDeep, .pinned, .pinned, .pinned], laidTests := true, laidLooks := .later }
def SchemaColumnsCardSaid : Prop := Claim7.holds Tryz.pinned (.plain (OpenSpec.ofChange schemaColumnsSpec)) schemaColumnsCard

/-- THE SECOND FORM's CARD OF 'vellumlaw03.SchemaNames'. -/
def schemaNamesUptoCard : Claim7 := { stood := { row := schemaNamesUptoRow, standIns := [], harness := (true, "87ed25e9985085a9f82d7fbc3a26d01c29ff04b3acfa6bb6b34b8d713e58cd1e"), looks := false }, kinds := [], alts := [], laidByText := true, laidKinds := [.data, .data, .data, .data, .data, .widerDeep, .pinned, .pinned, .pinned], laidTests := true, laidLooks := .later }
def SchemaNamesUptoCardSaid : Prop := Claim7.holds Tryz.pinned (.plain (OpenSpec.upto schemaNamesSpec)) schemaNamesUptoCard

/-- THE SECOND FORM's CARD OF 'vellumlaw03.SchemaChecks'. -/
def schemaChecksUptoCard : Claim7 := { stood := { row := schemaChecksUptoRow, standIns := [], harness := (true, "87ed25e9985085a9f82d7fbc3a26d01c29ff04b3acfa6bb6b34b8d713e58cd1e"), looks := false }, kinds := [], alts := [], laidByText := true, laidKinds := [.data, .data, .data, .data, .data, .widerDeep, .pinned, .pinned, .pinned], laidTests := true, laidLooks := .later }
def SchemaChecksUptoCardSaid : Prop := Claim7.holds Tryz.pinned (.plain (OpenSpec.upto schemaChecksSpec)) schemaChecksUptoCard

/-- THE SECOND FORM's CARD OF 'vellumlaw03.SchemaAdmits'. -/
def schemaAdmitsUptoCard : Claim7 := { stood := { row := schemaAdmitsUptoRow, standIns := [], harness := (true, "87ed25e9985085a9f82d7fbc3a26d01c29ff04b3acfa6bb6b34b8d713e58cd1e"), looks := false }, kinds := [], alts := [], laidByText := true, laidKinds := [.data, .data, .data, .data, .data, .widerDeep, .pinned, .pinned, .pinned], laidTests := true, laidLooks := .later }
def SchemaAdmitsUptoCardSaid : Prop := Claim7.holds Tryz.pinned (.plain (OpenSpec.upto schemaAdmitsSpec)) schemaAdmitsUptoCard

/-- THE SECOND FORM's CARD OF 'vellumlaw03.SchemaFills'. -/
def schemaFillsUptoCard : Claim7 := { stood := { row := schemaFillsUptoRow, standIns := [], harness := (true, "87ed25e9985085a9f82d7fbc3a26d01c29ff04b3acfa6bb6b34b8d713e58cd1e"), looks := false }, kinds := [], alts := [], laidByText := true, laidKinds := [.data, .data, .data, .data, .data, .widerDeep, .pinned, .pinned, .pinned], laidTests := true, laidLooks := .later }
def SchemaFillsUptoCardSaid : Prop := Claim7.holds Tryz.pinned (.plain (OpenSpec.upto schemaFillsSpec)) schemaFillsUptoCard

/-- THE SECOND FORM's CARD OF 'vellumlaw03.SchemaColumns'. -/
def schemaColumnsUptoCard : Claim7 := { stood := { row := schemaColumnsUptoRow, standIns := [], harness := (true, "87ed25e9985085a9f82d7fbc3a26d01c29ff04b3acfa6bb6b34b8d713e58cd1e"), looks := false }, kinds := [], alts := [], laidByText := true, laidKinds := [.data, .data, .data, .data, .data, .widerDeep, .pinned, .pinned, .pinned], laidTests := true, laidLooks := .later }
def SchemaColumnsUptoCardSaid : Prop := Claim7.holds Tryz.pinned (.plain (OpenSpec.upto schemaColumnsSpec)) schemaColumnsUptoCard
end Rows
end Go.Proofs.YtfgfdpbeddnfhaaGreatDoor
