/- A part of the proof. -/
import Derived.Test.YtefddghdaimklaaGreatDoorBx
set_option linter.unusedVariables false
set_option linter.unusedSimpArgs false
namespace Go.Proofs.YtefddghdaimklaaGreatDoor.AI
open Go
set_option maxRecDepth 100000 in
theorem Pq : f59.g 60 = some (RO, true) := by kernel_rfl
set_option maxRecDepth 100000 in
theorem SC : f219.g0 60 = some (db 1, 0) := by kernel_rfl
set_option maxRecDepth 100000 in
theorem Sy : f219.g1 60 = some (db 5, 0) := by kernel_rfl
set_option maxRecDepth 100000 in
theorem Uk : f219.g2 60 = some (zeroV, 11) := by kernel_rfl
set_option maxRecDepth 100000 in
theorem PE : f32.g 60 = some (j9, 0) := by kernel_rfl
end Go.Proofs.YtefddghdaimklaaGreatDoor.AI
