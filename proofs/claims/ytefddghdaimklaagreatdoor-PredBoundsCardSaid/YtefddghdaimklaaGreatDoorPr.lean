/- A part of the proof. -/
import Derived.Test.YtefddghdaimklaaGreatDoorBx
set_option linter.unusedVariables false
set_option linter.unusedSimpArgs false
namespace Go.Proofs.YtefddghdaimklaaGreatDoor.AI
open Go
set_option maxRecDepth 100000 in
theorem O9 : f59.g 60 = some (Py, true) := by kernel_rfl
set_option maxRecDepth 100000 in
theorem UN : f219.g0 60 = some (ci 1, 0) := by kernel_rfl
set_option maxRecDepth 100000 in
theorem Te : f219.g1 60 = some (ci 5, 0) := by kernel_rfl
set_option maxRecDepth 100000 in
theorem U0 : f219.g2 60 = some (zeroV, 11) := by kernel_rfl
set_option maxRecDepth 100000 in
theorem Nl : f32.g 60 = some (iA, 0) := by kernel_rfl
end Go.Proofs.YtefddghdaimklaaGreatDoor.AI
