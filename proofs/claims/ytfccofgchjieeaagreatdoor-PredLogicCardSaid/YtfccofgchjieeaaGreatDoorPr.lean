/- Runs of told data, that the kernel makes: what awake asks of lex and Parse. -/
import Derived.Test.YtfccofgchjieeaaGreatDoorBx
set_option linter.unusedVariables false
namespace Go.Proofs.YtfccofgchjieeaaGreatDoor.AI
open Go
set_option maxRecDepth 100000 in
theorem run60 : f60.g 60 = some (toksA, true) := by kernel_rfl
set_option maxRecDepth 100000 in
theorem run258a : f258.g0 60 = some (intV 1, 0) := by kernel_rfl
set_option maxRecDepth 100000 in
theorem run258b : f258.g1 60 = some (intV 5, 0) := by kernel_rfl
set_option maxRecDepth 100000 in
theorem run258c : f258.g2 60 = some (zeroV, 11) := by kernel_rfl
set_option maxRecDepth 100000 in
theorem run30 : f30.g 60 = some (exprA, 0) := by kernel_rfl
end Go.Proofs.YtfccofgchjieeaaGreatDoor.AI
