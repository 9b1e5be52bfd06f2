/- A part of the proof. -/
import Derived.Test.YtefddghdaimklaaGreatDoorBt
import Derived.ChangeOld
import Derived.SizedLaws
set_option linter.unusedVariables false
set_option linter.unusedSimpArgs false
namespace Go.Proofs.YtefddghdaimklaaGreatDoor.AI
open Go Go.ChangeShapes Go.WideShapes Go.ChangeAt Go.RowKit
set_option maxHeartbeats 0 in
theorem og : joinedFacts Tryz.pinned.checked.prog 4 Tryz.f4 (OpenSpec.ofChange Rows.predSoundSpec).bare Rows.predSoundRow = true := by
 unfold joinedFacts
 repeat' with_reducible refine (Bool.and_eq_true _ _).mpr ⟨?_, ?_⟩
 all_goals as_aux_lemma => kernel_rfl
end Go.Proofs.YtefddghdaimklaaGreatDoor.AI
