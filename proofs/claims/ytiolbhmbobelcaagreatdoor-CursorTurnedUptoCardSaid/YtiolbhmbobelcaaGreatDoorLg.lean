/- The statement CursorTurnedUpto (the tied card): the law's call answers true at every input that the row lets in whose bulk is at most 1048576, the library's tables laid as the program's text lays them, and what is handed in reads as before. -/
import Derived.Test.YtiolbhmbobelcaaGreatDoorBt
import Derived.Test.YtiolbhmbobelcaaGreatDoorBulk
import Derived.ChangeOld
import Derived.SizedLaws
set_option linter.unusedVariables false
namespace Go.Proofs.YtiolbhmbobelcaaGreatDoor.AI
open Go Go.ChangeShapes Go.WideShapes Go.ChangeAt Go.RowKit
set_option maxHeartbeats 0 in
theorem cursorTurned_facts : joinedFacts Tryz.pinned.checked.prog 3 Tryz.f3 (Rows.OpenSpec.upto Rows.cursorTurnedSpec).bare Rows.cursorTurnedUptoRow = true := by
  unfold joinedFacts
  repeat' with_reducible refine (Bool.and_eq_true _ _).mpr ⟨?_, ?_⟩
  all_goals as_aux_lemma => kernel_rfl
end Go.Proofs.YtiolbhmbobelcaaGreatDoor.AI
