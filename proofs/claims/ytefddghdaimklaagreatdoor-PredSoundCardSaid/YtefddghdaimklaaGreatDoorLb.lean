/- The statement PredSound (the tied card): the law's call answers true at every input that the row lets in, the library's tables laid as the program's text lays them, and what is handed in reads as before. -/
import Derived.Test.YtefddghdaimklaaGreatDoorBt
import Derived.Test.YtefddghdaimklaaGreatDoorLh
import Derived.Test.YtefddghdaimklaaGreatDoorLi
import Derived.ChangeOld
import Derived.SizedLaws
set_option linter.unusedVariables false
set_option linter.unusedSimpArgs false
namespace Go.Proofs.YtefddghdaimklaaGreatDoor.AI
open Go Go.ChangeShapes Go.WideShapes Go.ChangeAt Go.RowKit
set_option maxHeartbeats 0 in
theorem ne : Rows.PredSoundSaid :=
 OpenClaim.holds_of_cond 4 Tryz.f4 rfl rfl rfl rfl rfl rfl rfl ⟨rfl, rfl, rfl, rfl, rfl⟩ rfl rfl rfl rfl rfl (by as_aux_lemma => kernel_rfl) Tryz.func4 og
  (of_decide_eq_true (by as_aux_lemma => kernel_rfl)) (by unfold Func.isWrapper; first | (rw [if_pos (by decide +kernel)]; kernel_rfl) | (rw [if_neg (by decide +kernel)]; exact ⟨rfl, rfl⟩))
  (fun os started H enc _ F => by rw [OpenClaim.pre_eq_preRow]; exact qx os started H enc F)
set_option maxHeartbeats 0 in
theorem pP (f : FuncId) (fn : Func) (hf : Tryz.pinned.checked.prog.funcNamed "vellum/vellumlaw15.PredSound" = some f) (hfn : Tryz.pinned.checked.prog.funcs[f]? = some fn) :
  true = Tryz.pinned.checked.prog.looks [] ∧ ∀ (j : Nat) t, fn.params[j]? = some t → Tryz.pinned.checked.prog.wantsStandIn t = false := by
 obtain rfl : f = 4 := Option.some.inj ((show Tryz.prog.funcNamed "vellum/vellumlaw15.PredSound" = some 4 by kernel_rfl).symm.trans hf) |>.symm
 obtain rfl : fn = Tryz.f4 := (Option.some.inj (Tryz.func4.symm.trans hfn)).symm
 refine ⟨by as_aux_lemma => kernel_rfl, fun j t ht => ?_⟩
 rw [Tryz.params4] at ht
 have hm : t ∈ [36, 23] := by simpa using Array.mem_of_getElem? ht
 have hall : ([36, 23].all fun u => !Tryz.prog.wantsStandIn u) = true := by kernel_rfl
 exact (show Tryz.prog.wantsStandIn t = false by simpa using List.all_eq_true.1 hall t hm)
set_option maxHeartbeats 0 in
theorem predSound_card : Rows.PredSoundCardSaid :=
 Claim7.holds_tied_plain_at .later [] _ _ _ _ ne (fun _ h => by cases h) (by as_aux_lemma => kernel_rfl) (fun _ h => by cases h) predSound_row_tie rfl ⟨rfl, rfl⟩ (by as_aux_lemma => kernel_rfl) rfl pP (by as_aux_lemma => kernel_rfl)
end Go.Proofs.YtefddghdaimklaaGreatDoor.AI
namespace Go.Proofs.YtefddghdaimklaaGreatDoor
theorem predSoundCard_holds : Rows.PredSoundCardSaid := AI.predSound_card
end Go.Proofs.YtefddghdaimklaaGreatDoor
