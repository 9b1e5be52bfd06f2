/- The statement ChainKeeps: the law's call answers true at every input that the row lets in, and what is handed in reads as before. -/
import Derived.Test.YtfjmdgdopmfcjaaRows
import Derived.Test.YtfjmdgdopmfcjaaBg
import Derived.ChangeOld
import Derived.SizedLaws
set_option linter.unusedVariables false
namespace Go.Proofs.Ytfjmdgdopmfcjaa.AI
open Go Go.ChangeShapes Go.WideShapes Go.ChangeAt Go.RowKit
theorem chainKeeps_own : ownKnob Try.prog.godebug = none := by kernel_rfl
theorem chainKeeps_laid : laidOutB Try.prog = true := by kernel_rfl
set_option maxRecDepth 100000 in
theorem chainKeeps_lifted (os : Os) (started : os.Started) (H : Type) (enc : TypeId × Value → H) :
    ReturnsInHanded {} Try.checked os 8 .any (Rows.chainKeepsSpec.pre6 enc Try.prog Try.f8 Rows.chainKeepsRow.domain false) (Rows.chainKeepsSpec.post enc Try.prog Try.f8 false true false false) := by
  refine returnsInHanded_of_change_sized (C := Try.checked) chainKeeps_own started (by kernel_rfl) Try.func8
    (ChangeSpec.witness6 (enc := enc) (C := Try.checked) false ⟨#[], #[.slice none 0 0, .int .u64 0, .int .u64 0], []⟩ 8 (by kernel_rfl) (by kernel_rfl) (by kernel_rfl) (by kernel_rfl)) ?_
  intro W base args ds gs before hval hW hcnd hsz _
  exact law_post (Ck := Try.checked) con8_ok Try.func8 (by kernel_rfl) (by kernel_rfl) (fun X h => FL_wf h) (by kernel_rfl) chainKeeps_laid (by kernel_rfl) rfl (rt := 4) (by kernel_rfl) (by kernel_rfl)
    (fun ds h => by
      have h2 : ds.length = 3 := h.trans (by kernel_rfl)
      match ds, h2 with
      | [d1, d2, d3], _ => rfl) W base args ds gs before hval hW hsz
theorem chainKeeps_over : Rows.chainKeepsRow.holds Try.pinned (OpenSpec.ofChange Rows.chainKeepsSpec) :=
  OpenClaim.holds_of_wide 8 Try.f8 rfl rfl rfl rfl rfl rfl rfl ⟨rfl, rfl, rfl, rfl, rfl⟩ rfl rfl rfl rfl rfl (by kernel_rfl) Try.func8 (by kernel_rfl)
    (of_decide_eq_true (by kernel_rfl)) (by unfold Func.isWrapper; first | (rw [if_pos (by decide +kernel)]; kernel_rfl) | (rw [if_neg (by decide +kernel)]; exact ⟨rfl, rfl⟩))
    (fun os started H enc _ => chainKeeps_lifted os started H enc)
end Go.Proofs.Ytfjmdgdopmfcjaa.AI
namespace Go.Proofs.Ytfjmdgdopmfcjaa
/-- The law, as it is given. -/
theorem chainKeeps_holds : Rows.ChainKeepsSaid := AI.chainKeeps_over
end Go.Proofs.Ytfjmdgdopmfcjaa
