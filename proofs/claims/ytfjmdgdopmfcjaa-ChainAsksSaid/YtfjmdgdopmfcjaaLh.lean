/- The statement ChainAsks: the law's call answers true at every input that the row lets in, and what is handed in reads as before. -/
import Derived.Test.YtfjmdgdopmfcjaaRows
import Derived.Test.YtfjmdgdopmfcjaaBk
import Derived.ChangeOld
import Derived.SizedLaws
set_option linter.unusedVariables false
namespace Go.Proofs.Ytfjmdgdopmfcjaa.AI
open Go Go.ChangeShapes Go.WideShapes Go.ChangeAt Go.RowKit
theorem chainAsks_own : ownKnob Try.prog.godebug = none := by kernel_rfl
theorem chainAsks_laid : laidOutB Try.prog = true := by kernel_rfl
set_option maxRecDepth 100000 in
theorem chainAsks_lifted (os : Os) (started : os.Started) (H : Type) (enc : TypeId × Value → H) :
    ReturnsInHanded {} Try.checked os 6 .any (Rows.chainAsksSpec.pre6 enc Try.prog Try.f6 Rows.chainAsksRow.domain false) (Rows.chainAsksSpec.post enc Try.prog Try.f6 false true false false) := by
  refine returnsInHanded_of_change_sized (C := Try.checked) chainAsks_own started (by kernel_rfl) Try.func6
    (ChangeSpec.witness6 (enc := enc) (C := Try.checked) false ⟨#[], #[.slice none 0 0, .int .i64 0, .agg #[.int .u64 0, .int .u64 0]], []⟩ 8 (by kernel_rfl) (by kernel_rfl) (by kernel_rfl) (by kernel_rfl)) ?_
  intro W base args ds gs before hval hW hcnd hsz _
  exact law_post (Ck := Try.checked) con6_ok Try.func6 (by kernel_rfl) (by kernel_rfl) (fun X h => FL_wf h) (by kernel_rfl) chainAsks_laid (by kernel_rfl) rfl (rt := 4) (by kernel_rfl) (by kernel_rfl)
    (fun ds h => by
      have h2 : ds.length = 3 := h.trans (by kernel_rfl)
      match ds, h2 with
      | [d1, d2, d3], _ => rfl) W base args ds gs before hval hW hsz
theorem chainAsks_over : Rows.chainAsksRow.holds Try.pinned (OpenSpec.ofChange Rows.chainAsksSpec) :=
  OpenClaim.holds_of_wide 6 Try.f6 rfl rfl rfl rfl rfl rfl rfl ⟨rfl, rfl, rfl, rfl, rfl⟩ rfl rfl rfl rfl rfl (by kernel_rfl) Try.func6 (by kernel_rfl)
    (of_decide_eq_true (by kernel_rfl)) (by unfold Func.isWrapper; first | (rw [if_pos (by decide +kernel)]; kernel_rfl) | (rw [if_neg (by decide +kernel)]; exact ⟨rfl, rfl⟩))
    (fun os started H enc _ => chainAsks_lifted os started H enc)
end Go.Proofs.Ytfjmdgdopmfcjaa.AI
namespace Go.Proofs.Ytfjmdgdopmfcjaa
/-- The law, as it is given. -/
theorem chainAsks_holds : Rows.ChainAsksSaid := AI.chainAsks_over
end Go.Proofs.Ytfjmdgdopmfcjaa
