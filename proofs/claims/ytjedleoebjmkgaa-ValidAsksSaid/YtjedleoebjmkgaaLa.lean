/- The statement ValidAsks: the law's call answers true at every input that the row lets in, and what is handed in reads as before. -/
import Derived.Test.YtjedleoebjmkgaaRows
import Derived.Test.YtjedleoebjmkgaaBj
import Derived.ChangeOld
import Derived.SizedLaws
set_option linter.unusedVariables false
namespace Go.Proofs.Ytjedleoebjmkgaa.AI
open Go Go.ChangeShapes Go.WideShapes Go.ChangeAt Go.RowKit
theorem validAsks_own : ownKnob Try.prog.godebug = none := by kernel_rfl
theorem validAsks_laid : laidOutB Try.prog = true := by kernel_rfl
set_option maxRecDepth 100000 in
theorem validAsks_lifted (os : Os) (started : os.Started) (H : Type) (enc : TypeId × Value → H) :
    ReturnsInHanded {} Try.checked os 3 .any (Rows.validAsksSpec.pre6 enc Try.prog Try.f3 Rows.validAsksRow.domain false) (Rows.validAsksSpec.post enc Try.prog Try.f3 false true false false) := by
  refine returnsInHanded_of_change_sized (C := Try.checked) validAsks_own started (by kernel_rfl) Try.func3
    (ChangeSpec.witness6 (enc := enc) (C := Try.checked) false ⟨#[], #[.slice none 0 0, .agg #[.slice none 0 0, .slice none 0 0, .slice none 0 0], .int .u64 0], []⟩ 8 (by kernel_rfl) (by kernel_rfl) (by kernel_rfl) (by kernel_rfl)) ?_
  intro W base args ds gs before hval hW hcnd hsz _
  exact law_post (Ck := Try.checked) con3_ok Try.func3 (by kernel_rfl) (by kernel_rfl) (fun X h => FL_wf h) (by kernel_rfl) validAsks_laid (by kernel_rfl) rfl (rt := 4) (by kernel_rfl) (by kernel_rfl)
    (fun ds h => by
      have h2 : ds.length = 3 := h.trans (by kernel_rfl)
      match ds, h2 with
      | [d1, d2, d3], _ => rfl) W base args ds gs before hval hW hsz ⟨fun _ _ h => h.elim, fun _ _ h => by cases h⟩
theorem validAsks_over : Rows.validAsksRow.holds Try.pinned (OpenSpec.ofChange Rows.validAsksSpec) :=
  OpenClaim.holds_of_wide 3 Try.f3 rfl rfl rfl rfl rfl rfl rfl ⟨rfl, rfl, rfl, rfl, rfl⟩ rfl rfl rfl rfl rfl (by kernel_rfl) Try.func3 (by kernel_rfl)
    (of_decide_eq_true (by kernel_rfl)) (by unfold Func.isWrapper; first | (rw [if_pos (by decide +kernel)]; kernel_rfl) | (rw [if_neg (by decide +kernel)]; exact ⟨rfl, rfl⟩))
    (fun os started H enc _ => validAsks_lifted os started H enc)
end Go.Proofs.Ytjedleoebjmkgaa.AI
namespace Go.Proofs.Ytjedleoebjmkgaa
/-- The law, as it is given. -/
theorem validAsks_holds : Rows.ValidAsksSaid := AI.validAsks_over
end Go.Proofs.Ytjedleoebjmkgaa
