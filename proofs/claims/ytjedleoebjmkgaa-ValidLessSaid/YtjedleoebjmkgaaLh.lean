/- The statement ValidLess: the law's call answers true at every input that the row lets in, and what is handed in reads as before. -/
import Derived.Test.YtjedleoebjmkgaaRows
import Derived.Test.YtjedleoebjmkgaaBk
import Derived.ChangeOld
import Derived.SizedLaws
set_option linter.unusedVariables false
namespace Go.Proofs.Ytjedleoebjmkgaa.AI
open Go Go.ChangeShapes Go.WideShapes Go.ChangeAt Go.RowKit
theorem validLess_own : ownKnob Try.prog.godebug = none := by kernel_rfl
theorem validLess_laid : laidOutB Try.prog = true := by kernel_rfl
set_option maxRecDepth 100000 in
theorem validLess_lifted (os : Os) (started : os.Started) (H : Type) (enc : TypeId × Value → H) :
    ReturnsInHanded {} Try.checked os 5 .any (Rows.validLessSpec.pre6 enc Try.prog Try.f5 Rows.validLessRow.domain false) (Rows.validLessSpec.post enc Try.prog Try.f5 false true false false) := by
  refine returnsInHanded_of_change_sized (C := Try.checked) validLess_own started (by kernel_rfl) Try.func5
    (ChangeSpec.witness6 (enc := enc) (C := Try.checked) false ⟨#[], #[.slice none 0 0, .agg #[.int .u64 0, .slice none 0 0, .slice none 0 0, .slice none 0 0, .int .i64 0], .agg #[.int .i64 0, .int .i64 0, .int .i64 0]], []⟩ 8 (by kernel_rfl) (by kernel_rfl) (by kernel_rfl) (by kernel_rfl)) ?_
  intro W base args ds gs before hval hW hcnd hsz _
  exact law_post (Ck := Try.checked) con5_ok Try.func5 (by kernel_rfl) (by kernel_rfl) (fun X h => FL_wf h) (by kernel_rfl) validLess_laid (by kernel_rfl) rfl (rt := 4) (by kernel_rfl) (by kernel_rfl)
    (fun ds h => by
      have h2 : ds.length = 3 := h.trans (by kernel_rfl)
      match ds, h2 with
      | [d1, d2, d3], _ => rfl) W base args ds gs before hval hW hsz ⟨fun _ _ h => h.elim, fun _ _ h => by cases h⟩
theorem validLess_over : Rows.validLessRow.holds Try.pinned (OpenSpec.ofChange Rows.validLessSpec) :=
  OpenClaim.holds_of_wide 5 Try.f5 rfl rfl rfl rfl rfl rfl rfl ⟨rfl, rfl, rfl, rfl, rfl⟩ rfl rfl rfl rfl rfl (by kernel_rfl) Try.func5 (by kernel_rfl)
    (of_decide_eq_true (by kernel_rfl)) (by unfold Func.isWrapper; first | (rw [if_pos (by decide +kernel)]; kernel_rfl) | (rw [if_neg (by decide +kernel)]; exact ⟨rfl, rfl⟩))
    (fun os started H enc _ => validLess_lifted os started H enc)
end Go.Proofs.Ytjedleoebjmkgaa.AI
namespace Go.Proofs.Ytjedleoebjmkgaa
/-- The law, as it is given. -/
theorem validLess_holds : Rows.ValidLessSaid := AI.validLess_over
end Go.Proofs.Ytjedleoebjmkgaa
