/- The statement ChainWrites: the law's call answers true at every input that the row lets in, and what is handed in reads as before. -/
import Derived.Test.YtfjmdgdopmfcjaaRows
import Derived.Test.YtfjmdgdopmfcjaaBi
import Derived.ChangeOld
import Derived.SizedLaws
set_option linter.unusedVariables false
namespace Go.Proofs.Ytfjmdgdopmfcjaa.AI
open Go Go.ChangeShapes Go.WideShapes Go.ChangeAt Go.RowKit
theorem chainWrites_own : ownKnob Try.prog.godebug = none := by kernel_rfl
theorem chainWrites_laid : laidOutB Try.prog = true := by kernel_rfl
set_option maxRecDepth 100000 in
theorem chainWrites_lifted (os : Os) (started : os.Started) (H : Type) (enc : TypeId × Value → H) :
    ReturnsInHanded {} Try.checked os 9 .any (Rows.chainWritesSpec.pre6 enc Try.prog Try.f9 Rows.chainWritesRow.domain false) (Rows.chainWritesSpec.post enc Try.prog Try.f9 false true false false) := by
  refine returnsInHanded_of_change_sized (C := Try.checked) chainWrites_own started (by kernel_rfl) Try.func9
    (ChangeSpec.witness6 (enc := enc) (C := Try.checked) false ⟨#[], #[.agg #[.int .i64 0, .slice none 0 0, .int .i64 0, .int .i64 0, .bool false, .slice none 0 0]], []⟩ 8 (by kernel_rfl) (by kernel_rfl) (by kernel_rfl) (by kernel_rfl)) ?_
  intro W base args ds gs before hval hW hcnd hsz _
  exact law_post (Ck := Try.checked) con9_ok Try.func9 (by kernel_rfl) (by kernel_rfl) (fun X h => FL_wf h) (by kernel_rfl) chainWrites_laid (by kernel_rfl) rfl (rt := 4) (by kernel_rfl) (by kernel_rfl)
    (fun ds h => by
      have h2 : ds.length = 1 := h.trans (by kernel_rfl)
      match ds, h2 with
      | [d1], _ => rfl) W base args ds gs before hval hW hsz
theorem chainWrites_over : Rows.chainWritesRow.holds Try.pinned (OpenSpec.ofChange Rows.chainWritesSpec) :=
  OpenClaim.holds_of_wide 9 Try.f9 rfl rfl rfl rfl rfl rfl rfl ⟨rfl, rfl, rfl, rfl, rfl⟩ rfl rfl rfl rfl rfl (by kernel_rfl) Try.func9 (by kernel_rfl)
    (of_decide_eq_true (by kernel_rfl)) (by unfold Func.isWrapper; first | (rw [if_pos (by decide +kernel)]; kernel_rfl) | (rw [if_neg (by decide +kernel)]; exact ⟨rfl, rfl⟩))
    (fun os started H enc _ => chainWrites_lifted os started H enc)
end Go.Proofs.Ytfjmdgdopmfcjaa.AI
namespace Go.Proofs.Ytfjmdgdopmfcjaa
/-- The law, as it is given. -/
theorem chainWrites_holds : Rows.ChainWritesSaid := AI.chainWrites_over
end Go.Proofs.Ytfjmdgdopmfcjaa
