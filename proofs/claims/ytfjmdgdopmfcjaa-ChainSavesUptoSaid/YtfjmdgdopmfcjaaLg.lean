/- The statement ChainSavesUpto: the law's call answers true at every input that the row lets in whose bulk is at most 1048576, and what is handed in reads as before. -/
import Derived.Test.YtfjmdgdopmfcjaaRows
import Derived.Test.YtfjmdgdopmfcjaaBj
import Derived.Test.YtfjmdgdopmfcjaaBulk
import Derived.ChangeOld
import Derived.SizedLaws
import Derived.JoinedCond
import Derived.Deep.CondSized
set_option linter.unusedVariables false
namespace Go.Proofs.Ytfjmdgdopmfcjaa.AI
open Go Go.ChangeShapes Go.WideShapes Go.ChangeAt Go.RowKit
theorem chainSaves_own : ownKnob Try.prog.godebug = none := by kernel_rfl
theorem chainSaves_laid : laidOutB Try.prog = true := by kernel_rfl
set_option maxRecDepth 100000 in
theorem chainSaves_lifted (os : Os) (started : os.Started) (H : Type) (enc : TypeId × Value → H) (F : Stop.Interp) :
    ReturnsInHanded {} Try.checked os 10 .any ((Rows.OpenSpec.upto Rows.chainSavesSpec).pre6 enc Try.prog Try.f10 Rows.chainSavesUptoRow.domain false) (((Rows.OpenSpec.upto Rows.chainSavesSpec).at F).post enc Try.prog Try.f10 false true false false) := by
  refine returnsInHanded_of_cond_sized (C := Try.checked) (s := Rows.OpenSpec.upto Rows.chainSavesSpec) (k := Rows.uptoSmall) rfl chainSaves_own started (by kernel_rfl) Try.func10
    (OpenSpec.witness (enc := enc) (C := Try.checked) (s := Rows.OpenSpec.upto Rows.chainSavesSpec) (k := Rows.uptoSmall) rfl false ⟨#[], #[.agg #[.int .i64 0, .slice none 0 0], .int .i64 0, .slice none 0 0], []⟩ 8 (by kernel_rfl) (by kernel_rfl) (by kernel_rfl)
      (x := ([.agg [.lit (.int .i64 0), .nil], .lit (.int .i64 0), .nil], [], [])) (by kernel_rfl) rfl (by kernel_rfl)) ?_
  intro W base args ds gs before hval hW hcnd hk hsz _
  exact law_post_upto (Ck := Try.checked) con10_ok Try.func10 (by kernel_rfl) (by kernel_rfl) bulk_is (fun X h h2 => FLB_wf h h2) (by kernel_rfl) chainSaves_laid (by kernel_rfl) rfl (rt := 4) (by kernel_rfl) (by kernel_rfl)
    (fun ds h => by
      have h2 : ds.length = 3 := h.trans (by kernel_rfl)
      match ds, h2 with
      | [d1, d2, d3], _ => rfl) W base args ds gs before hval hW (by rw [← bulk_all]; exact of_decide_eq_true hk) hsz
theorem chainSaves_over : Rows.chainSavesUptoRow.holds Try.pinned (Rows.OpenSpec.upto Rows.chainSavesSpec) :=
  OpenClaim.holds_of_cond 10 Try.f10 rfl rfl rfl rfl rfl rfl rfl ⟨rfl, rfl, rfl, rfl, rfl⟩ rfl rfl rfl rfl rfl (by kernel_rfl) Try.func10 (by kernel_rfl)
    (of_decide_eq_true (by kernel_rfl)) (by unfold Func.isWrapper; first | (rw [if_pos (by decide +kernel)]; kernel_rfl) | (rw [if_neg (by decide +kernel)]; exact ⟨rfl, rfl⟩))
    (fun os started H enc _ F => chainSaves_lifted os started H enc F)
end Go.Proofs.Ytfjmdgdopmfcjaa.AI
namespace Go.Proofs.Ytfjmdgdopmfcjaa
/-- The law, as it is given. -/
theorem chainSavesUpto_holds : Rows.ChainSavesUptoSaid := AI.chainSaves_over
end Go.Proofs.Ytfjmdgdopmfcjaa
