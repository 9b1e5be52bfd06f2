/- The statement SchemaColumns (the tied card): the law's call answers true at every input that the row lets in, the library's tables laid as the program's text lays them, and what is handed in reads as before. -/
import Derived.Test.YtfgfdpbeddnfhaaGreatDoorBt
import Derived.Test.YtfgfdpbeddnfhaaGreatDoorBi
import Derived.ChangeOld
import Derived.SizedLaws
set_option linter.unusedVariables false
namespace Go.Proofs.YtfgfdpbeddnfhaaGreatDoor.AI
open Go Go.ChangeShapes Go.WideShapes Go.ChangeAt Go.RowKit
set_option maxRecDepth 100000 in
theorem schemaColumns_lifted (os : Os) (started : os.Started) (H : Type) (enc : TypeId × Value → H) (F : Stop.Interp) :
    ReturnsInHanded {} Tryz.checked os 7 .any ((OpenSpec.ofChange Rows.schemaColumnsSpec).preRow enc Tryz.prog Tryz.f7 Rows.schemaColumnsRow.domain false Rows.schemaColumnsRow.laid) (((OpenSpec.ofChange Rows.schemaColumnsSpec).at F).post enc Tryz.prog Tryz.f7 false true false false) := by
  have hx : DataW.whole enc Tryz.prog ((World.laidAll Tryz.prog os laidAll).forCall (fun _ _ => 0) ⟨#[], #[.agg #[.string ⟨#[]⟩, .slice none 0 0, .slice none 0 0, .slice none 0 0, .slice none 0 0], .string ⟨#[]⟩], []⟩).memory Tryz.f7.params.toList Rows.schemaColumnsSpec.vars false #[.agg #[.string ⟨#[]⟩, .slice none 0 0, .slice none 0 0, .slice none 0 0, .slice none 0 0], .string ⟨#[]⟩].toList 8 = some ([.agg [.lit (.string []), .nil, .nil, .nil, .nil], .lit (.string [])], [], []) := by kernel_rfl
  have hok : Input.okWideB Tryz.prog ((World.laidAll Tryz.prog os laidAll).forCall (fun _ _ => 0) ⟨#[], #[.agg #[.string ⟨#[]⟩, .slice none 0 0, .slice none 0 0, .slice none 0 0, .slice none 0 0], .string ⟨#[]⟩], []⟩) 7 ⟨#[], #[.agg #[.string ⟨#[]⟩, .slice none 0 0, .slice none 0 0, .slice none 0 0, .slice none 0 0], .string ⟨#[]⟩], []⟩ = true := by kernel_rfl
  refine returnsInHanded_of_row (C := Tryz.checked) (s := OpenSpec.ofChange Rows.schemaColumnsSpec) own started (by kernel_rfl) Tryz.func7
    ⟨World.laidAll Tryz.prog os laidAll, fun _ _ => 0, ⟨#[], #[.agg #[.string ⟨#[]⟩, .slice none 0 0, .slice none 0 0, .slice none 0 0, .slice none 0 0], .string ⟨#[]⟩], []⟩, World.laidAll_os _ _ _, World.shaped_of_ZipB (by kernel_rfl) (by kernel_rfl), (Input.okWide_of_okWideB (base := 0) hok).1, (Input.okWide_of_okWideB hok).2,
      OpenSpec.preRow_of_cond 8 hx (by kernel_rfl) (fun k hk => by cases hk) (by kernel_rfl) (by
        show laidMetH Tryz.prog laidAll _
        rw [plainLaid]
        exact laidMet_laidAll _ (laidFits os) (laidIfaces os)), by
      simp only [Assume.holds]
      exact ⟨by simp, by simp, fun _ => Modest.zero, by simp, by simp⟩⟩ ?_
  intro W base args ds gs before hval hW hcnd hk hsz hL hS _
  have hL' : laidMet Tryz.prog laidAll W := by rw [← plainLaid]; exact hL
  exact law_post (Ck := Tryz.checked) con7_ok Tryz.func7 (by kernel_rfl) (by kernel_rfl) (fun X h => FL_wf h) (by kernel_rfl) laidOut (by kernel_rfl) rfl (rt := 4) (by kernel_rfl) (by kernel_rfl)
    (fun ds h => by
      have h2 : ds.length = 2 := h.trans (by kernel_rfl)
      match ds, h2 with
      | [d1, d2], _ => rfl) W base args ds gs before hval hW hsz (tabs_of_laid hL' hS)
theorem schemaColumns_said : Rows.SchemaColumnsSaid :=
  OpenClaim.holds_of_cond 7 Tryz.f7 rfl rfl rfl rfl rfl rfl rfl ⟨rfl, rfl, rfl, rfl, rfl⟩ rfl rfl rfl rfl rfl (by kernel_rfl) Tryz.func7 (by kernel_rfl)
    (of_decide_eq_true (by kernel_rfl)) (by unfold Func.isWrapper; first | (rw [if_pos (by decide +kernel)]; kernel_rfl) | (rw [if_neg (by decide +kernel)]; exact ⟨rfl, rfl⟩))
    (fun os started H enc _ F => by rw [OpenClaim.pre_eq_preRow]; exact schemaColumns_lifted os started H enc F)
theorem schemaColumns_plain (f : FuncId) (fn : Func) (hf : Tryz.pinned.checked.prog.funcNamed "vellum/vellumlaw03.SchemaColumns" = some f) (hfn : Tryz.pinned.checked.prog.funcs[f]? = some fn) :
    false = Tryz.pinned.checked.prog.looks [] ∧ ∀ (j : Nat) t, fn.params[j]? = some t → Tryz.pinned.checked.prog.wantsStandIn t = false := by
  obtain rfl : f = 7 := Option.some.inj ((show Tryz.prog.funcNamed "vellum/vellumlaw03.SchemaColumns" = some 7 by kernel_rfl).symm.trans hf) |>.symm
  obtain rfl : fn = Tryz.f7 := (Option.some.inj (Tryz.func7.symm.trans hfn)).symm
  refine ⟨by kernel_rfl, fun j t ht => ?_⟩
  rw [Tryz.params7] at ht
  have hm : t ∈ [29,9] := by simpa using Array.mem_of_getElem? ht
  have hall : ([29,9].all fun u => !Tryz.prog.wantsStandIn u) = true := by kernel_rfl
  exact (show Tryz.prog.wantsStandIn t = false by simpa using List.all_eq_true.1 hall t hm)
theorem schemaColumns_card : Rows.SchemaColumnsCardSaid :=
  Claim7.holds_tied_plain_at .later [] _ _ _ _ schemaColumns_said (fun _ h => by cases h) (by kernel_rfl) (fun _ h => by cases h) schemaColumns_row_tie rfl ⟨rfl, rfl⟩ (by kernel_rfl) rfl schemaColumns_plain (by kernel_rfl)
end Go.Proofs.YtfgfdpbeddnfhaaGreatDoor.AI
namespace Go.Proofs.YtfgfdpbeddnfhaaGreatDoor
/-- The law's card, as it is given. -/
theorem schemaColumnsCard_holds : Rows.SchemaColumnsCardSaid := AI.schemaColumns_card
end Go.Proofs.YtfgfdpbeddnfhaaGreatDoor
