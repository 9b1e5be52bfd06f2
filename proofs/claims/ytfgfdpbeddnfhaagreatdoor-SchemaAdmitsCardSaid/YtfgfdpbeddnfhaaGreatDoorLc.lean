/- The statement SchemaAdmits (the tied card): the law's call answers true at every input that the row lets in, the library's tables laid as the program's text lays them, and what is handed in reads as before. -/
import Derived.Test.YtfgfdpbeddnfhaaGreatDoorBt
import Derived.Test.YtfgfdpbeddnfhaaGreatDoorBi
import Derived.ChangeOld
import Derived.SizedLaws
set_option linter.unusedVariables false
namespace Go.Proofs.YtfgfdpbeddnfhaaGreatDoor.AI
open Go Go.ChangeShapes Go.WideShapes Go.ChangeAt Go.RowKit
set_option maxRecDepth 100000 in
theorem schemaAdmits_lifted (os : Os) (started : os.Started) (H : Type) (enc : TypeId × Value → H) (F : Stop.Interp) :
    ReturnsInHanded {} Tryz.checked os 5 .any ((OpenSpec.ofChange Rows.schemaAdmitsSpec).preRow enc Tryz.prog Tryz.f5 Rows.schemaAdmitsRow.domain false Rows.schemaAdmitsRow.laid) (((OpenSpec.ofChange Rows.schemaAdmitsSpec).at F).post enc Tryz.prog Tryz.f5 false true false false) := by
  have hx : DataW.whole enc Tryz.prog ((World.laidAll Tryz.prog os laidAll).forCall (fun _ _ => 0) ⟨#[], #[.agg #[.string ⟨#[]⟩, .slice none 0 0, .slice none 0 0, .slice none 0 0, .slice none 0 0], .slice none 0 0], []⟩).memory Tryz.f5.params.toList Rows.schemaAdmitsSpec.vars false #[.agg #[.string ⟨#[]⟩, .slice none 0 0, .slice none 0 0, .slice none 0 0, .slice none 0 0], .slice none 0 0].toList 8 = some ([.agg [.lit (.string []), .nil, .nil, .nil, .nil], .nil], [], []) := by kernel_rfl
  have hok : Input.okWideB Tryz.prog ((World.laidAll Tryz.prog os laidAll).forCall (fun _ _ => 0) ⟨#[], #[.agg #[.string ⟨#[]⟩, .slice none 0 0, .slice none 0 0, .slice none 0 0, .slice none 0 0], .slice none 0 0], []⟩) 5 ⟨#[], #[.agg #[.string ⟨#[]⟩, .slice none 0 0, .slice none 0 0, .slice none 0 0, .slice none 0 0], .slice none 0 0], []⟩ = true := by kernel_rfl
  refine returnsInHanded_of_row (C := Tryz.checked) (s := OpenSpec.ofChange Rows.schemaAdmitsSpec) own started (by kernel_rfl) Tryz.func5
    ⟨World.laidAll Tryz.prog os laidAll, fun _ _ => 0, ⟨#[], #[.agg #[.string ⟨#[]⟩, .slice none 0 0, .slice none 0 0, .slice none 0 0, .slice none 0 0], .slice none 0 0], []⟩, World.laidAll_os _ _ _, World.shaped_of_ZipB (by kernel_rfl) (by kernel_rfl), (Input.okWide_of_okWideB (base := 0) hok).1, (Input.okWide_of_okWideB hok).2,
      OpenSpec.preRow_of_cond 8 hx (by kernel_rfl) (fun k hk => by cases hk) (by kernel_rfl) (by
        show laidMetH Tryz.prog laidAll _
        rw [plainLaid]
        exact laidMet_laidAll _ (laidFits os) (laidIfaces os)), by
      simp only [Assume.holds]
      exact ⟨by simp, by simp, fun _ => Modest.zero, by simp, by simp⟩⟩ ?_
  intro W base args ds gs before hval hW hcnd hk hsz hL hS _
  have hL' : laidMet Tryz.prog laidAll W := by rw [← plainLaid]; exact hL
  exact law_post (Ck := Tryz.checked) con5_ok Tryz.func5 (by kernel_rfl) (by kernel_rfl) (fun X h => FL_wf h) (by kernel_rfl) laidOut (by kernel_rfl) rfl (rt := 4) (by kernel_rfl) (by kernel_rfl)
    (fun ds h => by
      have h2 : ds.length = 2 := h.trans (by kernel_rfl)
      match ds, h2 with
      | [d1, d2], _ => rfl) W base args ds gs before hval hW hsz (tabs_of_laid hL' hS)
theorem schemaAdmits_said : Rows.SchemaAdmitsSaid :=
  OpenClaim.holds_of_cond 5 Tryz.f5 rfl rfl rfl rfl rfl rfl rfl ⟨rfl, rfl, rfl, rfl, rfl⟩ rfl rfl rfl rfl rfl (by kernel_rfl) Tryz.func5 (by kernel_rfl)
    (of_decide_eq_true (by kernel_rfl)) (by unfold Func.isWrapper; first | (rw [if_pos (by decide +kernel)]; kernel_rfl) | (rw [if_neg (by decide +kernel)]; exact ⟨rfl, rfl⟩))
    (fun os started H enc _ F => by rw [OpenClaim.pre_eq_preRow]; exact schemaAdmits_lifted os started H enc F)
theorem schemaAdmits_plain (f : FuncId) (fn : Func) (hf : Tryz.pinned.checked.prog.funcNamed "vellum/vellumlaw03.SchemaAdmits" = some f) (hfn : Tryz.pinned.checked.prog.funcs[f]? = some fn) :
    false = Tryz.pinned.checked.prog.looks [] ∧ ∀ (j : Nat) t, fn.params[j]? = some t → Tryz.pinned.checked.prog.wantsStandIn t = false := by
  obtain rfl : f = 5 := Option.some.inj ((show Tryz.prog.funcNamed "vellum/vellumlaw03.SchemaAdmits" = some 5 by kernel_rfl).symm.trans hf) |>.symm
  obtain rfl : fn = Tryz.f5 := (Option.some.inj (Tryz.func5.symm.trans hfn)).symm
  refine ⟨by kernel_rfl, fun j t ht => ?_⟩
  rw [Tryz.params5] at ht
  have hm : t ∈ [29,34] := by simpa using Array.mem_of_getElem? ht
  have hall : ([29,34].all fun u => !Tryz.prog.wantsStandIn u) = true := by kernel_rfl
  exact (show Tryz.prog.wantsStandIn t = false by simpa using List.all_eq_true.1 hall t hm)
theorem schemaAdmits_card : Rows.SchemaAdmitsCardSaid :=
  Claim7.holds_tied_plain_at .later [] _ _ _ _ schemaAdmits_said (fun _ h => by cases h) (by kernel_rfl) (fun _ h => by cases h) schemaAdmits_row_tie rfl ⟨rfl, rfl⟩ (by kernel_rfl) rfl schemaAdmits_plain (by kernel_rfl)
end Go.Proofs.YtfgfdpbeddnfhaaGreatDoor.AI
namespace Go.Proofs.YtfgfdpbeddnfhaaGreatDoor
/-- The law's card, as it is given. -/
theorem schemaAdmitsCard_holds : Rows.SchemaAdmitsCardSaid := AI.schemaAdmits_card
end Go.Proofs.YtfgfdpbeddnfhaaGreatDoor
