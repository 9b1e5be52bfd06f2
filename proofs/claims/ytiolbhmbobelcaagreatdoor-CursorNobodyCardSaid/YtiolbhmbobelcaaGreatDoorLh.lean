/- The statement CursorNobody (the tied card): the law's call answers true at every input that the row lets in, the library's tables laid as the program's text lays them, and what is handed in reads as before. -/
import Derived.Test.YtiolbhmbobelcaaGreatDoorBu
import Derived.Test.YtiolbhmbobelcaaGreatDoorCi
import Derived.ChangeOld
import Derived.SizedLaws
set_option linter.unusedVariables false
namespace Go.Proofs.YtiolbhmbobelcaaGreatDoor.AI
open Go Go.ChangeShapes Go.WideShapes Go.ChangeAt Go.RowKit
set_option maxRecDepth 100000 in
theorem cursorNobody_lifted (os : Os) (started : os.Started) (H : Type) (enc : TypeId × Value → H) (F : Stop.Interp) :
    ReturnsInHanded {} Tryz.checked os 4 .any ((OpenSpec.ofChange Rows.cursorNobodySpec).preRow enc Tryz.prog Tryz.f4 Rows.cursorNobodyRow.domain false Rows.cursorNobodyRow.laid) (((OpenSpec.ofChange Rows.cursorNobodySpec).at F).post enc Tryz.prog Tryz.f4 false true false false) := by
  have hx : DataW.whole enc Tryz.prog ((World.laidAll Tryz.prog os laidAll).forCall (fun _ _ => 0) ⟨#[], #[.int .i64 0], []⟩).memory Tryz.f4.params.toList Rows.cursorNobodySpec.vars false #[.int .i64 0].toList 8 = some ([.lit (.int .i64 0)], [], []) := by kernel_rfl
  have hok : Input.okWideB Tryz.prog ((World.laidAll Tryz.prog os laidAll).forCall (fun _ _ => 0) ⟨#[], #[.int .i64 0], []⟩) 4 ⟨#[], #[.int .i64 0], []⟩ = true := by kernel_rfl
  refine returnsInHanded_of_row (C := Tryz.checked) (s := OpenSpec.ofChange Rows.cursorNobodySpec) own started (by kernel_rfl) Tryz.func4
    ⟨World.laidAll Tryz.prog os laidAll, fun _ _ => 0, ⟨#[], #[.int .i64 0], []⟩, World.laidAll_os _ _ _, World.shaped_of_ZipB (by kernel_rfl) (by kernel_rfl), (Input.okWide_of_okWideB (base := 0) hok).1, (Input.okWide_of_okWideB hok).2,
      OpenSpec.preRow_of_cond 8 hx (by kernel_rfl) (fun k hk => by cases hk) (by kernel_rfl) (by
        show laidMetH Tryz.prog laidAll _
        rw [plainLaid]
        exact laidMet_laidAll _ (laidFits os) (laidIfaces os)), by
      simp only [Assume.holds]
      exact ⟨by simp, by simp, fun _ => Modest.zero, by simp, by simp⟩⟩ ?_
  intro W base args ds gs before hval hW hcnd hk hsz hL hS _
  have hL' : laidMet Tryz.prog laidAll W := by rw [← plainLaid]; exact hL
  exact law_post (Ck := Tryz.checked) con4_ok Tryz.func4 (by kernel_rfl) (by kernel_rfl) (fun X h => FL_wf h) (by kernel_rfl) laidOut (by kernel_rfl) rfl (rt := 4) (by kernel_rfl) (by kernel_rfl)
    (fun ds h => by
      have h2 : ds.length = 1 := h.trans (by kernel_rfl)
      match ds, h2 with
      | [d1], _ => rfl) W base args ds gs before hval hW hsz (tabs_of_laid hL' hS)
end Go.Proofs.YtiolbhmbobelcaaGreatDoor.AI
