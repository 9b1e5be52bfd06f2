/- The statement CursorTurnedUpto (the tied card): the law's call answers true at every input that the row lets in whose bulk is at most 1048576, the library's tables laid as the program's text lays them, and what is handed in reads as before. -/
import Derived.Test.YtiolbhmbobelcaaGreatDoorBt
import Derived.Test.YtiolbhmbobelcaaGreatDoorCj
import Derived.Test.YtiolbhmbobelcaaGreatDoorBulk
import Derived.ChangeOld
import Derived.SizedLaws
set_option linter.unusedVariables false
namespace Go.Proofs.YtiolbhmbobelcaaGreatDoor.AI
open Go Go.ChangeShapes Go.WideShapes Go.ChangeAt Go.RowKit
set_option maxRecDepth 100000 in
theorem cursorTurned_lifted (os : Os) (started : os.Started) (H : Type) (enc : TypeId × Value → H) (F : Stop.Interp) :
    ReturnsInHanded {} Tryz.checked os 3 .any ((Rows.OpenSpec.upto Rows.cursorTurnedSpec).preRow enc Tryz.prog Tryz.f3 Rows.cursorTurnedUptoRow.domain false Rows.cursorTurnedUptoRow.laid) (((Rows.OpenSpec.upto Rows.cursorTurnedSpec).at F).post enc Tryz.prog Tryz.f3 false true false false) := by
  have hx : DataW.whole enc Tryz.prog ((World.laidAll Tryz.prog os laidAll).forCall (fun _ _ => 0) ⟨#[], #[.slice none 0 0, .int .u16 0], []⟩).memory Tryz.f3.params.toList Rows.cursorTurnedSpec.vars false #[.slice none 0 0, .int .u16 0].toList 8 = some ([.nil, .lit (.int .u16 0)], [], []) := by kernel_rfl
  have hok : Input.okWideB Tryz.prog ((World.laidAll Tryz.prog os laidAll).forCall (fun _ _ => 0) ⟨#[], #[.slice none 0 0, .int .u16 0], []⟩) 3 ⟨#[], #[.slice none 0 0, .int .u16 0], []⟩ = true := by kernel_rfl
  refine returnsInHanded_of_row (C := Tryz.checked) (s := Rows.OpenSpec.upto Rows.cursorTurnedSpec) own started (by kernel_rfl) Tryz.func3
    ⟨World.laidAll Tryz.prog os laidAll, fun _ _ => 0, ⟨#[], #[.slice none 0 0, .int .u16 0], []⟩, World.laidAll_os _ _ _, World.shaped_of_ZipB (by kernel_rfl) (by kernel_rfl), (Input.okWide_of_okWideB (base := 0) hok).1, (Input.okWide_of_okWideB hok).2,
      OpenSpec.preRow_of_cond 8 hx (by kernel_rfl) (fun k hk => by cases hk; kernel_rfl) (by kernel_rfl) (by
        show laidMetH Tryz.prog laidAll _
        rw [plainLaid]
        exact laidMet_laidAll _ (laidFits os) (laidIfaces os)), by
      simp only [Assume.holds]
      exact ⟨by simp, by simp, fun _ => Modest.zero, by simp, by simp⟩⟩ ?_
  intro W base args ds gs before hval hW hcnd hk hsz hL hS _
  have hL' : laidMet Tryz.prog laidAll W := by rw [← plainLaid]; exact hL
  exact law_post_upto (Ck := Tryz.checked) con3_ok Tryz.func3 (by kernel_rfl) (by kernel_rfl) bulk_is (fun X h h2 => FLB_wf h h2) (by kernel_rfl) laidOut (by kernel_rfl) rfl (rt := 4) (by kernel_rfl) (by kernel_rfl)
    (fun ds h => by
      have h2 : ds.length = 2 := h.trans (by kernel_rfl)
      match ds, h2 with
      | [d1, d2], _ => rfl) W base args ds gs before hval hW (by rw [← bulk_all]; exact of_decide_eq_true (hk _ rfl)) hsz (tabs_of_laid hL' hS)
end Go.Proofs.YtiolbhmbobelcaaGreatDoor.AI
