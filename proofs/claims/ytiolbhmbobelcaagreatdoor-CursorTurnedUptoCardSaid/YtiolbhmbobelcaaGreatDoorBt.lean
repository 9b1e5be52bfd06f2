/- The tables that the rows list: what a world that holds them gives the runs; a world that holds them. -/
import Derived.Test.YtiolbhmbobelcaaGreatDoorSz
import Derived.Test.YtiolbhmbobelcaaGreatDoorTie
import Derived.Test.YtiolbhmbobelcaaGreatDoorCards
import Derived.Lay
import Derived.Lib.LaidU8T
import Derived.PinnedBridge
import Derived.Deep.DeepHandedRow
import Derived.SevenTiedAt
import Derived.SliceStrings
import Derived.Shelf.Vars
set_option linter.unusedVariables false
namespace Go.Proofs.YtiolbhmbobelcaaGreatDoor.AI
open Go Go.RowKit Go.Shelf Go.Lib Go.ChangeShapes

/-- What every row of this seat lists. -/
def laidAll : List (String × DataW Unit) := Rows.cursorTurnedUptoRow.laid

theorem u8x : U8Extra Tryz.prog laysn196_ren := ⟨by kernel_rfl, by kernel_rfl, by kernel_rfl, by kernel_rfl, by kernel_rfl, by kernel_rfl, by kernel_rfl⟩

theorem tabs_of_laid {W : World} (hL : laidMet Tryz.prog laidAll W) (hS : W.ShapedOpen Tryz.prog) : Tabs (okW W) W := by
  have hr : ∀ n d, (n, d) ∈ laidAll → VarReads Tryz.prog W n d := fun n d hm => laidMet.reads hL hm
  have h1 : VarReads Tryz.prog W "unicode/utf8.first" firstData := hr _ _ (by
    rw [← Pinned.utf8First_eq]
    exact List.mem_of_getElem? (i := 14) (show laidAll[14]? = some ("unicode/utf8.first", Pinned.utf8First) by kernel_rfl))
  have e2 : (Rows.laid_unicode_utf8_acceptRanges : DataW Unit) = acceptData := by kernel_rfl
  have h2 : VarReads Tryz.prog W "unicode/utf8.acceptRanges" acceptData := hr _ _ (by
    rw [← e2]
    exact List.mem_of_getElem? (i := 9) rfl)
  have u : Utf8Tabs 1 2 W := utf8Tabs_of_readsT (U8Types.of196 laysn196) u8x h1 h2
  obtain ⟨m, hm⟩ := cell_of_shapedOpen_int (zero := #[.int .i64 0]) (t := 3) (g := 3) hS (of_decide_eq_true (by kernel_rfl)) (by kernel_rfl) rfl (by kernel_rfl) (by kernel_rfl) Tryz.underlying3
  refine ⟨fun b Q hQ => ?_, fun g p hp => ?_⟩
  · cases hQ with
    | first =>
      refine ⟨?_, fun w hw c hc => ?_⟩
      · have := u.1 0 (by omega)
        exact (ok_of_cell this).1
      · rw [World.cell?_of_block (w := W) (w' := w) hw]; exact u.1 c hc
    | accept =>
      refine ⟨?_, fun w hw i hi => ?_⟩
      · have := (u.2 0 (by omega)).1
        exact (ok_of_cell this).1
      · rw [World.cell?_of_block (w := W) (w' := w) hw, World.cell?_of_block (w := W) (w' := w) hw]; exact u.2 i hi
    | maxLen =>
      refine ⟨(ok_of_cell hm).1, fun w hw => ⟨m, ?_⟩⟩
      rw [World.cell?_of_block (w := W) (w' := w) hw]; exact hm
  · cases hp

theorem own : ownKnob Tryz.prog.godebug = none := by kernel_rfl
theorem laidOut : laidOutB Tryz.prog = true := by kernel_rfl
theorem plainLaid : ∀ W, laidMetH Tryz.prog laidAll W = laidMet Tryz.prog laidAll W := fun W => MakeChecks.laidMetH_plain _ _ _ (by kernel_rfl)
theorem laidFits (os : Os) : (World.holding Tryz.prog os ⟨#[], #[], []⟩).layFits Tryz.prog laidAll [] = true := by kernel_rfl
theorem laidIfaces (os : Os) : (World.holding Tryz.prog os ⟨#[], #[], []⟩).layIfaces Tryz.prog laidAll (World.laidAll Tryz.prog os laidAll) = true := by kernel_rfl

end Go.Proofs.YtiolbhmbobelcaaGreatDoor.AI
