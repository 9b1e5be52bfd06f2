/- The tables that the rows list: what a world that holds them gives the runs; a world that holds them. -/
import Derived.Test.YthkigadgbckpoaaGreatDoorBl
import Derived.Test.YthkigadgbckpoaaGreatDoorTie
import Derived.Test.YthkigadgbckpoaaGreatDoorCards
import Derived.Lay
import Derived.Lib.LaidU8T
import Derived.PinnedBridge
import Derived.Deep.DeepHandedRow
import Derived.SevenTiedAt
set_option linter.unusedVariables false
namespace Go.Proofs.YthkigadgbckpoaaGreatDoor.AI
open Go Go.RowKit Go.Shelf Go.Lib

/-- What every row of this seat lists. -/
def laidAll : List (String × DataW Unit) := Rows.valueBetweenRow.laid

theorem tabIs_of_reads {P : Program} {W : World} {name : String} {k : IntKind} {zs : List Int} {g : Nat} {t e : TypeId} {n : Nat}
    (hg : P.globalNamed name = some g) (hty : (P.globals[g]?).map (·.type) = some t) (ht : P.underlying t = some (.array n e)) (he : P.underlying e = some (.int k)) (hce : P.cellsOf e = 1) (hct : P.cellsOf t = n)
    (h : VarReads P W name (tabData k zs)) : TabIs P W name k zs := by
  obtain ⟨g', t', cs, fuel, p, hg', ht', hvar, hd⟩ := h
  obtain rfl := Option.some.inj (hg.symm.trans hg')
  obtain rfl := Option.some.inj (hty.symm.trans ht')
  unfold TabIs
  rw [hvar, ← cells_of_tab ht he hce hct hd]

theorem u8x : U8Extra Tryz.prog lays196_ren := ⟨by kernel_rfl, by kernel_rfl, by kernel_rfl, by kernel_rfl, by kernel_rfl, by kernel_rfl, by kernel_rfl⟩

theorem tabs_of_laid {W : World} (hL : laidMet Tryz.prog laidAll W) : Tabs (okW W) W := by
  have hr : ∀ n d, (n, d) ∈ laidAll → VarReads Tryz.prog W n d := fun n d hm => laidMet.reads hL hm
  have h1 : VarReads Tryz.prog W "unicode/utf8.first" firstData := hr _ _ (by
    rw [← Pinned.utf8First_eq]
    exact List.mem_of_getElem? (i := 14) rfl)
  have e2 : (Rows.laid_unicode_utf8_acceptRanges : DataW Unit) = acceptData := by kernel_rfl
  have h2 : VarReads Tryz.prog W "unicode/utf8.acceptRanges" acceptData := hr _ _ (by
    rw [← e2]
    exact List.mem_of_getElem? (i := 9) rfl)
  have e4 : (Rows.laid_internal_strconv_uint64pow10 : DataW Unit) = tabData .u64 pow10Tab := by kernel_rfl
  have h4 : VarReads Tryz.prog W "internal/strconv.uint64pow10" (tabData .u64 pow10Tab) := hr _ _ (by
    rw [← e4]
    exact List.mem_of_getElem? (i := 8) rfl)
  have u : Utf8Tabs 1 2 W := utf8Tabs_of_readsT (U8Types.of196 lays196) u8x h1 h2
  have t : TabIs Tryz.prog W "internal/strconv.uint64pow10" .u64 pow10Tab := tabIs_of_reads (g := 4) (t := 107) (e := 44) (n := 20) (by kernel_rfl) (by kernel_rfl) Tryz.underlying107 Tryz.underlying44 (by kernel_rfl) (by kernel_rfl) h4
  intro b Q hQ
  cases hQ with
  | first =>
    refine ⟨?_, fun w hw c hc => ?_⟩
    · have := u.1 0 (by omega)
      exact (ok_of_cell this).1
    · rw [World.cell?_of_block (w := W) (w' := w) hw]; exact u.1 c hc
  | accept =>
    refine ⟨?_, fun w hw i hi => ?_⟩
    · have := (u.2 0 (by omega)).1
      exact (ok_of_cell this).1
    · rw [World.cell?_of_block (w := W) (w' := w) hw, World.cell?_of_block (w := W) (w' := w) hw]; exact u.2 i hi
  | pow10 =>
    have hg : Tryz.prog.globalNamed "internal/strconv.uint64pow10" = some 4 := by kernel_rfl
    simp only [TabIs, World.var?, hg, Option.bind_some] at t
    split at t
    · rename_i cs e fr hb
      cases t
      exact ⟨(Array.getElem?_eq_some_iff.1 hb).1, e, fr, hb⟩
    · cases t

theorem own : ownKnob Tryz.prog.godebug = none := by kernel_rfl
theorem laidOut : laidOutB Tryz.prog = true := by kernel_rfl
theorem plainLaid : ∀ W, laidMetH Tryz.prog laidAll W = laidMet Tryz.prog laidAll W := fun W => MakeChecks.laidMetH_plain _ _ _ (by kernel_rfl)
theorem laidFits (os : Os) : (World.holding Tryz.prog os ⟨#[], #[], []⟩).layFits Tryz.prog laidAll [] = true := by kernel_rfl
theorem laidIfaces (os : Os) : (World.holding Tryz.prog os ⟨#[], #[], []⟩).layIfaces Tryz.prog laidAll (World.laidAll Tryz.prog os laidAll) = true := by kernel_rfl

end Go.Proofs.YthkigadgbckpoaaGreatDoor.AI
