/- The tables that the rows list: what a world that holds them gives the runs; a world that holds them. -/
import Derived.Test.YtfgfdpbeddnfhaaGreatDoorBl
import Derived.Test.YtfgfdpbeddnfhaaGreatDoorTie
import Derived.Test.YtfgfdpbeddnfhaaGreatDoorCards
import Derived.Lay
import Derived.Lib.LaidU8T
import Derived.PinnedBridge
import Derived.Deep.DeepHandedRow
import Derived.SevenTiedAt
import Derived.SliceStrings
import Derived.Shelf.Vars
set_option linter.unusedVariables false
namespace Go.Proofs.YtfgfdpbeddnfhaaGreatDoor.AI
open Go Go.RowKit Go.Shelf Go.Lib Go.ChangeShapes

/-- What every row of this seat lists. -/
def laidAll : List (String × DataW Unit) := Rows.schemaNamesRow.laid

theorem u8x : U8Extra Tryz.prog lays196_ren := ⟨by kernel_rfl, by kernel_rfl, by kernel_rfl, by kernel_rfl, by kernel_rfl, by kernel_rfl, by kernel_rfl⟩

theorem strs_inj : ∀ {a b : List ByteArray}, (strs a : List (DataW Unit)) = strs b → a = b
  | [], [], _ => rfl
  | [], _ :: _, h => by cases h
  | _ :: _, [], h => by cases h
  | x :: a, y :: b, h => by
    simp only [strs, List.map_cons, List.cons.injEq] at h
    obtain ⟨h1, h2⟩ := h
    have e1 : x.data.toList = y.data.toList := by
      injection h1 with h1
      injection h1
    have e2 : a = b := strs_inj h2
    have : x = y := by
      cases x with
      | mk x => cases y with
        | mk y => exact congrArg ByteArray.mk (Array.ext' e1)
    rw [this, e2]

/-- The kinds' words stand where the row lays them. -/
theorem kinds_read {W : World} (h : VarReads Tryz.prog W "vellum/schema.kinds" Rows.laid_vellum_schema_kinds) : okW W 0 ∧ ∃ vs, RepT (okW W) W (.sl .str) kindsD vs ∧ ∀ j u, vs[j]? = some u → W.cell? ⟨0, j, none⟩ = some u := by
  obtain ⟨g, t, cs, fuel, p, hg, ht, hvar, hd⟩ := h
  obtain rfl := Option.some.inj ((show Tryz.prog.globalNamed "vellum/schema.kinds" = some 0 by kernel_rfl).symm.trans hg)
  obtain rfl := Option.some.inj ((show (Tryz.prog.globals[0]?).map (·.type) = some 47 by kernel_rfl).symm.trans ht)
  have hcell : ∃ e fr, W.heap[0]? = some (.cells cs e fr) := by
    simp only [World.var?, hg, Option.bind_some] at hvar
    split at hvar
    · rename_i cs' e fr hb
      cases hvar
      exact ⟨e, fr, hb⟩
    · cases hvar
  obtain ⟨e0, fr, hb⟩ := hcell
  rcases open_strings Tryz.underlying47 (e := 9) Tryz.underlying9 (by kernel_rfl) hd with ⟨_, hx⟩ | ⟨a, len, cap, ss, hcs, _, hlc, _, hlen, hx, hcells, _⟩
  · exact absurd (congrArg Prod.fst hx) (by intro e; cases e)
  · have hx1 := congrArg Prod.fst hx
    have hk : (Rows.laid_vellum_schema_kinds : DataW Unit) = .slice (strs kindsD) (strs []) := by kernel_rfl
    have hx2 : (DataW.slice (strs kindsD) (strs []) : DataW Unit) = .slice (strs (ss.take len)) (strs (ss.drop len)) := hk.symm.trans hx1
    injection hx2 with q1 q2
    have q1 := strs_inj q1
    have q2 := strs_inj q2
    have hss : ss = kindsD := by rw [← List.take_append_drop len ss, ← q1, ← q2, List.append_nil]
    have hl : len = kindsD.length := by
      have := congrArg List.length q2
      rw [List.length_drop] at this
      have h2 := congrArg List.length q1
      rw [List.length_take] at h2
      simp only [List.length_nil] at this
      rw [hss] at this h2
      have h6 : kindsD.length = 6 := rfl
      have hl2 : ss.length = cap := by simpa using hlen
      rw [hss] at hl2
      omega
    refine ⟨(Array.getElem?_eq_some_iff.1 hb).1, cs.toList, ⟨some a, cap, ?_, ?_, fun _ => ?_⟩, fun j u hj => ?_⟩
    · rw [hcs, hl]
    · rw [← hl]; exact hlc
    · have h0 := hcells 0 (by rw [hss]; decide)
      have ea : a.add 0 = a := by simp [Addr.add]
      rw [ea] at h0
      obtain ⟨o1, o2⟩ := ok_of_cell h0
      refine ⟨a.block, a.off, by rw [← o2], o1, fun i x hi => ⟨[.string x], rfl, rfl, fun j v hj => ?_⟩⟩
      have hj0 : j = 0 := by
        have := (List.getElem?_eq_some_iff.1 hj).1
        simp at this; exact this
      subst hj0
      simp at hj
      subst hj
      have hi' : i < ss.length := by rw [hss]; exact (List.getElem?_eq_some_iff.1 hi).1
      have := hcells i hi'
      rw [hss] at this
      have hg : kindsD.getD i ByteArray.empty = x := by simp [List.getD, hi]
      rw [hg] at this
      have ea : a.add i = ⟨a.block, a.off + i * 1 + 0, none⟩ := by
        cases a with
        | mk b o s =>
          simp only at o2
          subst o2
          by_cases e1 : i = 0 <;> simp [Addr.add, e1]
      rw [ea] at this
      exact this
    · have : cs[j]? = some u := by simpa using hj
      simp [World.cell?, hb, this]

theorem tabs_of_laid {W : World} (hL : laidMet Tryz.prog laidAll W) (hS : W.ShapedOpen Tryz.prog) : Tabs (okW W) W := by
  have hr : ∀ n d, (n, d) ∈ laidAll → VarReads Tryz.prog W n d := fun n d hm => laidMet.reads hL hm
  have h1 : VarReads Tryz.prog W "unicode/utf8.first" firstData := hr _ _ (by
    rw [← Pinned.utf8First_eq]
    exact List.mem_of_getElem? (i := 8) rfl)
  have e2 : (Rows.laid_unicode_utf8_acceptRanges : DataW Unit) = acceptData := by kernel_rfl
  have h2 : VarReads Tryz.prog W "unicode/utf8.acceptRanges" acceptData := hr _ _ (by
    rw [← e2]
    exact List.mem_of_getElem? (i := 4) rfl)
  have h4 : VarReads Tryz.prog W "vellum/schema.kinds" Rows.laid_vellum_schema_kinds := hr _ _ (List.mem_of_getElem? (i := 5) rfl)
  have u : Utf8Tabs 2 3 W := utf8Tabs_of_readsT (U8Types.of196 lays196) u8x h1 h2
  obtain ⟨m, hm⟩ := cell_of_shapedOpen_int (zero := #[.int .i64 0]) (t := 3) (g := 4) hS (of_decide_eq_true (by kernel_rfl)) (by kernel_rfl) rfl (by kernel_rfl) (by kernel_rfl) Tryz.underlying3
  refine ⟨fun b Q hQ => ?_, fun g p hp => ?_⟩
  · cases hQ with
    | first =>
      refine ⟨?_, fun w hw c hc => ?_⟩
      · have := u.1 0 (by omega)
        exact (ok_of_cell this).1
      · rw [World.cell?_of_block (w := W) (w' := w) hw]; exact u.1 c hc
    | accept =>
      refine ⟨?_, fun w hw i hi => ?_⟩
      · have := (u.2 0 (by omega)).1
        exact (ok_of_cell this).1
      · rw [World.cell?_of_block (w := W) (w' := w) hw, World.cell?_of_block (w := W) (w' := w) hw]; exact u.2 i hi
    | maxLen =>
      refine ⟨(ok_of_cell hm).1, fun w hw => ⟨m, ?_⟩⟩
      rw [World.cell?_of_block (w := W) (w' := w) hw]; exact hm
  · unfold globD at hp
    split at hp
    · cases hp
      exact kinds_read h4
    · cases hp

theorem own : ownKnob Tryz.prog.godebug = none := by kernel_rfl
theorem laidOut : laidOutB Tryz.prog = true := by kernel_rfl
theorem plainLaid : ∀ W, laidMetH Tryz.prog laidAll W = laidMet Tryz.prog laidAll W := fun W => MakeChecks.laidMetH_plain _ _ _ (by kernel_rfl)
theorem laidFits (os : Os) : (World.holding Tryz.prog os ⟨#[], #[], []⟩).layFits Tryz.prog laidAll [] = true := by kernel_rfl
theorem laidIfaces (os : Os) : (World.holding Tryz.prog os ⟨#[], #[], []⟩).layIfaces Tryz.prog laidAll (World.laidAll Tryz.prog os laidAll) = true := by kernel_rfl

end Go.Proofs.YtfgfdpbeddnfhaaGreatDoor.AI
