/- A part of the proof. -/
import Derived.Test.YtefddghdaimklaaGreatDoorSz
import Derived.Test.YtefddghdaimklaaGreatDoorTie
import Derived.Test.YtefddghdaimklaaGreatDoorCards
import Derived.Lay
import Derived.Lib.LaidU8T
import Derived.PinnedBridge
import Derived.Deep.DeepHandedRow
import Derived.SevenTiedAt
import Derived.SliceStrings
import Derived.Shelf.Vars
set_option linter.unusedVariables false
set_option linter.unusedSimpArgs false
namespace Go.Proofs.YtefddghdaimklaaGreatDoor.AI
open Go Go.RowKit Go.Shelf Go.Lib Go.ChangeShapes
def laidAll : List (String × DataW Unit) := Rows.predBoundsRow.laid
theorem u8x : U8Extra Tryz.prog laysn196_ren := ⟨by kernel_rfl, by kernel_rfl, by kernel_rfl, by kernel_rfl, by kernel_rfl, by kernel_rfl, by kernel_rfl⟩
theorem m6 : ∀ {a b : List ByteArray}, (strs a : List (DataW Unit)) = strs b → a = b
 | [], [], _ => rfl
 | [], _ :: _, h => by cases h
 | _ :: _, [], h => by cases h
 | x :: a, y :: b, h => by
  simp only [strs, NN, List.cons.injEq] at h
  obtain ⟨h1, h2⟩ := h
  have e1 : x.data.toList = y.data.toList := by
   injection h1 with h1
   injection h1
  have e2 : a = b := m6 h2
  have : x = y := by
   cases x with
   | mk x => cases y with
    | mk y => exact congrArg ByteArray.mk (Array.ext' e1)
  rw [this, e2]
theorem uQ {W : World} {nm : String} {g0 t0 : Nat} {D : List ByteArray} {data : DataW Unit} (hgn : Tryz.prog.globalNamed nm = some g0) (htn : (Tryz.prog.globals[g0]?).map (·.type) = some t0) (hut : Tryz.prog.underlying t0 = some (.slice 9))
  (hus : Tryz.prog.underlying 9 = some .string) (hce : Tryz.prog.cellsOf 9 = 1) (hdata : data = .slice (strs D) (strs [])) (hD : 0 < D.length) (h : VarReads Tryz.prog W nm data) :
  okW W g0 ∧ ∃ vs, RepT (okW W) W (.sl .str) D vs ∧ ∀ j u, vs[j]? = some u → W.cell? ⟨g0, j, none⟩ = some u := by
 obtain ⟨g, t, cs, fuel, p, hg, ht, hvar, hd⟩ := h
 obtain rfl := Option.some.inj (hgn.symm.trans hg)
 obtain rfl := Option.some.inj (htn.symm.trans ht)
 have hcell : ∃ e fr, W.heap[g0]? = some (.cells cs e fr) := by
  simp only [World.var?, hg, Nx] at hvar
  split at hvar
  ·rename_i cs' e fr hb
   cases hvar
   exact ⟨e, fr, hb⟩
  ·cases hvar
 obtain ⟨e0, fr, hb⟩ := hcell
 rcases open_strings hut (e := 9) hus hce hd with ⟨_, hx⟩ | ⟨a, len, cap, ss, hcs, _, hlc, _, hlen, hx, hcells, _⟩
 ·exact absurd (hdata.symm.trans (congrArg Prod.fst hx)) (by intro e; cases e)
 ·have hx1 := congrArg Prod.fst hx
  have hx2 : (DataW.slice (strs D) (strs []) : DataW Unit) = .slice (strs (ss.take len)) (strs (ss.drop len)) := hdata.symm.trans hx1
  injection hx2 with q1 q2
  have q1 := m6 q1
  have q2 := m6 q2
  have hss : ss = D := by rw [← List.take_append_drop len ss, ← q1, ← q2, List.append_nil]
  have hl : len = D.length := by
   have := congrArg List.length q2
   rw [List.length_drop] at this
   have h2 := congrArg List.length q1
   rw [List.length_take] at h2
   simp only [List.length_nil] at this
   rw [hss] at this h2
   have hl2 : ss.length = cap := by simpa using hlen
   rw [hss] at hl2
   omega
  refine ⟨(Array.getElem?_eq_some_iff.1 hb).1, cs.toList, ⟨some a, cap, ?_, ?_, fun _ => ?_⟩, fun j u hj => ?_⟩
  ·rw [hcs, hl]
  ·rw [← hl]; exact hlc
  ·have h0 := hcells 0 (by rw [hss]; exact hD)
   have ea : a.add 0 = a := by simp [Addr.add]
   rw [ea] at h0
   obtain ⟨o1, o2⟩ := vn h0
   refine ⟨a.block, a.off, by rw [← o2], o1, fun i x hi => ⟨[.string x], rfl, rfl, fun j v hj => ?_⟩⟩
   have hj0 : j = 0 := by
    have := (NB.1 hj).1
    simp at this; exact this
   subst hj0
   simp at hj
   subst hj
   have hi' : i < ss.length := by rw [hss]; exact (NB.1 hi).1
   have := hcells i hi'
   rw [hss] at this
   have hg : D.getD i ByteArray.empty = x := by simp [List.getD, hi]
   rw [hg] at this
   have ea : a.add i = ⟨a.block, a.off + i * 1 + 0, none⟩ := by
    cases a with
    | mk b o s =>
     simp only at o2
     subst o2
     by_cases e1 : i = 0 <;> simp [Addr.add, e1]
   rw [ea] at this
   exact this
  ·have : cs[j]? = some u := by simpa using hj
   simp [World.cell?, hb, this]
theorem Ya {W : World} (h : VarReads Tryz.prog W "vellum/pred.null" Rows.laid_vellum_pred_null) :
  okW W 0 ∧ ∃ vs, RepT (okW W) W (.pair (.int .i64) (.pair (.int .i64) (.pair (.float .f64) .str))) zeroV vs ∧ ∀ j u, vs[j]? = some u → W.cell? ⟨0, j, none⟩ = some u := by
 obtain ⟨g, t, cs, fuel, p, hg, ht, hvar, hd⟩ := h
 obtain rfl := Option.some.inj ((show Tryz.prog.globalNamed "vellum/pred.null" = some 0 by kernel_rfl).symm.trans hg)
 obtain rfl := Option.some.inj ((show (Tryz.prog.globals[0]?).map (·.type) = some 30 by kernel_rfl).symm.trans ht)
 have hcell : ∃ e fr, W.heap[0]? = some (.cells cs e fr) := by
  simp only [World.var?, hg, Nx] at hvar
  split at hvar
  ·rename_i cs' e fr hb
   cases hvar
   exact ⟨e, fr, hb⟩
  ·cases hvar
 obtain ⟨e0, fr, hb⟩ := hcell
 obtain ⟨xs, n, _, hx, hl, hlen, hf⟩ := DataW.trod_struct Tryz.underlying30 hd
 match xs, hlen, hx, hf with
 | [y0, y1, y2, y3], _, hx, hf =>
  have f0 : DataW.trod (fun _ => ()) Tryz.prog W 0 (fun _ => true) false n 3 (List.take (Tryz.prog.cellsOf 3) (List.drop 0 cs.toList)) = some y0 := hf 0 _ rfl
  have f1 : DataW.trod (fun _ => ()) Tryz.prog W 0 (fun _ => true) false n 2 (List.take (Tryz.prog.cellsOf 2) (List.drop 1 cs.toList)) = some y1 := hf 1 _ rfl
  have f2 : DataW.trod (fun _ => ()) Tryz.prog W 0 (fun _ => true) false n 28 (List.take (Tryz.prog.cellsOf 28) (List.drop 2 cs.toList)) = some y2 := hf 2 _ rfl
  have f3 : DataW.trod (fun _ => ()) Tryz.prog W 0 (fun _ => true) false n 9 (List.take (Tryz.prog.cellsOf 9) (List.drop 3 cs.toList)) = some y3 := hf 3 _ rfl
  rw [show Tryz.prog.cellsOf 3 = 1 by kernel_rfl] at f0
  rw [show Tryz.prog.cellsOf 2 = 1 by kernel_rfl] at f1
  rw [show Tryz.prog.cellsOf 28 = 1 by kernel_rfl] at f2
  rw [show Tryz.prog.cellsOf 9 = 1 by kernel_rfl] at f3
  obtain ⟨n0, c0, x0, _⟩ := DataW.trod_int (k := .i64) (by kernel_rfl) f0
  obtain ⟨n1, c1, x1, _⟩ := DataW.trod_int (k := .i64) (by kernel_rfl) f1
  obtain ⟨n2, c2, x2, _⟩ := nr (k := .f64) (by kernel_rfl) f2
  obtain ⟨n3, c3, x3, _⟩ := DataW.trod_string (by kernel_rfl) f3
  have hx1 := congrArg Prod.fst hx
  have hx2 : (DataW.agg [.lit (.int .i64 0), .lit (.int .i64 0), .lit (.float .f64 0), .lit (.string [])] : DataW Unit) = .agg [y0.1, y1.1, y2.1, y3.1] := hx1
  rw [x0, x1, x2, x3] at hx2
  injection hx2 with hx2
  injection hx2 with q0 hx2
  injection hx2 with q1 hx2
  injection hx2 with q2 hx2
  injection hx2 with q3 hx2
  injection q0 with q0
  injection q0 with _ q0
  injection q1 with q1
  injection q1 with _ q1
  injection q2 with q2
  injection q2 with _ q2
  injection q3 with q3
  injection q3 with q3
  subst q0; subst q1; subst q2
  have hs : n3 = noS := by
   cases n3 with
   | mk a =>
    have : a.toList = [] := q3.symm
    exact congrArg ByteArray.mk (Array.ext' this)
  subst hs
  have hc4 : cs.toList.length = 4 := hl.trans (by kernel_rfl)
  have hcs : cs.toList = [.int .i64 0, .int .i64 0, .float .f64 0, .string noS] := by
   match hq : cs.toList, hc4 with
   | [a, b, c, d], _ =>
    rw [hq] at c0 c1 c2 c3
    have g0 : [a] = [Value.int .i64 0] := c0
    have g1 : [b] = [Value.int .i64 0] := c1
    have g2 : [c] = [Value.float .f64 0] := c2
    have g3 : [d] = [Value.string noS] := c3
    injection g0 with g0
    injection g1 with g1
    injection g2 with g2
    injection g3 with g3
    rw [g0, g1, g2, g3]
  refine ⟨(Array.getElem?_eq_some_iff.1 hb).1, cs.toList, ⟨[_], _, hcs, rfl, [_], _, rfl, rfl, [_], _, rfl, rfl, rfl⟩, fun j u hj => ?_⟩
  have : cs[j]? = some u := by simpa using hj
  simp [World.cell?, hb, this]
theorem ke {W : World} (hL : laidMet Tryz.prog laidAll W) (hS : W.ShapedOpen Tryz.prog) : Tabs (okW W) W := by
 have hr : ∀ n d, (n, d) ∈ laidAll → VarReads Tryz.prog W n d := fun n d hm => laidMet.reads hL hm
 have h1 : VarReads Tryz.prog W "unicode/utf8.first" firstData := hr _ _ (by
  rw [← Pinned.utf8First_eq]
  exact ND (i := 21) (show laidAll[21]? = some ("unicode/utf8.first", Pinned.utf8First) by kernel_rfl))
 have e2 : (Rows.laid_unicode_utf8_acceptRanges : DataW Unit) = acceptData := by kernel_rfl
 have h2 : VarReads Tryz.prog W "unicode/utf8.acceptRanges" acceptData := hr _ _ (by
  rw [← e2]
  exact ND (i := 9) rfl)
 have hu : VarReads Tryz.prog W "vellum/pred.unaries" Rows.laid_vellum_pred_unaries := hr _ _ (ND (i := 12) rfl)
 have ha : VarReads Tryz.prog W "vellum/pred.arithmetic" Rows.laid_vellum_pred_arithmetic := hr _ _ (ND (i := 13) rfl)
 have hc : VarReads Tryz.prog W "vellum/pred.comparisons" Rows.laid_vellum_pred_comparisons := hr _ _ (ND (i := 14) rfl)
 have hn : VarReads Tryz.prog W "vellum/pred.null" Rows.laid_vellum_pred_null := hr _ _ (ND (i := 15) rfl)
 have ht : VarReads Tryz.prog W "vellum/pred.turned" Rows.laid_vellum_pred_turned := hr _ _ (ND (i := 16) rfl)
 have hs : VarReads Tryz.prog W "vellum/pred.signs" Rows.laid_vellum_pred_signs := hr _ _ (ND (i := 17) rfl)
 have u : Utf8Tabs 4 5 W := utf8Tabs_of_readsT (U8Types.of196 laysn196) u8x h1 h2
 obtain ⟨m, hm⟩ := cell_of_shapedOpen_int (zero := #[.int .i64 0]) (t := 3) (g := 9) hS (NK (by kernel_rfl)) (by kernel_rfl) rfl (by kernel_rfl) (by kernel_rfl) Tryz.underlying3
 refine ⟨fun b Q hQ => ?_, fun g p hp => ?_⟩
 ·cases hQ with
  | first =>
   refine ⟨?_, fun w hw c hc => ?_⟩
   ·have := u.1 0 (by omega)
    exact (vn this).1
   ·rw [World.cell?_of_block (w := W) (w' := w) hw]; exact u.1 c hc
  | accept =>
   refine ⟨?_, fun w hw i hi => ?_⟩
   ·have := (u.2 0 (by omega)).1
    exact (vn this).1
   ·rw [World.cell?_of_block (w := W) (w' := w) hw, World.cell?_of_block (w := W) (w' := w) hw]; exact u.2 i hi
  | maxLen =>
   refine ⟨(vn hm).1, fun w hw => ⟨m, ?_⟩⟩
   rw [World.cell?_of_block (w := W) (w' := w) hw]; exact hm
 ·unfold dI at hp
  split at hp
  ·cases hp
   exact Ya hn
  ·cases hp
   exact uQ (by kernel_rfl) (t0 := 98) (by kernel_rfl) Tryz.underlying98 Tryz.underlying9 (by kernel_rfl) (by kernel_rfl) (by decide) hc
  ·cases hp
   exact uQ (by kernel_rfl) (t0 := 98) (by kernel_rfl) Tryz.underlying98 Tryz.underlying9 (by kernel_rfl) (by kernel_rfl) (by decide) hu
  ·cases hp
   exact uQ (by kernel_rfl) (t0 := 98) (by kernel_rfl) Tryz.underlying98 Tryz.underlying9 (by kernel_rfl) (by kernel_rfl) (by decide) ha
  ·cases hp
   exact uQ (by kernel_rfl) (t0 := 98) (by kernel_rfl) Tryz.underlying98 Tryz.underlying9 (by kernel_rfl) (by kernel_rfl) (by decide) ht
  ·cases hp
   exact uQ (by kernel_rfl) (t0 := 98) (by kernel_rfl) Tryz.underlying98 Tryz.underlying9 (by kernel_rfl) (by kernel_rfl) (by decide) hs
  ·cases hp
theorem own : ownKnob Tryz.prog.godebug = none := by kernel_rfl
theorem UG : laidOutB Tryz.prog = true := by kernel_rfl
theorem lQ : ∀ W, laidMetH Tryz.prog laidAll W = laidMet Tryz.prog laidAll W := fun W => MakeChecks.laidMetH_plain _ _ _ (by kernel_rfl)
theorem Y7 (os : Os) : (World.holding Tryz.prog os ⟨#[], #[], []⟩).layFits Tryz.prog laidAll [] = true := by kernel_rfl
theorem eV (os : Os) : (World.holding Tryz.prog os ⟨#[], #[], []⟩).layIfaces Tryz.prog laidAll (World.laidAll Tryz.prog os laidAll) = true := by kernel_rfl
end Go.Proofs.YtefddghdaimklaaGreatDoor.AI
