/- Contracts of the library's functions that this seat calls, out of the kit's own calls. -/
import Derived.Test.YthkigadgbckpoaaGreatDoorBc
import Derived.Test.YthkigadgbckpoaaGreatDoorAjd
import Derived.Test.YthkigadgbckpoaaGreatDoorBs
import Derived.Lib.ItoaMem
set_option linter.unusedVariables false
set_option linter.unusedSimpArgs false
namespace Go.Proofs.YthkigadgbckpoaaGreatDoor.AI
open Go Go.RowKit Go.Shelf

theorem args1 {x : Cx} {t : Ty} {X : t.den} {vals : Array Value} (h : RepVs x (argsL [(false, t)] X) vals.toList) : ∃ u, vals = #[u] ∧ RepV x (.val false (t.cells X)) u := by
  obtain ⟨u, r, hu, h1, h2⟩ := h
  have hr : r = [] := h2
  subst hr
  exact ⟨u, by cases vals; simp_all, h1⟩
theorem args2 {x : Cx} {t s : Ty} {X : t.den × s.den} {vals : Array Value} (h : RepVs x (argsL [(false, t), (false, s)] X) vals.toList) : ∃ u v, vals = #[u, v] ∧ RepV x (.val false (t.cells X.1)) u ∧ RepV x (.val false (s.cells X.2)) v := by
  obtain ⟨u, r, hu, h1, v, r', hr, h2, h3⟩ := h
  have hr' : r' = [] := h3
  subst hr'
  subst hr
  exact ⟨u, v, by cases vals; simp_all, h1, h2⟩

/-! ### What has no body -/
theorem bits19 (b : Nat) (w : World) : (callFunc 19 #[.float .f64 b]).run Tryz.prog w = .ok (.value (.int .u64 b)) w := by kernel_rfl
theorem con19_ok : ConOk Tryz.prog 19 con19 := bitsCon_ok bits19
theorem trunc39 {b : Nat} {d : Ieee.Datum} (hd : FloatKind.f64.decode b = d) (hn : ∀ s t, d ≠ .nan s t) (w : World) : (callFunc 39 #[.float .f64 b]).run Tryz.prog w = .ok (.value (.float .f64 (FloatKind.f64.encode (d.integral .zero)))) w := by
  rw [run_callFunc_extern Tryz.func39 (by kernel_rfl) (by kernel_rfl) (by kernel_rfl) (e := Extern.MathFloor.toIntegral "math.archTrunc" .zero) (by kernel_rfl)]
  have e1 : ∃ q : Bool → Nat → Sem Value, Extern.MathFloor.toIntegral "math.archTrunc" .zero #[.float .f64 b] = (match FloatKind.f64.decode b with
      | .nan s t => q s t
      | d => pure (.float .f64 (FloatKind.f64.encode (d.integral .zero)))) := ⟨fun s t => if FloatKind.f64.format.quiet t = t then pure (.float .f64 b) else do
      let kept ← choose (.extern "math.Floor,Ceil,Trunc,RoundToEven.signallingNaN kept" 2)
      pure (.float .f64 (if kept == 1 then b else FloatKind.f64.encode (.nan s (FloatKind.f64.format.quiet t)))), rfl⟩
  obtain ⟨q, e1⟩ := e1
  rw [e1, hd]
  cases d with
  | nan s t => exact absurd rfl (hn s t)
  | number s m i => rfl
  | infinity s => rfl
set_option maxRecDepth 100000 in
theorem con39_ok : ConOk Tryz.prog 39 con39 := lendCon_ok (List.all_eq_true.1 rfl) (fun _ => rfl) (fun x vals X Y hI hv hF => by
  obtain ⟨u, rfl, h1⟩ := args1 (t := .float .f64) hv
  rw [of_float h1]
  have hF' : F39 X = some Y := hF
  unfold F39 at hF'
  split at hF'
  · cases hF'
  · rename_i d hnn
    cases hF'
    exact Does.value (trunc39 rfl (fun s t e => hnn s t e) x.w) ⟨Below.refl _ _, fun y => RepV_float _ _⟩)

/-! ### What the kit has shown -/
theorem body37 : (Tryz.f37.name == "runtime.NumGoroutine") = false ∧ Tryz.f37.body.isSome = true := ⟨by kernel_rfl, by kernel_rfl⟩
theorem body30 : (Tryz.f30.name == "runtime.NumGoroutine") = false ∧ Tryz.f30.body.isSome = true := ⟨by kernel_rfl, by kernel_rfl⟩
theorem body20 : (Tryz.f20.name == "runtime.NumGoroutine") = false ∧ Tryz.f20.body.isSome = true := ⟨by kernel_rfl, by kernel_rfl⟩

theorem of_str' {x : Cx} {s : ByteArray} {u : Value} (h : RepV x (.val false [.sc .str s]) u) : u = .string s := of_str h

set_option maxRecDepth 100000 in
theorem con37_ok : ConOk Tryz.prog 37 con37 := lendCon_ok (List.all_eq_true.1 rfl) (fun _ => rfl) (fun x vals X Y hI hv hF => by
  obtain ⟨u, v, rfl, h1, h2⟩ := args2 (t := .str) (s := .str) hv
  rw [of_str' h1, of_str' h2]
  cases hF
  refine calls_does Tryz.func37 body37.1 body37.2 ((YthkigadgbckpoaaGreatDoor.strings_Compare X.1 X.2 x.w).mono (fun e w' he => ?_))
  obtain ⟨rfl, rfl⟩ := he
  exact ⟨_, rfl, Below.refl _ _, fun y => RepV_int _ _⟩)

theorem below_drewN {B : Nat} {a w : World} (h : Below B a w) : ∀ q, Below B a (w.drewN q)
  | 0 => h
  | q + 1 => (below_drewN h q).drew
theorem below_grow {B : Nat} {a w : World} (h : Below B a w) (hB : B ≤ w.heap.size) (os : Array Obj) : Below B a (Sort.grow w os) :=
  ⟨h.os, h.tape, h.output, Nat.le_trans h.size (by simp [Sort.grow]), fun b hb => by
    have hlt : b < w.heap.size := by omega
    have : (Sort.grow w os).heap[b]? = w.heap[b]? := by simp [Sort.grow, Array.getElem?_append_left hlt]
    rw [this]; exact h.block b hb⟩

theorem tab_pow {x : Cx} (hI : Inv x) : Lib.TabIs Tryz.prog x.w "internal/strconv.uint64pow10" .u64 Lib.pow10Tab := by
  obtain ⟨_, e, fr, h⟩ := hI.tab 4 _ .pow10
  have hg : Tryz.prog.globalNamed "internal/strconv.uint64pow10" = some 4 := by kernel_rfl
  simp only [Lib.TabIs, World.var?, hg, Option.bind_some, h]
theorem tab_utf {x : Cx} (hI : Inv x) : Lib.Utf8Tabs 1 2 x.w := ⟨(hI.tab 1 _ .first).2 x.w rfl, (hI.tab 2 _ .accept).2 x.w rfl⟩


set_option maxRecDepth 100000 in
theorem con30_ok : ConOk Tryz.prog 30 con30 := lendCon_ok (List.all_eq_true.1 rfl) (fun _ => rfl) (fun x vals X Y hI hv hF => by
  obtain ⟨u, v, rfl, h1, h2⟩ := args2 (t := .int .i64) (s := .int .i64) hv
  have hF' : (bif X.2 == 10 && (decide (-9223372036854775808 ≤ X.1) && decide (X.1 ≤ 9223372036854775807)) then some (⟨(Lib.itoa X.1).toArray⟩ : ByteArray) else none) = some Y := hF
  cases hc : X.2 == 10 && (decide (-9223372036854775808 ≤ X.1) && decide (X.1 ≤ 9223372036854775807)) with
  | false => rw [hc] at hF'; cases hF'
  | true =>
    rw [hc] at hF'
    have hY := Option.some.inj hF'
    subst hY
    simp only [Bool.and_eq_true, decide_eq_true_eq] at hc
    obtain ⟨c1, c2, c3⟩ := hc
    rw [of_int h1, of_int h2, eq_of_beq c1]
    refine calls_does Tryz.func30 body30.1 body30.2 ((YthkigadgbckpoaaGreatDoor.formatInt X.1 c2 c3 x.w (tab_pow hI)).mono (fun e w' he => ?_))
    obtain ⟨rfl, k, os, rfl⟩ := he
    exact ⟨_, rfl, below_grow (below_drewN (Below.refl _ _) k) (by simp) os, fun y => RepV_str _⟩)

set_option maxRecDepth 100000 in
theorem con20_ok : ConOk Tryz.prog 20 con20 := lendCon_ok (List.all_eq_true.1 rfl) (fun _ => rfl) (fun x vals X Y hI hv hF => by
  obtain ⟨u, rfl, h1⟩ := args1 (t := .str) hv
  have hF' : (bif decide (X.size ≤ 9223372036854775807) then some (Lib.validD X.data.toList) else none) = some Y := hF
  cases hc : decide (X.size ≤ 9223372036854775807) with
  | false => rw [hc] at hF'; cases hF'
  | true =>
    rw [hc] at hF'
    have hY := Option.some.inj hF'
    subst hY
    rw [of_str' h1]
    refine calls_does Tryz.func20 body20.1 body20.2 ((YthkigadgbckpoaaGreatDoor.validString X x.w (of_decide_eq_true hc) (tab_utf hI)).mono (fun e w' he => ?_))
    obtain ⟨rfl, hb⟩ := he
    exact ⟨_, rfl, hb, fun y => RepV_bool _⟩)

end Go.Proofs.YthkigadgbckpoaaGreatDoor.AI
