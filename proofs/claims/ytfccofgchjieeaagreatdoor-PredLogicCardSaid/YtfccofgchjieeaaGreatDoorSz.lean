import Derived.Test.YtfccofgchjieeaaGreatDoorBc
import Derived.Test.YtfccofgchjieeaaGreatDoorAjd
import Derived.Test.YtfccofgchjieeaaGreatDoorBs
import Derived.Lib.AtoiErrMem
import Derived.Lib.IndexMore
import Derived.KernelRfl
import GoSem.Core.Float
/- Contracts of the library's functions that this seat calls, out of the kit's own calls. -/
set_option linter.unusedVariables false
set_option linter.unusedSimpArgs false
namespace Go.Proofs.YtfccofgchjieeaaGreatDoor.AI
open Go Go.RowKit Go.Shelf

theorem args1 {x : Cx} {t : Ty} {X : t.den} {vals : Array Value} (h : RepVs x (argsL [(false, t)] X) vals.toList) : ∃ u, vals = #[u] ∧ RepV x (.val false (t.cells X)) u := by
  obtain ⟨u, r, hu, h1, h2⟩ := h
  have hr : r = [] := h2
  subst hr
  exact ⟨u, by cases vals; simp_all, h1⟩
theorem args2 {x : Cx} {t s : Ty} {X : t.den × s.den} {vals : Array Value} (h : RepVs x (argsL [(false, t), (false, s)] X) vals.toList) : ∃ u v, vals = #[u, v] ∧ RepV x (.val false (t.cells X.1)) u ∧ RepV x (.val false (s.cells X.2)) v := by
  obtain ⟨u, r, hu, h1, v, r', hr, h2, h3⟩ := h
  have hr' : r' = [] := h3
  subst hr'
  subst hr
  exact ⟨u, v, by cases vals; simp_all, h1, h2⟩
theorem strEq_iff' (a b : ByteArray) : strEq a b = true ↔ a = b := by
  unfold strEq
  rw [beq_iff_eq]
  exact ⟨bytes_eq, fun h => by rw [h]⟩
theorem some_bif {α : Type} {c : Bool} {x y : α} (h : (bif c then some x else none) = some y) : c = true ∧ x = y := by
  cases c with
  | true => exact ⟨rfl, Option.some.inj h⟩
  | false => cases h

/-! ### What has no body -/
theorem bits29 (b : Nat) (w : World) : (callFunc 29 #[.float .f64 b]).run Tryz.prog w = .ok (.value (.int .u64 b)) w := by kernel_rfl
theorem con29_ok : ConOk Tryz.prog 29 con29 := bitsCon_ok bits29

/-! ### What the kit has shown -/
theorem body171 : (Tryz.f171.name == "runtime.NumGoroutine") = false ∧ Tryz.f171.body.isSome = true := ⟨by kernel_rfl, by kernel_rfl⟩
theorem body98 : (Tryz.f98.name == "runtime.NumGoroutine") = false ∧ Tryz.f98.body.isSome = true := ⟨by kernel_rfl, by kernel_rfl⟩
theorem of_str' {x : Cx} {s : ByteArray} {u : Value} (h : RepV x (.val false [.sc .str s]) u) : u = .string s := of_str h

theorem tab_utf {x : Cx} (hI : Inv x) : Lib.Utf8Tabs 5 6 x.w := ⟨(hI.tab.1 _ _ .first).2 x.w rfl, (hI.tab.1 _ _ .accept).2 x.w rfl⟩

set_option maxRecDepth 100000 in
theorem con171_ok : ConOk Tryz.prog 171 con171 := lendCon_ok (List.all_eq_true.1 rfl) (fun _ => rfl) (fun x vals X Y hI hv hF => by
  obtain ⟨u, v, rfl, h1, h2⟩ := args2 (t := .str) (s := .str) hv
  obtain ⟨hc, rfl⟩ := some_bif (show (bif decide (X.1.size < 4294967281) then some (Lib.contains X.1.data.toList X.2.data.toList) else none) = some Y from hF)
  obtain ⟨m, hm⟩ := (hI.tab.1 _ _ .maxLen).2 x.w rfl
  rw [of_str' h1, of_str' h2]
  refine calls_does Tryz.func171 body171.1 body171.2 ((YtfccofgchjieeaaGreatDoor.strings_Contains X.1 X.2 m x.w (of_decide_eq_true hc) hm).mono (fun e w' he => ?_))
  obtain ⟨rfl, rfl⟩ := he
  exact ⟨_, rfl, Below.refl _ _, fun y => RepV_bool _⟩)

set_option maxRecDepth 100000 in
theorem con98_ok : ConOk Tryz.prog 98 con98 := lendCon_ok (List.all_eq_true.1 rfl) (fun _ => rfl) (fun x vals X Y hI hv hF => by
  obtain ⟨u, rfl, h1⟩ := args1 (t := .str) hv
  obtain ⟨hc, rfl⟩ := some_bif (show (bif decide (X.size ≤ 9223372036854775807) then some (Lib.validD X.data.toList) else none) = some Y from hF)
  rw [of_str' h1]
  refine calls_does Tryz.func98 body98.1 body98.2 ((YtfccofgchjieeaaGreatDoor.validString X x.w (of_decide_eq_true hc) (tab_utf hI)).mono (fun e w' he => ?_))
  obtain ⟨rfl, hb⟩ := he
  exact ⟨_, rfl, hb, fun y => RepV_bool _⟩)

theorem bits184 (n : Int) (w : World) : (callFunc 184 #[.int .u64 n]).run Tryz.prog w = .ok (.value (.float .f64 n.toNat)) w := by kernel_rfl
set_option maxRecDepth 100000 in
theorem con184_ok : ConOk Tryz.prog 184 con184 := lendCon_ok (List.all_eq_true.1 rfl) (fun _ => rfl) (fun x vals X Y hI hv hF => by
  obtain ⟨u, rfl, h1⟩ := args1 (t := .int .u64) hv
  rw [of_int h1]
  cases hF
  exact Does.value (bits184 X x.w) ⟨Below.refl _ _, fun y => RepV_float _ _⟩)
theorem trunc57 {b : Nat} {d : Ieee.Datum} (hd : FloatKind.f64.decode b = d) (hn : ∀ s t, d ≠ .nan s t) (w : World) : (callFunc 204 #[.float .f64 b]).run Tryz.prog w = .ok (.value (.float .f64 (FloatKind.f64.encode (d.integral .zero)))) w := by
  rw [run_callFunc_extern Tryz.func204 (by kernel_rfl) (by kernel_rfl) (by kernel_rfl) (e := Extern.MathFloor.toIntegral "math.archTrunc" .zero) (by kernel_rfl)]
  have e1 : ∃ q : Bool → Nat → Sem Value, Extern.MathFloor.toIntegral "math.archTrunc" .zero #[.float .f64 b] = (match FloatKind.f64.decode b with
      | .nan s t => q s t
      | d => pure (.float .f64 (FloatKind.f64.encode (d.integral .zero)))) := ⟨fun s t => if FloatKind.f64.format.quiet t = t then pure (.float .f64 b) else do
      let kept ← choose (.extern "math.Floor,Ceil,Trunc,RoundToEven.signallingNaN kept" 2)
      pure (.float .f64 (if kept == 1 then b else FloatKind.f64.encode (.nan s (FloatKind.f64.format.quiet t)))), rfl⟩
  obtain ⟨q, e1⟩ := e1
  rw [e1, hd]
  cases d with
  | nan s t => exact absurd rfl (hn s t)
  | number s m i => rfl
  | infinity s => rfl
set_option maxRecDepth 100000 in
theorem con204_ok : ConOk Tryz.prog 204 con204 := lendCon_ok (List.all_eq_true.1 rfl) (fun _ => rfl) (fun x vals X Y hI hv hF => by
  obtain ⟨u, rfl, h1⟩ := args1 (t := .float .f64) hv
  rw [of_float h1]
  have hF' : F204 X = some Y := hF
  unfold F204 at hF'
  split at hF'
  · cases hF'
  · rename_i d hnn
    cases hF'
    exact Does.value (trunc57 rfl (fun s t e => hnn s t e) x.w) ⟨Below.refl _ _, fun y => RepV_float _ _⟩)

theorem body151 : (Tryz.f151.name == "runtime.NumGoroutine") = false ∧ Tryz.f151.body.isSome = true := ⟨by kernel_rfl, by kernel_rfl⟩
set_option maxRecDepth 100000 in
theorem con151_ok : ConOk Tryz.prog 151 con151 := lendCon_ok (List.all_eq_true.1 rfl) (fun _ => rfl) (fun x vals X Y hI hv hF => by
  obtain ⟨u, v, rfl, h1, h2⟩ := args2 (t := .str) (s := .str) hv
  rw [of_str' h1, of_str' h2]
  cases hF
  refine calls_does Tryz.func151 body151.1 body151.2 ((YtfccofgchjieeaaGreatDoor.strings_Compare X.1 X.2 x.w).mono (fun e w' he => ?_))
  obtain ⟨rfl, rfl⟩ := he
  exact ⟨_, rfl, Below.refl _ _, fun y => RepV_int _ _⟩)

set_option maxRecDepth 100000 in
theorem body107 : (Tryz.f107.name == "runtime.NumGoroutine") = false ∧ Tryz.f107.body.isSome = true := ⟨by kernel_rfl, by kernel_rfl⟩
set_option maxRecDepth 100000 in
theorem con107_ok : ConOk Tryz.prog 107 con107 := lendCon_ok (List.all_eq_true.1 rfl) (fun _ => rfl) (fun x vals X Y hI hv hF => by
  obtain ⟨u, v, rfl, h1, h2⟩ := args2 (t := .str) (s := .int .u8) hv
  rw [of_str' h1, of_int h2]
  cases hF
  refine calls_does Tryz.func107 body107.1 body107.2 ((YtfccofgchjieeaaGreatDoor.indexByte X.1 X.2 x.w).mono (fun e w' he => ?_))
  obtain ⟨rfl, rfl⟩ := he
  exact ⟨_, rfl, Below.refl _ _, fun y => RepV_int _ _⟩)

/-! ### Rows that are written in place -/
theorem okB_le {l : List Int} (h : okB 8 l = true) : l.length * 8 ≤ 140737488355328 := by
  unfold okB at h
  exact of_decide_eq_true h
set_option maxRecDepth 100000 in
theorem body41 : (Tryz.f41.name == "runtime.NumGoroutine") = false ∧ Tryz.f41.body.isSome = true := ⟨by kernel_rfl, by kernel_rfl⟩
set_option maxRecDepth 100000 in
theorem con41_ok : ConOk Tryz.prog 41 con41 := rowCon_ok
  (fun l y h => by
    obtain ⟨_, rfl⟩ := some_bif (show (bif okB 8 l then some (sortI l, 0) else none) = some y from h)
    exact ⟨List.length_mergeSort _, Nat.zero_le _⟩)
  (fun w y h => calls_does Tryz.func41 body41.1 body41.2 ((YtfccofgchjieeaaGreatDoor.sortNone none 0 w).mono (fun e w' he => by
    obtain ⟨rfl, rfl⟩ := he
    exact ⟨_, rfl, ⟨0, #[], by simp⟩, rfl⟩)))
  (fun w b c l y hc hm hH hb h => by
    obtain ⟨ho, rfl⟩ := some_bif (show (bif okB 8 l then some (sortI l, 0) else none) = some y from h)
    have hl := okB_le ho
    exact calls_does Tryz.func41 body41.1 body41.2 ((YtfccofgchjieeaaGreatDoor.sortInt b 0 c l w hH hb (by omega)).mono (fun e w' he => by
      obtain ⟨rfl, n, os, rfl⟩ := he
      exact ⟨_, rfl, ⟨n, os, rfl⟩, rfl⟩)))
theorem compact_le (l : List Int) : (Lib.compact l).length ≤ l.length := by
  unfold Lib.compact Lib.compactUpTo
  rw [List.length_map]
  exact Nat.le_trans (List.length_filter_le _ _) (by simp)
set_option maxRecDepth 100000 in
theorem body42 : (Tryz.f42.name == "runtime.NumGoroutine") = false ∧ Tryz.f42.body.isSome = true := ⟨by kernel_rfl, by kernel_rfl⟩
set_option maxRecDepth 100000 in
theorem con42_ok : ConOk Tryz.prog 42 con42 := rowCon_ok
  (fun l y h => by
    obtain ⟨_, rfl⟩ := some_bif (show (bif okB 8 l then some (Lib.compact l ++ List.replicate (l.length - (Lib.compact l).length) 0, (Lib.compact l).length) else none) = some y from h)
    have := compact_le l
    exact ⟨by simp; omega, this⟩)
  (fun w y h => by
    obtain ⟨_, rfl⟩ := some_bif (show (bif okB 8 ([] : List Int) then some (Lib.compact [] ++ List.replicate (([] : List Int).length - (Lib.compact ([] : List Int)).length) 0, (Lib.compact ([] : List Int)).length) else none) = some y from h)
    exact calls_does Tryz.func42 body42.1 body42.2 ((YtfccofgchjieeaaGreatDoor.compactNone none 0 w).mono (fun e w' he => by
      obtain ⟨rfl, rfl⟩ := he
      exact ⟨_, rfl, ⟨0, #[], by simp⟩, rfl⟩)))
  (fun w b c l y hc hm hH hb h => by
    obtain ⟨ho, rfl⟩ := some_bif (show (bif okB 8 l then some (Lib.compact l ++ List.replicate (l.length - (Lib.compact l).length) 0, (Lib.compact l).length) else none) = some y from h)
    have hl := okB_le ho
    exact calls_does Tryz.func42 body42.1 body42.2 ((YtfccofgchjieeaaGreatDoor.compactInt b 0 c l w hH (by omega) hc).mono (fun e w' he => by
      obtain ⟨rfl, q, rfl⟩ := he
      exact ⟨_, rfl, ⟨q, #[], by simp⟩, rfl⟩)))

/-! ### A text that spells an int -/
set_option maxRecDepth 100000 in
theorem body223 : (Tryz.f223.name == "runtime.NumGoroutine") = false ∧ Tryz.f223.body.isSome = true := ⟨by kernel_rfl, by kernel_rfl⟩
theorem bytes_wide (w : World) (t : ByteArray) : w.heap.size ≤ (Lib.bytesWorld w 5 t).heap.size ∧ (∀ b, b < w.heap.size → (Lib.bytesWorld w 5 t).heap[b]? = w.heap[b]?) ∧ (Lib.bytesWorld w 5 t).os = w.os ∧ (Lib.bytesWorld w 5 t).tape = w.tape ∧ (Lib.bytesWorld w 5 t).output = w.output := by
  have h : Below w.heap.size w (Lib.bytesWorld w 5 t) := Lib.bytesWorld_below w 5 t
  exact ⟨h.size, h.block, h.os, h.tape, h.output⟩
set_option maxRecDepth 100000 in
theorem con223_ok : ConOk Tryz.prog 223 con223 := by
  refine ⟨fun x args vals X Y hI hv hl hF => ?_, fun h => (by cases h), by
    intro _ args H l X h
    exact lookL_more H l [(false, .str), (false, .int .i64), (false, .int .i64)] args X h⟩
  have hl' : lookL [(false, .str), (false, .int .i64), (false, .int .i64)] (args.map (roV x.H)) = some X := hl
  have hI' : Inv x.lend.bare := bare_inv (lend_ok hI) (lend_tab hI)
  have hvx : RepVs x.lend.bare (argsL [(false, .str), (false, .int .i64), (false, .int .i64)] X) vals.toList := lookL_sound (x := x.lend) (y := x.lend.bare) (fun t d vs h => h) [(false, .str), (false, .int .i64), (false, .int .i64)] (args.map (roV x.H)) X vals.toList hl' (repVs_ro hI _ _ hv)
  obtain ⟨u1, r1, e1, h1, u2, r2, e2, h2, u3, r3, e3, h3, h4⟩ := hvx
  have h4' : r3 = [] := h4
  subst h4'; subst e3; subst e2
  have hvals : vals = #[u1, u2, u3] := by cases vals; simp_all
  obtain ⟨s, b, z⟩ := X
  change Int at Y
  have hF' : (bif b == 10 && z == 64 then (bif strEq s ⟨#[49]⟩ then some 1 else bif strEq s ⟨#[53]⟩ then some 5 else none) else none) = some Y := hF
  cases hb : (b == 10 && z == 64) with
  | false => rw [hb] at hF'; cases hF'
  | true =>
    rw [hb] at hF'
    simp only [cond_true, Bool.and_eq_true] at hF' hb
    have key : s.size ≤ 9223372036854775806 ∧ Lib.parseIntB 64 s.data.toList = .ok Y := by
      cases hs : strEq s ⟨#[49]⟩ with
      | true =>
        rw [hs] at hF'
        have := (strEq_iff' _ _).1 hs
        subst this
        cases hF'
        exact ⟨by decide, by kernel_rfl⟩
      | false =>
        rw [hs] at hF'
        cases hs5 : strEq s ⟨#[53]⟩ with
        | true =>
          rw [hs5] at hF'
          have := (strEq_iff' _ _).1 hs5
          subst this
          cases hF'
          exact ⟨by decide, by kernel_rfl⟩
        | false => rw [hs5] at hF'; cases hF'
    have g1 : u1 = .string s := of_str h1
    have g2 : u2 = .int .i64 10 := by have := of_int h2; rw [this]; rw [eq_of_beq hb.1]
    have g3 : u3 = .int .i64 64 := by have := of_int h3; rw [this]; rw [eq_of_beq hb.2]
    rw [hvals, g1, g2, g3]
    refine calls_does Tryz.func223 body223.1 body223.2 ((YtfccofgchjieeaaGreatDoor.parseInt s key.1 Y key.2 x.w).mono (fun e w' he => ?_))
    obtain ⟨rfl, hw⟩ := he
    have hw2 : x.w.heap.size ≤ w'.heap.size ∧ (∀ b, b < x.w.heap.size → w'.heap[b]? = x.w.heap[b]?) ∧ w'.os = x.w.os ∧ w'.tape = x.w.tape ∧ w'.output = x.w.output := by
      rcases hw with rfl | ⟨t, rfl⟩
      · exact ⟨Nat.le_refl _, fun _ _ => rfl, rfl, rfl, rfl⟩
      · exact bytes_wide x.w t
    obtain ⟨w1, w2, w3, w4, w5⟩ := hw2
    refine ⟨_, rfl, x.withW w', rfl, rfl, wide_inv hI w1 w2, wide_kept w1 w2 w3 w4 w5, fun id _ _ => wide_idOk hI w2 id, Carry.id_of (wide_kin hI w2) (fun id _ => wide_idOk hI w2 id), Nat.le_refl _, ?_⟩
    exact ⟨#[.int .i64 Y, .nilIface], rfl, _, _, rfl, (RepV_int .i64 Y : RepV _ (.val false [.sc (.int .i64) Y]) _), _, _, rfl, (mk_one ⟨rfl, rfl⟩ : RepV _ (.val false [.nili]) _), rfl⟩

end Go.Proofs.YtfccofgchjieeaaGreatDoor.AI
/- The plain laws of the runs: loops over lists; names. -/
set_option linter.unusedVariables false
set_option linter.unusedSimpArgs false
namespace Go.Proofs.YtfccofgchjieeaaGreatDoor.AI
open Go

/-! ### Loops over lists -/
theorem wrap_ok {n : Int} (h1 : -9223372036854775808 ≤ n) (h2 : n ≤ 9223372036854775807) : IntKind.wrap .i64 n = n := by
  simp [IntKind.wrap, IntKind.min, IntKind.max, IntKind.signed, IntKind.bits]
  omega
theorem nx {i : Nat} (h : i ≤ 140737488355328) : IntKind.wrap .i64 ((i : Int) + (1 : Int)) = ((i + 1 : Nat) : Int) := by
  rw [wrap_ok (by omega) (by omega)]; simp

theorem iter_list {α σ β R : Type} {step : (β → Option R) → β → Option R} (l : List α) (enc : Nat → σ → β) (I : Nat → σ → Prop) (f : Nat → σ → List α → Option R)
    (hend : ∀ S a, I l.length a → step S (enc l.length a) = f l.length a [])
    (hstep : ∀ S i a v r, i < l.length → l[i]? = some v → l.drop (i + 1) = r → I i a → (∀ a', I (i + 1) a' → S (enc (i + 1) a') = f (i + 1) a' r) → step S (enc i a) = f i a (v :: r)) :
    ∀ (r : List α) (i : Nat), l.drop i = r → i ≤ l.length → ∀ m a, I i a → r.length < m → iter step m (enc i a) = f i a r
  | [], i, hd, hi, m, a, hI, hm => by
    have hl : l.length ≤ i := List.drop_eq_nil_iff.1 hd
    have : i = l.length := by omega
    subst this
    cases m with
    | zero => simp at hm
    | succ m => exact hend _ a hI
  | v :: r, i, hd, hi, m, a, hI, hm => by
    have hlt : i < l.length := by
      rcases Nat.lt_or_ge i l.length with h | h
      · exact h
      · rw [List.drop_eq_nil_iff.2 h] at hd; cases hd
    have hv : l[i]? = some v := by
      have := congrArg List.head? hd
      rw [List.head?_drop] at this
      simpa using this
    have hr : l.drop (i + 1) = r := by
      have := congrArg List.tail hd
      rw [List.tail_drop] at this
      simpa using this
    cases m with
    | zero => simp at hm
    | succ m => exact hstep _ i a v r hlt hv hr hI (fun a' hI' => iter_list l enc I f hend hstep r (i + 1) hr (by omega) m a' hI' (by simp at hm; omega))

theorem iter_all {α σ β R : Type} {step : (β → Option R) → β → Option R} (l : List α) (enc : Nat → σ → β) (I : Nat → σ → Prop) (f : Nat → σ → List α → Option R)
    (hend : ∀ S a, I l.length a → step S (enc l.length a) = f l.length a [])
    (hstep : ∀ S i a v r, i < l.length → l[i]? = some v → l.drop (i + 1) = r → I i a → (∀ a', I (i + 1) a' → S (enc (i + 1) a') = f (i + 1) a' r) → step S (enc i a) = f i a (v :: r))
    (m : Nat) (hm : l.length < m) (a : σ) (hI : I 0 a) : iter step m (enc 0 a) = f 0 a l :=
  iter_list l enc I f hend hstep l 0 rfl (Nat.zero_le _) m a hI hm

theorem okB_iff {α : Type} {b : Nat} {l : List α} : okB b l = true ↔ l.length * b ≤ 140737488355328 := by
  unfold okB
  rw [decide_eq_true_iff]
theorem okB_len {α : Type} {b : Nat} {l : List α} (hb : 1 ≤ b) (h : okB b l = true) : l.length ≤ 140737488355328 := by
  have h1 := okB_iff.1 h
  have : l.length * 1 ≤ l.length * b := Nat.mul_le_mul_left _ hb
  omega
theorem okB_take {α : Type} {b : Nat} {l : List α} (h : okB b l = true) (i : Nat) : okB b (l.take i) = true := by
  have h1 := okB_iff.1 h
  refine okB_iff.2 ?_
  have : (l.take i).length * b ≤ l.length * b := Nat.mul_le_mul_right _ (by rw [List.length_take]; exact Nat.min_le_right _ _)
  omega

theorem at_lt {α : Type} {l : List α} {i : Nat} (h : i < l.length) : decide ((i : Int) < (l.length : Int)) = true := by simp; exact h
theorem at_end {α : Type} (l : List α) : decide ((l.length : Int) < (l.length : Int)) = false := by simp
theorem at_ge (i : Nat) : decide (0 ≤ (i : Int)) = true := by simp
theorem at_le {α : Type} {l : List α} {i : Nat} (h : i < l.length) : decide ((i : Int) ≤ (l.length : Int)) = true := by simp; omega
theorem at_get {α : Type} {l : List α} {i : Nat} {v d : α} (h : l[i]? = some v) : l.getD (i : Int).toNat d = v := by simp [List.getD, h]
theorem at_take {α : Type} (l : List α) (i : Nat) : List.take (i : Int).toNat l = l.take i := by simp
theorem take_next {α : Type} {l : List α} {i : Nat} {v : α} (h : l[i]? = some v) : l.take i ++ [v] = l.take (i + 1) := by
  obtain ⟨hlt, rfl⟩ := List.getElem?_eq_some_iff.1 h
  simp
theorem lt_of {α : Type} {l : List α} {i : Nat} {v : α} (h : l[i]? = some v) : i < l.length := (List.getElem?_eq_some_iff.1 h).1

/-- Whether one is there. -/
theorem any_loop {α : Type} {l : List α} (p : α → Bool) {step : (Int → Option Bool) → Int → Option Bool} {m : Nat} (hm : l.length < m)
    (hend : ∀ S, step S (l.length : Int) = some false)
    (hstep : ∀ S i v, i < l.length → l[i]? = some v → step S (i : Int) = bif p v then some true else S ((i + 1 : Nat) : Int)) :
    iter step m 0 = some (l.any p) :=
  iter_all (step := step) l (fun i (_ : Unit) => (i : Int)) (fun _ _ => True) (fun i _ r => some (r.any p))
    (fun S a _ => by simp [hend]) (fun S i a v r hi hv hr _ ih => by
      rw [hstep S i v hi hv, List.any_cons, ih () trivial]
      cases p v <;> rfl) m hm () trivial
/-- Whether all are so. -/
theorem all_loop {α : Type} {l : List α} (p : α → Bool) {step : (Int → Option Bool) → Int → Option Bool} {m : Nat} (hm : l.length < m)
    (hend : ∀ S, step S (l.length : Int) = some true)
    (hstep : ∀ S i v, i < l.length → l[i]? = some v → step S (i : Int) = bif p v then S ((i + 1 : Nat) : Int) else some false) :
    iter step m 0 = some (l.all p) :=
  iter_all (step := step) l (fun i (_ : Unit) => (i : Int)) (fun _ _ => True) (fun i _ r => some (r.all p))
    (fun S a _ => by simp [hend]) (fun S i a v r hi hv hr _ ih => by
      rw [hstep S i v hi hv, List.all_cons, ih () trivial]
      cases p v <;> rfl) m hm () trivial
theorem idx_loop {α : Type} {l : List α} (p : α → Bool) {step : (Int → Option Int) → Int → Option Int} {m : Nat} (hm : l.length < m)
    (hend : ∀ S, step S (l.length : Int) = some (-1))
    (hstep : ∀ S i v, i < l.length → l[i]? = some v → step S (i : Int) = bif p v then some (i : Int) else S ((i + 1 : Nat) : Int)) :
    iter step m 0 = some (idxI p l) := by
  have := iter_all (step := step) l (fun i (_ : Unit) => (i : Int)) (fun _ _ => True) (fun i _ r => some (match r.findIdx? p with | some j => ((i + j : Nat) : Int) | none => -1))
    (fun S a _ => by simp [hend]) (fun S i a v r hi hv hr _ ih => by
      rw [hstep S i v hi hv, List.findIdx?_cons]
      cases hp : p v with
      | true => simp
      | false =>
        have := ih () trivial
        rw [cond_false, this]
        simp only [Bool.false_eq_true, if_false]
        cases r.findIdx? p with
        | none => rfl
        | some j => simp; omega) m hm () trivial
  simp only [Int.natCast_zero, Nat.zero_add] at this
  exact this
/-- A fold with what was seen, up to the first answer. -/
theorem seen_loop {α R : Type} {l : List α} (f : List α → List α → R) {step : (Int → Option R) → Int → Option R} {m : Nat} (hm : l.length < m)
    (hend : ∀ S, step S (l.length : Int) = some (f l []))
    (hstep : ∀ S i v r, i < l.length → l[i]? = some v → l.drop (i + 1) = r → S ((i + 1 : Nat) : Int) = some (f (l.take i ++ [v]) r) → step S (i : Int) = some (f (l.take i) (v :: r))) :
    iter step m 0 = some (f [] l) := by
  have := iter_all (step := step) l (fun i (_ : Unit) => (i : Int)) (fun _ _ => True) (fun i _ r => some (f (l.take i) r))
    (fun S a _ => by simp [hend]) (fun S i a v r hi hv hr _ ih => by
      refine hstep S i v r hi hv hr ?_
      rw [take_next hv]
      exact ih () trivial) m hm () trivial
  simpa using this

theorem idx_any {α : Type} (p : α → Bool) (l : List α) : decide (idxI p l ≥ 0) = l.any p := by
  unfold idxI
  cases h : l.findIdx? p with
  | none =>
    have h1 := List.findIdx?_eq_none_iff.1 h
    have : l.any p = false := by
      rw [List.any_eq_false]
      intro v hv
      rw [h1 v hv]; simp
    rw [this]; rfl
  | some i =>
    obtain ⟨hlt, hp, _⟩ := List.findIdx?_eq_some_iff_getElem.1 h
    have : l.any p = true := List.any_eq_true.2 ⟨l[i], List.getElem_mem hlt, hp⟩
    rw [this]; simp

theorem cond_or' (a b : Bool) : (bif a then true else b) = (a || b) := by cases a <;> rfl
theorem cond_and' (a b : Bool) : (bif a then b else false) = (a && b) := by cases a <;> rfl

theorem cond_or2 (a b : Bool) : (bif a then true else b) = (a || b) := by cases a <;> rfl
theorem cond_and2 (a b : Bool) : (bif a then b else false) = (a && b) := by cases a <;> rfl
theorem con72_ok : ConOk Tryz.prog 72 con72 := f72.ok (fun x y h => ⟨0, by cases h; simp only [f72.g, cond_or2, numK]⟩)
theorem con49_ok : ConOk Tryz.prog 49 con49 := f49.ok (fun x y h => ⟨0, by cases h; simp only [f49.g, cond_or2, logK]⟩)
theorem spec71 : ∀ X Y, F71 X = some Y → ∃ n, f71.g n X = some Y := by
  rintro ⟨a, b⟩ y h
  cases h
  refine ⟨0, ?_⟩
  simp only [f71.g, F72, Option.bind_some, fitK, cond_or2, cond_and2]
  cases a == b <;> cases numK a <;> cases numK b <;> cases a == 0 <;> cases b == 0 <;> rfl
theorem con71_ok : ConOk Tryz.prog 71 con71 := f71.ok spec71 con72_ok

/-! ### First places -/
theorem F173_some {x : List Int × Int} (h : okB 8 x.1 = true) : F173 x = some (idxI (fun v => v == x.2) x.1) := by unfold F173; rw [h]; rfl
theorem spec173 : ∀ X Y, F173 X = some Y → ∃ n, f173.g n X = some Y := by
  intro x y h
  obtain ⟨ho, rfl⟩ := some_bif h
  have hl := okB_len (by omega) ho
  refine ⟨x.1.length + 1, idx_loop _ (Nat.lt_succ_self _) (fun S => ?_) (fun S i v hi hv => ?_)⟩
  · simp only [f173.s1, at_end, cond_false]
  · have : (x.2 == v) = (v == x.2) := by rw [Bool.eq_iff_iff, beq_iff_eq, beq_iff_eq]; exact eq_comm
    simp only [f173.s1, at_lt hi, at_ge, at_get hv, nx (show i ≤ _ by omega), Bool.and_self, cond_true, this]
theorem con173_ok : ConOk Tryz.prog 173 con173 := f173.ok spec173
theorem F119_some {l : List Int} (h : okB 8 l = true) (a : Int) : F119 (l, a) = some (l.any fun v => v == a) := by
  show (bif okB 8 l then _ else _) = _
  rw [h]; rfl
theorem spec119 : ∀ X Y, F119 X = some Y → ∃ n, f119.g n X = some Y := by
  intro x y h
  obtain ⟨ho, rfl⟩ := some_bif h
  exact ⟨0, by simp only [f119.g, F173_some ho, Option.bind_some, idx_any]⟩
theorem con119_ok : ConOk Tryz.prog 119 con119 := f119.ok spec119 con173_ok
theorem spec123 : ∀ X Y, F123 X = some Y → ∃ n, f123.g n X = some Y := by
  intro x y h
  obtain ⟨ho, rfl⟩ := some_bif (show (bif okB 16 x.1 then some (x.1.any fun w => strEq w x.2) else none) = some y from h)
  have hl := okB_len (by omega) ho
  refine ⟨x.1.length + 1, any_loop _ (Nat.lt_succ_self _) (fun S => ?_) (fun S i v hi hv => ?_)⟩
  · simp only [f123.s1, at_end, cond_false]
  · simp only [f123.s1, at_lt hi, at_ge, at_get hv, nx (show i ≤ _ by omega), Bool.and_self, cond_true]
theorem con123_ok : ConOk Tryz.prog 123 con123 := f123.ok spec123
theorem con124_ok : ConOk Tryz.prog 124 con124 := f124.ok (fun x y h => ⟨0, by cases h; rfl⟩)
theorem spec172a : ∀ X Y, F172a X = some Y → ∃ n, f172a.g n X = some Y := by
  intro x y h
  obtain ⟨ho, rfl⟩ := some_bif h
  have hl := okB_len (by omega) ho
  refine ⟨x.1.length + 1, idx_loop _ (Nat.lt_succ_self _) (fun S => ?_) (fun S i v hi hv => ?_)⟩
  · simp only [f172a.s1, at_end, cond_false]
  · simp only [f172a.s1, at_lt hi, at_ge, at_get hv, nx (show i ≤ _ by omega), Bool.and_self, cond_true]
theorem spec172b : ∀ X Y, F172b X = some Y → ∃ n, f172b.g n X = some Y := by
  intro x y h
  obtain ⟨ho, rfl⟩ := some_bif h
  have hl := okB_len (by omega) ho
  refine ⟨x.1.length + 1, idx_loop _ (Nat.lt_succ_self _) (fun S => ?_) (fun S i v hi hv => ?_)⟩
  · simp only [f172b.s1, at_end, cond_false]
  · simp only [f172b.s1, at_lt hi, at_ge, at_get hv, nx (show i ≤ _ by omega), Bool.and_self, cond_true]
theorem con172_ok : ConOk Tryz.prog 172 con172 := orCon_ok (f172a.ok spec172a) (f172b.ok spec172b)
theorem F117_some {l : List dColumn} (h : okB 72 l = true) (a : dColumn) : F117 (l, a) = some (l.any fun c => strEq c.1 a.1) := by
  show (bif okB 72 l then _ else _) = _
  rw [h]; rfl
theorem spec117 : ∀ X Y, F117 X = some Y → ∃ n, f117.g n X = some Y := by
  intro x y h
  obtain ⟨ho, rfl⟩ := some_bif h
  have e : F172b x = some (idxI (fun c => strEq c.1 x.2.1) x.1) := by unfold F172b; rw [ho]; rfl
  exact ⟨0, by simp only [f117.g, e, Option.bind_some, idx_any]⟩
theorem con117_ok : ConOk Tryz.prog 117 con117 := f117.ok spec117 con172_ok
theorem spec120a : ∀ X Y, F120a X = some Y → ∃ n, f120a.g n X = some Y := by
  intro x y h
  obtain ⟨ho, rfl⟩ := some_bif h
  obtain ⟨ho, hin⟩ := Bool.and_eq_true _ _ ▸ ho
  have hl := okB_len (by omega) ho
  refine ⟨x.1.length + 1, idx_loop _ (Nat.lt_succ_self _) (fun S => ?_) (fun S i v hi hv => ?_)⟩
  · simp only [f120a.s1, at_end, cond_false]
  · have h2 : (decide (0 ≤ v) && decide (v < (x.2.2.1.length : Int))) = true := List.all_eq_true.1 hin v (List.mem_of_getElem? hv)
    simp only [f120a.s1, at_lt hi, at_ge, at_get hv, nx (show i ≤ _ by omega), Bool.and_self, cond_true, h2, nullK]
theorem getD_pos {l : List Int} (h : 0 < l.length) : (decide (0 ≤ (0 : Int)) && decide ((0 : Int) < (l.length : Int))) = true := by simp; omega
theorem specIb : ∀ X Y, F120b X = some Y → ∃ n, f120b.g n X = some Y := by
  intro x y h
  obtain ⟨ho, rfl⟩ := some_bif h
  simp only [Bool.and_eq_true, decide_eq_true_eq] at ho
  have hl := okB_len (by omega) ho.1
  refine ⟨x.1.length + 1, idx_loop _ (Nat.lt_succ_self _) (fun S => ?_) (fun S i v hi hv => ?_)⟩
  · simp only [f120b.s1, at_end, cond_false]
  · simp only [f120b.s1, at_lt hi, at_ge, at_get hv, nx (show i ≤ _ by omega), Bool.and_self, cond_true, getD_pos ho.2, F71, Option.bind_some]; rfl
theorem con120_ok : ConOk Tryz.prog 120 con120 := orCon_ok (f120a.ok spec120a) (f120b.ok specIb con71_ok)
theorem F65a_some {l : List Int} {t : dTable} (h : okB 8 l = true) (h2 : l.all (inK t) = true) : F65a (l, t) = some (l.any (nullK t)) := by
  show (bif okB 8 l && l.all (inK t) then _ else _) = _
  rw [h, h2]; rfl
theorem spec65a : ∀ X Y, F65a X = some Y → ∃ n, f65a.g n X = some Y := by
  intro x y h
  obtain ⟨ho, rfl⟩ := some_bif h
  have e : F120a x = some (idxI (nullK x.2) x.1) := by unfold F120a; rw [ho]; rfl
  exact ⟨0, by simp only [f65a.g, e, Option.bind_some, idx_any]⟩
theorem specKb : ∀ X Y, F65b X = some Y → ∃ n, f65b.g n X = some Y := by
  intro x y h
  obtain ⟨ho, rfl⟩ := some_bif h
  have e : F120b x = some (idxI (fun y => !fitK (x.2.getD 0 0) y) x.1) := by unfold F120b; rw [ho]; rfl
  exact ⟨0, by simp only [f65b.g, e, Option.bind_some, idx_any]⟩
theorem con65_ok : ConOk Tryz.prog 65 con65 := orCon_ok (f65a.ok spec65a con120_ok) (f65b.ok specKb con71_ok con120_ok)
theorem spec121 : ∀ X Y, F121 X = some Y → ∃ n, f121.g n X = some Y := by
  intro x y h
  obtain ⟨ho, rfl⟩ := some_bif h
  have hl := okB_len (by omega) ho
  refine ⟨x.1.length + 1, idx_loop _ (Nat.lt_succ_self _) (fun S => ?_) (fun S i v hi hv => ?_)⟩
  · simp only [f121.s1, at_end, cond_false]
  · simp only [f121.s1, at_lt hi, at_ge, at_get hv, nx (show i ≤ _ by omega), Bool.and_self, cond_true]
theorem con121_ok : ConOk Tryz.prog 121 con121 := f121.ok spec121
theorem F67_some {l : List dIndex} (h : okB 48 l = true) (a : dIndex) : F67 (l, a) = some (l.any fun c => strEq c.1 a.1) := by
  show (bif okB 48 l then _ else _) = _
  rw [h]; rfl
theorem spec67 : ∀ X Y, F67 X = some Y → ∃ n, f67.g n X = some Y := by
  intro x y h
  obtain ⟨ho, rfl⟩ := some_bif h
  have e : F121 x = some (idxI (fun c => strEq c.1 x.2.1) x.1) := by unfold F121; rw [ho]; rfl
  exact ⟨0, by simp only [f67.g, e, Option.bind_some, idx_any]⟩
theorem con67_ok : ConOk Tryz.prog 67 con67 := f67.ok spec67 con121_ok

/-! ### Columns of a table -/
theorem len_lt (n : Nat) (k : Nat) : decide ((n : Int) < (k : Int)) = decide (n < k) := by simp
theorem len_gt (n : Nat) (k : Nat) : decide ((n : Int) > (k : Int)) = decide (n > k) := by simp
theorem someL_in (n : Nat) : ∀ (seen l : List Int), someL n seen l = true → l.all (fun k => decide (0 ≤ k) && decide (k < (n : Int))) = true
  | _, [], _ => rfl
  | seen, k :: r, h => by
    unfold someL at h
    by_cases h1 : k < 0
    · simp [h1] at h
    · by_cases h2 : k ≥ (n : Int)
      · simp [h2] at h
      · have h3 : (decide (k < 0) || decide (k ≥ (n : Int))) = false := by simp; omega
        rw [h3, cond_false] at h
        cases h4 : seen.any (fun v => v == k) with
        | true => rw [h4] at h; cases h
        | false =>
          rw [h4, cond_false] at h
          rw [List.all_cons, someL_in n _ r h]
          simp; omega
theorem F64_some {l : List Int} (t : dTable) (h : okB 8 l = true) : F64 (t, l) = some (someS t.2.1.length l) := by
  show (bif okB 8 l then _ else _) = _
  rw [h]; rfl
theorem F76_some {l : List Int} (t : dTable) (h : okB 8 l = true) : F76 (t, l) = some (someS t.2.1.length l) := F64_some t h
theorem spec64 : ∀ X Y, F64 X = some Y → ∃ n, f64.g n X = some Y := by
  intro x y h
  obtain ⟨ho, rfl⟩ := some_bif h
  have hl := okB_len (by omega) ho
  refine ⟨x.2.length + 1, ?_⟩
  have key := seen_loop (l := x.2) (step := f64.s1 (x.2.length + 1) x) (fun seen r => someL x.1.2.1.length seen r) (Nat.lt_succ_self _) (fun S => by
      simp only [f64.s1, at_end, cond_false, someL]) (fun S i v r hi hv hr ih => by
      simp only [f64.s1, at_lt hi, at_ge, at_le hi, at_get hv, at_take, nx (show i ≤ _ by omega), Bool.and_self, cond_true, F119_some (okB_take ho i) v, Option.bind_some, cond_or', ih, someL]
      cases decide (v < 0) || decide (v ≥ (x.1.2.1.length : Int)) with
      | true => rfl
      | false =>
        simp only [cond_false]
        cases (x.2.take i).any (fun w => w == v) <;> rfl)
  simp only [f64.g, key, someS, cond_or']
  have e1 : decide ((x.2.length : Int) < (1 : Int)) = decide (x.2.length < 1) := len_lt _ 1
  have e2 : decide ((x.2.length : Int) > (64 : Int)) = decide (x.2.length > 64) := len_gt _ 64
  rw [e1, e2]
  cases decide (x.2.length < 1) || decide (x.2.length > 64) <;> rfl
theorem con64_ok : ConOk Tryz.prog 64 con64 := f64.ok spec64 con119_ok

end Go.Proofs.YtfccofgchjieeaaGreatDoor.AI
/- The plain laws of the runs: names, and values that may be. -/
set_option linter.unusedVariables false
set_option linter.unusedSimpArgs false
namespace Go.Proofs.YtfccofgchjieeaaGreatDoor.AI
open Go

/-! ### Words in a text, each between two blanks -/
theorem contains_cons (b : UInt8) (l sub : List UInt8) : Lib.contains (b :: l) sub = (sub.isPrefixOf (b :: l) || Lib.contains l sub) := by
  unfold Lib.contains
  rw [Lib.index]
  have hg := Lib.index_ge l sub
  cases hp : sub.isPrefixOf (b :: l) with
  | true => rfl
  | false =>
    simp only [Bool.false_eq_true, if_false, Bool.false_or]
    by_cases h : Lib.index l sub = -1
    · rw [h]; rfl
    · have : (Lib.index l sub == -1) = false := by simp; exact h
      rw [this]
      simp only [Bool.false_eq_true, if_false]
      rw [decide_eq_true (show 0 ≤ Lib.index l sub + 1 by omega), decide_eq_true (show 0 ≤ Lib.index l sub by omega)]

/-- Words, a blank behind each. -/
def blanks : List (List UInt8) → List UInt8
  | [] => []
  | w :: ws => w ++ 32 :: blanks ws

theorem pre_word : ∀ (s w r : List UInt8), (32 : UInt8) ∉ s → (32 : UInt8) ∉ w → (s ++ [32]).isPrefixOf (w ++ 32 :: r) = decide (s = w)
  | [], [], r, _, _ => by simp
  | [], b :: w, r, _, hw => by
    have : ¬ (32 : UInt8) = b := fun e => hw (by simp [e])
    simp [List.isPrefixOf, this]
  | a :: s, [], r, hs, _ => by
    have : ¬ a = (32 : UInt8) := fun e => hs (by simp [e])
    simp [List.isPrefixOf, this]
  | a :: s, b :: w, r, hs, hw => by
    have ih := pre_word s w r (fun h => hs (List.mem_cons_of_mem _ h)) (fun h => hw (List.mem_cons_of_mem _ h))
    simp only [List.cons_append, List.isPrefixOf, ih]
    by_cases h : a = b
    · subst h; simp
    · simp [h]

theorem skip_word (pat r : List UInt8) : ∀ (w : List UInt8), (32 : UInt8) ∉ w → Lib.contains (w ++ r) (32 :: pat) = Lib.contains r (32 :: pat)
  | [], _ => rfl
  | b :: w, hw => by
    have : ((32 : UInt8) == b) = false := by simp; exact fun e => hw (by simp [e])
    rw [List.cons_append, contains_cons, List.isPrefixOf, this, skip_word pat r w (fun h => hw (List.mem_cons_of_mem _ h))]
    rfl

theorem contains_words (s : List UInt8) (hs : (32 : UInt8) ∉ s) : ∀ (ws : List (List UInt8)), (∀ w ∈ ws, (32 : UInt8) ∉ w) → Lib.contains (32 :: blanks ws) (32 :: (s ++ [32])) = ws.any (fun w => decide (s = w))
  | [], _ => by
    have hne : (32 :: (s ++ [32]) : List UInt8).isPrefixOf [32] = false := by
      cases s with
      | nil => rfl
      | cons a s => simp [List.isPrefixOf]
    show Lib.contains [32] _ = _
    rw [contains_cons, hne]
    rfl
  | w :: ws, h => by
    have ih := contains_words s hs ws (fun v hv => h v (List.mem_cons_of_mem _ hv))
    rw [blanks, contains_cons, List.isPrefixOf, pre_word s w _ hs (h w (by simp)), skip_word _ _ w (h w (by simp)), ih]
    simp

/-! ### Bytes -/
theorem strEq_iff (a b : ByteArray) : strEq a b = true ↔ a = b := by
  unfold strEq
  rw [beq_iff_eq]
  constructor
  · intro h
    cases a with
    | mk d => cases b with
      | mk e =>
        have h1 : d.toList = e.toList := by simpa [ByteArray.toList_eq] using h
        exact congrArg ByteArray.mk (Array.ext' h1)
  · intro h; rw [h]
theorem strEq_dec (a b : ByteArray) : strEq a b = decide (b.data.toList = a.data.toList) := by
  rw [Bool.eq_iff_iff, strEq_iff, decide_eq_true_iff]
  constructor
  · intro h; rw [h]
  · intro h
    cases a with
    | mk d => cases b with
      | mk e => exact congrArg ByteArray.mk (Array.ext' h.symm)
theorem bytes_len (x : ByteArray) : (bytesI x).length = x.size := by
  unfold bytesI
  rw [List.length_map]
  rfl
theorem byte_at {x : ByteArray} {i : Nat} {v : Int} (h : (bytesI x)[i]? = some v) : byteAt x (i : Int) = v := by
  unfold bytesI at h
  rw [List.getElem?_map, Option.map_eq_some_iff] at h
  obtain ⟨b, hb, rfl⟩ := h
  have hx : x[i]? = some b := by
    obtain ⟨hlt, e⟩ := List.getElem?_eq_some_iff.1 hb
    have hlt' : i < x.size := hlt
    rw [getElem?_pos x i hlt']
    rw [← e]; rfl
  unfold byteAt
  rw [Int.toNat_natCast, hx]

theorem wordsS_eq : wordsS.data.toList = 32 :: blanks (wordsL.map fun w => w.data.toList) := by kernel_rfl
theorem wordsL_no : ∀ w ∈ wordsL.map fun w => w.data.toList, (32 : UInt8) ∉ w := by
  have h : ((wordsL.map fun w => w.data.toList).all fun w => w.all fun b => b != 32) = true := by kernel_rfl
  intro w hw hm
  have := List.all_eq_true.1 (List.all_eq_true.1 h w hw) _ hm
  simp at this
theorem words_any {x : ByteArray} (h : (32 : UInt8) ∉ x.data.toList) : Lib.contains wordsS.data.toList (32 :: (x.data.toList ++ [32])) = wordsL.any fun w => strEq w x := by
  rw [wordsS_eq, contains_words _ h _ wordsL_no, List.any_map]
  congr 1
  funext w
  simp only [Function.comp, strEq_dec]

theorem F115_some {x : ByteArray} (h : x.size ≤ 140737488355328) : F115 x = some (Lib.contains wordsS.data.toList (32 :: (x.data.toList ++ [32]))) := by
  unfold F115; rw [decide_eq_true h]; rfl
set_option maxRecDepth 100000 in
theorem spec115 : ∀ X Y, F115 X = some Y → ∃ n, f115.g n X = some Y := by
  intro x y h
  obtain ⟨hq, rfl⟩ := some_bif h
  have hq := of_decide_eq_true hq
  have hb : boundS = 9223372036854775807 := rfl
  have s1 : (⟨#[32]⟩ : ByteArray).size = 1 := rfl
  have s2 : ((⟨#[32]⟩ : ByteArray) ++ x).size = 1 + x.size := by rw [ByteArray.size_append, s1]
  refine ⟨0, ?_⟩
  have e : F171 (wordsS, ((⟨#[32]⟩ : ByteArray) ++ x) ++ (⟨#[32]⟩ : ByteArray)) = some (Lib.contains wordsS.data.toList (32 :: (x.data.toList ++ [32]))) := by
    unfold F171
    rw [show decide (wordsS.size < 4294967281) = true from rfl, cond_true]
    rw [show (((⟨#[32]⟩ : ByteArray) ++ x) ++ (⟨#[32]⟩ : ByteArray)).data.toList = 32 :: (x.data.toList ++ [32]) by simp [ByteArray.data_append]]
  have hg : f115.g 0 x = (bif decide ((⟨#[32]⟩ : ByteArray).size + x.size ≤ boundS) then (bif decide (((⟨#[32]⟩ : ByteArray) ++ x).size + (⟨#[32]⟩ : ByteArray).size ≤ boundS) then ((F171 (wordsS, ((⟨#[32]⟩ : ByteArray) ++ x) ++ (⟨#[32]⟩ : ByteArray))).bind fun r1 => some r1) else none) else none) := rfl
  rw [hg, decide_eq_true (show (⟨#[32]⟩ : ByteArray).size + x.size ≤ boundS by rw [s1, hb]; omega), decide_eq_true (show ((⟨#[32]⟩ : ByteArray) ++ x).size + (⟨#[32]⟩ : ByteArray).size ≤ boundS by rw [s2, s1, hb]; omega), e]
  rfl
theorem con115_ok : ConOk Tryz.prog 115 con115 := f115.ok spec115 con171_ok

theorem small_eq (c : Int) : (bif (c == (95 : Int)) then true else (bif (decide (c ≥ (97 : Int))) then (decide (c ≤ (122 : Int))) else false)) = smallI c := by
  rw [cond_or', cond_and']; rfl
theorem small_eq' (c : Int) : (bif (bif (decide (c ≥ (97 : Int))) then (decide (c ≤ (122 : Int))) else false) then true else (c == (95 : Int))) = smallI c := by
  rw [cond_or', cond_and', Bool.or_comm]; rfl
theorem digit_eq (c : Int) : (bif (decide (c ≥ (48 : Int))) then (decide (c ≤ (57 : Int))) else false) = digitI c := by
  rw [cond_and']; rfl
theorem blank_not {x : ByteArray} (h : (32 : UInt8) ∈ x.data.toList) : ((bytesI x).all fun c => smallI c || digitI c) = false := by
  rw [List.all_eq_false]
  exact ⟨32, List.mem_map.2 ⟨32, h, rfl⟩, by decide⟩

theorem spec62 (x : ByteArray) : ∃ n, f62.g n x = some (nameS x) := by
  refine ⟨x.size + 1, ?_⟩
  unfold f62.g nameS
  have e1 : (bif strEq x (⟨#[]⟩ : ByteArray) then true else decide ((x.size : Int) > (63 : Int))) = (decide (x.size < 1) || decide (x.size > 63)) := by
    rw [cond_or']
    have q1 : strEq x (⟨#[]⟩ : ByteArray) = decide (x.size < 1) := by
      rw [Bool.eq_iff_iff, strEq_iff, decide_eq_true_iff]
      constructor
      · intro h; rw [h]; decide
      · intro h
        cases x with
        | mk d =>
          have : d.size = 0 := by
            have : d.size < 1 := h
            omega
          rw [Array.eq_empty_of_size_eq_zero this]
    rw [q1, show decide ((x.size : Int) > (63 : Int)) = decide (x.size > 63) from len_gt _ 63]
  rw [e1]
  cases hs : decide (x.size < 1) || decide (x.size > 63) with
  | true => rfl
  | false =>
    simp only [Bool.or_eq_false_iff, decide_eq_false_iff_not] at hs
    simp only [cond_false]
    have p1 : (decide (0 ≤ (0 : Int)) && decide ((0 : Int) < (x.size : Int))) = true := by simp; omega
    have key : ∀ r1, iter (f62.s1 (x.size + 1) x r1) (x.size + 1) 0 = some ((bytesI x).all fun c => smallI c || digitI c) := fun r1 => all_loop (l := bytesI x) (fun c => smallI c || digitI c) (by rw [bytes_len]; omega) (fun S => by
      rw [bytes_len]
      have : decide ((x.size : Int) < (x.size : Int)) = false := by simp
      simp only [f62.s1, this, cond_false]) (fun S i v hi hv => by
      rw [bytes_len] at hi
      have q : decide ((i : Int) < (x.size : Int)) = true := by simp; exact hi
      simp only [f62.s1, q, at_ge, byte_at hv, nx (show i ≤ _ by omega), Bool.and_self, cond_true, small_eq, digit_eq]
      cases smallI v <;> cases digitI v <;> rfl)
    rw [p1, cond_true, small_eq]
    cases smallI (byteAt x 0) with
    | false => rfl
    | true =>
      simp only [Bool.not_true, cond_false, F115_some (show x.size ≤ 140737488355328 by omega), Option.bind_some, key, Bool.false_or]
      by_cases h32 : (32 : UInt8) ∈ x.data.toList
      · rw [blank_not h32]
        cases Lib.contains wordsS.data.toList (32 :: (x.data.toList ++ [32])) <;> cases wordsL.any fun w => strEq w x <;> rfl
      · rw [words_any h32]
        cases wordsL.any fun w => strEq w x <;> rfl
theorem con62_ok : ConOk Tryz.prog 62 con62 := f62.ok (fun x y h => by cases h; exact spec62 x) con115_ok

theorem spec74 (x : ByteArray) : ∃ n, f74.g n x = some (nameS x) := by
  refine ⟨x.size + 1, ?_⟩
  unfold f74.g nameS
  rw [cond_or', show decide ((x.size : Int) < (1 : Int)) = decide (x.size < 1) from len_lt _ 1, show decide ((x.size : Int) > (63 : Int)) = decide (x.size > 63) from len_gt _ 63]
  cases hs : decide (x.size < 1) || decide (x.size > 63) with
  | true => rfl
  | false =>
    simp only [Bool.or_eq_false_iff, decide_eq_false_iff_not] at hs
    simp only [cond_false]
    have p1 : (decide (0 ≤ (0 : Int)) && decide ((0 : Int) < (x.size : Int))) = true := by simp; omega
    have key : ∀ r1 r2, iter (f74.s1 (x.size + 1) x r1 r2) (x.size + 1) 0 = some ((bytesI x).all fun c => smallI c || digitI c) := fun r1 r2 => all_loop (l := bytesI x) (fun c => smallI c || digitI c) (by rw [bytes_len]; omega) (fun S => by
      rw [bytes_len]
      have : decide ((x.size : Int) < (x.size : Int)) = false := by simp
      simp only [f74.s1, this, cond_false]) (fun S i v hi hv => by
      rw [bytes_len] at hi
      have q : decide ((i : Int) < (x.size : Int)) = true := by simp; exact hi
      simp only [f74.s1, q, at_ge, byte_at hv, nx (show i ≤ _ by omega), Bool.and_self, cond_true, small_eq', digit_eq]
      cases smallI v <;> cases digitI v <;> rfl)
    rw [p1, cond_true, small_eq']
    have e27 : F124 () = some wordsL := rfl
    have e26 : F123 (wordsL, x) = some (wordsL.any fun w => strEq w x) := by
      show (bif okB 16 wordsL then some (wordsL.any fun w => strEq w x) else none) = _
      rw [show okB 16 wordsL = true from rfl]; rfl
    cases smallI (byteAt x 0) with
    | false => rfl
    | true =>
      simp only [Bool.not_true, cond_false, e27, e26, Option.bind_some, key, Bool.false_or]
      cases wordsL.any fun w => strEq w x <;> rfl
theorem con74_ok : ConOk Tryz.prog 74 con74 := f74.ok (fun x y h => by cases h; exact spec74 x) con123_ok con124_ok

/-! ### Values -/
theorem nat_beq (a b : Nat) : (((a : Int)) == ((b : Int))) = (a == b) := by
  rw [Bool.eq_iff_iff, beq_iff_eq, beq_iff_eq]; omega
theorem int_ne (a b : Int) : (a != b) = !(a == b) := rfl
theorem nat_ne (a b : Nat) : (((a : Int)) != ((b : Int))) = !(a == b) := by rw [int_ne, nat_beq]
theorem okV_size {x : dValue} (h : okV x = true) : x.2.2.2.size ≤ 140737488355328 := of_decide_eq_true (show decide (x.2.2.2.size ≤ 140737488355328) = true from h)
theorem check_ok (x : dValue) (q : okV x = true) : f50.g 0 x = some (checkV x) ∧ f78.g 0 x = some (checkV x) := by
  have hq := okV_size q
  have e21 : F98 x.2.2.2 = some (Lib.validD x.2.2.2.data.toList) := by
    show (bif decide (x.2.2.2.size ≤ 9223372036854775807) then _ else _) = _
    rw [decide_eq_true (by omega)]; rfl
  have e0 : (((x.2.2.1 : Nat) : Int) != 0) = (x.2.2.1 != 0) := nat_ne _ 0
  simp only [f50.g, f78.g, F29, e21, Option.bind_some, e0, checkV, noS]
  simp only [bne]
  generalize decide (x.1 < 0) = k0
  generalize decide (x.1 > 5) = k9
  generalize (x.1 == 1) = k1
  generalize (x.1 == 2) = k2
  generalize (x.1 == 3) = k3
  generalize (x.1 == 4) = k4
  generalize (x.1 == 5) = k5
  generalize (x.2.1 == 0) = n0
  generalize (x.2.1 == 1) = n1
  generalize (x.2.2.1 == 0) = z
  generalize strEq x.2.2.2 ⟨#[]⟩ = e
  generalize Lib.validD x.2.2.2.data.toList = v
  generalize decide ((x.2.2.2.size : Int) > 65536) = g
  constructor
  · cases k0
    · cases k9
      · cases k1 <;> cases n0 <;> cases n1 <;> first | rfl | (cases k2 <;> cases k3 <;> cases z <;> first | rfl | (cases k4 <;> cases k5 <;> cases e <;> cases v <;> cases g <;> rfl))
      · rfl
    · rfl
  · cases k0
    · cases k9
      · cases k1 <;> cases n0 <;> cases n1 <;> first | rfl | (cases k2 <;> cases k3 <;> cases z <;> first | rfl | (cases k4 <;> cases k5 <;> cases e <;> cases v <;> cases g <;> rfl))
      · rfl
    · rfl
theorem F50_some {x : dValue} (h : okV x = true) : F50 x = some (checkV x) := by unfold F50; rw [h]; rfl
theorem F78_some {x : dValue} (h : okV x = true) : F78 x = some (checkV x) := F50_some h
theorem con50_ok : ConOk Tryz.prog 50 con50 := f50.ok (fun x y h => ⟨0, by
  obtain ⟨q, rfl⟩ := some_bif (show (bif okV x then some (checkV x) else none) = some y from h)
  exact (check_ok x q).1⟩) con29_ok con98_ok
theorem con78_ok : ConOk Tryz.prog 78 con78 := f78.ok (fun x y h => ⟨0, by
  obtain ⟨q, rfl⟩ := some_bif (show (bif okV x then some (checkV x) else none) = some y from h)
  exact (check_ok x q).2⟩) con29_ok con98_ok
theorem con12_ok : ConOk Tryz.prog 12 con12 := f12.ok (fun x y h => ⟨0, by
  cases h
  simp only [f12.g, F29, Option.bind_some, nat_beq, sameV]
  cases x.1.1 == x.2.1 <;> cases x.1.2.1 == x.2.2.1 <;> cases x.1.2.2.1 == x.2.2.2.1 <;> rfl⟩) con29_ok

end Go.Proofs.YtfccofgchjieeaaGreatDoor.AI
/- The plain laws of the runs: tables that may be. -/
set_option linter.unusedVariables false
set_option linter.unusedSimpArgs false
namespace Go.Proofs.YtfccofgchjieeaaGreatDoor.AI
open Go

theorem okT_parts {t : dTable} (h : okT t = true) : okB 72 t.2.1 = true ∧ okB 8 t.2.2.1 = true ∧ okB 48 t.2.2.2.1 = true ∧ okB 40 t.2.2.2.2 = true ∧ (∀ c ∈ t.2.1, okV c.2.2.2 = true) ∧ (∀ c ∈ t.2.2.2.1, okB 8 c.2.1 = true) ∧ (∀ c ∈ t.2.2.2.2, okB 8 c.1 = true) := by
  unfold okT at h
  simp only [Bool.and_eq_true] at h
  obtain ⟨⟨h1, h2, h3, h4⟩, h5, h6, h7⟩ := h
  exact ⟨h1, h2, h3, h4, List.all_eq_true.1 h5, List.all_eq_true.1 h6, List.all_eq_true.1 h7⟩

/-- A look through the first places. -/
theorem scan_loop {α R : Type} {l : List α} {i : Nat} (hi : i ≤ l.length) (p : α → Bool) {A K : Option R} {step : (Int → Option R) → Int → Option R} {m : Nat} (hm : i < m)
    (hend : ∀ S, step S (i : Int) = K)
    (hstep : ∀ S j v, j < i → l[j]? = some v → step S (j : Int) = bif p v then A else S ((j + 1 : Nat) : Int)) :
    iter step m 0 = bif (l.take i).any p then A else K := by
  have hlen : (l.take i).length = i := by rw [List.length_take]; omega
  exact iter_all (step := step) (l.take i) (fun i (_ : Unit) => (i : Int)) (fun _ _ => True) (fun _ _ r => bif r.any p then A else K)
    (fun S a _ => by rw [hlen, hend]; rfl) (fun S j _ v r hj hv hr _ ih => by
      rw [hlen] at hj
      rw [List.getElem?_take_of_lt hj] at hv
      rw [hstep S j v hj hv, List.any_cons, ih () trivial]
      cases p v <;> rfl) m (by rw [hlen]; exact hm) () trivial
theorem nat_lt {j i : Nat} (h : j < i) : decide ((j : Int) < (i : Int)) = true := by simp; exact h
theorem nat_end (i : Nat) : decide ((i : Int) < (i : Int)) = false := by simp

theorem F62_eq (s : ByteArray) : F62 s = some (nameS s) := rfl
theorem F74_eq (s : ByteArray) : F74 s = some (nameS s) := rfl

/-! ### Columns -/
theorem spec63 : ∀ X Y, F63 X = some Y → ∃ n, f63.g n X = some Y := by
  intro x y h
  obtain ⟨ho, rfl⟩ := some_bif h
  obtain ⟨h1, h2, h3, h4, h5, h6, h7⟩ := okT_parts ho
  have hl := okB_len (by omega) h1
  refine ⟨x.2.1.length + 1, ?_⟩
  exact seen_loop (l := x.2.1) (step := f63.s1 (x.2.1.length + 1) x) (fun seen r => colsL seen r) (Nat.lt_succ_self _) (fun S => by
      simp only [f63.s1, at_end, cond_false, colsL]) (fun S i v r hi hv hr ih => by
      simp only [f63.s1, at_lt hi, at_ge, at_le hi, at_get hv, at_take, nx (show i ≤ _ by omega), Bool.and_self, cond_true, F117_some (okB_take h1 i) v, F62_eq, F50_some (h5 v (List.mem_of_getElem? hv)), Option.bind_some, cond_or', cond_and', ih, colsL, badC]
      generalize nameS v.1 = b1
      generalize (x.2.1.take i).any (fun c => strEq c.1 v.1) = b2
      generalize (decide (v.2.1 < 1) || decide (v.2.1 > 5)) = b3
      generalize (checkV v.2.2.2 != 0) = b4
      generalize (v.2.2.2.1 != 0 && v.2.2.2.1 != v.2.1) = b5
      cases b1 <;> cases b2 <;> cases b3 <;> cases b4 <;> cases b5 <;> rfl)
theorem con63_ok : ConOk Tryz.prog 63 con63 := f63.ok spec63 con50_ok con62_ok con117_ok
theorem F63_some {t : dTable} (h : okT t = true) : F63 t = some (colsL [] t.2.1) := by unfold F63; rw [h]; rfl
theorem F75_some {t : dTable} (h : okT t = true) : F75 t = some (colsL [] t.2.1) := F63_some h

/-! ### Check -/
theorem refs11 {x : dTable} (h : okT x = true) {n : Nat} (hn : x.2.2.2.2.length < n) (r1 : Bool) (r2 : Int) (r3 r4 : Bool) (y5 : Int) : iter (f33.s1 n x r1 r2 r3 r4 y5) n 0 = some (refsL x.2.1.length x.2.2.2.2) := by
  obtain ⟨h1, h2, h3, h4, h5, h6, h7⟩ := okT_parts h
  have hl := okB_len (by omega) h4
  exact seen_loop (l := x.2.2.2.2) (step := f33.s1 n x r1 r2 r3 r4 y5) (fun _ r => refsL x.2.1.length r) hn (fun S => by
      simp only [f33.s1, at_end, cond_false, refsL]) (fun S i v r hi hv hr ih => by
      simp only [f33.s1, at_lt hi, at_ge, at_get hv, nx (show i ≤ _ by omega), Bool.and_self, cond_true, F62_eq, F64_some x (h7 v (List.mem_of_getElem? hv)), Option.bind_some, ih, refsL]
      generalize nameS v.2 = b1
      generalize someS x.2.1.length v.1 = b2
      cases b1 <;> cases b2 <;> rfl)
theorem idxs11 {x : dTable} (h : okT x = true) {n : Nat} (hn : x.2.2.2.2.length < n) (hn2 : x.2.2.2.1.length < n) (r1 : Bool) (r2 : Int) (r3 r4 : Bool) :
    iter (f33.s2 n x r1 r2 r3 r4) n 0 = some (bif idxsL x.2.1.length [] x.2.2.2.1 != 0 then idxsL x.2.1.length [] x.2.2.2.1 else refsL x.2.1.length x.2.2.2.2) := by
  obtain ⟨h1, h2, h3, h4, h5, h6, h7⟩ := okT_parts h
  have hl := okB_len (by omega) h3
  exact seen_loop (l := x.2.2.2.1) (step := f33.s2 n x r1 r2 r3 r4) (fun seen r => bif idxsL x.2.1.length seen r != 0 then idxsL x.2.1.length seen r else refsL x.2.1.length x.2.2.2.2) hn2 (fun S => by
      simp only [f33.s2, at_end, cond_false, idxsL, refs11 h hn]; rfl) (fun S i v r hi hv hr ih => by
      simp only [f33.s2, at_lt hi, at_ge, at_le hi, at_get hv, at_take, nx (show i ≤ _ by omega), Bool.and_self, cond_true, F62_eq, F67_some (okB_take h3 i) v, F64_some x (h6 v (List.mem_of_getElem? hv)), Option.bind_some, ih, idxsL]
      generalize nameS v.1 = b1
      generalize (x.2.2.2.1.take i).any (fun c => strEq c.1 v.1) = b2
      generalize someS x.2.1.length v.2.1 = b3
      cases b1 <;> cases b2 <;> cases b3 <;> rfl)
theorem key_in {x : dTable} (h : someS x.2.1.length x.2.2.1 = true) : x.2.2.1.all (inK x) = true := by
  unfold someS at h
  cases hc : decide (x.2.2.1.length < 1) || decide (x.2.2.1.length > 64) with
  | true => rw [hc] at h; cases h
  | false =>
    rw [hc, cond_false] at h
    exact someL_in _ _ _ h
theorem sizes_eq (x : dTable) : (bif bif bif decide ((x.2.1.length : Int) < (1 : Int)) then true else decide ((x.2.1.length : Int) > (64 : Int)) then true else decide ((x.2.2.2.1.length : Int) > (16 : Int)) then true else decide ((x.2.2.2.2.length : Int) > (16 : Int))) =
    (decide (x.2.1.length < 1) || decide (x.2.1.length > 64) || decide (x.2.2.2.1.length > 16) || decide (x.2.2.2.2.length > 16)) := by
  rw [cond_or', cond_or', cond_or', show decide ((x.2.1.length : Int) < (1 : Int)) = decide (x.2.1.length < 1) from len_lt _ 1, show decide ((x.2.1.length : Int) > (64 : Int)) = decide (x.2.1.length > 64) from len_gt _ 64,
    show decide ((x.2.2.2.1.length : Int) > (16 : Int)) = decide (x.2.2.2.1.length > 16) from len_gt _ 16, show decide ((x.2.2.2.2.length : Int) > (16 : Int)) = decide (x.2.2.2.2.length > 16) from len_gt _ 16]
theorem spec33 : ∀ X Y, F33 X = some Y → ∃ n, f33.g n X = some Y := by
  intro x y h
  obtain ⟨ho, rfl⟩ := some_bif h
  obtain ⟨h1, h2, h3, h4, h5, h6, h7⟩ := okT_parts ho
  refine ⟨x.2.2.2.1.length + x.2.2.2.2.length + 1, ?_⟩
  unfold f33.g checkT
  simp only [F62_eq, Option.bind_some, sizes_eq, F63_some ho, F64_some x h2]
  cases nameS x.1 with
  | false => rfl
  | true =>
    simp only [Bool.not_true, cond_false]
    cases decide (x.2.1.length < 1) || decide (x.2.1.length > 64) || decide (x.2.2.2.1.length > 16) || decide (x.2.2.2.2.length > 16) with
    | true => rfl
    | false =>
      simp only [cond_false]
      cases colsL [] x.2.1 != 0 with
      | true => rfl
      | false =>
        simp only [cond_false]
        cases hs : someS x.2.1.length x.2.2.1 with
        | false => rfl
        | true =>
          simp only [Bool.not_true, cond_false, F65a_some h2 (key_in hs), Option.bind_some]
          cases x.2.2.1.any (nullK x) with
          | true => rfl
          | false =>
            simp only [cond_false]
            exact idxs11 ho (by omega) (by omega) _ _ _ _
theorem con33_ok : ConOk Tryz.prog 33 con33 := f33.ok spec33 con62_ok con63_ok con64_ok con65_ok con67_ok
theorem F33_some {t : dTable} (h : okT t = true) : F33 t = some (checkT t) := by unfold F33; rw [h]; rfl
/-! ### The reference's -/
theorem spec76 : ∀ X Y, F76 X = some Y → ∃ n, f76.g n X = some Y := by
  intro x y h
  obtain ⟨ho, rfl⟩ := some_bif (show (bif okB 8 x.2 then some (someS x.1.2.1.length x.2) else none) = some y from h)
  have hl := okB_len (by omega) ho
  refine ⟨x.2.length + 1, ?_⟩
  have inner : ∀ (S1 : Int → Option Bool) (i : Nat) (v : Int), i < x.2.length → x.2[i]? = some v → iter (f76.s1 (x.2.length + 1) x (i : Int) S1) (x.2.length + 1) 0 = bif (x.2.take i).any (fun w => w == v) then some false else S1 ((i + 1 : Nat) : Int) := fun S1 i v hi hv =>
    scan_loop (l := x.2) (Nat.le_of_lt hi) (fun w => w == v) (by omega) (fun S => by
      simp only [f76.s1, nat_end, cond_false, nx (show i ≤ _ by omega)]) (fun S j w hj hw => by
      simp only [f76.s1, nat_lt hj, at_ge, at_lt (lt_of hw), at_lt hi, at_get hw, at_get hv, nx (show j ≤ _ by omega), Bool.and_self, cond_true])
  have key := seen_loop (l := x.2) (step := f76.s2 (x.2.length + 1) x) (fun seen r => someL x.1.2.1.length seen r) (Nat.lt_succ_self _) (fun S => by
      simp only [f76.s2, at_end, cond_false, someL]) (fun S i v r hi hv hr ih => by
      simp only [f76.s2, at_lt hi, at_ge, at_get hv, Bool.and_self, cond_true, inner S i v hi hv, ih, someL]
      generalize decide (v < 0) = b1
      generalize decide (v ≥ (x.1.2.1.length : Int)) = b2
      generalize (x.2.take i).any (fun w => w == v) = b3
      cases b1 <;> cases b2 <;> cases b3 <;> rfl)
  simp only [f76.g, key, someS, cond_or']
  have e1 : decide ((x.2.length : Int) < (1 : Int)) = decide (x.2.length < 1) := len_lt _ 1
  have e2 : decide ((x.2.length : Int) > (64 : Int)) = decide (x.2.length > 64) := len_gt _ 64
  rw [e1, e2]
  cases decide (x.2.length < 1) || decide (x.2.length > 64) <;> rfl
theorem con76_ok : ConOk Tryz.prog 76 con76 := f76.ok spec76

theorem spec75 : ∀ X Y, F75 X = some Y → ∃ n, f75.g n X = some Y := by
  intro x y h
  obtain ⟨ho, rfl⟩ := some_bif (show (bif okT x then some (colsL [] x.2.1) else none) = some y from h)
  obtain ⟨h1, h2, h3, h4, h5, h6, h7⟩ := okT_parts ho
  have hl := okB_len (by omega) h1
  refine ⟨x.2.1.length + 1, ?_⟩
  have inner : ∀ (r2 : Bool) (S1 : Int → Option Int) (i : Nat) (v : dColumn), i < x.2.1.length → x.2.1[i]? = some v → iter (f75.s1 (x.2.1.length + 1) x (i : Int) r2 S1) (x.2.1.length + 1) 0 = bif (x.2.1.take i).any (fun c => strEq c.1 v.1) then some 31 else bif badC v then some 32 else S1 ((i + 1 : Nat) : Int) := fun r2 S1 i v hi hv =>
    scan_loop (l := x.2.1) (Nat.le_of_lt hi) (fun c => strEq c.1 v.1) (by omega) (fun S => by
      simp only [f75.s1, nat_end, cond_false, at_get hv, nx (show i ≤ _ by omega), F78_some (h5 v (List.mem_of_getElem? hv)), Option.bind_some, cond_or', cond_and', badC]
      generalize (decide (v.2.1 < 1) || decide (v.2.1 > 5)) = b3
      generalize (checkV v.2.2.2 != 0) = b4
      generalize (v.2.2.2.1 != 0) = b5
      generalize (v.2.2.2.1 != v.2.1) = b6
      cases b3 <;> cases b4 <;> cases b5 <;> cases b6 <;> rfl) (fun S j w hj hw => by
      simp only [f75.s1, nat_lt hj, at_ge, at_lt (lt_of hw), at_lt hi, at_get hw, at_get hv, nx (show j ≤ _ by omega), Bool.and_self, cond_true])
  exact seen_loop (l := x.2.1) (step := f75.s2 (x.2.1.length + 1) x) (fun seen r => colsL seen r) (Nat.lt_succ_self _) (fun S => by
      simp only [f75.s2, at_end, cond_false, colsL]) (fun S i v r hi hv hr ih => by
      simp only [f75.s2, at_lt hi, at_ge, at_get hv, Bool.and_self, cond_true, F74_eq, Option.bind_some, inner _ S i v hi hv, ih, colsL]
      generalize nameS v.1 = b1
      generalize (x.2.1.take i).any (fun c => strEq c.1 v.1) = b2
      generalize badC v = b3
      cases b1 <;> cases b2 <;> cases b3 <;> rfl)
theorem con75_ok : ConOk Tryz.prog 75 con75 := f75.ok spec75 con74_ok con78_ok

theorem F77_some {t : dTable} (h : okT t = true) : F77 t = some (idxsL t.2.1.length [] t.2.2.2.1) := by unfold F77; rw [h]; rfl
theorem spec77 : ∀ X Y, F77 X = some Y → ∃ n, f77.g n X = some Y := by
  intro x y h
  obtain ⟨ho, rfl⟩ := some_bif h
  obtain ⟨h1, h2, h3, h4, h5, h6, h7⟩ := okT_parts ho
  have hl := okB_len (by omega) h3
  refine ⟨x.2.2.2.1.length + 1, ?_⟩
  have inner : ∀ (r2 : Bool) (S1 : Int → Option Int) (i : Nat) (v : dIndex), i < x.2.2.2.1.length → x.2.2.2.1[i]? = some v → iter (f77.s1 (x.2.2.2.1.length + 1) x (i : Int) r2 S1) (x.2.2.2.1.length + 1) 0 = bif (x.2.2.2.1.take i).any (fun c => strEq c.1 v.1) then some 31 else bif !someS x.2.1.length v.2.1 then some 33 else S1 ((i + 1 : Nat) : Int) := fun r2 S1 i v hi hv =>
    scan_loop (l := x.2.2.2.1) (Nat.le_of_lt hi) (fun c => strEq c.1 v.1) (by omega) (fun S => by
      simp only [f77.s1, nat_end, cond_false, at_get hv, nx (show i ≤ _ by omega), F76_some x (h6 v (List.mem_of_getElem? hv)), Option.bind_some]) (fun S j w hj hw => by
      simp only [f77.s1, nat_lt hj, at_ge, at_lt (lt_of hw), at_lt hi, at_get hw, at_get hv, nx (show j ≤ _ by omega), Bool.and_self, cond_true])
  exact seen_loop (l := x.2.2.2.1) (step := f77.s2 (x.2.2.2.1.length + 1) x) (fun seen r => idxsL x.2.1.length seen r) (Nat.lt_succ_self _) (fun S => by
      simp only [f77.s2, at_end, cond_false, idxsL]) (fun S i v r hi hv hr ih => by
      simp only [f77.s2, at_lt hi, at_ge, at_get hv, Bool.and_self, cond_true, F74_eq, Option.bind_some, inner _ S i v hi hv, ih, idxsL]
      generalize nameS v.1 = b1
      generalize (x.2.2.2.1.take i).any (fun c => strEq c.1 v.1) = b2
      generalize someS x.2.1.length v.2.1 = b3
      cases b1 <;> cases b2 <;> cases b3 <;> rfl)
theorem con77_ok : ConOk Tryz.prog 77 con77 := f77.ok spec77 con74_ok con76_ok

theorem refs13 {x : dTable} (h : okT x = true) {n : Nat} (hn : x.2.2.2.2.length < n) (r1 : Bool) (r2 : Int) (r3 : Bool) (y4 r5 : Int) : iter (f37.s1 n x r1 r2 r3 y4 r5) n 0 = some (refsL x.2.1.length x.2.2.2.2) := by
  obtain ⟨h1, h2, h3, h4, h5, h6, h7⟩ := okT_parts h
  have hl := okB_len (by omega) h4
  exact seen_loop (l := x.2.2.2.2) (step := f37.s1 n x r1 r2 r3 y4 r5) (fun _ r => refsL x.2.1.length r) hn (fun S => by
      simp only [f37.s1, at_end, cond_false, refsL]) (fun S i v r hi hv hr ih => by
      simp only [f37.s1, at_lt hi, at_ge, at_get hv, nx (show i ≤ _ by omega), Bool.and_self, cond_true, F74_eq, F76_some x (h7 v (List.mem_of_getElem? hv)), Option.bind_some, ih, refsL]
      generalize nameS v.2 = b1
      generalize someS x.2.1.length v.1 = b2
      cases b1 <;> cases b2 <;> rfl)
theorem key13 {x : dTable} (h : okT x = true) (hin : x.2.2.1.all (inK x) = true) {n : Nat} (hn : x.2.2.2.2.length < n) (hn2 : x.2.2.1.length < n) (r1 : Bool) (r2 : Int) (r3 : Bool) :
    iter (f37.s2 n x r1 r2 r3) n 0 = bif x.2.2.1.any (nullK x) then some 33 else some (bif idxsL x.2.1.length [] x.2.2.2.1 != 0 then idxsL x.2.1.length [] x.2.2.2.1 else refsL x.2.1.length x.2.2.2.2) := by
  obtain ⟨h1, h2, h3, h4, h5, h6, h7⟩ := okT_parts h
  have hl := okB_len (by omega) h2
  have := scan_loop (l := x.2.2.1) (Nat.le_refl _) (nullK x) (A := some (33 : Int)) (K := some (bif idxsL x.2.1.length [] x.2.2.2.1 != 0 then idxsL x.2.1.length [] x.2.2.2.1 else refsL x.2.1.length x.2.2.2.2)) (step := f37.s2 n x r1 r2 r3) hn2 (fun S => by
      simp only [f37.s2, at_end, cond_false, F77_some h, Option.bind_some, refs13 h hn]
      cases idxsL x.2.1.length [] x.2.2.2.1 != 0 <;> rfl) (fun S i v hi hv => by
      have q : (decide (0 ≤ v) && decide (v < (x.2.1.length : Int))) = true := List.all_eq_true.1 hin v (List.mem_of_getElem? hv)
      simp only [f37.s2, at_lt hi, at_ge, at_get hv, nx (show i ≤ _ by omega), Bool.and_self, cond_true, q, nullK])
  rw [List.take_length] at this
  exact this
theorem spec37 : ∀ X Y, F37 X = some Y → ∃ n, f37.g n X = some Y := by
  intro x y h
  obtain ⟨ho, rfl⟩ := some_bif (show (bif okT x then some (checkT x) else none) = some y from h)
  obtain ⟨h1, h2, h3, h4, h5, h6, h7⟩ := okT_parts ho
  refine ⟨x.2.2.1.length + x.2.2.2.2.length + 1, ?_⟩
  unfold f37.g checkT
  simp only [F74_eq, Option.bind_some, sizes_eq, F75_some ho, F76_some x h2]
  cases nameS x.1 with
  | false => rfl
  | true =>
    simp only [Bool.not_true, cond_false]
    cases decide (x.2.1.length < 1) || decide (x.2.1.length > 64) || decide (x.2.2.2.1.length > 16) || decide (x.2.2.2.2.length > 16) with
    | true => rfl
    | false =>
      simp only [cond_false]
      cases colsL [] x.2.1 != 0 with
      | true => rfl
      | false =>
        simp only [cond_false]
        cases hs : someS x.2.1.length x.2.2.1 with
        | false => rfl
        | true =>
          simp only [Bool.not_true, cond_false]
          rw [key13 ho (key_in hs) (by omega) (by omega)]
          cases x.2.2.1.any (nullK x) <;> rfl
theorem con37_ok : ConOk Tryz.prog 37 con37 := f37.ok spec37 con74_ok con75_ok con76_ok con77_ok

end Go.Proofs.YtfccofgchjieeaaGreatDoor.AI
/- The plain laws of the runs: rows, copies, fills. -/
set_option linter.unusedVariables false
set_option linter.unusedSimpArgs false
namespace Go.Proofs.YtfccofgchjieeaaGreatDoor.AI
open Go

theorem drop_cons {α : Type} {l : List α} {i : Nat} {v : α} (h : l[i]? = some v) : l.drop i = v :: l.drop (i + 1) := by
  obtain ⟨hlt, rfl⟩ := List.getElem?_eq_some_iff.1 h
  exact List.drop_eq_getElem_cons hlt
theorem take_self {α : Type} (l : List α) (i : Nat) : List.take i (l.take i) = l.take i := by rw [List.take_take, Nat.min_self]
theorem pair_eta {α β : Type} (p : α × β) : (p.1, p.2) = p := rfl

/-! ### Copies -/
theorem copy_loop {α β R : Type} {l : List α} (enc : Nat → List α → β) {step : (β → Option R) → β → Option R} {m : Nat} (hm : l.length < m) {K : Option R}
    (hend : ∀ S, step S (enc l.length l) = K)
    (hstep : ∀ S i v, i < l.length → l[i]? = some v → step S (enc i (l.take i)) = S (enc (i + 1) (l.take (i + 1)))) : iter step m (enc 0 []) = K :=
  iter_all (step := step) l (fun i (_ : Unit) => enc i (l.take i)) (fun _ _ => True) (fun _ _ _ => K)
    (fun S _ _ => by show step S (enc l.length (l.take l.length)) = K; rw [List.take_length]; exact hend S) (fun S i _ v r hi hv hr _ ih => by rw [hstep S i v hi hv]; exact ih () trivial) m hm () trivial
theorem room {α : Type} {b : Nat} {l : List α} (h : okB b l = true) {i : Nat} (hi : i < l.length) : decide ((i + 1) * b ≤ boundN) = true := by
  have h1 := okB_iff.1 h
  have : (i + 1) * b ≤ l.length * b := Nat.mul_le_mul_right _ hi
  have hb : boundN = 140737488355328 := rfl
  rw [decide_eq_true_iff, hb]
  omega

theorem spec36 : ∀ X Y, F36 X = some Y → ∃ n, f36.g n X = some Y := by
  intro x y h
  obtain ⟨ho, rfl⟩ := some_bif h
  have hl := okB_len (by omega) ho
  refine ⟨x.length + 1, ?_⟩
  exact copy_loop (l := x) (fun i r => (i, ((i : Int), r))) (step := f36.s1 (x.length + 1) x) (Nat.lt_succ_self _) (fun S => by
      simp only [f36.s1, at_end, cond_false, List.take_length]) (fun S i v hi hv => by
      simp only [f36.s1, at_lt hi, at_ge, at_get hv, nx (show i ≤ _ by omega), Bool.and_self, cond_true, room ho hi, take_self, take_next hv])
theorem con36_ok : ConOk Tryz.prog 36 con36 := f36.ok spec36
theorem F36_some {l : List Int} (h : okB 8 l = true) : F36 l = some l := by unfold F36; rw [h]; rfl
theorem refs12 {x : dTable} (h : okT x = true) {n : Nat} (hn : x.2.2.2.2.length < n) (r1 : List Int) (y2 : Int × Nat × List dColumn) (y3 : Int × Nat × List dIndex) :
    iter (f15.s1 n x r1 y2 y3) n ((0 : Int), ((0 : Nat), ([] : List dRef))) = some (x.1, (List.take y2.2.1 y2.2.2, (r1, (List.take y3.2.1 y3.2.2, x.2.2.2.2)))) := by
  obtain ⟨h1, h2, h3, h4, h5, h6, h7⟩ := okT_parts h
  have hl := okB_len (by omega) h4
  exact copy_loop (l := x.2.2.2.2) (fun i r => ((i : Int), (i, r))) (step := f15.s1 n x r1 y2 y3) hn (fun S => by
      simp only [f15.s1, at_end, cond_false, List.take_length]) (fun S i v hi hv => by
      have e : F36 v.1 = some v.1 := F36_some (h7 v (List.mem_of_getElem? hv))
      simp only [f15.s1, at_lt hi, at_ge, at_get hv, nx (show i ≤ _ by omega), Bool.and_self, cond_true, e, Option.bind_some, room h4 hi, take_self, pair_eta, take_next hv])
theorem idxs12 {x : dTable} (h : okT x = true) {n : Nat} (hn : x.2.2.2.2.length < n) (hn2 : x.2.2.2.1.length < n) (r1 : List Int) (y2 : Int × Nat × List dColumn) :
    iter (f15.s2 n x r1 y2) n ((0 : Int), ((0 : Nat), ([] : List dIndex))) = some (x.1, (List.take y2.2.1 y2.2.2, (r1, (x.2.2.2.1, x.2.2.2.2)))) := by
  obtain ⟨h1, h2, h3, h4, h5, h6, h7⟩ := okT_parts h
  have hl := okB_len (by omega) h3
  exact copy_loop (l := x.2.2.2.1) (fun i r => ((i : Int), (i, r))) (step := f15.s2 n x r1 y2) hn2 (fun S => by
      simp only [f15.s2, at_end, cond_false, refs12 h hn, List.take_length]) (fun S i v hi hv => by
      have e : F36 v.2.1 = some v.2.1 := F36_some (h6 v (List.mem_of_getElem? hv))
      simp only [f15.s2, at_lt hi, at_ge, at_get hv, nx (show i ≤ _ by omega), Bool.and_self, cond_true, e, Option.bind_some, room h3 hi, take_self, pair_eta, take_next hv])
theorem spec15 : ∀ X Y, F15 X = some Y → ∃ n, f15.g n X = some Y := by
  intro x y h
  obtain ⟨ho, rfl⟩ := some_bif h
  obtain ⟨h1, h2, h3, h4, h5, h6, h7⟩ := okT_parts ho
  have hl := okB_len (by omega) h1
  refine ⟨x.2.1.length + x.2.2.2.1.length + x.2.2.2.2.length + 1, ?_⟩
  generalize hn : x.2.1.length + x.2.2.2.1.length + x.2.2.2.2.length + 1 = n
  simp only [f15.g, F36_some h2, Option.bind_some]
  exact copy_loop (l := x.2.1) (fun i r => ((i : Int), (i, r))) (step := f15.s3 n x x.2.2.1) (by omega) (fun S => by
      simp only [f15.s3, at_end, cond_false, idxs12 ho (show x.2.2.2.2.length < n by omega) (by omega), List.take_length]) (fun S i v hi hv => by
      simp only [f15.s3, at_lt hi, at_ge, at_get hv, nx (show i ≤ _ by omega), Bool.and_self, cond_true, room h1 hi, take_self, take_next hv])
theorem con15_ok : ConOk Tryz.prog 15 con15 := f15.ok spec15 con36_ok
theorem F15_some {t : dTable} (h : okT t = true) : F15 t = some t := by unfold F15; rw [h]; rfl

/-! ### A column by its name -/
theorem spec260 : ∀ X Y, F260 X = some Y → ∃ n, f260.g n X = some Y := by
  intro x y h
  obtain ⟨ho, rfl⟩ := some_bif h
  obtain ⟨h1, h2, h3, h4, h5, h6, h7⟩ := okT_parts ho
  have e : F172a (x.1.2.1, x.2) = some (idxI (fun c => strEq c.1 x.2) x.1.2.1) := by
    show (bif okB 72 x.1.2.1 then _ else _) = _
    rw [h1]; rfl
  refine ⟨0, ?_⟩
  simp only [f260.g, e, Option.bind_some, columnS, idxI]
  cases x.1.2.1.findIdx? (fun c => strEq c.1 x.2) with
  | none => rfl
  | some i =>
    have : decide ((i : Int) < 0) = false := by simp
    simp only [this, cond_false]
theorem con260_ok : ConOk Tryz.prog 260 con260 := f260.ok spec260 con172_ok
/-! ### Rows -/
theorem len_ne {α β : Type} (a : List α) (b : List β) : ((a.length : Int) != (b.length : Int)) = !(a.length == b.length) := nat_ne _ _
theorem ok27 {x : dTable × List dValue} {y : Int} (h : (bif okT x.1 && (okB 40 x.2 && x.2.all okV) then some (admitS x.1 x.2) else none) = some y) : okT x.1 = true ∧ okB 40 x.2 = true ∧ (∀ v ∈ x.2, okV v = true) ∧ admitS x.1 x.2 = y := by
  obtain ⟨ho, rfl⟩ := some_bif h
  simp only [Bool.and_eq_true] at ho
  exact ⟨ho.1, ho.2.1, List.all_eq_true.1 ho.2.2, rfl⟩
theorem spec27 : ∀ X Y, F27 X = some Y → ∃ n, f27.g n X = some Y := by
  intro x y h
  obtain ⟨ho, ho2, ho3, rfl⟩ := ok27 h
  obtain ⟨h1, h2, h3, h4, h5, h6, h7⟩ := okT_parts ho
  have hl := okB_len (by omega) h1
  refine ⟨x.1.2.1.length + 1, ?_⟩
  simp only [f27.g, F33_some ho, Option.bind_some, admitS]
  cases checkT x.1 != 0 with
  | true => rfl
  | false =>
    simp only [cond_false]
    cases hlen : ((x.2.length : Int) != (x.1.2.1.length : Int)) with
    | true => rfl
    | false =>
      have hlen' : x.2.length = x.1.2.1.length := by
        rw [len_ne] at hlen
        simpa using hlen
      simp only [cond_false]
      exact iter_all (step := f27.s1 (x.1.2.1.length + 1) x (checkT x.1)) x.1.2.1 (fun i (_ : Unit) => (i : Int)) (fun _ _ => True) (fun i _ r => some (admitL r (x.2.drop i)))
        (fun S a _ => by simp only [f27.s1, at_end, cond_false]; rfl) (fun S i _ v r hi hv hr _ ih => by
          have hw : x.2[i]? = some x.2[i] := List.getElem?_eq_getElem (by omega)
          have hiw : i < x.2.length := by omega
          generalize x.2[i] = w at hw
          simp only [f27.s1, at_lt hi, at_lt hiw, at_ge, at_get hv, at_get hw, nx (show i ≤ _ by omega), Bool.and_self, cond_true, F50_some (ho3 w (List.mem_of_getElem? hw)), Option.bind_some, ih () trivial, cond_and', drop_cons hw, admitL]
          generalize (checkV w != 0) = b1
          generalize (w.1 == 0) = b2
          generalize v.2.2.1 = b3
          generalize (w.1 != v.2.1) = b4
          cases b1 <;> cases b2 <;> cases b3 <;> cases b4 <;> rfl) (x.1.2.1.length + 1) (Nat.lt_succ_self _) () trivial
theorem con27_ok : ConOk Tryz.prog 27 con27 := f27.ok spec27 con33_ok con50_ok
theorem F12_eq (x : dValue × dValue) : F12 x = some (sameV x.1 x.2) := rfl
end Go.Proofs.YtfccofgchjieeaaGreatDoor.AI
/- The plain laws of the runs: what awake asks. -/
set_option linter.unusedVariables false
set_option linter.unusedSimpArgs false
namespace Go.Proofs.YtfccofgchjieeaaGreatDoor.AI
open Go

theorem con150_ok : ConOk Tryz.prog 150 con150 := f150.ok (fun x y h => ⟨0, by
  cases h
  have e : ∀ n : Int, (n != n) = false := fun n => by simp
  simp only [f150.g, e, cond_false, intS]
  cases decide (x.1 < x.2) <;> cases decide (x.1 > x.2) <;> rfl⟩)
theorem con147_ok : ConOk Tryz.prog 147 con147 := f147.ok (fun x y h => ⟨0, by
  cases h
  have e : ∀ n : Int, (n != n) = false := fun n => by simp
  simp only [f147.g, e, cond_false, intS]
  cases decide (x.1 < x.2) <;> cases decide (x.1 > x.2) <;> rfl⟩)
theorem con148_ok : ConOk Tryz.prog 148 con148 := f148.ok (fun x y h => ⟨0, by
  cases h
  simp only [f148.g, fltS, fo]
  cases FloatKind.f64.format.order x.1 x.1 != some .eq <;> cases FloatKind.f64.format.order x.2 x.2 != some .eq <;> cases FloatKind.f64.format.order x.1 x.2 == some .lt <;> cases FloatKind.f64.format.order x.1 x.2 == some .gt <;> rfl⟩)
/-! ### Texts -/
theorem intS_ne {a b : Int} : (intS a b != 0) = (a != b) := by
  unfold intS
  by_cases h1 : a < b
  · rw [decide_eq_true h1]
    have : (a != b) = true := by simp; omega
    rw [this]; rfl
  · rw [decide_eq_false h1]
    by_cases h2 : a > b
    · rw [decide_eq_true h2]
      have : (a != b) = true := by simp; omega
      rw [this]; rfl
    · rw [decide_eq_false h2]
      have : (a != b) = false := by simp; omega
      rw [this]; rfl

theorem spec104 (x : dValue × dValue) : f104.g 0 x = some (cmpV x.1 x.2) := by
  simp only [f104.g, F150, F147, F148, F151, Option.bind_some, intS_ne, cmpV]
  cases x.1.1 != x.2.1 <;> cases x.1.1 == 1 <;> cases x.1.1 == 2 <;> cases x.1.1 == 3 <;> cases x.1.1 == 4 <;> cases x.1.1 == 5 <;> rfl
theorem con104_ok : ConOk Tryz.prog 104 con104 := f104.ok (fun x y h => ⟨0, by cases h; exact spec104 x⟩) con147_ok con148_ok con150_ok con151_ok
end Go.Proofs.YtfccofgchjieeaaGreatDoor.AI
/- Doubles as numbers: whole parts, and what is written and read again. -/
set_option linter.unusedVariables false
set_option linter.unusedSimpArgs false
namespace Go.Proofs.YtfccofgchjieeaaGreatDoor.AI
open Go

theorem cut_zero (neg : Bool) (n drop : Nat) : Ieee.Toward.zero.cut neg n drop = n / 2 ^ drop := by
  simp only [Ieee.Toward.cut, Bool.toNat_false, Nat.add_zero, Nat.one_shiftLeft]
  rcases Nat.le_total drop (n.log2 + 2) with h | h
  · rw [Nat.min_eq_left h]
  · rw [Nat.min_eq_right h]
    have h1 : n < 2 ^ (n.log2 + 1) := Nat.lt_log2_self
    have h2 : n < 2 ^ (n.log2 + 2) := Nat.lt_of_lt_of_le h1 (Nat.pow_le_pow_right (by decide) (by omega))
    have h3 : n < 2 ^ drop := Nat.lt_of_lt_of_le h2 (Nat.pow_le_pow_right (by decide) h)
    rw [Nat.div_eq_of_lt h2, Nat.div_eq_of_lt h3]

/-- The whole part of 'm * 2 ^ i'. -/
def whole (m : Nat) (i : Int) : Nat := (m <<< i.toNat) / 2 ^ (-i).toNat

theorem integral_num (s : Bool) (m : Nat) (i : Int) : (Ieee.Datum.number s m i).integral .zero = .number s (whole m i) 0 := by
  simp only [Ieee.Datum.integral, cut_zero, whole]
theorem toInt_num (s : Bool) (m : Nat) (i : Int) : (Ieee.Datum.number s m i).toInt .zero = some (Ieee.signed s (whole m i) 0) := by
  simp only [Ieee.Datum.toInt, integral_num]

theorem signed_zero (s : Bool) (m : Nat) : Ieee.signed s m 0 = if s then -(m : Int) else (m : Int) := by
  unfold Ieee.signed
  simp

theorem read_shape {b : Nat} {s : Bool} {m : Nat} {i : Int} (h : Ieee.double.read b = .number s m i) : m < 2 ^ 53 ∧ -1074 ≤ i := by
  unfold Ieee.Format.read at h
  have e1 : Ieee.double.leastPlace = -1074 := by decide
  have e2 : Ieee.double.binade = 2 ^ 52 := by decide
  simp only [e1, e2] at h
  split at h
  · rename_i hr
    cases h
    exact ⟨by omega, Int.le_refl _⟩
  · split at h
    · cases h
      have := Nat.mod_lt (b % Ieee.double.signWeight) (show 2 ^ 52 > 0 by decide)
      refine ⟨by omega, by omega⟩
    · split at h <;> cases h

/-- Numbers of at most 53 digits are written as they are. -/
def Fits (w : Nat) : Prop := w.log2 ≤ 52 ∨ 2 ^ (w.log2 - 52) ∣ w

theorem log2_mul_pow {m : Nat} (hm : m ≠ 0) (k : Nat) : (m * 2 ^ k).log2 = m.log2 + k := by
  have hp : 0 < 2 ^ k := Nat.two_pow_pos k
  have h0 : m * 2 ^ k ≠ 0 := Nat.mul_ne_zero hm (by omega)
  apply Nat.le_antisymm
  · have : (m * 2 ^ k).log2 < m.log2 + k + 1 := by
      rw [Nat.log2_lt h0]
      have := @Nat.lt_log2_self m
      calc m * 2 ^ k < 2 ^ (m.log2 + 1) * 2 ^ k := Nat.mul_lt_mul_of_pos_right this hp
        _ = 2 ^ (m.log2 + k + 1) := by rw [← Nat.pow_add]; congr 1; omega
    omega
  · rw [Nat.le_log2 h0, Nat.pow_add]
    exact Nat.mul_le_mul_right _ (Nat.log2_self_le hm)

theorem fits_whole {m : Nat} {i : Int} (hm : m < 2 ^ 53) : Fits (whole m i) := by
  unfold whole Fits
  by_cases hi : 0 ≤ i
  · have e : (-i).toNat = 0 := by omega
    rw [e, Nat.pow_zero, Nat.div_one, Nat.shiftLeft_eq]
    by_cases h0 : m = 0
    · subst h0; left; simp
    · rw [log2_mul_pow h0]
      have hl : m.log2 < 53 := (Nat.log2_lt h0).2 hm
      by_cases hc : m.log2 + i.toNat ≤ 52
      · exact .inl hc
      · right
        refine Nat.dvd_trans (Nat.pow_dvd_pow 2 (show m.log2 + i.toNat - 52 ≤ i.toNat by omega)) (Nat.dvd_mul_left _ _)
  · have e : i.toNat = 0 := by omega
    rw [e, Nat.shiftLeft_zero]
    left
    by_cases h0 : m / 2 ^ (-i).toNat = 0
    · rw [h0]; decide
    · have h1 : m / 2 ^ (-i).toNat ≤ m := Nat.div_le_self _ _
      have : (m / 2 ^ (-i).toNat).log2 < 53 := (Nat.log2_lt h0).2 (Nat.lt_of_le_of_lt h1 hm)
      omega

theorem even_cut {neg : Bool} {n drop : Nat} (h : drop ≤ n.log2 + 2) (hd : 2 ^ drop ∣ n) : Ieee.Toward.even.cut neg n drop = n / 2 ^ drop := by
  simp only [Ieee.Toward.cut, Nat.one_shiftLeft, Nat.min_eq_left h, Nat.mod_eq_zero_of_dvd hd]
  have hp : 0 < 2 ^ drop := Nat.two_pow_pos drop
  have e1 : decide (2 ^ drop < 2 * 0) = false := by simp
  have e2 : (2 ^ drop == 2 * 0) = false := by simp
  simp only [e1, e2, Bool.false_and, Bool.or_self, Bool.toNat_false, Nat.add_zero]

theorem word_read {neg : Bool} {R k L : Nat} (hR : R = (L + 1022) * 4503599627370496 + k) (h1 : 4503599627370496 ≤ k) (h2 : k < 9007199254740992) (hL : L ≤ 64) :
    Ieee.double.read (Ieee.double.word neg (min R Ieee.double.infRung)) = .number neg k ((L : Int) - 52) := by
  have e0 : Ieee.double.infRung = 9218868437227405312 := by decide
  have e1 : Ieee.double.leastPlace = -1074 := by decide
  have e2 : Ieee.double.binade = 4503599627370496 := by decide
  have e3 : Ieee.double.signWeight = 9223372036854775808 := by decide
  have hm : min R Ieee.double.infRung = R := by rw [e0]; omega
  rw [hm]
  have hw : Ieee.double.word neg R = if neg then 9223372036854775808 + R else R := by unfold Ieee.Format.word; rw [e3]
  rw [hw]
  unfold Ieee.Format.read
  simp only [e0, e1, e2, e3]
  have hmod : (if neg = true then 9223372036854775808 + R else R) % 9223372036854775808 = R := by
    cases neg
    · simp only [Bool.false_eq_true, if_false]; omega
    · simp only [if_true]; omega
  have hdiv : ((if neg = true then 9223372036854775808 + R else R) / 9223372036854775808 % 2 == 1) = neg := by
    cases neg
    · simp only [Bool.false_eq_true, if_false]
      have : R / 9223372036854775808 = 0 := Nat.div_eq_of_lt (by omega)
      rw [this]; rfl
    · simp only [if_true]
      have : (9223372036854775808 + R) / 9223372036854775808 = 1 := by omega
      rw [this]; rfl
  rw [hmod, hdiv, if_neg (by omega), if_pos (by omega)]
  have h3 : R % 4503599627370496 = k - 4503599627370496 := by omega
  have h4 : R / 4503599627370496 = L + 1023 := by omega
  have h5 : 4503599627370496 + (k - 4503599627370496) = k := by omega
  have h6 : (-1074 : Int) + ((L + 1023 - 1 : Nat) : Int) = (L : Int) - 52 := by omega
  rw [h3, h4, h5, h6]

theorem read_nearest {neg : Bool} {w : Nat} (h0 : w ≠ 0) (hw : w < 2 ^ 64) (hf : Fits w) : ∃ k l, Ieee.double.read (Ieee.double.nearest neg w 0) = .number neg k l ∧ whole k l = w := by
  have hL : w.log2 < 64 := (Nat.log2_lt h0).2 hw
  have lo : 2 ^ w.log2 ≤ w := Nat.log2_self_le h0
  have hi : w < 2 ^ (w.log2 + 1) := Nat.lt_log2_self
  have e1 : Ieee.double.leastPlace = -1074 := by decide
  have e2 : Ieee.double.binade = 4503599627370496 := by decide
  have e4 : Ieee.double.fractionBits = 52 := rfl
  have hlast : max ((0 : Int) + (w.log2 : Int) - ((52 : Nat) : Int)) (-1074) = (w.log2 : Int) - 52 := by omega
  unfold Ieee.Format.nearest
  rw [if_neg h0]
  simp only [e1, e2, e4, hlast]
  have e5 : ((w.log2 : Int) - 52 - -1074).toNat = w.log2 + 1022 := by omega
  rw [e5]
  by_cases hc : w.log2 ≤ 52
  · have a1 : ((0 : Int) - ((w.log2 : Int) - 52)).toNat = 52 - w.log2 := by omega
    have a2 : ((w.log2 : Int) - 52 - 0).toNat = 0 := by omega
    rw [a1, a2, even_cut (Nat.zero_le _) (by simp), Nat.pow_zero, Nat.div_one, Nat.shiftLeft_eq]
    have hp : 2 ^ w.log2 * 2 ^ (52 - w.log2) = 4503599627370496 := by rw [← Nat.pow_add, show w.log2 + (52 - w.log2) = 52 by omega]
    have hp2 : 2 ^ (w.log2 + 1) * 2 ^ (52 - w.log2) = 9007199254740992 := by rw [← Nat.pow_add, show w.log2 + 1 + (52 - w.log2) = 53 by omega]
    have b1 : 4503599627370496 ≤ w * 2 ^ (52 - w.log2) := by rw [← hp]; exact Nat.mul_le_mul_right _ lo
    have b2 : w * 2 ^ (52 - w.log2) < 9007199254740992 := by rw [← hp2]; exact Nat.mul_lt_mul_of_pos_right hi (Nat.two_pow_pos _)
    refine ⟨w * 2 ^ (52 - w.log2), (w.log2 : Int) - 52, word_read rfl b1 b2 (by omega), ?_⟩
    unfold whole
    have c1 : ((w.log2 : Int) - 52).toNat = 0 := by omega
    have c2 : (-((w.log2 : Int) - 52)).toNat = 52 - w.log2 := by omega
    rw [c1, c2, Nat.shiftLeft_zero]
    exact Nat.mul_div_cancel _ (Nat.two_pow_pos _)
  · have hd : 2 ^ (w.log2 - 52) ∣ w := by
      rcases hf with h | h
      · exact absurd h hc
      · exact h
    have a1 : ((0 : Int) - ((w.log2 : Int) - 52)).toNat = 0 := by omega
    have a2 : ((w.log2 : Int) - 52 - 0).toNat = w.log2 - 52 := by omega
    rw [a1, a2, Nat.shiftLeft_zero, even_cut (by omega) hd]
    obtain ⟨q, hq⟩ := hd
    have hpos : 0 < 2 ^ (w.log2 - 52) := Nat.two_pow_pos _
    have hdq : w / 2 ^ (w.log2 - 52) = q := by
      conv => lhs; lhs; rw [hq]
      exact Nat.mul_div_cancel_left _ hpos
    rw [hdq]
    have hp : 2 ^ (w.log2 - 52) * 4503599627370496 = 2 ^ w.log2 := by
      rw [show (4503599627370496 : Nat) = 2 ^ 52 by decide, ← Nat.pow_add, show w.log2 - 52 + 52 = w.log2 by omega]
    have hp2 : 2 ^ (w.log2 - 52) * 9007199254740992 = 2 ^ (w.log2 + 1) := by
      rw [show (9007199254740992 : Nat) = 2 ^ 53 by decide, ← Nat.pow_add, show w.log2 - 52 + 53 = w.log2 + 1 by omega]
    have b1 : 4503599627370496 ≤ q := by
      refine Nat.le_of_mul_le_mul_left ?_ hpos
      rw [hp, ← hq]; exact lo
    have b2 : q < 9007199254740992 := by
      refine Nat.lt_of_mul_lt_mul_left (a := 2 ^ (w.log2 - 52)) ?_
      rw [hp2, ← hq]; exact hi
    refine ⟨q, (w.log2 : Int) - 52, word_read rfl b1 b2 (by omega), ?_⟩
    unfold whole
    have c1 : ((w.log2 : Int) - 52).toNat = w.log2 - 52 := by omega
    have c2 : (-((w.log2 : Int) - 52)).toNat = 0 := by omega
    rw [c1, c2, Nat.pow_zero, Nat.div_one, Nat.shiftLeft_eq, Nat.mul_comm]
    exact hq.symm

theorem read_zero (neg : Bool) : Ieee.double.read (Ieee.double.nearest neg 0 0) = .number neg 0 (-1074) := by
  cases neg <;> decide

/-! ### Whole parts between minus and plus two to the 63 -/
theorem whole_le {m : Nat} {i : Int} {Q : Nat} (h : (m : Nat) * 2 ^ (i - min i 11).toNat ≤ Q * 2 ^ ((11 : Int) - min i 11).toNat) : whole m i ≤ Q * 2048 := by
  unfold whole
  by_cases hi : 11 ≤ i
  · have a1 : (i - min i 11).toNat = (i - 11).toNat := by omega
    have a2 : ((11 : Int) - min i 11).toNat = 0 := by omega
    have a3 : (-i).toNat = 0 := by omega
    rw [a1, a2, Nat.pow_zero, Nat.mul_one] at h
    rw [a3, Nat.pow_zero, Nat.div_one, Nat.shiftLeft_eq]
    have : i.toNat = (i - 11).toNat + 11 := by omega
    rw [this, Nat.pow_add, ← Nat.mul_assoc]
    exact Nat.mul_le_mul_right 2048 h
  · have a1 : (i - min i 11).toNat = 0 := by omega
    have a2 : ((11 : Int) - min i 11).toNat = (11 - i).toNat := by omega
    rw [a1, a2, Nat.pow_zero, Nat.mul_one] at h
    by_cases h0 : 0 ≤ i
    · have a3 : (-i).toNat = 0 := by omega
      rw [a3, Nat.pow_zero, Nat.div_one, Nat.shiftLeft_eq]
      have e : 2 ^ (11 - i).toNat * 2 ^ i.toNat = 2048 := by rw [← Nat.pow_add, show (11 - i).toNat + i.toNat = 11 by omega]
      calc m * 2 ^ i.toNat ≤ Q * 2 ^ (11 - i).toNat * 2 ^ i.toNat := Nat.mul_le_mul_right _ h
        _ = Q * 2048 := by rw [Nat.mul_assoc, e]
    · have a3 : i.toNat = 0 := by omega
      rw [a3, Nat.shiftLeft_zero]
      have e : 2 ^ (11 - i).toNat = 2048 * 2 ^ (-i).toNat := by rw [show (2048 : Nat) = 2 ^ 11 by decide, ← Nat.pow_add, show 11 + (-i).toNat = (11 - i).toNat by omega]
      rw [e, ← Nat.mul_assoc] at h
      exact Nat.div_le_of_le_mul (by rw [Nat.mul_comm]; exact h)

theorem signed_eq (s : Bool) (m u : Nat) : Ieee.signed s m u = if s then -((m * 2 ^ u : Nat) : Int) else ((m * 2 ^ u : Nat) : Int) := by
  unfold Ieee.signed
  rw [Nat.shiftLeft_eq]

def D63 : Ieee.Datum := .number false 4503599627370496 11
def N63 : Ieee.Datum := .number true 4503599627370496 11

theorem cmp3 (x y : Int) : (x < y ∧ compare x y = .lt) ∨ (x = y ∧ compare x y = .eq) ∨ (y < x ∧ compare x y = .gt) := by
  show (x < y ∧ compareOfLessAndEq x y = .lt) ∨ (x = y ∧ compareOfLessAndEq x y = .eq) ∨ (y < x ∧ compareOfLessAndEq x y = .gt)
  unfold compareOfLessAndEq
  by_cases h1 : x < y
  · exact .inl ⟨h1, if_pos h1⟩
  · by_cases h2 : x = y
    · exact .inr (.inl ⟨h2, by rw [if_neg h1, if_pos h2]⟩)
    · exact .inr (.inr ⟨by omega, by rw [if_neg h1, if_neg h2]⟩)

/-- A double that is no NaN, below 2 to the 63, and not below minus that, is a number whose whole part an int64 holds. -/
theorem in_range {d : Ieee.Datum} (hn : (d.order d != some .eq) = false) (h1 : (d.order D63 == some .gt || d.order D63 == some .eq) = false) (h2 : (d.order N63 == some .lt) = false) :
    ∃ s m i, d = .number s m i ∧ whole m i < 2 ^ 64 ∧ -9223372036854775808 ≤ Ieee.signed s (whole m i) 0 ∧ Ieee.signed s (whole m i) 0 ≤ 9223372036854775807 := by
  cases d with
  | nan s t => cases hn
  | infinity s =>
    cases s
    · cases h1
    · cases h2
  | number s m i =>
    refine ⟨s, m, i, rfl, ?_⟩
    have q1 : Ieee.signed s m (i - min i 11).toNat < Ieee.signed false 4503599627370496 ((11 : Int) - min i 11).toNat := by
      simp only [D63, Ieee.Datum.order] at h1
      rcases cmp3 (Ieee.signed s m (i - min i 11).toNat) (Ieee.signed false 4503599627370496 ((11 : Int) - min i 11).toNat) with ⟨q, _⟩ | ⟨_, q⟩ | ⟨_, q⟩
      · exact q
      · rw [q] at h1; cases h1
      · rw [q] at h1; cases h1
    have q2 : Ieee.signed true 4503599627370496 ((11 : Int) - min i 11).toNat ≤ Ieee.signed s m (i - min i 11).toNat := by
      simp only [N63, Ieee.Datum.order] at h2
      rcases cmp3 (Ieee.signed s m (i - min i 11).toNat) (Ieee.signed true 4503599627370496 ((11 : Int) - min i 11).toNat) with ⟨_, q⟩ | ⟨q, _⟩ | ⟨q, _⟩
      · rw [q] at h2; cases h2
      · omega
      · omega
    rw [signed_eq, signed_eq] at q1 q2
    rw [signed_zero]
    cases s with
    | false =>
      simp only [Bool.false_eq_true, if_false] at q1 q2 ⊢
      have q3 : m * 2 ^ (i - min i 11).toNat < 4503599627370496 * 2 ^ ((11 : Int) - min i 11).toNat := by exact Int.ofNat_lt.1 q1
      have hlt : whole m i < 9223372036854775808 := by
        have hp : 0 < 2 ^ ((11 : Int) - min i 11).toNat := Nat.two_pow_pos _
        -- strictness by the same bound of one less, where it is whole; else by division
        unfold whole
        by_cases hi : 11 ≤ i
        · have a1 : (i - min i 11).toNat = (i - 11).toNat := by omega
          have a2 : ((11 : Int) - min i 11).toNat = 0 := by omega
          have a3 : (-i).toNat = 0 := by omega
          rw [a1, a2, Nat.pow_zero, Nat.mul_one] at q3
          rw [a3, Nat.pow_zero, Nat.div_one, Nat.shiftLeft_eq]
          have : i.toNat = (i - 11).toNat + 11 := by omega
          rw [this, Nat.pow_add, ← Nat.mul_assoc]
          exact Nat.mul_lt_mul_of_pos_right q3 (by decide : 0 < 2048)
        · have a1 : (i - min i 11).toNat = 0 := by omega
          have a2 : ((11 : Int) - min i 11).toNat = (11 - i).toNat := by omega
          rw [a1, a2, Nat.pow_zero, Nat.mul_one] at q3
          by_cases h0 : 0 ≤ i
          · have a3 : (-i).toNat = 0 := by omega
            rw [a3, Nat.pow_zero, Nat.div_one, Nat.shiftLeft_eq]
            have e : 2 ^ (11 - i).toNat * 2 ^ i.toNat = 2048 := by rw [← Nat.pow_add, show (11 - i).toNat + i.toNat = 11 by omega]
            calc m * 2 ^ i.toNat < 4503599627370496 * 2 ^ (11 - i).toNat * 2 ^ i.toNat := Nat.mul_lt_mul_of_pos_right q3 (Nat.two_pow_pos _)
              _ = 4503599627370496 * 2048 := by rw [Nat.mul_assoc, e]
          · have a3 : i.toNat = 0 := by omega
            rw [a3, Nat.shiftLeft_zero]
            have e : 2 ^ (11 - i).toNat = 2048 * 2 ^ (-i).toNat := by rw [show (2048 : Nat) = 2 ^ 11 by decide, ← Nat.pow_add, show 11 + (-i).toNat = (11 - i).toNat by omega]
            rw [e, ← Nat.mul_assoc] at q3
            exact Nat.div_lt_of_lt_mul (by rw [Nat.mul_comm]; exact q3)
      refine ⟨by omega, by omega, by omega⟩
    | true =>
      simp only [if_true] at q1 q2 ⊢
      have q3 : m * 2 ^ (i - min i 11).toNat ≤ 4503599627370496 * 2 ^ ((11 : Int) - min i 11).toNat := by
        have := Int.neg_le_neg_iff.1 q2
        exact Int.ofNat_le.1 this
      have hle := whole_le q3
      refine ⟨by omega, by omega, by omega⟩

/-! ### What is left behind the point -/
theorem not_nan_nearest (s : Bool) (m : Nat) (p : Int) : ((Ieee.double.read (Ieee.double.nearest s m p)).order (Ieee.double.read (Ieee.double.nearest s m p)) != some .eq) = false := by
  have key : ∀ (neg : Bool) (R : Nat), R ≤ Ieee.double.infRung → ((Ieee.double.read (Ieee.double.word neg R)).order (Ieee.double.read (Ieee.double.word neg R)) != some .eq) = false := by
    intro neg R hR
    have e0 : Ieee.double.infRung = 9218868437227405312 := by decide
    have e3 : Ieee.double.signWeight = 9223372036854775808 := by decide
    rw [e0] at hR
    have hw : Ieee.double.word neg R = if neg then 9223372036854775808 + R else R := by unfold Ieee.Format.word; rw [e3]
    have hmod : Ieee.double.word neg R % Ieee.double.signWeight = R := by
      rw [hw, e3]
      cases neg
      · simp only [Bool.false_eq_true, if_false]; omega
      · simp only [if_true]; omega
    unfold Ieee.Format.read
    simp only [hmod]
    split
    · rename_i hr
      simp only [Ieee.Datum.order]
      rcases cmp3 (Ieee.signed (Ieee.double.word neg R / Ieee.double.signWeight % 2 == 1) R (Ieee.double.leastPlace - min Ieee.double.leastPlace Ieee.double.leastPlace).toNat) (Ieee.signed (Ieee.double.word neg R / Ieee.double.signWeight % 2 == 1) R (Ieee.double.leastPlace - min Ieee.double.leastPlace Ieee.double.leastPlace).toNat) with h | h | h
      · omega
      · rw [h.2]; rfl
      · omega
    · split
      · generalize Ieee.double.binade + R % Ieee.double.binade = k
        generalize Ieee.double.leastPlace + ((R / Ieee.double.binade - 1 : Nat) : Int) = l
        generalize (Ieee.double.word neg R / Ieee.double.signWeight % 2 == 1) = sg
        simp only [Ieee.Datum.order]
        rcases cmp3 (Ieee.signed sg k (l - min l l).toNat) (Ieee.signed sg k (l - min l l).toNat) with h | h | h
        · omega
        · rw [h.2]; rfl
        · omega
      · split
        · generalize (Ieee.double.word neg R / Ieee.double.signWeight % 2 == 1) = sg
          cases sg <;> rfl
        · rename_i h1 h2 h3
          rw [e0] at h2 h3
          omega
  unfold Ieee.Format.nearest
  split
  · exact key s 0 (Nat.zero_le _)
  · exact key s _ (Nat.min_le_right _ _)

end Go.Proofs.YtfccofgchjieeaaGreatDoor.AI
/- The plain laws of doubles: their order; an int beside a double. -/
set_option linter.unusedVariables false
set_option linter.unusedSimpArgs false
namespace Go.Proofs.YtfccofgchjieeaaGreatDoor.AI
open Go

/-! ### Floats -/
def rk : Ieee.Datum → Int
  | .infinity s => if s then -1 else 1
  | .number _ _ _ => 0
  | .nan _ _ => 2
def kv (B : Int) : Ieee.Datum → Int
  | .number s m i => Ieee.signed s m (i - B).toNat
  | _ => 0
def lowD : Ieee.Datum → Int
  | .number _ _ i => i
  | _ => 0

theorem signed_more (s : Bool) (m u v : Nat) : Ieee.signed s m (u + v) = Ieee.signed s m u * (2 : Int) ^ v := by
  unfold Ieee.signed
  have h : ((m <<< (u + v) : Nat) : Int) = ((m <<< u : Nat) : Int) * (2 : Int) ^ v := by
    rw [Nat.shiftLeft_eq, Nat.shiftLeft_eq, Nat.pow_add, ← Nat.mul_assoc]
    simp
  cases s with
  | true => simp only [if_true]; rw [h, Int.neg_mul]
  | false => simp only [Bool.false_eq_true, if_false]; rw [h]

theorem cmp_cases (x y : Int) : (x < y ∧ compare x y = .lt) ∨ (x = y ∧ compare x y = .eq) ∨ (y < x ∧ compare x y = .gt) := by
  show (x < y ∧ compareOfLessAndEq x y = .lt) ∨ (x = y ∧ compareOfLessAndEq x y = .eq) ∨ (y < x ∧ compareOfLessAndEq x y = .gt)
  unfold compareOfLessAndEq
  by_cases h1 : x < y
  · exact .inl ⟨h1, if_pos h1⟩
  · by_cases h2 : x = y
    · exact .inr (.inl ⟨h2, by rw [if_neg h1, if_pos h2]⟩)
    · exact .inr (.inr ⟨by omega, by rw [if_neg h1, if_neg h2]⟩)

def lexI (r k r' k' : Int) : Int := if r < r' ∨ (r = r' ∧ k < k') then -1 else if r' < r ∨ (r = r' ∧ k' < k) then 1 else 0

theorem lex_range (r k r' k' : Int) : lexI r k r' k' = -1 ∨ lexI r k r' k' = 0 ∨ lexI r k r' k' = 1 := by
  unfold lexI
  repeat' split
  all_goals simp
theorem order_self (d : Ieee.Datum) : (d.order d != some .eq) = decide (rk d = 2) := by
  cases d with
  | number s m i =>
    have : (Ieee.Datum.number s m i).order (.number s m i) = some .eq := by
      simp only [Ieee.Datum.order]
      rcases cmp_cases (Ieee.signed s m (i - min i i).toNat) (Ieee.signed s m (i - min i i).toNat) with h | h | h
      · omega
      · rw [h.2]
      · omega
    rw [this]; rfl
  | infinity s => cases s <;> rfl
  | nan s t => rfl

theorem num_scale {s : Bool} {m : Nat} {i b B : Int} (h1 : b ≤ i) (h2 : B ≤ b) : Ieee.signed s m (i - B).toNat = Ieee.signed s m (i - b).toNat * (2 : Int) ^ (b - B).toNat := by
  rw [← signed_more]
  congr 1
  omega

theorem pow_pos' (v : Nat) : (0 : Int) < (2 : Int) ^ v := Int.pow_pos (by decide)

def fltD (d e : Ieee.Datum) : Int :=
  bif d.order d != some .eq then (bif e.order e != some .eq then 0 else 1)
  else bif e.order e != some .eq then -1 else bif d.order e == some .lt then -1 else bif d.order e == some .gt then 1 else 0

theorem fltD_key (d e : Ieee.Datum) (B : Int) (h1 : B ≤ lowD d) (h2 : B ≤ lowD e) : fltD d e = lexI (rk d) (kv B d) (rk e) (kv B e) := by
  unfold fltD
  rw [order_self, order_self]
  cases d with
  | nan s t => cases e with
    | nan s' t' => rfl
    | infinity s' => cases s' <;> rfl
    | number s' m' i' => rfl
  | infinity s => cases e with
    | nan s' t' => cases s <;> rfl
    | infinity s' => cases s <;> cases s' <;> rfl
    | number s' m' i' => cases s <;> rfl
  | number s m i => cases e with
    | nan s' t' => rfl
    | infinity s' => cases s' <;> rfl
    | number t n j =>
      have h1' : B ≤ i := h1
      have h2' : B ≤ j := h2
      have e1 := num_scale (s := s) (m := m) (i := i) (b := min i j) (B := B) (Int.min_le_left i j) (by omega)
      have e2 := num_scale (s := t) (m := n) (i := j) (b := min i j) (B := B) (Int.min_le_right i j) (by omega)
      have hp := pow_pos' (min i j - B).toNat
      simp only [rk, kv, e1, e2, Ieee.Datum.order]
      generalize Ieee.signed s m (i - min i j).toNat = x
      generalize Ieee.signed t n (j - min i j).toNat = y
      generalize (2 : Int) ^ (min i j - B).toNat = p at hp
      rcases cmp_cases x y with ⟨q1, q2⟩ | ⟨q1, q2⟩ | ⟨q1, q2⟩
      · rw [q2]
        have : x * p < y * p := Int.mul_lt_mul_of_pos_right q1 hp
        unfold lexI
        rw [if_pos (.inr ⟨rfl, this⟩)]; rfl
      · rw [q2, q1]
        unfold lexI
        rw [if_neg (by omega), if_neg (by omega)]; rfl
      · rw [q2]
        have : y * p < x * p := Int.mul_lt_mul_of_pos_right q1 hp
        unfold lexI
        rw [if_neg (by omega), if_pos (.inr ⟨rfl, this⟩)]; rfl

def dat (a : Nat) : Ieee.Datum := FloatKind.f64.format.read a
theorem fltS_eq (a b : Nat) : fltS a b = fltD (dat a) (dat b) := rfl

theorem flt_range (a b : Nat) : fltS a b = -1 ∨ fltS a b = 0 ∨ fltS a b = 1 := by
  rw [fltS_eq, fltD_key _ _ (min (lowD (dat a)) (lowD (dat b))) (by omega) (by omega)]
  exact lex_range _ _ _ _
/-! ### An int beside a double -/
theorem zero_zero : (FloatKind.f64.format.order 0 0 != some .eq) = false := by kernel_rfl
theorem flt_z0 : fltS 0 (Ieee.double.word false 0) = 0 := by kernel_rfl
theorem flt_z1 : fltS 0 (Ieee.double.word true 0) = 0 := by kernel_rfl
theorem flt_zeros (b : Bool) (p : Int) : fltS 0 (Ieee.double.nearest b 0 p) = 0 := by
  have e : Ieee.double.nearest b 0 p = Ieee.double.word b 0 := by unfold Ieee.Format.nearest; rw [if_pos rfl]
  rw [e]
  cases b
  · exact flt_z0
  · exact flt_z1

theorem dat63 : dat 4890909195324358656 = D63 := by kernel_rfl
theorem datN63 : dat 14114281232179134464 = N63 := by kernel_rfl

theorem nearest_int (s : Bool) (W : Nat) (h : W ≠ 0) : FloatKind.f64.nearest (Ieee.signed s W 0) = Ieee.double.nearest s W 0 := by
  rw [signed_zero]
  show Ieee.double.nearest (decide ((if s then -(W : Int) else (W : Int)) < 0)) (if s then -(W : Int) else (W : Int)).natAbs 0 = _
  cases s with
  | true =>
    simp only [if_true]
    rw [decide_eq_true (show -(W : Int) < 0 by omega), Int.natAbs_neg, Int.natAbs_natCast]
  | false =>
    simp only [Bool.false_eq_true, if_false]
    rw [decide_eq_false (show ¬ (W : Int) < 0 by omega), Int.natAbs_natCast]

theorem signed_nil (s : Bool) (u : Nat) : Ieee.signed s 0 u = 0 := by
  rw [signed_eq]; simp

/-- A number less a zero. -/
theorem sum_zero (s x : Bool) (m : Nat) (i : Int) (hi : -1074 ≤ i) : (Ieee.Datum.number s m i).sum (.number x 0 (-1074)) =
    some (.number (if Ieee.signed s m (i - -1074).toNat = 0 then s && x else decide (Ieee.signed s m (i - -1074).toNat < 0)) (Ieee.signed s m (i - -1074).toNat).natAbs (-1074)) := by
  have e : min i (-1074) = -1074 := by omega
  simp only [Ieee.Datum.sum, e, signed_nil, Int.add_zero]

theorem order_refl_write (s : Bool) (m : Nat) (p : Int) : (fo (Ieee.double.nearest s m p) (Ieee.double.nearest s m p) != some .eq) = false := not_nan_nearest s m p

structure MixOk (f : Nat) (s : Bool) (m : Nat) (i : Int) : Prop where
  d : dat f = .number s m i
  fits : whole m i < 2 ^ 64
  lo : -9223372036854775808 ≤ Ieee.signed s (whole m i) 0
  hi : Ieee.signed s (whole m i) 0 ≤ 9223372036854775807

theorem whole_nil (l : Int) : whole 0 l = 0 := by unfold whole; simp

theorem mix_whole {f : Nat} {s : Bool} {m : Nat} {i : Int} (h : MixOk f s m i) : wholeI f = Ieee.signed s (whole m i) 0 := by
  unfold wholeI
  have : FloatKind.f64.decode f = .number s m i := h.d
  rw [this, toInt_num]

theorem mix_trunc {f : Nat} {s : Bool} {m : Nat} {i : Int} (h : MixOk f s m i) : F204 f = some (Ieee.double.nearest s (whole m i) 0) ∧ fToI .f64 .i64 (Ieee.double.nearest s (whole m i) 0) = some (wholeI f) := by
  constructor
  · unfold F204
    have : FloatKind.f64.decode f = .number s m i := h.d
    rw [this]
    simp only [integral_num]
    rfl
  · rw [mix_whole h]
    unfold fToI
    have key : (FloatKind.f64.decode (Ieee.double.nearest s (whole m i) 0)).toInt .zero = some (Ieee.signed s (whole m i) 0) := by
      show (Ieee.double.read (Ieee.double.nearest s (whole m i) 0)).toInt .zero = _
      by_cases h0 : whole m i = 0
      · rw [h0, read_zero, toInt_num, whole_nil]
      · obtain ⟨k, l, e1, e2⟩ := read_nearest (neg := s) h0 h.fits (fits_whole (read_shape (b := f) h.d).1)
        rw [e1, toInt_num, e2]
    rw [key]
    simp only
    rw [decide_eq_true (show IntKind.min .i64 ≤ Ieee.signed s (whole m i) 0 from h.lo), decide_eq_true (show Ieee.signed s (whole m i) 0 ≤ IntKind.max .i64 from h.hi)]
    rfl

theorem mix_rest {f : Nat} {s : Bool} {m : Nat} {i : Int} (h : MixOk f s m i) : ∃ r r', FloatKind.f64.format.sub f (Ieee.double.nearest s (whole m i) 0) = some r ∧ FloatKind.f64.format.sub f (FloatKind.f64.nearest (wholeI f)) = some r' ∧
    (fo r r != some .eq) = false ∧ (fo r' r' != some .eq) = false ∧ fltS 0 r = fltS 0 r' := by
  rw [mix_whole h]
  have hd : Ieee.double.read f = .number s m i := h.d
  by_cases h0 : whole m i = 0
  · rw [h0]
    have en : FloatKind.f64.nearest (Ieee.signed s 0 0) = Ieee.double.nearest false 0 0 := by
      rw [signed_nil]
      rfl
    rw [en]
    have sub0 : ∀ x : Bool, FloatKind.f64.format.sub f (Ieee.double.nearest x 0 0) = some (Ieee.double.nearest (if Ieee.signed s m (i - -1074).toNat = 0 then s && !x else decide (Ieee.signed s m (i - -1074).toNat < 0)) (Ieee.signed s m (i - -1074).toNat).natAbs (-1074)) := by
      intro x
      show ((Ieee.double.read f).sum (Ieee.double.read (Ieee.double.nearest x 0 0)).opposite).map Ieee.double.write = _
      rw [hd, read_zero]
      show ((Ieee.Datum.number s m i).sum (.number (!x) 0 (-1074))).map Ieee.double.write = _
      rw [sum_zero s (!x) m i (read_shape (b := f) hd).2]
      rfl
    refine ⟨_, _, sub0 s, sub0 false, order_refl_write _ _ _, order_refl_write _ _ _, ?_⟩
    by_cases hT : Ieee.signed s m (i - -1074).toNat = 0
    · rw [hT]
      simp only [Int.natAbs_zero, flt_zeros]
    · rw [if_neg hT, if_neg hT]
  · rw [nearest_int s _ h0]
    obtain ⟨k, l, e1, e2⟩ := read_nearest (neg := s) h0 h.fits (fits_whole (read_shape (b := f) h.d).1)
    have sub1 : ∃ b M p, FloatKind.f64.format.sub f (Ieee.double.nearest s (whole m i) 0) = some (Ieee.double.nearest b M p) := by
      show ∃ b M p, ((Ieee.double.read f).sum (Ieee.double.read (Ieee.double.nearest s (whole m i) 0)).opposite).map Ieee.double.write = some (Ieee.double.nearest b M p)
      rw [hd, e1]
      exact ⟨_, _, _, rfl⟩
    obtain ⟨b, M, p, e⟩ := sub1
    exact ⟨_, _, e, e, order_refl_write _ _ _, order_refl_write _ _ _, rfl⟩

theorem mix_ok {f : Nat} (h1 : (fo f f != some .eq) = false) (h2 : (fo f 4890909195324358656 == some .gt || fo f 4890909195324358656 == some .eq) = false) (h3 : (fo f 14114281232179134464 == some .lt) = false) : ∃ s m i, MixOk f s m i := by
  have g1 : ((dat f).order (dat f) != some .eq) = false := h1
  have g2 : ((dat f).order D63 == some .gt || (dat f).order D63 == some .eq) = false := by rw [← dat63]; exact h2
  have g3 : ((dat f).order N63 == some .lt) = false := by rw [← datN63]; exact h3
  obtain ⟨s, m, i, q1, q2, q3, q4⟩ := in_range g1 g2 g3
  exact ⟨s, m, i, q1, q2, q3, q4⟩

theorem spec149 (x : Int × Nat) : f149.g 0 x = some (mixS x.1 x.2) := by
  unfold f149.g mixS
  show (bif bif fo x.2 x.2 != some .eq then true else (fo x.2 4890909195324358656 == some .gt || fo x.2 4890909195324358656 == some .eq) then _ else _) = _
  cases h1 : fo x.2 x.2 != some .eq with
  | true => rfl
  | false =>
    simp only [cond_false, Bool.false_or]
    cases h2 : (fo x.2 4890909195324358656 == some .gt || fo x.2 4890909195324358656 == some .eq) with
    | true => rfl
    | false =>
      simp only [cond_false]
      show (bif fo x.2 14114281232179134464 == some .lt then _ else _) = _
      cases h3 : fo x.2 14114281232179134464 == some .lt with
      | true => rfl
      | false =>
        obtain ⟨s, m, i, h⟩ := mix_ok h1 h2 h3
        obtain ⟨t1, t2⟩ := mix_trunc h
        obtain ⟨r, r', q1, q2, q3, q4, q5⟩ := mix_rest h
        simp only [cond_false, t1, t2, Option.bind_some, F147, intS_ne, q2]
        cases x.1 != wholeI x.2 with
        | true => rfl
        | false =>
          simp only [cond_false, q1, Option.bind_some, zero_zero]
          rw [← q5]
          show (bif fo r r != some .eq then _ else _) = _
          rw [q3]
          unfold fltS
          have e0 : (fo 0 0 != some .eq) = false := zero_zero
          rw [e0, q3]
          show (bif fo 0 r == some .lt then some (-1 : Int) else bif fo 0 r == some .gt then some (1 : Int) else some 0) = some (bif fo 0 r == some .lt then -1 else bif fo 0 r == some .gt then 1 else 0)
          cases fo 0 r == some .lt <;> cases fo 0 r == some .gt <;> rfl
theorem con149_ok : ConOk Tryz.prog 149 con149 := f149.ok (fun x y h => ⟨0, by cases h; exact spec149 x⟩) con147_ok con204_ok

theorem mix_range (n : Int) (f : Nat) : mixS n f = -1 ∨ mixS n f = 0 ∨ mixS n f = 1 := by
  unfold mixS
  cases (fo f f != some .eq || (fo f 4890909195324358656 == some .gt || fo f 4890909195324358656 == some .eq)) with
  | true => exact .inl rfl
  | false =>
    cases fo f 14114281232179134464 == some .lt with
    | true => exact .inr (.inr rfl)
    | false =>
      cases n != wholeI f with
      | true =>
        show intS _ _ = -1 ∨ intS _ _ = 0 ∨ intS _ _ = 1
        unfold intS
        cases decide (n < wholeI f) <;> cases decide (n > wholeI f) <;> simp
      | false =>
        simp only [cond_false]
        split
        · exact flt_range _ _
        · exact .inr (.inl rfl)
theorem wrap_neg {n : Int} (h : n = -1 ∨ n = 0 ∨ n = 1) : IntKind.wrap .i64 (0 - n) = 0 - n := by
  rcases h with rfl | rfl | rfl <;> rfl

theorem spec103 (x : dValue × dValue) : f103.g 0 x = some (numS x.1 x.2) := by
  simp only [f103.g, F147, F148, F149, Option.bind_some, wrap_neg (mix_range _ _), numS]
  cases x.1.1 == 2 <;> cases x.2.1 == 2 <;> cases x.1.1 == 3 <;> cases x.2.1 == 3 <;> rfl
theorem con103_ok : ConOk Tryz.prog 103 con103 := f103.ok (fun x y h => ⟨0, by cases h; exact spec103 x⟩) con147_ok con148_ok con149_ok

end Go.Proofs.YtfccofgchjieeaaGreatDoor.AI
/- The plain laws of values: one order of all of them. -/
set_option linter.unusedVariables false
set_option linter.unusedSimpArgs false
namespace Go.Proofs.YtfccofgchjieeaaGreatDoor.AI
open Go

/-! ### Whole numbers, texts -/
/-! ### Values -/
theorem same_eq {a b : dValue} (h : sameV a b = true) : a = b := by
  unfold sameV at h
  simp only [Bool.and_eq_true] at h
  obtain ⟨⟨⟨h1, h2⟩, h3⟩, h4⟩ := h
  exact Prod.ext (eq_of_beq h1) (Prod.ext (eq_of_beq h2) (Prod.ext (eq_of_beq h3) ((strEq_iff _ _).1 h4)))

/-! ### The laws -/
/-! ### Plain -/
theorem nan_not {a b : Nat} (h : (fo a a != some .eq) = true) : fo a b = none := by
  have h1 : ((dat a).order (dat a) != some .eq) = true := h
  rw [order_self] at h1
  have h2 := of_decide_eq_true h1
  show (dat a).order (dat b) = none
  cases hd : dat a with
  | number s m i => rw [hd] at h2; cases h2
  | infinity s => rw [hd] at h2; cases s <;> cases h2
  | nan s t => cases dat b <;> rfl

/-! ### Values as numbers -/
end Go.Proofs.YtfccofgchjieeaaGreatDoor.AI
/- Plain laws of expressions: how many nodes, how deep, what may be. -/
set_option linter.unusedVariables false
set_option linter.unusedSimpArgs false
namespace Go.Proofs.YtfccofgchjieeaaGreatDoor.AI
open Go

theorem bifG_some {α : Type} {c : Bool} {x y : α} (h : bifG c x = some y) : c = true ∧ x = y := by
  unfold bifG at h
  cases c with
  | true => exact ⟨rfl, Option.some.inj h⟩
  | false => cases h
theorem bifG_true {α : Type} {c : Bool} {x : α} (h : c = true) : bifG c x = some x := by rw [h]; rfl
theorem ifG_some {α : Type} {p : Prop} {x y : α} (h : ifG p x = some y) : p ∧ x = y := by
  unfold ifG at h
  split at h
  · rename_i hp; exact ⟨hp, Option.some.inj h⟩
  · cases h
theorem ifG_true {α : Type} {p : Prop} {x : α} (h : p) : ifG p x = some x := by unfold ifG; rw [if_pos h]

mutual
theorem countS_spec : ∀ (e : dExpr) (h : Int), 0 ≤ h → h ≤ 262144 → h + 1 ≤ countS e h ∧ countS e h ≤ 262145 ∧ (countS e h ≤ 262144 → countS e h = h + sizeE e)
  | .node a ks, h, h0, h1 => by
    obtain ⟨q1, q2, q3⟩ := countL_spec ks (h + 1) (by omega) (by omega)
    simp only [countS, sizeE]
    exact ⟨q1, q2, fun q => by have := q3 q; omega⟩
theorem countL_spec : ∀ (ks : List dExpr) (h : Int), 0 ≤ h → h ≤ 262145 → h ≤ countL ks h ∧ countL ks h ≤ 262145 ∧ (countL ks h ≤ 262144 → countL ks h = h + sizeL ks)
  | [], h, h0, h1 => by simp only [countL, sizeL]; omega
  | k :: r, h, h0, h1 => by
    simp only [countL, sizeL]
    cases hd : decide (h ≤ 262144) with
    | false =>
      have := of_decide_eq_false hd
      simp only [cond_false]; omega
    | true =>
      have hd' := of_decide_eq_true hd
      obtain ⟨q1, q2, q3⟩ := countS_spec k h h0 hd'
      obtain ⟨p1, p2, p3⟩ := countL_spec r (countS k h) (by omega) q2
      simp only [cond_true]
      exact ⟨by omega, p2, fun q => by have := p3 q; have := q3 (by omega); omega⟩
end

mutual
theorem mayS_spec (n : Nat) : ∀ (e : dExpr) (left deep : Int), 0 ≤ left → ((mayS n e left deep).2 = true → (sizeE e : Int) ≤ left ∧ (mayS n e left deep).1 = left - sizeE e ∧ deep + deepE e ≤ 101 ∧ fineE n e = true) ∧
    ((sizeE e : Int) ≤ left → deep + deepE e ≤ 101 → fineE n e = true → (mayS n e left deep).2 = true)
  | .node a ks, left, deep, h0 => by
    simp only [mayS, sizeE, deepE, fineE]
    cases hc : decide (left - 1 < 0) || decide (deep > 100) with
    | true =>
      simp only [cond_true, Bool.or_eq_true, decide_eq_true_eq] at hc ⊢
      exact ⟨fun h => (by cases h), fun h1 h2 h3 => by omega⟩
    | false =>
      simp only [Bool.or_eq_false_iff, decide_eq_false_iff_not] at hc
      simp only [cond_false]
      cases hl : a.1 == 1 || a.1 == 2 with
      | true =>
        simp only [cond_true, nodeB, hl, Bool.and_eq_true]
        have hk : leafB n a ks.length = true → ks = [] := fun h => by
          unfold leafB at h
          have : (ks.length == 0) = true := by
            cases hq : a.1 == 1 <;> rw [hq] at h <;> simp only [cond_true, cond_false, Bool.and_eq_true] at h <;> exact h.1
          exact List.length_eq_zero_iff.1 (by simpa using this)
        refine ⟨fun h => ?_, fun _ _ h => h.1⟩
        have hk' := hk h
        subst hk'
        simp only [sizeL, deepL, fineL]
        exact ⟨by omega, by omega, by omega, h, trivial⟩
      | false =>
        simp only [cond_false, nodeB, hl]
        cases hi : innerB a ks.length with
        | false => simp only [Bool.not_false, cond_true, Bool.false_and]; exact ⟨fun h => (by cases h), fun _ _ h => by cases h⟩
        | true =>
          simp only [Bool.not_true, cond_false, Bool.true_and]
          obtain ⟨q1, q2⟩ := mayL_spec n ks (left - 1) (deep + 1) (by omega) (by omega)
          refine ⟨fun h => ?_, fun h1 h2 h3 => q2 (by omega) (by omega) h3⟩
          obtain ⟨p1, p2, p3, p4⟩ := q1 h
          exact ⟨by omega, by omega, by omega, p4⟩
theorem mayL_spec (n : Nat) : ∀ (ks : List dExpr) (left deep : Int), 0 ≤ left → deep ≤ 101 → ((mayL n ks left deep).2 = true → (sizeL ks : Int) ≤ left ∧ (mayL n ks left deep).1 = left - sizeL ks ∧ deep + deepL ks ≤ 101 ∧ fineL n ks = true) ∧
    ((sizeL ks : Int) ≤ left → deep + deepL ks ≤ 101 → fineL n ks = true → (mayL n ks left deep).2 = true)
  | [], left, deep, h0, h1 => by
    simp only [mayL, sizeL, deepL, fineL]
    exact ⟨fun _ => ⟨by omega, by omega, by omega, trivial⟩, fun _ _ _ => trivial⟩
  | k :: r, left, deep, h0, h1 => by
    obtain ⟨q1, q2⟩ := mayS_spec n k left deep h0
    simp only [mayL, sizeL, deepL, fineL, Bool.and_eq_true]
    cases hk : (mayS n k left deep).2 with
    | false =>
      simp only [Bool.not_false, cond_true]
      refine ⟨fun h => (by cases h), fun p1 p2 p3 => ?_⟩
      have := q2 (by omega) (by omega) p3.1
      rw [hk] at this; exact this
    | true =>
      obtain ⟨p1, p2, p3, p4⟩ := q1 hk
      obtain ⟨r1, r2⟩ := mayL_spec n r (mayS n k left deep).1 deep (by omega) h1
      simp only [Bool.not_true, cond_false]
      refine ⟨fun h => ?_, fun s1 s2 s3 => r2 (by omega) (by omega) s3.2⟩
      obtain ⟨t1, t2, t3, t4⟩ := r1 h
      exact ⟨by omega, by omega, by omega, p4, t4⟩
end

mutual
theorem nodesS_spec : ∀ (e : dExpr) (had deep : Int), ((nodesS e had deep).2 = true → had + sizeE e ≤ 1024 ∧ (nodesS e had deep).1 = had + sizeE e ∧ deep + deepE e ≤ 101) ∧
    (had + sizeE e ≤ 1024 → deep + deepE e ≤ 101 → (nodesS e had deep).2 = true)
  | .node a ks, had, deep => by
    simp only [nodesS, sizeE, deepE]
    cases hc : decide (had + 1 > 1024) || decide (deep > 100) with
    | true =>
      simp only [cond_true, Bool.or_eq_true, decide_eq_true_eq] at hc ⊢
      exact ⟨fun h => (by cases h), fun h1 h2 => by omega⟩
    | false =>
      simp only [Bool.or_eq_false_iff, decide_eq_false_iff_not] at hc
      simp only [cond_false]
      obtain ⟨q1, q2⟩ := nodesL_spec ks (had + 1) (deep + 1) (by omega) (by omega)
      refine ⟨fun h => ?_, fun h1 h2 => q2 (by omega) (by omega)⟩
      obtain ⟨p1, p2, p3⟩ := q1 h
      exact ⟨by omega, by omega, by omega⟩
theorem nodesL_spec : ∀ (ks : List dExpr) (had deep : Int), had ≤ 1024 → deep ≤ 101 → ((nodesL ks had deep).2 = true → had + sizeL ks ≤ 1024 ∧ (nodesL ks had deep).1 = had + sizeL ks ∧ deep + deepL ks ≤ 101) ∧
    (had + sizeL ks ≤ 1024 → deep + deepL ks ≤ 101 → (nodesL ks had deep).2 = true)
  | [], had, deep, h0, h1 => by
    simp only [nodesL, sizeL, deepL]
    exact ⟨fun _ => ⟨by omega, by omega, by omega⟩, fun _ _ => trivial⟩
  | k :: r, had, deep, h0, h1 => by
    obtain ⟨q1, q2⟩ := nodesS_spec k had deep
    simp only [nodesL, sizeL, deepL]
    cases hk : (nodesS k had deep).2 with
    | false =>
      simp only [cond_false]
      refine ⟨fun h => (by cases h), fun p1 p2 => ?_⟩
      have := q2 (by omega) (by omega)
      rw [hk] at this; exact this
    | true =>
      obtain ⟨p1, p2, p3⟩ := q1 hk
      obtain ⟨r1, r2⟩ := nodesL_spec r (nodesS k had deep).1 deep (by omega) h1
      simp only [cond_true]
      refine ⟨fun h => ?_, fun s1 s2 => r2 (by omega) (by omega)⟩
      obtain ⟨t1, t2, t3⟩ := r1 h
      exact ⟨by omega, by omega, by omega⟩
end

theorem may_top (t : dTable) (e : dExpr) : (mayS t.2.1.length e 1024 1).2 = mayB t e := by
  obtain ⟨q1, q2⟩ := mayS_spec t.2.1.length e 1024 1 (by omega)
  rw [Bool.eq_iff_iff]
  unfold mayB
  simp only [Bool.and_eq_true, decide_eq_true_eq]
  exact ⟨fun h => by obtain ⟨a, b, c, d⟩ := q1 h; exact ⟨by omega, by omega, d⟩, fun h => q2 (by omega) (by omega) h.2.2⟩
theorem nodes_top (t : dTable) (e : dExpr) : ((nodesS e 0 1).2 && fineE t.2.1.length e) = mayB t e := by
  obtain ⟨q1, q2⟩ := nodesS_spec e 0 1
  rw [Bool.eq_iff_iff]
  unfold mayB
  simp only [Bool.and_eq_true, decide_eq_true_eq]
  exact ⟨fun h => by obtain ⟨a, b, c⟩ := q1 h.1; exact ⟨by omega, by omega, h.2⟩, fun h => ⟨q2 (by omega) (by omega), h.2.2⟩⟩

/-! ### Sizes -/
theorem sizeE_pos : ∀ e : dExpr, 1 ≤ sizeE e
  | .node a ks => by simp only [sizeE]; omega
theorem size_mem : ∀ {ks : List dExpr} {k : dExpr}, k ∈ ks → sizeE k ≤ sizeL ks
  | k' :: r, k, h => by
    simp only [sizeL]
    rcases List.mem_cons.1 h with rfl | h
    · omega
    · have := size_mem h; omega
theorem size_len : ∀ ks : List dExpr, ks.length ≤ sizeL ks
  | [] => by simp [sizeL]
  | k :: r => by
    have := size_len r
    have := sizeE_pos k
    simp only [sizeL, List.length_cons]; omega
theorem bigL_mem : ∀ {ks : List dExpr}, bigL ks = true → ∀ k ∈ ks, bigE k = true
  | k' :: r, h, k, hk => by
    simp only [bigL, Bool.and_eq_true] at h
    rcases List.mem_cons.1 hk with rfl | hk
    · exact h.1
    · exact bigL_mem h.2 k hk
theorem fineL_mem {n : Nat} : ∀ {ks : List dExpr}, fineL n ks = true → ∀ k ∈ ks, fineE n k = true
  | k' :: r, h, k, hk => by
    simp only [fineL, Bool.and_eq_true] at h
    rcases List.mem_cons.1 hk with rfl | hk
    · exact h.1
    · exact fineL_mem h.2 k hk
theorem okE_node {a : Int × ByteArray × Int × dValue} {ks : List dExpr} (h : okE (.node a ks) = true) : okS a.2.1 = true ∧ okZ a.2.2.2 = true ∧ okB 96 ks = true ∧ bigL ks = true ∧ sizeL ks + 1 ≤ 1048576 := by
  unfold okE at h
  simp only [bigE, sizeE, Bool.and_eq_true, decide_eq_true_eq] at h
  exact ⟨h.2.1, h.2.2.1, h.2.2.2.1, h.2.2.2.2, by first | exact h.1 | exact of_decide_eq_true h.1⟩
theorem okE_kid {a : Int × ByteArray × Int × dValue} {ks : List dExpr} (h : okE (.node a ks) = true) {k : dExpr} (hk : k ∈ ks) : okE k = true ∧ sizeE k < sizeL ks + 1 := by
  obtain ⟨_, _, _, h4, h5⟩ := okE_node h
  have h1 := size_mem hk
  have h2 := bigL_mem h4 k hk
  unfold okE
  rw [h2, decide_eq_true (show sizeE k ≤ 1048576 by omega)]
  exact ⟨rfl, by omega⟩
theorem cut_ok {e : dExpr} (h : bigE e = true) : okE (cutS e) = true := by
  obtain ⟨q1, q2, q3⟩ := countS_spec e 0 (by omega) (by omega)
  unfold cutS
  cases hc : decide (countS e 0 > 262144) with
  | true => rw [cond_true]; rfl
  | false =>
    have hc' := of_decide_eq_false hc
    have := q3 (by omega)
    rw [cond_false]
    unfold okE
    rw [h, decide_eq_true (show sizeE e ≤ 1048576 by omega)]
    rfl

/-! ### Two ways to a kind -/
theorem inS_mem {l : List ByteArray} {s : ByteArray} (h : inS l s = true) : s ∈ l := by
  unfold inS at h
  obtain ⟨w, hw, he⟩ := List.any_eq_true.1 h
  rw [← (strEq_iff _ _).1 he]; exact hw
theorem rec_two (op : ByteArray) (a b : Int) : (recR op a b).2 = (recK op a b).2 ∧ ((recK op a b).2 = true → (recR op a b).1 = (recK op a b).1) := by
  unfold recR recK numK
  by_cases a0 : a = 0
  · subst a0; exact ⟨rfl, fun _ => rfl⟩
  have ea : (a == 0) = false := by simpa using a0
  have ha : a = 2 ∨ a = 3 ∨ ((a == 2) = false ∧ (a == 3) = false) := by
    by_cases h2 : a = 2
    · exact .inl h2
    · by_cases h3 : a = 3
      · exact .inr (.inl h3)
      · exact .inr (.inr ⟨by simpa using h2, by simpa using h3⟩)
  have hb : b = 2 ∨ b = 3 ∨ b = 0 ∨ ((b == 2) = false ∧ (b == 3) = false ∧ (b == 0) = false) := by
    by_cases h2 : b = 2
    · exact .inl h2
    · by_cases h3 : b = 3
      · exact .inr (.inl h3)
      · by_cases h0 : b = 0
        · exact .inr (.inr (.inl h0))
        · exact .inr (.inr (.inr ⟨by simpa using h2, by simpa using h3, by simpa using h0⟩))
  rcases ha with rfl | rfl | ⟨a2, a3⟩ <;> rcases hb with rfl | rfl | rfl | ⟨b2, b3, b0⟩ <;> cases hr : strEq op remS <;>
    first
      | exact ⟨rfl, fun _ => rfl⟩
      | exact ⟨rfl, fun h => by cases h⟩
      | (simp only [ea, a2, a3, b2, b3, b0, bne, Bool.or_self, Bool.not_false, Bool.true_or, Bool.or_true, Bool.and_self, Bool.and_true, Bool.true_and, Bool.or_false, Bool.false_or, cond_true, cond_false]; first | exact ⟨rfl, fun _ => rfl⟩ | exact ⟨rfl, fun h => by cases h⟩)
      | (simp only [b2, b3, b0, bne, Bool.or_self, Bool.not_false, Bool.true_or, Bool.or_true, Bool.and_self, Bool.and_true, Bool.true_and, Bool.or_false, Bool.false_or, cond_true, cond_false]; first | exact ⟨rfl, fun _ => rfl⟩ | exact ⟨rfl, fun h => by cases h⟩)
      | (simp [ea, a2, a3, b2, b3, b0]; done)
      | (simp [ea, a2, a3]; done)
      | (simp [b2, b3, b0]; done)
      | (simp only [ea, a2, a3, bne, Bool.or_self, Bool.not_false, Bool.true_or, Bool.or_true, Bool.and_self, Bool.and_true, Bool.true_and, Bool.or_false, Bool.false_or, cond_true, cond_false]; first | exact ⟨rfl, fun _ => rfl⟩ | exact ⟨rfl, fun h => by cases h⟩)
theorem reck_two (op : ByteArray) (a b : Int) : (reckR op a b).2 = (reckK op a b).2 ∧ ((reckK op a b).2 = true → (reckR op a b).1 = (reckK op a b).1) := by
  unfold reckR reckK
  cases a == 0
  · exact rec_two op a b
  · exact rec_two op b a
def binM (op : ByteArray) (x y : Int) : Int × Bool := bif inS arL op then reckR op x y else bif inS cpL op then (1, fitK x y) else (1, logK x && logK y)
def binN (op : ByteArray) (x y : Int) : Int × Bool := bif strEq op notS then (1, logK x) else bif inS cpL op then (1, fitK x y) else bif strEq op andS || strEq op orS then (1, logK x && logK y) else reckK op x y
def unM (op : ByteArray) (x : Int) : Int × Bool := bif strEq op subS then (x, numK x || x == 0) else (1, !(strEq op notS) || logK x)
def unN (op : ByteArray) (x : Int) : Int × Bool := bif strEq op subS then (x, numK x || x == 0) else bif strEq op notS then (1, logK x) else (1, true)
theorem two_un {op : ByteArray} (h : op ∈ unL) (x : Int) : unM op x = unN op x := by
  unfold unM unN
  cases strEq op subS with
  | true => rfl
  | false => cases strEq op notS <;> rfl
theorem two_bin {op : ByteArray} (h : op ∈ biL) (x y : Int) : (binM op x y).2 = (binN op x y).2 ∧ ((binN op x y).2 = true → (binM op x y).1 = (binN op x y).1) := by
  simp only [biL, List.mem_cons, List.not_mem_nil, or_false] at h
  rcases h with rfl | rfl | rfl | rfl | rfl | rfl | rfl | rfl | rfl | rfl | rfl | rfl | rfl
  · have e1 : binM ⟨#[43]⟩ x y = reckR ⟨#[43]⟩ x y := by kernel_rfl
    have e2 : binN ⟨#[43]⟩ x y = reckK ⟨#[43]⟩ x y := by kernel_rfl
    rw [e1, e2]; exact reck_two _ x y
  · have e1 : binM ⟨#[45]⟩ x y = reckR ⟨#[45]⟩ x y := by kernel_rfl
    have e2 : binN ⟨#[45]⟩ x y = reckK ⟨#[45]⟩ x y := by kernel_rfl
    rw [e1, e2]; exact reck_two _ x y
  · have e1 : binM ⟨#[42]⟩ x y = reckR ⟨#[42]⟩ x y := by kernel_rfl
    have e2 : binN ⟨#[42]⟩ x y = reckK ⟨#[42]⟩ x y := by kernel_rfl
    rw [e1, e2]; exact reck_two _ x y
  · have e1 : binM ⟨#[47]⟩ x y = reckR ⟨#[47]⟩ x y := by kernel_rfl
    have e2 : binN ⟨#[47]⟩ x y = reckK ⟨#[47]⟩ x y := by kernel_rfl
    rw [e1, e2]; exact reck_two _ x y
  · have e1 : binM ⟨#[37]⟩ x y = reckR ⟨#[37]⟩ x y := by kernel_rfl
    have e2 : binN ⟨#[37]⟩ x y = reckK ⟨#[37]⟩ x y := by kernel_rfl
    rw [e1, e2]; exact reck_two _ x y
  · have e : binM ⟨#[61]⟩ x y = binN ⟨#[61]⟩ x y := by kernel_rfl
    rw [e]; exact ⟨rfl, fun _ => rfl⟩
  · have e : binM ⟨#[60, 62]⟩ x y = binN ⟨#[60, 62]⟩ x y := by kernel_rfl
    rw [e]; exact ⟨rfl, fun _ => rfl⟩
  · have e : binM ⟨#[60]⟩ x y = binN ⟨#[60]⟩ x y := by kernel_rfl
    rw [e]; exact ⟨rfl, fun _ => rfl⟩
  · have e : binM ⟨#[60, 61]⟩ x y = binN ⟨#[60, 61]⟩ x y := by kernel_rfl
    rw [e]; exact ⟨rfl, fun _ => rfl⟩
  · have e : binM ⟨#[62]⟩ x y = binN ⟨#[62]⟩ x y := by kernel_rfl
    rw [e]; exact ⟨rfl, fun _ => rfl⟩
  · have e : binM ⟨#[62, 61]⟩ x y = binN ⟨#[62, 61]⟩ x y := by kernel_rfl
    rw [e]; exact ⟨rfl, fun _ => rfl⟩
  · have e : binM ⟨#[97, 110, 100]⟩ x y = binN ⟨#[97, 110, 100]⟩ x y := by kernel_rfl
    rw [e]; exact ⟨rfl, fun _ => rfl⟩
  · have e : binM ⟨#[111, 114]⟩ x y = binN ⟨#[111, 114]⟩ x y := by kernel_rfl
    rw [e]; exact ⟨rfl, fun _ => rfl⟩
/-- What an inner node is. -/
theorem arm_cases {a : Int × ByteArray × Int × dValue} {m : Nat} (h : armB a m = true) : (a.1 = 3 ∧ m = 1 ∧ a.2.1 ∈ unL) ∨ (a.1 = 4 ∧ m = 2 ∧ a.2.1 ∈ biL) ∨ (a.1 = 5 ∧ 2 ≤ m ∧ a.2.1 = noS) := by
  obtain ⟨k, op, c, v⟩ := a
  unfold armB at h
  simp only at h ⊢
  by_cases h3 : k = 3
  · subst h3
    simp only [show ((3 : Int) == 3) = true from rfl, cond_true, Bool.and_eq_true] at h
    exact .inl ⟨rfl, by simpa using h.1, inS_mem h.2⟩
  by_cases h4 : k = 4
  · subst h4
    simp only [show ((4 : Int) == 3) = false from rfl, show ((4 : Int) == 4) = true from rfl, cond_true, cond_false, Bool.and_eq_true] at h
    refine .inr (.inl ⟨rfl, by simpa using h.1, ?_⟩)
    have := h.2
    simp only [Bool.or_eq_true] at this
    rcases this with h | h | h | h
    · have := inS_mem h
      simp only [arL, List.mem_cons, List.not_mem_nil, or_false] at this
      simp only [biL, List.mem_cons]
      rcases this with rfl | rfl | rfl | rfl | rfl <;> simp
    · have := inS_mem h
      simp only [cpL, List.mem_cons, List.not_mem_nil, or_false] at this
      simp only [biL, List.mem_cons]
      rcases this with rfl | rfl | rfl | rfl | rfl | rfl <;> simp
    · rw [(strEq_iff _ _).1 h]; simp [biL, andS]
    · rw [(strEq_iff _ _).1 h]; simp [biL, orS]
  · have e3 : (k == 3) = false := by simpa using h3
    have e4 : (k == 4) = false := by simpa using h4
    rw [e3, e4] at h
    simp only [cond_false] at h
    cases h5 : k == 5 with
    | false => rw [h5] at h; cases h
    | true =>
      rw [h5] at h
      simp only [cond_true, Bool.and_eq_true, decide_eq_true_eq] at h
      exact .inr (.inr ⟨by simpa using h5, h.1, (strEq_iff _ _).1 h.2⟩)
theorem two_kinds {n m : Nat} {cs : List Int} {a : Int × ByteArray × Int × dValue} {l : List Int} (hf : nodeB n a m = true) (hl : l.length = m) :
    (kindM cs a l).2 = (kindN cs a l).2 ∧ ((kindN cs a l).2 = true → (kindM cs a l).1 = (kindN cs a l).1) := by
  obtain ⟨k, op, c, v⟩ := a
  by_cases h1 : k = 1
  · subst h1; exact ⟨rfl, fun _ => rfl⟩
  by_cases h2 : k = 2
  · subst h2; exact ⟨rfl, fun _ => rfl⟩
  have e1 : (k == 1) = false := by simpa using h1
  have e2 : (k == 2) = false := by simpa using h2
  simp only [nodeB, e1, e2, Bool.or_self, cond_false, innerB, Bool.and_eq_true] at hf
  unfold kindM kindN
  simp only [e1, e2, cond_false]
  rcases arm_cases hf.1 with ⟨h, hm, hop⟩ | ⟨h, hm, hop⟩ | ⟨h, hm, hop⟩ <;> simp only at h hop <;> subst h
  · have hm' : l.length = 1 := by omega
    simp only [show ((3 : Int) == 3) = true from rfl, show ((3 : Int) == 5) = false from rfl, cond_true, cond_false, hm', show ((1 : Nat) == 1) = true from rfl, Bool.and_true]
    have e : unM op (l.getD 0 0) = unN op (l.getD 0 0) := two_un hop _
    unfold unM unN at e
    rw [e]; exact ⟨rfl, fun _ => rfl⟩
  · have hm' : l.length = 2 := by omega
    simp only [show ((4 : Int) == 3) = false from rfl, show ((4 : Int) == 5) = false from rfl, cond_false, hm', show ((2 : Nat) == 1) = false from rfl, Bool.and_false]
    exact two_bin hop _ _
  · simp only [show ((5 : Int) == 3) = false from rfl, show ((5 : Int) == 5) = true from rfl, cond_true, cond_false]
    cases (l.drop 1).any fun x => !fitK (l.getD 0 0) x with
    | true => exact ⟨rfl, fun h => by cases h⟩
    | false => exact ⟨rfl, fun _ => rfl⟩
end Go.Proofs.YtfccofgchjieeaaGreatDoor.AI
