/- The plain laws of the runs: Eval, Takes, what awake asks; the laws. -/
import Derived.Test.YtfccofgchjieeaaGreatDoorPz
import Derived.Test.YtfccofgchjieeaaGreatDoorPr
set_option linter.unusedVariables false
set_option linter.unusedSimpArgs false
namespace Go.Proofs.YtfccofgchjieeaaGreatDoor.AI
open Go

theorem check_some {t : dTable} {e : dExpr} (h : (checkE t e).2 = 0) : mayB t e = true ∧ (kindS (colK t) e).2 = true ∧ (checkE t e).1 = (kindS (colK t) e).1 := by
  unfold checkE at h ⊢
  cases h1 : checkT t != 0 with
  | true =>
    rw [h1, cond_true] at h
    simp only at h
    rw [h] at h1; cases h1
  | false =>
    rw [h1, cond_false] at h
    cases h2 : mayB t e with
    | false => rw [h2] at h; cases h
    | true =>
      rw [h2] at h
      simp only [Bool.not_true, cond_false] at h ⊢
      cases h3 : (kindS (colK t) e).2 with
      | false => rw [h3] at h; cases h
      | true => refine ⟨?_, ?_, ?_⟩ <;> first | rfl | trivial
theorem admit_fits : ∀ (cols : List dColumn) (row : List dValue), row.length = cols.length → (∀ v ∈ row, okZ v = true) → admitL cols row = 0 → fitsB (cols.map fun c => c.2.1) row = true
  | [], [], _, _, _ => rfl
  | c :: l, v :: r, hl, hz, h => by
    unfold admitL at h
    cases h1 : checkV v != 0 with
    | true =>
      rw [h1, cond_true] at h
      rw [h] at h1; cases h1
    | false =>
      rw [h1, cond_false] at h
      have hr : ∀ x ∈ r, okZ x = true := fun x hx => hz x (by simp [hx])
      have hlen : r.length = l.length := by simpa using hl
      have hc : (checkV v == 0) = true := by simpa using h1
      simp only [List.map_cons, fitsB]
      cases h2 : v.1 == 0 with
      | true =>
        rw [h2, cond_true] at h
        cases h3 : c.2.2.1 with
        | false => rw [h3] at h; cases h
        | true =>
          rw [h3] at h
          simp only [Bool.not_true, cond_false] at h
          rw [hc, hz v (by simp), admit_fits l r hlen hr h, Bool.or_true]; rfl
      | false =>
        rw [h2, cond_false] at h
        cases h3 : v.1 != c.2.1 with
        | true => rw [h3] at h; cases h
        | false =>
          rw [h3, cond_false] at h
          have h4 : (v.1 == c.2.1) = true := by simpa using h3
          rw [hc, hz v (by simp), admit_fits l r hlen hr h, h4]; rfl
  | [], v :: r, hl, _, _ => by simp at hl
  | c :: l, [], hl, _, _ => by simp at hl
theorem admit_row {t : dTable} {row : List dValue} (h : admitS t row = 0) (hz : ∀ v ∈ row, okZ v = true) : fitsB (colK t) row = true := by
  unfold admitS at h
  cases h1 : checkT t != 0 with
  | true =>
    rw [h1, cond_true] at h
    rw [h] at h1; cases h1
  | false =>
    rw [h1, cond_false] at h
    cases h2 : (row.length : Int) != (t.2.1.length : Int) with
    | true => rw [h2] at h; cases h
    | false =>
      rw [h2, cond_false] at h
      have h3 : row.length = t.2.1.length := by
        have : (row.length : Int) = (t.2.1.length : Int) := by simpa using h2
        omega
      exact admit_fits t.2.1 row h3 hz h
theorem okR_parts {l : List dValue} (h : okR l = true) : okB 40 l = true ∧ (∀ v ∈ l, okZ v = true) ∧ l.all okV = true := by
  unfold okR at h
  rw [Bool.and_eq_true] at h
  have := List.all_eq_true.1 h.2
  refine ⟨h.1, this, List.all_eq_true.2 fun v hv => ?_⟩
  have hz := this v hv
  simp only [okZ, Bool.and_eq_true] at hz
  exact hz.1
theorem typed_of {t : dTable} {e : dExpr} {row : List dValue} (hok : okE e = true) (hr : okR row = true) (h : (checkE t e).2 = 0) (ha : admitS t row = 0) : Typed (e, row) := by
  obtain ⟨h1, h2, _⟩ := check_some h
  obtain ⟨r1, r2, _⟩ := okR_parts hr
  have hf : fineE (colK t).length e = true := by
    unfold mayB at h1
    simp only [Bool.and_eq_true] at h1
    rw [show (colK t).length = t.2.1.length by simp [colK]]
    exact h1.2.2
  exact ⟨colK t, hok, hf, h2, admit_row ha r2, r1⟩

theorem spec11 : ∀ X Y, F11 X = some Y → ∃ n, f11.g n X = some Y := by
  rintro ⟨t, e, row⟩ y hh
  obtain ⟨ho, rfl⟩ := bifG_some hh
  simp only [Bool.and_eq_true] at ho
  obtain ⟨ht, hok, hr⟩ := ho
  obtain ⟨r1, r2, r3⟩ := okR_parts hr
  refine ⟨0, ?_⟩
  have g1 : F14 (t, e) = some (checkE t e) := bifG_true (by rw [ht, hok]; rfl)
  have g2 : F27 (t, row) = some (admitS t row) := by show (bif okT t && (okB 40 row && row.all okV) then _ else _) = _; rw [ht, r1, r3]; rfl
  simp only [f11.g, Rose.eta, g1, g2, Option.bind_some, evalE]
  cases h1 : (checkE t e).2 != 0 with
  | true => rfl
  | false =>
    simp only [cond_false]
    cases h2 : admitS t row != 0 with
    | true => rfl
    | false =>
      have g3 : F28 (e, row) = some (evalS row e) := ifG_true (typed_of hok hr (by simpa using h1) (by simpa using h2))
      simp only [cond_false, g3, Option.bind_some]
      cases (evalS row e).2 != 0 <;> rfl
theorem con11_ok : ConOk Tryz.prog 11 con11 := f11.ok spec11 con14_ok con27_ok con28_ok
theorem spec25 : ∀ X Y, F25 X = some Y → ∃ n, f25.g n X = some Y := by
  rintro ⟨t, e⟩ y hh
  obtain ⟨ho, rfl⟩ := bifG_some hh
  have g1 : F14 (t, e) = some (checkE t e) := bifG_true ho
  refine ⟨0, ?_⟩
  simp only [f25.g, Rose.eta, g1, Option.bind_some, F49, condE]
  cases (checkE t e).2 == 0 <;> cases logK (checkE t e).1 <;> rfl
theorem con25_ok : ConOk Tryz.prog 25 con25 := f25.ok spec25 con14_ok con49_ok
theorem spec10 : ∀ X Y, F10 X = some Y → ∃ n, f10.g n X = some Y := by
  rintro ⟨t, e, row⟩ y hh
  obtain ⟨ho, rfl⟩ := bifG_some hh
  have ho' := ho
  simp only [Bool.and_eq_true] at ho'
  obtain ⟨ht, hok, hr⟩ := ho'
  have g1 : F25 (t, e) = some (condE t e) := bifG_true (by rw [ht, hok]; rfl)
  have g2 : F11 (t, e, row) = some (evalE t e row) := bifG_true ho
  refine ⟨0, ?_⟩
  simp only [f10.g, Rose.eta, g1, g2, Option.bind_some, F26, takesE]
  cases condE t e != 0 <;> rfl
theorem con10_ok : ConOk Tryz.prog 10 con10 := f10.ok spec10 con11_ok con25_ok con26_ok
/-- The answer of Eval: where it is no mistake, a value of the kind. -/
theorem evalE_ok {t : dTable} {e : dExpr} {row : List dValue} (hok : okE e = true) (hr : okR row = true) : ((evalE t e row).2 = 0 → okA (checkE t e).1 (evalE t e row).1) ∧ ((evalE t e row).2 ≠ 0 → (evalE t e row).1 = zeroV) := by
  unfold evalE
  cases h1 : (checkE t e).2 != 0 with
  | true => exact ⟨fun _ => okA_zero _, fun _ => rfl⟩
  | false =>
    simp only [cond_false]
    cases h2 : admitS t row != 0 with
    | true => exact ⟨fun _ => okA_zero _, fun _ => rfl⟩
    | false =>
      simp only [cond_false]
      cases h3 : (evalS row e).2 != 0 with
      | true => exact ⟨fun _ => okA_zero _, fun _ => rfl⟩
      | false =>
        simp only [cond_false]
        obtain ⟨q1, q2, q3⟩ := check_some (t := t) (e := e) (by simpa using h1)
        obtain ⟨r1, r2, r3⟩ := okR_parts hr
        have hf : fineE (colK t).length e = true := by
          unfold mayB at q1
          simp only [Bool.and_eq_true] at q1
          rw [show (colK t).length = t.2.1.length by simp [colK]]
          exact q1.2.2
        have hb : bigE e = true := by unfold okE at hok; rw [Bool.and_eq_true] at hok; exact hok.2
        refine ⟨fun _ => ?_, fun h => absurd rfl h⟩
        rw [q3]
        exact evalS_ok (admit_row (t := t) (by simpa using h2) r2) e hb hf q2 (by simpa using h3)
/-! ### What awake asks -/
theorem con169_ok : ConOk Tryz.prog 169 con169 := f169.ok (fun x y h => ⟨0, by cases h; simp only [f169.g, Rose.eta]; rfl⟩)
theorem con32_ok : ConOk Tryz.prog 32 con32 := f32.ok (fun x y h => ⟨0, by cases h; rfl⟩)
theorem con31_ok : ConOk Tryz.prog 31 con31 := f31.ok (fun x y h => ⟨0, by cases h; rfl⟩)
theorem spec60 : ∀ X Y, F60 X = some Y → X = f60.at ∧ ∃ n, f60.g n = some Y := by
  intro x y h
  obtain ⟨ho, rfl⟩ := bifG_some h
  exact ⟨(strEq_iff _ _).1 ho, 60, run60⟩
theorem con60_ok : ConOk Tryz.prog 60 con60 := f60.ok spec60 con107_ok
theorem sameCol_eq {a b : dColumn} (h : sameCol a b = true) : a = b := by
  unfold sameCol at h
  simp only [Bool.and_eq_true] at h
  obtain ⟨h1, h2, h3, h4⟩ := h
  exact Prod.ext ((strEq_iff _ _).1 h1) (Prod.ext (eq_of_beq h2) (Prod.ext (eq_of_beq h3) (same_eq h4)))
theorem one_key {l : List Int} (h : (match l with | [k] => k == 0 | _ => false) = true) : l = [0] := by
  split at h
  · rw [eq_of_beq h]
  · cases h
theorem sameSmall_eq {t : dTable} (h : sameSmall t = true) : t = smallT := by
  unfold sameSmall at h
  simp only [Bool.and_eq_true] at h
  obtain ⟨h1, h2, h3, h4, h5⟩ := h
  have e2 : t.2.1 = smallT.2.1 := by
    split at h2
    · rename_i c hc
      rw [hc, sameCol_eq h2]; rfl
    · cases h2
  have e4 : t.2.2.2.1 = [] := by
    split at h4
    · assumption
    · cases h4
  have e5 : t.2.2.2.2 = [] := by
    split at h5
    · assumption
    · cases h5
  exact Prod.ext ((strEq_iff _ _).1 h1) (Prod.ext e2 (Prod.ext (one_key h3) (Prod.ext e4 e5)))
theorem spec258 : ∀ X Y, F258 X = some Y → (X = f258.at0 ∧ ∃ n, f258.g0 n = some Y) ∨ (X = f258.at1 ∧ ∃ n, f258.g1 n = some Y) ∨ (X = f258.at2 ∧ ∃ n, f258.g2 n = some Y) := by
  intro x y h
  unfold F258 at h
  cases h1 : strEq x (⟨#[49]⟩ : ByteArray) with
  | true =>
    rw [h1] at h
    cases h
    exact .inl ⟨(strEq_iff _ _).1 h1, 60, run258a⟩
  | false =>
    rw [h1, cond_false] at h
    cases h2 : strEq x (⟨#[53]⟩ : ByteArray) with
    | true =>
      rw [h2] at h
      cases h
      exact .inr (.inl ⟨(strEq_iff _ _).1 h2, 60, run258b⟩)
    | false =>
      rw [h2, cond_false] at h
      cases h3 : strEq x (⟨#[97]⟩ : ByteArray) with
      | true =>
        rw [h3] at h
        cases h
        exact .inr (.inr ⟨(strEq_iff _ _).1 h3, 60, run258c⟩)
      | false => rw [h3] at h; cases h
theorem con258_ok : ConOk Tryz.prog 258 con258 := f258.ok spec258 con50_ok con223_ok
theorem spec30 : ∀ X Y, F30 X = some Y → X = f30.at ∧ ∃ n, f30.g n = some Y := by
  intro x y h
  obtain ⟨ho, rfl⟩ := bifG_some h
  rw [Bool.and_eq_true] at ho
  exact ⟨Prod.ext (sameSmall_eq ho.1) ((strEq_iff _ _).1 ho.2), 60, run30⟩
theorem con30_ok : ConOk Tryz.prog 30 con30 := f30.ok spec30 con14_ok con33_ok con50_ok con55_ok con60_ok con62_ok con169_ok con223_ok con258_ok con260_ok
set_option maxRecDepth 100000 in
theorem takes3 : F10 (smallT, exprA, [(2, (3, (0, noS)))]) = some (true, 0) := by kernel_rfl
set_option maxRecDepth 100000 in
theorem takes4 : F10 (smallT, exprA, [(2, (4, (0, noS)))]) = some (false, 0) := by kernel_rfl
theorem parseA : F30 (smallT, (⟨#[97, 32, 43, 32, 49, 32, 60, 32, 53]⟩ : ByteArray)) = some (exprA, 0) := by kernel_rfl
theorem spec13 (x : Unit) : f13.g 0 x = some true := by
  have t3 : F10 (smallT, exprA, List.take 1 [((2 : Int), ((3 : Int), ((0 : Nat), noS)))]) = some (true, 0) := takes3
  have t4 : F10 (smallT, exprA, List.take 1 [((2 : Int), ((4 : Int), ((0 : Nat), noS)))]) = some (false, 0) := takes4
  simp only [f13.g, F31, F32, Option.bind_some, parseA, Rose.eta, t3, t4]
  rfl
theorem con13_ok : ConOk Tryz.prog 13 con13 := f13.ok (fun x y h => ⟨0, by cases h; exact spec13 x⟩) con10_ok con30_ok con31_ok con32_ok

/-! ### What the model lets in -/
theorem wf_okB {t : Ty} {b : Nat} (ht : t.bytes = b) {l : List t.den} (h : (Ty.sl t).wf l) : okB b l = true := by
  have h1 : l.length * t.bytes ≤ reachBytes := h.1
  rw [ht] at h1
  refine okB_iff.2 ?_
  have : reachBytes = 140737488351232 := rfl
  omega
theorem wf_okV {x : dValue} (h : tValue.wf x) : okV x = true := by
  have h1 : x.2.2.2.size ≤ reachBytes := h.2.2.2
  have : reachBytes = 140737488351232 := rfl
  exact decide_eq_true (by omega)
theorem wf_okT {t : dTable} (h : tTable.wf t) : okT t = true := by
  obtain ⟨_, h1, h2, h3, h4⟩ := h
  unfold okT
  rw [wf_okB (t := tColumn) (b := 72) rfl h1, wf_okB (t := .int .i64) (b := 8) rfl h2, wf_okB (t := tIndex) (b := 48) rfl h3, wf_okB (t := tRef) (b := 40) rfl h4]
  rw [List.all_eq_true.2 (fun c hc => wf_okV (h1.2 c hc).2.2.2), List.all_eq_true.2 (fun c hc => wf_okB (t := .int .i64) (b := 8) rfl (h3.2 c hc).2.1), List.all_eq_true.2 (fun c hc => wf_okB (t := .int .i64) (b := 8) rfl (h4.2 c hc).1)]
  rfl
theorem wf_okZ {x : dValue} (h : tValue.wf x) : okZ x = true := by
  have h1 : IntKind.i64.min ≤ x.2.1 ∧ x.2.1 ≤ IntKind.i64.max := h.2.1
  have h2 : (Lit.float .f64 x.2.2.1).wf = true := h.2.2.1
  have e0 : IntKind.i64.min = -9223372036854775808 := by kernel_rfl
  have e1 : IntKind.i64.max = 9223372036854775807 := by kernel_rfl
  have e2 : (Lit.float .f64 x.2.2.1).wf = decide (x.2.2.1 < 2 ^ 64) := rfl
  rw [e0, e1] at h1
  rw [e2, decide_eq_true_eq] at h2
  have hv : okS x.2.2.2 = true := wf_okV h
  unfold okZ
  rw [hv, okI_iff.2 h1, decide_eq_true (by omega)]; rfl
theorem bigL_all : ∀ {ks : List dExpr}, (∀ k ∈ ks, bigE k = true) → bigL ks = true
  | [], _ => rfl
  | k :: r, h => by
    simp only [bigL, Bool.and_eq_true]
    exact ⟨h k (by simp), bigL_all fun x hx => h x (by simp [hx])⟩
theorem wf_bigE {e : dExpr} (h : tExpr.wf e) : bigE e = true := by
  have h' : RoseAll (Ty.wf (.pair (.int .i64) (.pair .str (.pair (.int .i64) tValue)))) 96 e := h
  clear h
  induction h' with
  | mk a ks ha hb hk ih =>
    have h1 : a.2.1.size ≤ reachBytes := ha.2.1
    have h2 : tValue.wf a.2.2.2 := ha.2.2.2
    have hr : reachBytes = 140737488351232 := rfl
    simp only [bigE, Bool.and_eq_true]
    exact ⟨decide_eq_true (by omega), wf_okZ h2, okB_iff.2 (by omega), bigL_all ih⟩
theorem wf_okR {l : List dValue} (h : (Ty.sl tValue).wf l) : okR l = true := by
  unfold okR
  rw [wf_okB (t := tValue) (b := 40) rfl h, List.all_eq_true.2 fun v hv => wf_okZ (h.2 v hv)]; rfl
theorem sameV_refl (a : dValue) : sameV a a = true := by
  unfold sameV
  simp [(strEq_iff a.2.2.2 a.2.2.2).2 rfl]
end Go.Proofs.YtfccofgchjieeaaGreatDoor.AI
