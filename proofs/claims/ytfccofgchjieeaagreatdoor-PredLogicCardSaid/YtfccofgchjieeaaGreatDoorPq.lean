/- The plain law of not, and, or. -/
import Derived.Test.YtfccofgchjieeaaGreatDoorPm
import Derived.Test.YtfccofgchjieeaaGreatDoorBy
set_option linter.unusedVariables false
set_option linter.unusedSimpArgs false
namespace Go.Proofs.YtfccofgchjieeaaGreatDoor.AI
open Go

def notE (e : dExpr) : dExpr := .node (3, (notS, (0, zeroV))) [e]
def binE (op : ByteArray) (a b : dExpr) : dExpr := .node (4, (op, (0, zeroV))) [a, b]

theorem cut_size {e : dExpr} (h : bigE e = true) : sizeE (cutS e) ≤ 262144 := by
  obtain ⟨q1, q2, q3⟩ := countS_spec e 0 (by omega) (by omega)
  unfold cutS
  cases hc : decide (countS e 0 > 262144) with
  | true =>
    rw [cond_true]
    have : sizeE zeroE = 1 := rfl
    omega
  | false =>
    have hc' := of_decide_eq_false hc
    have := q3 (by omega)
    rw [cond_false]
    omega
theorem okE_big {e : dExpr} (h : okE e = true) : bigE e = true := by unfold okE at h; rw [Bool.and_eq_true] at h; exact h.2
theorem okE_notE {e : dExpr} (h : bigE e = true) (hs : sizeE e + 1 ≤ 1048576) : okE (notE e) = true ∧ bigE (notE e) = true ∧ sizeE (notE e) = sizeE e + 1 := by
  have e1 : bigE (notE e) = (okS notS && (okZ zeroV && (okB 96 [e] && (bigE e && true)))) := rfl
  have e2 : sizeE (notE e) = sizeE e + 0 + 1 := rfl
  have hb : bigE (notE e) = true := by
    rw [e1, h, show okS notS = true by kernel_rfl, okZ_zero, show okB 96 [e] = true from rfl]; rfl
  refine ⟨?_, hb, by omega⟩
  unfold okE
  rw [hb, decide_eq_true (show sizeE (notE e) ≤ 1048576 by omega)]; rfl
theorem okE_binE {op : ByteArray} {a b : dExpr} (ho : okS op = true) (ha : bigE a = true) (hb : bigE b = true) (hs : sizeE a + sizeE b + 1 ≤ 1048576) : okE (binE op a b) = true ∧ bigE (binE op a b) = true ∧ sizeE (binE op a b) = sizeE a + sizeE b + 1 := by
  have e1 : bigE (binE op a b) = (okS op && (okZ zeroV && (okB 96 [a, b] && (bigE a && (bigE b && true))))) := rfl
  have e2 : sizeE (binE op a b) = sizeE a + (sizeE b + 0) + 1 := rfl
  have hb : bigE (binE op a b) = true := by
    rw [e1, ha, hb, ho, okZ_zero, show okB 96 [a, b] = true from rfl]; rfl
  refine ⟨?_, hb, by omega⟩
  unfold okE
  rw [hb, decide_eq_true (show sizeE (binE op a b) ≤ 1048576 by omega)]; rfl

/-! ### Truth -/
theorem log_cases {v : dValue} (h : okA 1 v) : v = zeroV ∨ v = boolV true ∨ v = boolV false := by
  obtain ⟨k, n, f, s⟩ := v
  obtain ⟨h1, h2, h3⟩ := h
  simp only at h1
  unfold checkV at h2
  simp only at h2
  have hs : ∀ {q : Int}, (bif k != 4 && k != 5 && !(strEq s noS) then (10 : Int) else q) = 0 → (k = 0 ∨ k = 1) → s = noS := fun {q} hq hk => by
    cases he : strEq s noS with
    | true => exact (strEq_iff _ _).1 he
    | false =>
      rw [he] at hq
      rcases hk with rfl | rfl <;> cases hq
  rcases h1 with rfl | rfl
  · -- a bool
    by_cases n0 : n = 0
    · subst n0
      by_cases f0 : f = 0
      · subst f0
        have := hs (q := bif (1 : Int) == 4 && !(Lib.validD s.data.toList) then 10 else bif decide ((s.size : Int) > 65536) then 3 else 0) h2 (.inr rfl)
        subst this
        exact .inr (.inr rfl)
      · have : (f != 0) = true := by simpa using f0
        rw [this] at h2; cases h2
    · by_cases n1 : n = 1
      · subst n1
        by_cases f0 : f = 0
        · subst f0
          have := hs (q := bif (1 : Int) == 4 && !(Lib.validD s.data.toList) then 10 else bif decide ((s.size : Int) > 65536) then 3 else 0) h2 (.inr rfl)
          subst this
          exact .inr (.inl rfl)
        · have : (f != 0) = true := by simpa using f0
          rw [this] at h2; cases h2
      · have e1 : (n != 0) = true := by simpa using n0
        have e2 : (n != 1) = true := by simpa using n1
        rw [e1, e2] at h2; cases h2
  · by_cases n0 : n = 0
    · subst n0
      by_cases f0 : f = 0
      · subst f0
        have := hs (q := bif (0 : Int) == 4 && !(Lib.validD s.data.toList) then 10 else bif decide ((s.size : Int) > 65536) then 3 else 0) h2 (.inl rfl)
        subst this
        exact .inl rfl
      · have : (f != 0) = true := by simpa using f0
        rw [this] at h2; cases h2
    · have e1 : (n != 0) = true := by simpa using n0
      rw [e1] at h2; cases h2
theorem un_not_zero : unV notS zeroV = (zeroV, 0) := by kernel_rfl
theorem un_not_true : unV notS (boolV true) = (boolV false, 0) := by kernel_rfl
theorem un_not_false : unV notS (boolV false) = (boolV true, 0) := by kernel_rfl
theorem not_in : inS unL notS = true := by kernel_rfl
theorem isT_true : isT (boolV true) = true := by kernel_rfl
theorem isF_true : isF (boolV true) = false := by kernel_rfl
theorem isF_false : isF (boolV false) = true := by kernel_rfl
theorem isF_zero : isF zeroV = false := by kernel_rfl
theorem or_and : strEq andS orS = false := by kernel_rfl
theorem or_or : strEq orS orS = true := by kernel_rfl
theorem eval_notE (row : List dValue) (e : dExpr) : evalS row (notE e) = bif (evalS row e).2 != 0 then (zeroV, (evalS row e).2) else unV notS (evalS row e).1 := by
  show nodeV row (3, (notS, (0, zeroV))) [evalS row e] = _
  rw [nodeV_un not_in]
  rfl
theorem eval_binE (row : List dValue) (op : ByteArray) (ho : (strEq op andS || strEq op orS) = true) (a b : dExpr) : evalS row (binE op a b) = bothV op (evalS row a) (evalS row b) := by
  show nodeV row (4, (op, (0, zeroV))) [evalS row a, evalS row b] = _
  unfold nodeV
  simp only [show ((4 : Int) == 1) = false from rfl, show ((4 : Int) == 2) = false from rfl, show ((4 : Int) == 5) = false from rfl, cond_false, ho, cond_true]
  rfl
theorem evalE_some {t : dTable} {e : dExpr} {row : List dValue} (h : (evalE t e row).2 = 0) : (checkE t e).2 = 0 ∧ admitS t row = 0 ∧ (evalS row e).2 = 0 ∧ (evalE t e row).1 = (evalS row e).1 := by
  unfold evalE at h ⊢
  cases h1 : (checkE t e).2 != 0 with
  | true =>
    rw [h1, cond_true] at h
    simp only at h
    rw [h] at h1; cases h1
  | false =>
    rw [h1, cond_false] at h
    rw [cond_false]
    cases h2 : admitS t row != 0 with
    | true =>
      rw [h2, cond_true] at h
      simp only at h
      rw [h] at h2; cases h2
    | false =>
      rw [h2, cond_false] at h
      rw [cond_false]
      cases h3 : (evalS row e).2 != 0 with
      | true =>
        rw [h3, cond_true] at h
        simp only at h
        rw [h] at h3; cases h3
      | false => exact ⟨by simpa using h1, by simpa using h2, by simpa using h3, rfl⟩
theorem takes_some {t : dTable} {e : dExpr} {row : List dValue} (hok : okE e = true) (hr : okR row = true) (h : (takesE t e row).2 = 0) :
    ∃ v, (v = zeroV ∨ v = boolV true ∨ v = boolV false) ∧ evalS row e = (v, 0) ∧ (takesE t e row).1 = isT v := by
  unfold takesE at h ⊢
  cases hc : condE t e != 0 with
  | true =>
    rw [hc, cond_true] at h
    simp only at h
    rw [h] at hc; cases hc
  | false =>
    rw [hc, cond_false] at h
    simp only at h
    obtain ⟨q1, q2, q3, q4⟩ := evalE_some h
    have hk : logK (checkE t e).1 = true := by
      unfold condE at hc
      cases hl : logK (checkE t e).1 with
      | true => rfl
      | false => rw [hl, q1] at hc; cases hc
    have hv := okA_log ((evalE_ok (t := t) hok hr).1 h) hk
    rw [q4] at hv
    refine ⟨(evalS row e).1, log_cases hv, Prod.ext rfl q3, ?_⟩
    simp only [cond_false, q4]
theorem law_not {t : dTable} {a : dExpr} {row : List dValue} (ha : okE a = true) (hn : okE (notE (notE a)) = true) (hr : okR row = true) (h1 : (takesE t a row).2 = 0) (h2 : (takesE t (notE (notE a)) row).2 = 0) :
    (takesE t (notE (notE a)) row).1 = (takesE t a row).1 := by
  obtain ⟨v, c1, e1, e2⟩ := takes_some ha hr h1
  obtain ⟨w, c2, e3, e4⟩ := takes_some hn hr h2
  rw [e2, e4]
  rw [eval_notE, eval_notE, e1] at e3
  rcases c1 with rfl | rfl | rfl
  · simp only [bne_self_eq_false, cond_false, un_not_zero] at e3
    have e5 := (Prod.mk.inj e3).1
    rw [← e5]
  · simp only [bne_self_eq_false, cond_false, un_not_true, un_not_false] at e3
    have e5 := (Prod.mk.inj e3).1
    rw [← e5]
  · simp only [bne_self_eq_false, cond_false, un_not_true, un_not_false] at e3
    have e5 := (Prod.mk.inj e3).1
    rw [← e5]
def logL : List dValue := [zeroV, boolV true, boolV false]
theorem log_mem {v : dValue} (h : v = zeroV ∨ v = boolV true ∨ v = boolV false) : v ∈ logL := by
  rcases h with rfl | rfl | rfl <;> simp [logL]
theorem and_all : (logL.all fun v => logL.all fun w => isT (bothV andS (v, 0) (w, 0)).1 == (isT v && isT w)) = true := by kernel_rfl
theorem and_tab {v w : dValue} (hv : v ∈ logL) (hw : w ∈ logL) : isT (bothV andS (v, 0) (w, 0)).1 = (isT v && isT w) :=
  eq_of_beq (List.all_eq_true.1 (List.all_eq_true.1 and_all v hv) w hw)
def morg (v w : dValue) : Bool :=
  sameV (bif (bothV andS (v, 0) (w, 0)).2 != 0 then (zeroV, (bothV andS (v, 0) (w, 0)).2) else unV notS (bothV andS (v, 0) (w, 0)).1).1
    (bothV orS (bif (0 : Int) != 0 then (zeroV, 0) else unV notS v) (bif (0 : Int) != 0 then (zeroV, 0) else unV notS w)).1
theorem morg_all : (logL.all fun v => logL.all fun w => morg v w) = true := by kernel_rfl
theorem morg_tab {v w : dValue} (hv : v ∈ logL) (hw : w ∈ logL) : morg v w = true := List.all_eq_true.1 (List.all_eq_true.1 morg_all v hv) w hw
theorem law_and {t : dTable} {a b : dExpr} {row : List dValue} (ha : okE a = true) (hb : okE b = true) (hn : okE (binE andS a b) = true) (hr : okR row = true) (h1 : (takesE t a row).2 = 0) (h2 : (takesE t b row).2 = 0) (h3 : (takesE t (binE andS a b) row).2 = 0) :
    (takesE t (binE andS a b) row).1 = ((takesE t a row).1 && (takesE t b row).1) := by
  obtain ⟨v, c1, e1, e2⟩ := takes_some ha hr h1
  obtain ⟨w, c2, e3, e4⟩ := takes_some hb hr h2
  obtain ⟨u, c3, e5, e6⟩ := takes_some hn hr h3
  rw [e2, e4, e6]
  rw [eval_binE _ _ (by kernel_rfl), e1, e3] at e5
  have : u = (bothV andS (v, 0) (w, 0)).1 := by rw [e5]
  rw [this]
  exact and_tab (log_mem c1) (log_mem c2)
theorem kids_log {cs l : List Int} {op : ByteArray} (hop : op ∈ biL) (ho : (strEq op andS || strEq op orS) = true) (hl : l.length = 2) (hk : (kindN cs (4, (op, (0, zeroV))) l).2 = true) : logK (l.getD 0 0) = true ∧ logK (l.getD 1 0) = true := by
  rw [kindN_bi hl] at hk
  exact (binary_ok (p := (zeroV, 1)) (q := (zeroV, 1)) hop hk (fun h => by cases h) (fun h => by cases h)).1 ho
theorem law_morgan {t : dTable} {a b : dExpr} {row : List dValue} (h5 : okE (notE (binE andS a b)) = true) (h6 : okE (binE orS (notE a) (notE b)) = true) (hr : okR row = true)
    (h1 : (evalE t (notE (binE andS a b)) row).2 = 0) (h2 : (evalE t (binE orS (notE a) (notE b)) row).2 = 0) : sameV (evalE t (notE (binE andS a b)) row).1 (evalE t (binE orS (notE a) (notE b)) row).1 = true := by
  obtain ⟨p1, p2, p3, p4⟩ := evalE_some h1
  obtain ⟨q1, q2, q3, q4⟩ := evalE_some h2
  rw [p4, q4]
  have ty := typed_of h5 hr p1 p2
  obtain ⟨cs, l, _, _, _, _, _, _, _, hk⟩ := typed_at ty
  obtain ⟨cs2, l2, _, hfit, _, hn2, hl2, hk2, hv2, _⟩ := typed_at (hk (binE andS a b) (by show _ ∈ [binE andS a b]; simp))
  have hlen : l2.length = 2 := hl2
  have hlog := kids_log (op := andS) (List.mem_of_getElem? (i := 11) rfl) (by kernel_rfl) hlen hk2
  have va : (evalS row a).2 = 0 → okA 1 (evalS row a).1 := fun h => okA_log (okL_get hv2 0 (by omega) h) hlog.1
  have vb : (evalS row b).2 = 0 → okA 1 (evalS row b).1 := fun h => okA_log (okL_get hv2 1 (by omega) h) hlog.2
  have e1 := eval_notE row (binE andS a b)
  have e2 := eval_binE row andS (by kernel_rfl) a b
  have e3 := eval_binE row orS (by kernel_rfl) (notE a) (notE b)
  have e4 := eval_notE row a
  have e5 := eval_notE row b
  rw [e2] at e1
  rw [e4, e5] at e3
  rw [e1] at p3 ⊢
  rw [e3] at q3 ⊢
  generalize evalS row a = ra at *
  generalize evalS row b = rb at *
  obtain ⟨x, ex⟩ := ra
  obtain ⟨y, ey⟩ := rb
  simp only at va vb p3 q3 ⊢
  by_cases hx : ex = 0
  · subst hx
    rcases log_cases (va rfl) with rfl | rfl | rfl
    · by_cases hy : ey = 0
      · subst hy
        exact morg_tab (log_mem (.inl rfl)) (log_mem (log_cases (vb rfl)))
      · exfalso
        have hy' : (ey != 0) = true := by simpa using hy
        simp only [bothV, bne_self_eq_false, Bool.false_or, or_and, cond_false, isF_zero, hy', Bool.true_or, cond_true] at p3
        exact hy p3
    · by_cases hy : ey = 0
      · subst hy
        exact morg_tab (log_mem (.inr (.inl rfl))) (log_mem (log_cases (vb rfl)))
      · exfalso
        have hy' : (ey != 0) = true := by simpa using hy
        simp only [bothV, bne_self_eq_false, Bool.false_or, or_and, cond_false, isF_true, hy', Bool.true_or, cond_true] at p3
        exact hy p3
    · have z1 : (bothV andS (boolV false, (0 : Int)) (y, ey)) = (boolV false, 0) := by
        simp only [bothV, bne_self_eq_false, Bool.false_or, or_and, cond_false, isF_false, cond_true]
      rw [z1]
      simp only [bne_self_eq_false, cond_false, un_not_false]
      simp only [bothV, bne_self_eq_false, Bool.false_or, or_or, cond_true, isT_true]
      exact sameV_refl _
  · exfalso
    have hx' : (ex != 0) = true := by simpa using hx
    simp only [bothV, hx', Bool.true_or, cond_true] at p3
    exact hx p3
theorem con8_ok : ConOk Tryz.prog 8 con8 := f8.ok (fun x y h => ⟨0, by cases h; simp only [f8.g, Rose.eta]; rfl⟩)
theorem con9_ok : ConOk Tryz.prog 9 con9 := f9.ok (fun x y h => ⟨0, by cases h; simp only [f9.g, Rose.eta]; rfl⟩)
theorem spec3 : ∀ (X : dGiven × dExpr) (Y : Bool), FL [(true, tGiven), (true, tExpr)] X = some Y → ∃ n, f3.g n X = some Y := by
  rintro ⟨x, e⟩ y h
  obtain ⟨hw, rfl⟩ := FL_some h
  have hw' : (tTable.wf x.1 ∧ tExpr.wf x.2.1 ∧ (Ty.sl tValue).wf x.2.2) ∧ tExpr.wf e := hw
  have ht := wf_okT hw'.1.1
  have hr := wf_okR hw'.1.2.2
  have g1 : F7 x.2.1 = some (cutS x.2.1) := bifG_true (wf_bigE hw'.1.2.1)
  have g2 : F7 e = some (cutS e) := bifG_true (wf_bigE hw'.2)
  have ha := cut_ok (wf_bigE hw'.1.2.1)
  have hb := cut_ok (wf_bigE hw'.2)
  have sa := cut_size (wf_bigE hw'.1.2.1)
  have sb := cut_size (wf_bigE hw'.2)
  generalize cutS x.2.1 = a at *
  generalize cutS e = b at *
  obtain ⟨n1, n2, n3⟩ := okE_notE (okE_big ha) (by omega)
  obtain ⟨n4, n5, n6⟩ := okE_notE n2 (by omega)
  obtain ⟨m1, m2, m3⟩ := okE_notE (okE_big hb) (by omega)
  obtain ⟨p1, p2, p3⟩ := okE_binE (op := andS) (by kernel_rfl) (okE_big ha) (okE_big hb) (by omega)
  obtain ⟨q1, q2, q3⟩ := okE_notE p2 (by omega)
  obtain ⟨s1, s2, s3⟩ := okE_binE (op := orS) (by kernel_rfl) n2 m2 (by omega)
  have tk : ∀ z : dExpr, okE z = true → F10 (x.1, z, x.2.2) = some (takesE x.1 z x.2.2) := fun z hz => bifG_true (by rw [ht, hz, hr]; rfl)
  have ev : ∀ z : dExpr, okE z = true → F11 (x.1, z, x.2.2) = some (evalE x.1 z x.2.2) := fun z hz => bifG_true (by rw [ht, hz, hr]; rfl)
  have c1 : ∀ z : dExpr, F8 z = some (notE z) := fun _ => rfl
  have c2 : ∀ u v : dExpr, F9 ((⟨#[97, 110, 100]⟩ : ByteArray), u, v) = some (binE andS u v) := fun _ _ => rfl
  have c3 : ∀ u v : dExpr, F9 ((⟨#[111, 114]⟩ : ByteArray), u, v) = some (binE orS u v) := fun _ _ => rfl
  have g6 : F13 () = some true := rfl
  have L1 : (bif (bif ((takesE x.1 a x.2.2).2 == (0 : Int)) then ((takesE x.1 (notE (notE a)) x.2.2).2 == (0 : Int)) else false) then (!((takesE x.1 (notE (notE a)) x.2.2).1 == (takesE x.1 a x.2.2).1)) else false) = false := by
    cases h1 : (takesE x.1 a x.2.2).2 == (0 : Int) with
    | false => rfl
    | true =>
      cases h2 : (takesE x.1 (notE (notE a)) x.2.2).2 == (0 : Int) with
      | false => rfl
      | true => rw [law_not ha n4 hr (eq_of_beq h1) (eq_of_beq h2)]; simp
  have L2 : (bif (bif (bif ((takesE x.1 a x.2.2).2 == (0 : Int)) then ((takesE x.1 b x.2.2).2 == (0 : Int)) else false) then ((takesE x.1 (binE andS a b) x.2.2).2 == (0 : Int)) else false) then (!((takesE x.1 (binE andS a b) x.2.2).1 == (bif (takesE x.1 a x.2.2).1 then (takesE x.1 b x.2.2).1 else false))) else false) = false := by
    cases h1 : (takesE x.1 a x.2.2).2 == (0 : Int) with
    | false => rfl
    | true =>
      cases h2 : (takesE x.1 b x.2.2).2 == (0 : Int) with
      | false => rfl
      | true =>
        cases h3 : (takesE x.1 (binE andS a b) x.2.2).2 == (0 : Int) with
        | false => rfl
        | true =>
          rw [law_and ha hb p1 hr (eq_of_beq h1) (eq_of_beq h2) (eq_of_beq h3)]
          cases (takesE x.1 a x.2.2).1 <;> simp
  refine ⟨0, ?_⟩
  simp only [f3.g, Rose.eta, g1, g2, Option.bind_some, tk a ha, tk b hb, c1, tk _ n4, c2, tk _ p1, ev _ q1, c3, ev _ s1, L1, L2, cond_false, g6]
  cases h5 : (evalE x.1 (notE (binE andS a b)) x.2.2).2 == (0 : Int) with
  | false => rfl
  | true =>
    cases h6 : (evalE x.1 (binE orS (notE a) (notE b)) x.2.2).2 == (0 : Int) with
    | false => rfl
    | true =>
      have hs := law_morgan q1 s1 hr (eq_of_beq h5) (eq_of_beq h6)
      have g7 : F12 ((evalE x.1 (notE (binE andS a b)) x.2.2).1, (evalE x.1 (binE orS (notE a) (notE b)) x.2.2).1) = some true := by show some (sameV _ _) = _; rw [hs]
      simp only [cond_true, g7, Option.bind_some, Bool.not_true, cond_false]
theorem con3_ok : ConOk Tryz.prog 3 con3 := f3.ok spec3 con7_ok con8_ok con9_ok con10_ok con11_ok con12_ok con13_ok
end Go.Proofs.YtfccofgchjieeaaGreatDoor.AI
