/- A part of the proof. -/
import Derived.Test.YtefddghdaimklaaGreatDoorPz
import Derived.Test.YtefddghdaimklaaGreatDoorPr
import Derived.Test.YtefddghdaimklaaGreatDoorSz
import Derived.Test.YtefddghdaimklaaGreatDoorBz
set_option linter.unusedVariables false
set_option linter.unusedSimpArgs false
namespace Go.Proofs.YtefddghdaimklaaGreatDoor.AI
open Go
theorem du {t : zg} {e : zn} (h : (yB t e).2 = 0) : cp t e = true ∧ (yW (yG t) e).2 = true ∧ (yB t e).1 = (yW (yG t) e).1 := by
 unfold yB at h ⊢
 cases h1 : xw t != 0 with
 | true =>
  rw [h1, Lk] at h
  simp only at h
  rw [h] at h1; cases h1
 | false =>
  rw [h1, Lj] at h
  cases h2 : cp t e with
  | false => rw [h2] at h; cases h
  | true =>
   rw [h2] at h
   simp only [LA, Lj] at h ⊢
   cases h3 : (yW (yG t) e).2 with
   | false => rw [h3] at h; cases h
   | true => refine ⟨?_, ?_, ?_⟩ <;> first | rfl | trivial
theorem rG : ∀ (cols : List zQ) (row : List zc), row.length = cols.length → (∀ v ∈ row, okZ v = true) → oH cols row = 0 → tL (cols.map fun c => c.2.1) row = true
 | [], [], _, _, _ => rfl
 | c :: l, v :: r, hl, hz, h => by
  unfold oH at h
  cases h1 : zO v != 0 with
  | true =>
   rw [h1, Lk] at h
   rw [h] at h1; cases h1
  | false =>
   rw [h1, Lj] at h
   have hr : ∀ x ∈ r, okZ x = true := fun x hx => hz x (by simp [hx])
   have hlen : r.length = l.length := by simpa using hl
   have hc : (zO v == 0) = true := by simpa using h1
   simp only [LE, tL]
   cases h2 : v.1 == 0 with
   | true =>
    rw [h2, Lk] at h
    cases h3 : c.2.2.1 with
    | false => rw [h3] at h; cases h
    | true =>
     rw [h3] at h
     simp only [LA, Lj] at h
     rw [hc, hz v (by simp), rG l r hlen hr h, Bool.or_true]; rfl
   | false =>
    rw [h2, Lj] at h
    cases h3 : v.1 != c.2.1 with
    | true => rw [h3] at h; cases h
    | false =>
     rw [h3, Lj] at h
     have h4 : (v.1 == c.2.1) = true := by simpa using h3
     rw [hc, hz v (by simp), rG l r hlen hr h, h4]; rfl
 | [], v :: r, hl, _, _ => by simp at hl
 | c :: l, [], hl, _, _ => by simp at hl
theorem Zw {t : zg} {row : List zc} (h : uP t row = 0) (hz : ∀ v ∈ row, okZ v = true) : tL (yG t) row = true := by
 unfold uP at h
 cases h1 : xw t != 0 with
 | true =>
  rw [h1, Lk] at h
  rw [h] at h1; cases h1
 | false =>
  rw [h1, Lj] at h
  cases h2 : (row.length : Int) != (t.2.1.length : Int) with
  | true => rw [h2] at h; cases h
  | false =>
   rw [h2, Lj] at h
   have h3 : row.length = t.2.1.length := by
    have : (row.length : Int) = (t.2.1.length : Int) := by simpa using h2
    omega
   exact rG t.2.1 row h3 hz h
theorem kr {l : List zc} (h : okR l = true) : okB 40 l = true ∧ (∀ v ∈ l, okZ v = true) ∧ l.all okV = true := by
 unfold okR at h
 rw [Li] at h
 have := Ll.1 h.2
 refine ⟨h.1, this, Ll.2 fun v hv => ?_⟩
 have hz := this v hv
 simp only [okZ, Li] at hz
 exact hz.1
theorem W0 {t : zg} {e : zn} {row : List zc} (hok : okE e = true) (hr : okR row = true) (h : (yB t e).2 = 0) (ha : uP t row = 0) : az (e, row) := by
 obtain ⟨h1, h2, _⟩ := du h
 obtain ⟨r1, r2, _⟩ := kr hr
 have hf : yS (yG t).length e = true := by
  unfold cp at h1
  simp only [Li] at h1
  rw [show (yG t).length = t.2.1.length by simp [yG]]
  exact h1.2.2
 exact ⟨yG t, hok, hf, h2, Zw ha r2, r1⟩
theorem Qy : ∀ X Y, F35 X = some Y → ∃ n, f35.g n X = some Y := by
 rintro ⟨t, e, row⟩ y hh
 obtain ⟨ho, rfl⟩ := zr hh
 simp only [Li] at ho
 obtain ⟨ht, hok, hr⟩ := ho
 obtain ⟨r1, r2, r3⟩ := kr hr
 refine ⟨0, ?_⟩
 have g1 : F40 (t, e) = some (yB t e) := zo (by rw [ht, hok]; rfl)
 have g2 : F61 (t, row) = some (uP t row) := by show (bif okT t && (okB 40 row && row.all okV) then _ else _) = _; rw [ht, r1, r3]; rfl
 simp only [f35.g, Rose.eta, g1, g2, Lm, cC]
 cases h1 : (yB t e).2 != 0 with
 | true => rfl
 | false =>
  simp only [Lj]
  cases h2 : uP t row != 0 with
  | true => rfl
  | false =>
   have g3 : F62 (e, row) = some (yh row e) := mZ (W0 hok hr (by simpa using h1) (by simpa using h2))
   simp only [Lj, g3, Lm]
   cases (yh row e).2 != 0 <;> rfl
theorem Vy : ConOk Tryz.prog 35 SL := f35.ok Qy li W3 WY
theorem QZ : ∀ X Y, F15 X = some Y → ∃ n, f15.g n X = some Y := by
 rintro ⟨t, e⟩ y hh
 obtain ⟨ho, rfl⟩ := zr hh
 have g1 : F40 (t, e) = some (yB t e) := zo ho
 refine ⟨0, ?_⟩
 simp only [f15.g, Rose.eta, g1, Lm, F41, yR]
 cases (yB t e).2 == 0 <;> cases uq (yB t e).1 <;> rfl
theorem eG : ConOk Tryz.prog 15 YK := f15.ok QZ li fH
theorem Pe : ∀ X Y, F28 X = some Y → ∃ n, f28.g n X = some Y := by
 rintro ⟨t, e⟩ y hh
 obtain ⟨ho, rfl⟩ := zr hh
 have g1 : F48 (t, e) = some (yB t e) := zo ho
 refine ⟨0, ?_⟩
 simp only [f28.g, Rose.eta, g1, Lm, F49, yR, bne]
 cases hc : (yB t e).2 == 0 with
 | false => rfl
 | true =>
  have : (yB t e).2 = 0 := by simpa using hc
  rw [this]
  cases uq (yB t e).1 <;> rfl
theorem Wn : ConOk Tryz.prog 28 RL := f28.ok Pe XE ez
theorem QA : ∀ X Y, F11 X = some Y → ∃ n, f11.g n X = some Y := by
 rintro ⟨t, e, row⟩ y hh
 obtain ⟨ho, rfl⟩ := zr hh
 have ho' := ho
 simp only [Li] at ho'
 obtain ⟨ht, hok, hr⟩ := ho'
 have g1 : F15 (t, e) = some (yR t e) := zo (by rw [ht, hok]; rfl)
 have g2 : F35 (t, e, row) = some (cC t e row) := zo ho
 refine ⟨0, ?_⟩
 simp only [f11.g, Rose.eta, g1, g2, Lm, F36, VM]
 cases yR t e != 0 <;> rfl
theorem W6 : ConOk Tryz.prog 11 SX := f11.ok QA eG Vy fT
theorem ZA : ConOk Tryz.prog 152 aS := f152.ok (fun x y h => ⟨0, by cases h; simp only [f152.g, Rose.eta]; rfl⟩)
theorem Vb : ConOk Tryz.prog 34 Tw := f34.ok (fun x y h => ⟨0, by cases h; rfl⟩)
theorem WJ : ConOk Tryz.prog 33 UY := f33.ok (fun x y h => ⟨0, by cases h; rfl⟩)
theorem P5 : ∀ X Y, F59 X = some Y → X = f59.at ∧ ∃ n, f59.g n = some Y := by
 intro x y h
 obtain ⟨ho, rfl⟩ := zr h
 exact ⟨(zI _ _).1 ho, 60, O9⟩
theorem Wu : ConOk Tryz.prog 59 Tj := f59.ok P5 WQ
theorem d9 {a b : zQ} (h : i9 a b = true) : a = b := by
 unfold i9 at h
 simp only [Li] at h
 obtain ⟨h1, h2, h3, h4⟩ := h
 exact Prod.ext ((zI _ _).1 h1) (Prod.ext (eq_of_beq h2) (Prod.ext (eq_of_beq h3) (T1 h4)))
theorem U5 {l : List Int} (h : (match l with | [k] => k == 0 | _ => false) = true) : l = [0] := by
 split at h
 ·rw [eq_of_beq h]
 ·cases h
theorem jl {t : zg} (h : pC t = true) : t = sM := by
 unfold pC at h
 simp only [Li] at h
 obtain ⟨h1, h2, h3, h4, h5⟩ := h
 have e2 : t.2.1 = sM.2.1 := by
  split at h2
  ·rename_i c hc
   rw [hc, d9 h2]; rfl
  ·cases h2
 have e4 : t.2.2.2.1 = [] := by
  split at h4
  ·assumption
  ·cases h4
 have e5 : t.2.2.2.2 = [] := by
  split at h5
  ·assumption
  ·cases h5
 exact Prod.ext ((zI _ _).1 h1) (Prod.ext e2 (Prod.ext (U5 h3) (Prod.ext e4 e5)))
theorem Rw : ∀ X Y, P8 X = some Y → (X = f219.at0 ∧ ∃ n, f219.g0 n = some Y) ∨ (X = f219.at1 ∧ ∃ n, f219.g1 n = some Y) ∨ (X = f219.at2 ∧ ∃ n, f219.g2 n = some Y) := by
 intro x y h
 unfold P8 at h
 cases h1 : zd x (⟨#[49]⟩ : ByteArray) with
 | true =>
  rw [h1] at h
  cases h
  exact .inl ⟨(zI _ _).1 h1, 60, UN⟩
 | false =>
  rw [h1, Lj] at h
  cases h2 : zd x (⟨#[53]⟩ : ByteArray) with
  | true =>
   rw [h2] at h
   cases h
   exact .inr (.inl ⟨(zI _ _).1 h2, 60, Te⟩)
  | false =>
   rw [h2, Lj] at h
   cases h3 : zd x (⟨#[97]⟩ : ByteArray) with
   | true =>
    rw [h3] at h
    cases h
    exact .inr (.inr ⟨(zI _ _).1 h3, 60, U0⟩)
   | false => rw [h3] at h; cases h
theorem aB : ConOk Tryz.prog 219 Z4 := f219.ok Rw tg lw
theorem PM : ∀ X Y, F32 X = some Y → X = f32.at ∧ ∃ n, f32.g n = some Y := by
 intro x y h
 obtain ⟨ho, rfl⟩ := zr h
 rw [Li] at ho
 exact ⟨Prod.ext (jl ho.1) ((zI _ _).1 ho.2), 60, Nl⟩
theorem X8 : ConOk Tryz.prog 32 T2 := f32.ok PM li mP Wu tg mi s7 ZA aB cG lw
set_option maxRecDepth 100000 in
theorem Qt : F11 (sM, iA, [(2, (3, (0, noS)))]) = some (true, 0) := by kernel_rfl
set_option maxRecDepth 100000 in
theorem Oq : F11 (sM, iA, [(2, (4, (0, noS)))]) = some (false, 0) := by kernel_rfl
theorem P1 : F32 (sM, (⟨#[97, 32, 43, 32, 49, 32, 60, 32, 53]⟩ : ByteArray)) = some (iA, 0) := by kernel_rfl
theorem QI (x : Unit) : f10.g 0 x = some true := by
 have t3 : F11 (sM, iA, List.take 1 [((2 : Int), ((3 : Int), ((0 : Nat), noS)))]) = some (true, 0) := Qt
 have t4 : F11 (sM, iA, List.take 1 [((2 : Int), ((4 : Int), ((0 : Nat), noS)))]) = some (false, 0) := Oq
 simp only [f10.g, F33, F34, Lm, P1, Rose.eta, t3, t4]
 rfl
theorem X0 : ConOk Tryz.prog 10 Tf := f10.ok (fun x y h => ⟨0, by cases h; exact QI x⟩) W6 X8 WJ Vb
theorem om {t : Ty} {b : Nat} (ht : t.bytes = b) {l : List t.den} (h : (Ty.sl t).wf l) : okB b l = true := by
 have h1 : l.length * t.bytes ≤ reachBytes := h.1
 rw [ht] at h1
 refine xJ.2 ?_
 have : reachBytes = 140737488351232 := rfl
 omega
theorem Un {x : zc} (h : tValue.wf x) : okV x = true := by
 have h1 : x.2.2.2.size ≤ reachBytes := h.2.2.2
 have : reachBytes = 140737488351232 := rfl
 exact Ln (by omega)
theorem Pc {t : zg} (h : tTable.wf t) : okT t = true := by
 obtain ⟨_, h1, h2, h3, h4⟩ := h
 unfold okT
 rw [om (t := tColumn) (b := 72) rfl h1, om (t := .int .i64) (b := 8) rfl h2, om (t := tIndex) (b := 48) rfl h3, om (t := tRef) (b := 40) rfl h4]
 rw [Ll.2 (fun c hc => Un (h1.2 c hc).2.2.2), Ll.2 (fun c hc => om (t := .int .i64) (b := 8) rfl (h3.2 c hc).2.1), Ll.2 (fun c hc => om (t := .int .i64) (b := 8) rfl (h4.2 c hc).1)]
 rfl
theorem Of {x : zc} (h : tValue.wf x) : okZ x = true := by
 have h1 : IntKind.i64.min ≤ x.2.1 ∧ x.2.1 ≤ IntKind.i64.max := h.2.1
 have h2 : (Lit.float .f64 x.2.2.1).wf = true := h.2.2.1
 have e0 : IntKind.i64.min = -9223372036854775808 := by kernel_rfl
 have e1 : IntKind.i64.max = 9223372036854775807 := by kernel_rfl
 have e2 : (Lit.float .f64 x.2.2.1).wf = decide (x.2.2.1 < 2 ^ 64) := rfl
 rw [e0, e1] at h1
 rw [e2, Lt] at h2
 have hv : okS x.2.2.2 = true := Un h
 unfold okZ
 rw [hv, lh.2 h1, Ln (by omega)]; rfl
theorem fQ : ∀ {ks : List zn}, (∀ k ∈ ks, oW k = true) → hP ks = true
 | [], _ => rfl
 | k :: r, h => by
  simp only [hP, Li]
  exact ⟨h k (by simp), fQ fun x hx => h x (by simp [hx])⟩
theorem U4 {e : zn} (h : tExpr.wf e) : oW e = true := by
 have h' : RoseAll (Ty.wf (.pair (.int .i64) (.pair .str (.pair (.int .i64) tValue)))) 96 e := h
 clear h
 induction h' with
 | mk a ks ha hb hk ih =>
  have h1 : a.2.1.size ≤ reachBytes := ha.2.1
  have h2 : tValue.wf a.2.2.2 := ha.2.2.2
  have hr : reachBytes = 140737488351232 := rfl
  simp only [oW, Li]
  exact ⟨Ln (by omega), Of h2, xJ.2 (by omega), fQ ih⟩
end Go.Proofs.YtefddghdaimklaaGreatDoor.AI
