/- A part of the proof. -/
import Derived.Test.YtefddghdaimklaaGreatDoorPz
import Derived.Test.YtefddghdaimklaaGreatDoorPr
import Derived.Test.YtefddghdaimklaaGreatDoorSz
import Derived.Test.YtefddghdaimklaaGreatDoorBz
set_option linter.unusedVariables false
set_option linter.unusedSimpArgs false
namespace Go.Proofs.YtefddghdaimklaaGreatDoor.AI
open Go
theorem nB {t : zi} {e : zg} (h : (yM t e).2 = 0) : YI t e = true ∧ (xm (xQ t) e).2 = true ∧ (yM t e).1 = (xm (xQ t) e).1 := by
 unfold yM at h ⊢
 cases h1 : wB t != 0 with
 | true =>
  rw [h1, Nv] at h
  simp only at h
  rw [h] at h1; cases h1
 | false =>
  rw [h1, Nu] at h
  cases h2 : YI t e with
  | false => rw [h2] at h; cases h
  | true =>
   rw [h2] at h
   simp only [NJ, Nu] at h ⊢
   cases h3 : (xm (xQ t) e).2 with
   | false => rw [h3] at h; cases h
   | true => refine ⟨?_, ?_, ?_⟩ <;> first | rfl | trivial
theorem rA : ∀ (cols : List zR) (row : List zc), row.length = cols.length → (∀ v ∈ row, okZ v = true) → pm cols row = 0 → xY (cols.map fun c => c.2.1) row = true
 | [], [], _, _, _ => rfl
 | c :: l, v :: r, hl, hz, h => by
  unfold pm at h
  cases h1 : zt v != 0 with
  | true =>
   rw [h1, Nv] at h
   rw [h] at h1; cases h1
  | false =>
   rw [h1, Nu] at h
   have hr : ∀ x ∈ r, okZ x = true := fun x hx => hz x (by simp [hx])
   have hlen : r.length = l.length := by simpa using hl
   have hc : (zt v == 0) = true := by simpa using h1
   simp only [NN, xY]
   cases h2 : v.1 == 0 with
   | true =>
    rw [h2, Nv] at h
    cases h3 : c.2.2.1 with
    | false => rw [h3] at h; cases h
    | true =>
     rw [h3] at h
     simp only [NJ, Nu] at h
     rw [hc, hz v (by simp), rA l r hlen hr h, Bool.or_true]; rfl
   | false =>
    rw [h2, Nu] at h
    cases h3 : v.1 != c.2.1 with
    | true => rw [h3] at h; cases h
    | false =>
     rw [h3, Nu] at h
     have h4 : (v.1 == c.2.1) = true := by simpa using h3
     rw [hc, hz v (by simp), rA l r hlen hr h, h4]; rfl
 | [], v :: r, hl, _, _ => by simp at hl
 | c :: l, [], hl, _, _ => by simp at hl
theorem jq {t : zi} {row : List zc} (h : vw t row = 0) (hz : ∀ v ∈ row, okZ v = true) : xY (xQ t) row = true := by
 unfold vw at h
 cases h1 : wB t != 0 with
 | true =>
  rw [h1, Nv] at h
  rw [h] at h1; cases h1
 | false =>
  rw [h1, Nu] at h
  cases h2 : (row.length : Int) != (t.2.1.length : Int) with
  | true => rw [h2] at h; cases h
  | false =>
   rw [h2, Nu] at h
   have h3 : row.length = t.2.1.length := by
    have : (row.length : Int) = (t.2.1.length : Int) := by simpa using h2
    omega
   exact rA t.2.1 row h3 hz h
theorem rg {l : List zc} (h : okR l = true) : okB 40 l = true ∧ (∀ v ∈ l, okZ v = true) ∧ l.all okV = true := by
 unfold okR at h
 rw [Nt] at h
 have := Nw.1 h.2
 refine ⟨h.1, this, Nw.2 fun v hv => ?_⟩
 have hz := this v hv
 simp only [okZ, Nt] at hz
 exact hz.1
theorem Xc {t : zi} {e : zg} {row : List zc} (hok : okE e = true) (hr : okR row = true) (h : (yM t e).2 = 0) (ha : vw t row = 0) : Z9 (e, row) := by
 obtain ⟨h1, h2, _⟩ := nB h
 obtain ⟨r1, r2, _⟩ := rg hr
 have hf : xK (xQ t).length e = true := by
  unfold YI at h1
  simp only [Nt] at h1
  rw [show (xQ t).length = t.2.1.length by simp [xQ]]
  exact h1.2.2
 exact ⟨xQ t, hok, hf, h2, jq ha r2, r1⟩
theorem Rx : ∀ X Y, F35 X = some Y → ∃ n, f35.g n X = some Y := by
 rintro ⟨t, e, row⟩ y hh
 obtain ⟨ho, rfl⟩ := zr hh
 simp only [Nt] at ho
 obtain ⟨ht, hok, hr⟩ := ho
 obtain ⟨r1, r2, r3⟩ := rg hr
 refine ⟨0, ?_⟩
 have g1 : F40 (t, e) = some (yM t e) := zp (by rw [ht, hok]; rfl)
 have g2 : F61 (t, row) = some (vw t row) := by show (bif okT t && (okB 40 row && row.all okV) then _ else _) = _; rw [ht, r1, r3]; rfl
 simp only [f35.g, Rose.eta, g1, g2, Nx, od]
 cases h1 : (yM t e).2 != 0 with
 | true => rfl
 | false =>
  simp only [Nu]
  cases h2 : vw t row != 0 with
  | true => rfl
  | false =>
   have g3 : F62 (e, row) = some (zO row e) := mS (Xc hok hr (by simpa using h1) (by simpa using h2))
   simp only [Nu, g3, Nx]
   cases (zO row e).2 != 0 <;> rfl
theorem Y5 : ConOk Tryz.prog 35 Ug := f35.ok Rx mV X4 W1
theorem Rv : ∀ X Y, F15 X = some Y → ∃ n, f15.g n X = some Y := by
 rintro ⟨t, e⟩ y hh
 obtain ⟨ho, rfl⟩ := zr hh
 have g1 : F40 (t, e) = some (yM t e) := zp ho
 refine ⟨0, ?_⟩
 simp only [f15.g, Rose.eta, g1, Nx, F41, wD]
 cases (yM t e).2 == 0 <;> cases qb (yM t e).1 <;> rfl
theorem gS : ConOk Tryz.prog 15 Zj := f15.ok Rv mV fU
theorem Ri : ∀ X Y, F11 X = some Y → ∃ n, f11.g n X = some Y := by
 rintro ⟨t, e, row⟩ y hh
 obtain ⟨ho, rfl⟩ := zr hh
 have ho' := ho
 simp only [Nt] at ho'
 obtain ⟨ht, hok, hr⟩ := ho'
 have g1 : F15 (t, e) = some (wD t e) := zp (by rw [ht, hok]; rfl)
 have g2 : F35 (t, e, row) = some (od t e row) := zp ho
 refine ⟨0, ?_⟩
 simp only [f11.g, Rose.eta, g1, g2, Nx, F36, uH]
 cases wD t e != 0 <;> rfl
theorem fX : ConOk Tryz.prog 11 aa := f11.ok Ri gS Y5 gZ
theorem Zv : ConOk Tryz.prog 152 Z4 := f152.ok (fun x y h => ⟨0, by cases h; simp only [f152.g, Rose.eta]; rfl⟩)
theorem Vi : ConOk Tryz.prog 34 Uy := f34.ok (fun x y h => ⟨0, by cases h; rfl⟩)
theorem WO : ConOk Tryz.prog 33 Ud := f33.ok (fun x y h => ⟨0, by cases h; rfl⟩)
theorem QL : ∀ X Y, F59 X = some Y → X = f59.at ∧ ∃ n, f59.g n = some Y := by
 intro x y h
 obtain ⟨ho, rfl⟩ := zr h
 exact ⟨(zw _ _).1 ho, 60, Pq⟩
theorem XL : ConOk Tryz.prog 59 UJ := f59.ok QL Xf
theorem dr {a b : zR} (h : i5 a b = true) : a = b := by
 unfold i5 at h
 simp only [Nt] at h
 obtain ⟨h1, h2, h3, h4⟩ := h
 exact Prod.ext ((zw _ _).1 h1) (Prod.ext (eq_of_beq h2) (Prod.ext (eq_of_beq h3) (TF h4)))
theorem Sg {l : List Int} (h : (match l with | [k] => k == 0 | _ => false) = true) : l = [0] := by
 split at h
 ·rw [eq_of_beq h]
 ·cases h
theorem jU {t : zi} (h : pw t = true) : t = sH := by
 unfold pw at h
 simp only [Nt] at h
 obtain ⟨h1, h2, h3, h4, h5⟩ := h
 have e2 : t.2.1 = sH.2.1 := by
  split at h2
  ·rename_i c hc
   rw [hc, dr h2]; rfl
  ·cases h2
 have e4 : t.2.2.2.1 = [] := by
  split at h4
  ·assumption
  ·cases h4
 have e5 : t.2.2.2.2 = [] := by
  split at h5
  ·assumption
  ·cases h5
 exact Prod.ext ((zw _ _).1 h1) (Prod.ext e2 (Prod.ext (Sg h3) (Prod.ext e4 e5)))
theorem T7 : ∀ X Y, Q3 X = some Y → (X = f219.at0 ∧ ∃ n, f219.g0 n = some Y) ∨ (X = f219.at1 ∧ ∃ n, f219.g1 n = some Y) ∨ (X = f219.at2 ∧ ∃ n, f219.g2 n = some Y) := by
 intro x y h
 unfold Q3 at h
 cases h1 : zd x (⟨#[49]⟩ : ByteArray) with
 | true =>
  rw [h1] at h
  cases h
  exact .inl ⟨(zw _ _).1 h1, 60, SC⟩
 | false =>
  rw [h1, Nu] at h
  cases h2 : zd x (⟨#[53]⟩ : ByteArray) with
  | true =>
   rw [h2] at h
   cases h
   exact .inr (.inl ⟨(zw _ _).1 h2, 60, Sy⟩)
  | false =>
   rw [h2, Nu] at h
   cases h3 : zd x (⟨#[97]⟩ : ByteArray) with
   | true =>
    rw [h3] at h
    cases h
    exact .inr (.inr ⟨(zw _ _).1 h3, 60, Uk⟩)
   | false => rw [h3] at h; cases h
theorem bO : ConOk Tryz.prog 219 ZQ := f219.ok T7 uV lz
theorem RQ : ∀ X Y, F32 X = some Y → X = f32.at ∧ ∃ n, f32.g n = some Y := by
 intro x y h
 obtain ⟨ho, rfl⟩ := zr h
 rw [Nt] at ho
 exact ⟨Prod.ext (jU ho.1) ((zw _ _).1 ho.2), 60, PE⟩
theorem Vk : ConOk Tryz.prog 32 Tw := f32.ok RQ mV ll XL uV lh sN Zv bO ZG lz
set_option maxRecDepth 100000 in
theorem QY : F11 (sH, j9, [(2, (3, (0, noS)))]) = some (true, 0) := by kernel_rfl
set_option maxRecDepth 100000 in
theorem QK : F11 (sH, j9, [(2, (4, (0, noS)))]) = some (false, 0) := by kernel_rfl
theorem R5 : F32 (sH, (⟨#[97, 32, 43, 32, 49, 32, 60, 32, 53]⟩ : ByteArray)) = some (j9, 0) := by kernel_rfl
theorem RS (x : Unit) : f10.g 0 x = some true := by
 have t3 : F11 (sH, j9, List.take 1 [((2 : Int), ((3 : Int), ((0 : Nat), noS)))]) = some (true, 0) := QY
 have t4 : F11 (sH, j9, List.take 1 [((2 : Int), ((4 : Int), ((0 : Nat), noS)))]) = some (false, 0) := QK
 simp only [f10.g, F33, F34, Nx, R5, Rose.eta, t3, t4]
 rfl
theorem WX : ConOk Tryz.prog 10 U4 := f10.ok (fun x y h => ⟨0, by cases h; exact RS x⟩) fX Vk WO Vi
theorem qh {t : Ty} {b : Nat} (ht : t.bytes = b) {l : List t.den} (h : (Ty.sl t).wf l) : okB b l = true := by
 have h1 : l.length * t.bytes ≤ reachBytes := h.1
 rw [ht] at h1
 refine xB.2 ?_
 have : reachBytes = 140737488351232 := rfl
 omega
theorem VV {x : zc} (h : tValue.wf x) : okV x = true := by
 have h1 : x.2.2.2.size ≤ reachBytes := h.2.2.2
 have : reachBytes = 140737488351232 := rfl
 exact Ny (by omega)
theorem R7 {t : zi} (h : tTable.wf t) : okT t = true := by
 obtain ⟨_, h1, h2, h3, h4⟩ := h
 unfold okT
 rw [qh (t := tColumn) (b := 72) rfl h1, qh (t := .int .i64) (b := 8) rfl h2, qh (t := tIndex) (b := 48) rfl h3, qh (t := tRef) (b := 40) rfl h4]
 rw [Nw.2 (fun c hc => VV (h1.2 c hc).2.2.2), Nw.2 (fun c hc => qh (t := .int .i64) (b := 8) rfl (h3.2 c hc).2.1), Nw.2 (fun c hc => qh (t := .int .i64) (b := 8) rfl (h4.2 c hc).1)]
 rfl
theorem VB {x : zc} (h : tValue.wf x) : okZ x = true := by
 have h1 : IntKind.i64.min ≤ x.2.1 ∧ x.2.1 ≤ IntKind.i64.max := h.2.1
 have h2 : (Lit.float .f64 x.2.2.1).wf = true := h.2.2.1
 have e0 : IntKind.i64.min = -9223372036854775808 := by kernel_rfl
 have e1 : IntKind.i64.max = 9223372036854775807 := by kernel_rfl
 have e2 : (Lit.float .f64 x.2.2.1).wf = decide (x.2.2.1 < 2 ^ 64) := rfl
 rw [e0, e1] at h1
 rw [e2, NE] at h2
 have hv : okS x.2.2.2 = true := VV h
 unfold okZ
 rw [hv, mh.2 h1, Ny (by omega)]; rfl
theorem f9 : ∀ {ks : List zg}, (∀ k ∈ ks, qG k = true) → lq ks = true
 | [], _ => rfl
 | k :: r, h => by
  simp only [lq, Nt]
  exact ⟨h k (by simp), f9 fun x hx => h x (by simp [hx])⟩
theorem SM {e : zg} (h : tExpr.wf e) : qG e = true := by
 have h' : RoseAll (Ty.wf (.pair (.int .i64) (.pair .str (.pair (.int .i64) tValue)))) 96 e := h
 clear h
 induction h' with
 | mk a ks ha hb hk ih =>
  have h1 : a.2.1.size ≤ reachBytes := ha.2.1
  have h2 : tValue.wf a.2.2.2 := ha.2.2.2
  have hr : reachBytes = 140737488351232 := rfl
  simp only [qG, Nt]
  exact ⟨Ny (by omega), VB h2, xB.2 (by omega), f9 ih⟩
theorem Qe {l : List zc} (h : (Ty.sl tValue).wf l) : okR l = true := by
 unfold okR
 rw [qh (t := tValue) (b := 40) rfl h, Nw.2 fun v hv => VB (h.2 v hv)]; rfl
end Go.Proofs.YtefddghdaimklaaGreatDoor.AI
