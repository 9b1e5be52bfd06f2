/- A part of the proof. -/
import Derived.Test.YtefddghdaimklaaGreatDoorSz
import Derived.Test.YtefddghdaimklaaGreatDoorBv
import Derived.KernelRfl
import GoSem.Op.Unary
import Derived.Test.YtefddghdaimklaaGreatDoorBw
import Derived.Laws.FloatBits
set_option linter.unusedVariables false
set_option linter.unusedSimpArgs false
/- The plain laws of the runs: nodes, what may be, kinds. -/
namespace Go.Proofs.YtefddghdaimklaaGreatDoor.AI
open Go
theorem uZ {P : Program} {f : FuncId} {s rs : Sig} {b : Bool} {F : s.den → Option rs.den} (h : ∀ X, F X = none) : ConOk P f (zk s rs b F) := by
 cases b with
 | true => exact ⟨fun x args vals X Y hI hv hl hF => (by have := h X; rw [show F X = some Y from hF] at this; cases this), fun h => (by cases h), fun _ args H l X h => wj H l s args X h, fun h => by cases h⟩
 | false => exact ⟨fun x args vals X Y hI hv hl hF => (by have := h X; rw [show F X = some Y from hF] at this; cases this), fun _ => ⟨fun _ _ _ => rfl, fun _ _ => rfl, fun _ _ _ => rfl⟩, fun h => (by cases h), fun h => by cases h⟩
theorem tP {P : Program} {f : FuncId} {s rs : Sig} {b : Bool} {F : s.den → Option rs.den} {Fn : Nat → s.den → Option rs.den} (hn : ∀ k, ConOk P f (zk s rs b (Fn k))) (h : ∀ X Y, F X = some Y → ∃ k, Fn k X = some Y) : ConOk P f (zk s rs b F) :=
 ⟨fun x args vals X Y hI hv hl hF => (h X Y hF).elim fun k hk => (hn k).1 x args vals X Y hI hv hl hk, (hn 0).2, (hn 0).3, (hn 0).4⟩
theorem iX {P : Program} {f : FuncId} {t0 : Ty} {s rs : Sig} {F : t0.den × s.den → Option (t0.den × rs.den)} (h : ∀ X, F X = none) : ConOk P f (qg t0 s rs F) :=
 ⟨fun x args vals X Y hI hv hl hF => (by have := h (X.2.1, X.2.2); rw [show F (X.2.1, X.2.2) = some Y from hF] at this; cases this), fun h => (by cases h), fun h => (by cases h), fun h => by cases h⟩
theorem jR {P : Program} {f : FuncId} {t0 : Ty} {s rs : Sig} {F : t0.den × s.den → Option (t0.den × rs.den)} {Fn : Nat → t0.den × s.den → Option (t0.den × rs.den)} (hn : ∀ k, ConOk P f (qg t0 s rs (Fn k))) (h : ∀ X Y, F X = some Y → ∃ k, Fn k X = some Y) : ConOk P f (qg t0 s rs F) :=
 ⟨fun x args vals X Y hI hv hl hF => (h (X.2.1, X.2.2) Y hF).elim fun k hk => (hn k).1 x args vals X Y hI hv hl hk, (hn 0).2, (hn 0).3, (hn 0).4⟩
theorem Qj {n : Int} (h0 : 0 ≤ n) (h1 : n ≤ 140737488355328) : IntKind.wrap .i64 (n + (1 : Int)) = n + 1 := xZ (by omega) (by omega)
theorem Xg {a : Int × ByteArray × Int × zc} {ks : List zg} (h : qG (.node a ks) = true) : ks.length ≤ 140737488355328 ∧ lq ks = true := by
 simp only [qG, Nt] at h
 exact ⟨yy (by omega) h.2.2.1, h.2.2.2⟩
theorem XP (e : zg) (h : Int) : xb e h = ui e.kids (h + 1) := by cases e; rfl
theorem pr (e : zg) : z4 e = xo e.kids + 1 := by cases e; rfl
theorem RT {e : zg} (h : qG e = true) : e.kids.length ≤ 140737488355328 ∧ lq e.kids = true := by cases e; exact Xg h
theorem nG {e : zg} (h : okE e = true) : okS e.lab.2.1 = true ∧ okZ e.lab.2.2.2 = true ∧ okB 96 e.kids = true ∧ lq e.kids = true ∧ xo e.kids + 1 ≤ 1048576 := by cases e; exact fw h
theorem qU {e : zg} (h : okE e = true) {k : zg} (hk : k ∈ e.kids) : okE k = true ∧ z4 k < xo e.kids + 1 := by cases e; exact Sb h hk
theorem RI (n : Nat) (e : zg) (left deep : Int) : rm n e left deep = bif decide (left - 1 < 0) || decide (deep > 100) then (left - 1, false)
  else bif e.lab.1 == 1 || e.lab.1 == 2 then (left - 1, t8 n e.lab e.kids.length)
  else bif !wz e.lab e.kids.length then (left - 1, false) else o9 n e.kids (left - 1) (deep + 1) := by cases e; rfl
theorem oJ (n : Nat) (e : zg) : xK n e = (vV n e.lab e.kids.length && tr n e.kids) := by cases e; rfl
theorem Yp (cs : List Int) (e : zg) : xm cs e = (match xT cs e.kids with | none => (0, false) | some l => wT cs e.lab l) := by cases e; rfl
theorem Qg (k : Nat) : ∀ X Y, Tf (k + 1) X = some Y → ∃ n, @f39.g ⟨Tf k⟩ n X = some Y := by
 rintro ⟨e, h⟩ y hh
 obtain ⟨ho, rfl⟩ := zr hh
 simp only [Nt, NE] at ho
 obtain ⟨hb, hi, h0, h1, hs⟩ := ho
 obtain ⟨hl, hbl⟩ := RT hb
 letI : Rec39 := ⟨Tf k⟩
 refine ⟨e.kids.length + 1, ?_⟩
 show f39.g (e.kids.length + 1) (e, h) = some (xb e h)
 rw [XP]
 have e0 : f39.g (e.kids.length + 1) (e, h) = zY (f39.s1 (e.kids.length + 1) (e, h)) (e.kids.length + 1) (h + 1, (0 : Int)) := by
  simp only [f39.g, Qj h0 (show h ≤ _ by omega)]
 rw [e0]
 refine z9 (step := f39.s1 (e.kids.length + 1) (e, h)) e.kids (fun i (c : Int) => (c, (i : Int))) (fun i c => 0 ≤ c ∧ c ≤ 262145) (fun i c r => some (ui r c)) (fun S c _ => ?_) (fun S i c v r hi hv hr hc ih => ?_) (e.kids.length + 1) (NG _) (h + 1) ⟨by omega, by omega⟩
 ·simp only [f39.s1, yi, Nu, ui]
 ·simp only [f39.s1, xi hi, yZ, yf hv, NC, Nv, nx (show i ≤ _ by omega), Rose.eta, ui]
  cases hd : decide (c ≤ 262144) with
  | false => rfl
  | true =>
   have hd' := NK hd
   have hm := mO (ND hv)
   have hbv := qT hbl v (ND hv)
   have hsz : z4 v < k := by rw [pr] at hs; omega
   have g : (Rec39.F (v, c) : Option Int) = some (xb v c) := zp (by
    simp only [hbv, okI, Ny hc.1, Ny hd', Ny (show (-9223372036854775808 : Int) ≤ c by omega), Ny (show c ≤ 9223372036854775807 by omega), Ny hsz, NC])
   obtain ⟨q1, q2, _⟩ := tR v c hc.1 hd'
   simp only [Nv, g, Nx]
   exact ih (xb v c) ⟨by omega, q2⟩
theorem lW : ∀ k, ConOk Tryz.prog 39 (zk [(true, tExpr), (false, .int .i64)] [(false, .int .i64)] true (Tf k))
 | 0 => uZ fun X => by unfold Tf; simp [x5]
 | k + 1 => @f39.ok ⟨Tf k⟩ (Tf (k + 1)) (Qg k) (lW k)
theorem Wi : ConOk Tryz.prog 39 UB := tP lW fun X Y h => by
 obtain ⟨ho, rfl⟩ := zr h
 refine ⟨z4 X.1 + 1, zp ?_⟩
 simp only [Nt] at ho ⊢
 exact ⟨ho.1, ho.2.1, ho.2.2.1, ho.2.2.2, Ny (NG _)⟩
theorem Wq : ConOk Tryz.prog 14 Tb := f14.ok (fun x y h => by
 obtain ⟨ho, rfl⟩ := zr h
 have e : F39 (x, 0) = some (xb x 0) := zp (by simp only [ho]; rfl)
 exact ⟨0, by simp only [f14.g, Rose.eta, e, Nx]⟩) Wi
theorem U8 : ConOk Tryz.prog 5 P1 := f5.ok (fun x y h => by
 obtain ⟨ho, rfl⟩ := zr h
 have e : F14 x = some (decide (xb x 0 > 262144)) := zp ho
 refine ⟨0, ?_⟩
 simp only [f5.g, Rose.eta, e, Nx, S8]
 cases decide (xb x 0 > 262144) <;> rfl) Wq
theorem WF (a b : ByteArray) : zd a b = zd b a := by
 rw [Bool.eq_iff_iff, zw, zw]; exact eq_comm
theorem Q2 : ∀ X Y, F44 X = some Y → ∃ n, f44.g n X = some Y := by
 intro x y h
 obtain ⟨ho, rfl⟩ := zr h
 have hl := yy (by omega) ho
 refine ⟨x.1.length + 1, wK _ (NG _) (fun S => ?_) (fun S i v hi hv => ?_)⟩
 ·simp only [f44.s1, yi, Nu]
 ·simp only [f44.s1, xi hi, yZ, yf hv, nx (show i ≤ _ by omega), NC, Nv, WF x.2 v]
theorem gK : ConOk Tryz.prog 44 ae := f44.ok Q2
theorem sN : ConOk Tryz.prog 104 tX := f104.ok (fun x y h => by
 obtain ⟨ho, rfl⟩ := zr h
 have e : F44 x = some (up (fun w => zd w x.2) x.1) := zp ho
 exact ⟨0, by simp only [f104.g, e, Nx, rq]; rfl⟩) gK
theorem QM (s : ByteArray) : cn (unL, s) = some (inS unL s) := zp rfl
theorem RX (s : ByteArray) : cn (arL, s) = some (inS arL s) := zp rfl
theorem VK (s : ByteArray) : cn (cpL, s) = some (inS cpL s) := zp rfl
theorem aw : ConOk Tryz.prog 112 bi := f112.ok (fun x y h => ⟨0, by
 cases h
 simp only [f112.g, F63, Nx, z1, oq]
 have e : (((x.2.2.1 : Nat) : Int) == 0) = (x.2.2.1 == 0) := by rw [Bool.eq_iff_iff, beq_iff_eq, beq_iff_eq]; omega
 cases x.1 == 0 <;> cases x.2.1 == 0 <;> simp [e] <;> rfl⟩) s8
theorem iI {α : Type} (l : List α) (m : Nat) : (((l.length : Nat) : Int) == (m : Int)) = (l.length == m) := by
 rw [Bool.eq_iff_iff, beq_iff_eq, beq_iff_eq]; omega
theorem Wm {α : Type} (l : List α) : (((l.length : Nat) : Int) == (0 : Int)) = (l.length == 0) := iI l 0
theorem X3 {α : Type} (l : List α) : (((l.length : Nat) : Int) == (1 : Int)) = (l.length == 1) := iI l 1
theorem Vl {α : Type} (l : List α) : (((l.length : Nat) : Int) == (2 : Int)) = (l.length == 2) := iI l 2
theorem TR {α : Type} (l : List α) : decide (((l.length : Nat) : Int) ≥ (2 : Int)) = decide (l.length ≥ 2) := by
 rw [Bool.eq_iff_iff, NO, NO]; omega
theorem V6 {t : zi} {e : zg} {left deep : Int} (ht : okT t = true) (hok : okE e = true) (h1 : 0 ≤ left ∧ left ≤ 1024) (h2 : 0 ≤ deep ∧ deep ≤ 101) {v : zg} (hv : v ∈ e.kids) {k : Nat} (hs : z4 e < k + 1) :
  Vm k ((t, left), (v, deep)) = some ((t, (rm t.2.1.length v left deep).1), (rm t.2.1.length v left deep).2) := by
 obtain ⟨q1, q2⟩ := qU hok hv
 refine zp ?_
 simp only [goW, ht, q1, Ny h1.1, Ny h1.2, Ny h2.1, Ny h2.2, NT, NE]
 rw [pr] at hs; omega
theorem ez (n : Nat) : ∀ (e : zg) (left deep : Int), 0 ≤ left → -1 ≤ (rm n e left deep).1 ∧ (rm n e left deep).1 ≤ left ∧ ((rm n e left deep).2 = true → 0 ≤ (rm n e left deep).1)
 | .node a ks, left, deep, h => by
  simp only [rm]
  cases hc : decide (left - 1 < 0) || decide (deep > 100) with
  | true => simp only [Nv]; exact ⟨by omega, by omega, fun h => by cases h⟩
  | false =>
   simp only [Bool.or_eq_false_iff, decide_eq_false_iff_not] at hc
   simp only [Nu]
   cases a.1 == 1 || a.1 == 2 with
   | true => simp only [Nv]; exact ⟨by omega, by omega, fun _ => by omega⟩
   | false =>
    simp only [Nu]
    cases wz a ks.length with
    | false => simp only [NW, Nv]; exact ⟨by omega, by omega, fun h => by cases h⟩
    | true =>
     simp only [NJ, Nu]
     obtain ⟨r1, r2, r3⟩ := mayL_low n ks (left - 1) (deep + 1) (by omega)
     exact ⟨r1, by omega, r3⟩
where
 mayL_low (n : Nat) : ∀ (ks : List zg) (left deep : Int), 0 ≤ left → -1 ≤ (o9 n ks left deep).1 ∧ (o9 n ks left deep).1 ≤ left ∧ ((o9 n ks left deep).2 = true → 0 ≤ (o9 n ks left deep).1)
 | [], left, deep, h => by simp only [o9]; exact ⟨by omega, by omega, fun _ => h⟩
 | k :: r, left, deep, h => by
  obtain ⟨q1, q2, q3⟩ := ez n k left deep h
  simp only [o9]
  cases hk : (rm n k left deep).2 with
  | false => simp only [NW, Nv]; exact ⟨q1, q2, fun h => by cases h⟩
  | true =>
   simp only [NJ, Nu]
   obtain ⟨r1, r2, r3⟩ := mayL_low n r (rm n k left deep).1 deep (q3 hk)
   exact ⟨r1, by omega, r3⟩
theorem qV {t : zi} {e : zg} {deep : Int} {k : Nat} (ht : okT t = true) (hok : okE e = true) (h2 : 0 ≤ deep ∧ deep ≤ 100) (hs : z4 e < k + 1)
  {step : ((Int × ByteArray × (List zR) × (List Int) × (List yC) × (List YH) × Int) → Option ((zi × Int) × Bool)) → (Int × ByteArray × (List zR) × (List Int) × (List yC) × (List YH) × Int) → Option ((zi × Int) × Bool)}
  (hstep : ∀ S y, step S y = bif decide (y.1 < (e.kids.length : Int)) then
   (bif decide (0 ≤ y.1) && decide (y.1 < (e.kids.length : Int)) then
    ((Vm k (((y.2.1, (y.2.2.1, (y.2.2.2.1, (y.2.2.2.2.1, y.2.2.2.2.2.1)))), y.2.2.2.2.2.2), ((Rose.node ((e.kids.getD y.1.toNat tExpr.dflt).lab) ((e.kids.getD y.1.toNat tExpr.dflt).kids)), IntKind.wrap .i64 (deep + (1 : Int))))).bind fun r6 =>
     bif !r6.2 then (some (r6.1, false))
     else (S (IntKind.wrap .i64 (y.1 + (1 : Int)), (r6.1.1.1, (r6.1.1.2.1, (r6.1.1.2.2.1, (r6.1.1.2.2.2.1, (r6.1.1.2.2.2.2, r6.1.2))))))))
   else none)
  else (some (((y.2.1, (y.2.2.1, (y.2.2.2.1, (y.2.2.2.2.1, y.2.2.2.2.2.1)))), y.2.2.2.2.2.2), true)))
  {left : Int} (hl : 0 ≤ left ∧ left ≤ 1024) :
  zY step (e.kids.length + 1) ((0 : Int), (t.1, (t.2.1, (t.2.2.1, (t.2.2.2.1, (t.2.2.2.2, left)))))) = some ((t, (o9 t.2.1.length e.kids left (deep + 1)).1), (o9 t.2.1.length e.kids left (deep + 1)).2) := by
 have hlen := pc e.kids
 have hsz := (nG hok).2.2.2.2
 refine z9 (step := step) e.kids (fun i (l : Int) => ((i : Int), (t.1, (t.2.1, (t.2.2.1, (t.2.2.2.1, (t.2.2.2.2, l))))))) (fun i l => 0 ≤ l ∧ l ≤ 1024) (fun i l r => some ((t, (o9 t.2.1.length r l (deep + 1)).1), (o9 t.2.1.length r l (deep + 1)).2)) (fun S l _ => ?_) (fun S i l v r hi hv hr hc ih => ?_) (e.kids.length + 1) (NG _) left hl
 ·rw [hstep]
  simp only [yi, Nu, o9]
 ·rw [hstep]
  have g := V6 (k := k) (left := l) (deep := deep + 1) ht hok hc ⟨by omega, by omega⟩ (ND hv) hs
  simp only [xi hi, yZ, yf hv, NC, Nv, nx (show i ≤ _ by omega), Rose.eta, Qj h2.1 (show deep ≤ _ by omega), g, Nx, o9]
  obtain ⟨q1, q2, q3⟩ := ez t.2.1.length v l (deep + 1) hc.1
  cases hm : (rm t.2.1.length v l (deep + 1)).2 with
  | false => rfl
  | true =>
   simp only [NJ, Nu]
   exact ih (rm t.2.1.length v l (deep + 1)).1 ⟨q3 hm, by omega⟩
theorem RC (k : Nat) : ∀ X Y, Vm (k + 1) X = some Y → ∃ n, @f68.g ⟨Vm k⟩ n X = some Y := by
 rintro ⟨⟨t, left⟩, e, deep⟩ y hh
 obtain ⟨ho, rfl⟩ := zr hh
 simp only [goW, Nt, NE] at ho
 obtain ⟨⟨ht, hok, l0, l1, d0, d1⟩, hs⟩ := ho
 obtain ⟨_, hv, _, _, _⟩ := nG hok
 letI : Rec68 := ⟨Vm k⟩
 refine ⟨e.kids.length + 1, ?_⟩
 have hw : IntKind.wrap .i64 (left - (1 : Int)) = left - 1 := xZ (by omega) (by omega)
 have hchk : F75 e.lab.2.2.2 = some (zt e.lab.2.2.2) := so (by
  simp only [okZ, Nt] at hv
  exact hv.1)
 show f68.g (e.kids.length + 1) ((t, left), (e, deep)) = some ((t, (rm t.2.1.length e left deep).1), (rm t.2.1.length e left deep).2)
 have hl1 : 0 ≤ left - 1 → (0 ≤ left - 1 ∧ left - 1 ≤ 1024) := fun h => ⟨h, by omega⟩
 simp only [f68.g, hw, yK, z1, RI]
 cases hc : decide (left - 1 < 0) || decide (deep > 100) with
 | true => rfl
 | false =>
  simp only [Bool.or_eq_false_iff, decide_eq_false_iff_not] at hc
  have hl : 0 ≤ left - 1 ∧ left - 1 ≤ 1024 := ⟨by omega, by omega⟩
  have hd : 0 ≤ deep ∧ deep ≤ 100 := ⟨d0, by omega⟩
  have L1 := fun r3 r4 => qV (step := f68.s1 (e.kids.length + 1) ((t, left), (e, deep)) r3 r4) ht hok hd hs (fun S y => rfl) hl
  have L2 := fun r3 r4 => qV (step := f68.s2 (e.kids.length + 1) ((t, left), (e, deep)) r3 r4) ht hok hd hs (fun S y => rfl) hl
  have L3 := fun r3 r4 r5 => qV (step := f68.s3 (e.kids.length + 1) ((t, left), (e, deep)) r3 r4 r5) ht hok hd hs (fun S y => rfl) hl
  have L4 := fun r3 => qV (step := f68.s4 (e.kids.length + 1) ((t, left), (e, deep)) r3) ht hok hd hs (fun S y => rfl) hl
  simp only [Nu, hchk, Nx, Wm, X3, Vl, TR, QM, RX, VK, Vn, t8, wz, UU, L1, L2, L3, L4]
  generalize o9 t.2.1.length e.kids (left - 1) (deep + 1) = M
  generalize e.kids.length = m
  obtain ⟨k0, op, c, v⟩ := e.lab
  simp only
  have ea : zd op (⟨#[97, 110, 100]⟩ : ByteArray) = zd op xu := rfl
  have eo : zd op (⟨#[111, 114]⟩ : ByteArray) = zd op orS := rfl
  have en : zd op (⟨#[]⟩ : ByteArray) = zd op noS := rfl
  simp only [ea, eo, en]
  by_cases e1 : k0 = 1
  ·subst e1
   simp only [show ((1 : Int) == 1) = true from rfl, show ((1 : Int) == 2) = false from rfl, Bool.true_or, Nv]
   cases m == 0 <;> cases zd op noS <;> cases c == 0 <;> rfl
  by_cases e2 : k0 = 2
  ·subst e2
   simp only [show ((2 : Int) == 1) = false from rfl, show ((2 : Int) == 2) = true from rfl, Bool.or_true, Nv, Nu]
   cases m == 0 <;> cases zd op noS <;> cases decide (c ≥ 0) <;> cases decide (c < (t.2.1.length : Int)) <;> rfl
  have f1 : (k0 == 1) = false := by simpa using e1
  have f2 : (k0 == 2) = false := by simpa using e2
  simp only [f1, f2, Bool.or_self, Nu]
  by_cases e3 : k0 = 3
  ·subst e3
   simp only [show ((3 : Int) == 3) = true from rfl, Nv, bne]
   cases m == 1 <;> cases inS unL op <;> cases c == 0 <;> cases oq v <;> rfl
  by_cases e4 : k0 = 4
  ·subst e4
   simp only [show ((4 : Int) == 3) = false from rfl, show ((4 : Int) == 4) = true from rfl, Nv, Nu, bne]
   cases m == 2 <;> cases inS arL op <;> cases inS cpL op <;> cases zd op xu <;> cases zd op orS <;> cases c == 0 <;> cases oq v <;> rfl
  by_cases e5 : k0 = 5
  ·subst e5
   simp only [show ((5 : Int) == 3) = false from rfl, show ((5 : Int) == 4) = false from rfl, show ((5 : Int) == 5) = true from rfl, Nv, Nu, bne]
   cases decide (m ≥ 2) <;> cases zd op noS <;> cases c == 0 <;> cases oq v <;> rfl
  ·have f3 : (k0 == 3) = false := by simpa using e3
   have f4 : (k0 == 4) = false := by simpa using e4
   have f5 : (k0 == 5) = false := by simpa using e5
   simp only [f3, f4, f5, Nu, Bool.false_and, NW, Nv]
theorem jM : ∀ k, ConOk Tryz.prog 68 (qg (.pair tTable (.int .i64)) [(true, tExpr), (false, .int .i64)] [(false, .bool)] (Vm k))
 | 0 => iX fun X => by unfold Vm; simp [x5]
 | k + 1 => @f68.ok ⟨Vm k⟩ (Vm (k + 1)) (RC k) (jM k) uV sN aw
theorem WN : ConOk Tryz.prog 68 TN := jR jM fun X Y h => by
 obtain ⟨ho, rfl⟩ := zr h
 exact ⟨z4 X.2.1 + 1, zp (by rw [ho]; exact Ny (NG _))⟩
end Go.Proofs.YtefddghdaimklaaGreatDoor.AI
/- The plain laws of the runs: nodes of the reference, kinds, checks. -/
namespace Go.Proofs.YtefddghdaimklaaGreatDoor.AI
open Go
theorem UE : ∀ X Y, S4 X = some Y → ∃ n, f116.g n X = some Y := by
 rintro ⟨op, a, b⟩ y h
 cases h
 refine ⟨0, ?_⟩
 have er : zd op (⟨#[37]⟩ : ByteArray) = zd op YN := rfl
 simp only [f116.g, eO, Nx, nb, Pb, yK, z1, er, bne]
 by_cases ha : a = 0
 ·subst ha
  simp only [show ((0 : Int) == 0) = true from rfl, Nv, NJ, Bool.and_false, Nu, Bool.or_false]
  cases hb : b == 0 with
  | true => rfl
  | false => cases rN b <;> cases rN 0 <;> cases zd op YN <;> cases b == 3 <;> cases (0 : Int) == 3 <;> rfl
 ·have ea : (a == 0) = false := by simpa using ha
  simp only [ea, Nu]
  cases rN a <;> cases rN b <;> cases zd op YN <;> cases a == 3 <;> cases b == 3 <;> cases b == 0 <;> rfl
theorem YE : ConOk Tryz.prog 116 bp := f116.ok UE pG
theorem sL (cs : List Int) : ∀ (ks : List zg) (l : List Int), xT cs ks = some l → l.length = ks.length
 | [], l, h => by simp only [xT, NA] at h; subst h; rfl
 | k :: r, l, h => by
  simp only [xT] at h
  cases hk : (xm cs k).2 with
  | false => rw [hk] at h; cases h
  | true =>
   rw [hk] at h
   simp only [NJ, Nu] at h
   cases hr : xT cs r with
   | none => rw [hr] at h; cases h
   | some l' =>
    rw [hr] at h
    cases h
    simp [sL cs r l' hr]
theorem fD (t : zi) (c : Int) (h0 : 0 ≤ c) (h1 : c < (t.2.1.length : Int)) : (xQ t).getD c.toNat 0 = (t.2.1.getD c.toNat tColumn.dflt).2.1 := by
 have hlt : c.toNat < t.2.1.length := by omega
 simp [xQ, List.getD, NL hlt]
theorem lv {m : Nat} (h : 0 < m) : (decide (0 ≤ (0 : Int)) && decide ((0 : Int) < ((m : Nat) : Int))) = true := by simp; omega
theorem Vu {m : Nat} (h : 1 < m) : (decide (0 ≤ (1 : Int)) && decide ((1 : Int) < ((m : Nat) : Int))) = true := by simp; omega
theorem VH {m : Nat} (h : 1 ≤ m) : (decide (0 ≤ (1 : Int)) && decide ((1 : Int) ≤ ((m : Nat) : Int))) = true := by simp; omega
theorem XX (m : Nat) : (((m : Nat) : Int) == (1 : Int)) = (m == 1) := by rw [Bool.eq_iff_iff, beq_iff_eq, beq_iff_eq]; omega
theorem Xb {n : Nat} {t : zi} {e : zg} {l : List Int} (hn : vV t.2.1.length e.lab l.length = true) (hl : okB 8 l = true) (S : Int × Nat × List Int → Option (Int × Bool)) [Rec69] (hk : l.length = e.kids.length) :
  f69.s1 n (t, e) S ((e.kids.length : Int), (l.length, l)) = some (wT (xQ t) e.lab l) := by
 simp only [f69.s1, yi, Nu, yK, z1, NI, VK, eO, F41, VA, S4, Nx, XX]
 generalize e.lab = a at hn ⊢
 obtain ⟨k0, op, c, v⟩ := a
 simp only [wT]
 have e1 : zd op (⟨#[45]⟩ : ByteArray) = zd op Ra := rfl
 have e2 : zd op (⟨#[110, 111, 116]⟩ : ByteArray) = zd op qv := rfl
 have e3 : zd op (⟨#[97, 110, 100]⟩ : ByteArray) = zd op xu := rfl
 have e4 : zd op (⟨#[111, 114]⟩ : ByteArray) = zd op orS := rfl
 simp only [e1, e2, e3, e4]
 by_cases h1 : k0 = 1
 ·subst h1; rfl
 by_cases h2 : k0 = 2
 ·subst h2
  simp only [vV, t8, show ((2 : Int) == 1) = false from rfl, show ((2 : Int) == 2) = true from rfl, Bool.or_true, Nv, Nu, Nt, NE] at hn ⊢
  have hc : (decide (0 ≤ c) && decide (c < (t.2.1.length : Int))) = true := by simp only [Nt, NE]; exact ⟨hn.2.2.1, hn.2.2.2.1⟩
  rw [hc, fD t c hn.2.2.1 hn.2.2.2.1]; rfl
 have f1 : (k0 == 1) = false := by simpa using h1
 have f2 : (k0 == 2) = false := by simpa using h2
 simp only [vV, f1, f2, Bool.or_self, Nu, wz, Nt] at hn
 simp only [f1, f2, Nu]
 rcases sS hn.1 with ⟨q1, q2, q3⟩ | ⟨q1, q2, q3⟩ | ⟨q1, q2, q3⟩ <;> simp only at q1 q3 <;> subst q1
 ·simp only [show ((3 : Int) == 5) = false from rfl, show ((3 : Int) == 3) = true from rfl, Nv, Nu, q2, show ((1 : Nat) == 1) = true from rfl, Bool.and_true, lv (show 0 < 1 by omega)]
  cases zd op Ra with
  | true =>
   simp only [Nv]
   show (bif rN (l.getD 0 0) then some (l.getD 0 0, true) else some (l.getD 0 0, l.getD 0 0 == 0)) = _
   cases rN (l.getD 0 0) <;> rfl
  | false =>
   simp only [Nu]
   cases zd op qv <;> rfl
 ·simp only [show ((4 : Int) == 5) = false from rfl, show ((4 : Int) == 3) = false from rfl, Nv, Nu, q2, show ((2 : Nat) == 1) = false from rfl, Bool.and_false, lv (show 0 < 2 by omega), Vu (show 1 < 2 by omega)]
  show (bif zd op qv then some (1, qb (l.getD 0 0)) else bif inS cpL op then some (1, ZX (l.getD 0 0) (l.getD 1 0)) else bif zd op xu || zd op orS then (bif qb (l.getD 0 0) then some (1, qb (l.getD 1 0)) else some (1, false)) else some (nb op (l.getD 0 0) (l.getD 1 0))) = _
  cases zd op qv with
  | true => rfl
  | false =>
   cases inS cpL op with
   | true => rfl
   | false =>
    cases zd op xu || zd op orS with
    | true => simp only [Nu, Nv]; cases qb (l.getD 0 0) <;> rfl
    | false => rfl
 ·simp only [show ((5 : Int) == 5) = true from rfl, Nv, VH (show 1 ≤ l.length by omega)]
  have g : SZ (List.drop 1 l, l) = some ((l.drop 1).any fun y => !ZX (l.getD 0 0) y) := by
   show (bif okB 8 (List.drop 1 l) && decide (0 < l.length) then _ else _) = _
   have h8 : okB 8 (List.drop 1 l) = true := by
    have := xB.1 hl
    refine xB.2 ?_
    have h3 : (List.drop 1 l).length * 8 ≤ l.length * 8 := NP _ (by rw [List.length_drop]; exact Nat.sub_le _ _)
    omega
   rw [h8, Ny (show 0 < l.length by omega)]; rfl
  rw [g]; rfl
theorem dQ {m : Nat} (h : m ≤ 1048576) : decide ((m + 1) * 8 ≤ zo) = true := Ny (by have : zo = 140737488355328 := rfl; omega)
theorem ZO {l : List Int} (h : l.length ≤ 1048576) : okB 8 l = true := xB.2 (by omega)
theorem RB (k : Nat) : ∀ X Y, Uf (k + 1) X = some Y → ∃ n, @f69.g ⟨Uf k⟩ n X = some Y := by
 rintro ⟨t, e⟩ y hh
 obtain ⟨ho, rfl⟩ := zr hh
 simp only [Nt, NE] at ho
 obtain ⟨ht, hok, hf, hs⟩ := ho
 have hsz := (nG hok).2.2.2.2
 have hlen := pc e.kids
 have hf' := hf
 rw [oJ] at hf'
 simp only [Nt] at hf'
 letI : Rec69 := ⟨Uf k⟩
 refine ⟨e.kids.length + 1, ?_⟩
 show f69.g (e.kids.length + 1) (t, e) = some (xm (xQ t) e)
 have := z9 (step := f69.s1 (e.kids.length + 1) (t, e)) e.kids (fun i (acc : List Int) => ((i : Int), (acc.length, acc))) (fun i acc => acc.length = i) (fun i acc r => some (match xT (xQ t) r with | none => (0, false) | some l => wT (xQ t) e.lab (acc ++ l))) (fun S acc hacc => by
  rw [Xb (by rw [hacc]; exact hf'.1) (ZO (by omega)) S hacc]
  simp only [xT, List.append_nil]) (fun S i acc v r hi hv hr hacc ih => by
  obtain ⟨q1, q2⟩ := qU hok (ND hv)
  have hd : z4 v < k := by rw [pr] at hs; omega
  have hfv := pu hf'.2 v (ND hv)
  have g : (Rec69.F (t, v) : Option (Int × Bool)) = some (xm (xQ t) v) := zp (by simp only [ht, q1, hfv, Ny hd, NC])
  simp only [f69.s1, xi hi, yZ, yf hv, NC, Nv, nx (show i ≤ _ by omega), Rose.eta, g, Nx, xT, dQ (show acc.length ≤ 1048576 by omega), NI]
  cases hk : (xm (xQ t) v).2 with
  | false => rfl
  | true =>
   simp only [NJ, Nu]
   have e1 : acc.length + 1 = (acc ++ [(xm (xQ t) v).1]).length := by simp
   rw [e1, ih (acc ++ [(xm (xQ t) v).1]) (by simp [hacc])]
   cases xT (xQ t) r with
   | none => rfl
   | some l => simp only [NU, List.singleton_append]) (e.kids.length + 1) (NG _) [] rfl
 refine (show f69.g (e.kids.length + 1) (t, e) = _ from this).trans ?_
 rw [Yp]
 cases xT (xQ t) e.kids <;> rfl
theorem lS : ∀ k, ConOk Tryz.prog 69 (zk [(true, tTable), (true, tExpr)] [(false, .int .i64), (false, .bool)] true (Uf k))
 | 0 => uZ fun X => by unfold Uf; simp [x5]
 | k + 1 => @f69.ok ⟨Uf k⟩ (Uf (k + 1)) (RB k) fU (lS k) ew sN pB pG YE
theorem Va : ConOk Tryz.prog 69 Uw := tP lS fun X Y h => by
 obtain ⟨ho, rfl⟩ := zr h
 simp only [Nt] at ho
 exact ⟨z4 X.2 + 1, zp (by simp only [ho.1, ho.2.1, ho.2.2, NT]; exact Ny (NG _))⟩
end Go.Proofs.YtefddghdaimklaaGreatDoor.AI
/- The plain laws of the runs: kinds in the reference, checks. -/
namespace Go.Proofs.YtefddghdaimklaaGreatDoor.AI
open Go
theorem R1 : ∀ X Y, F40 X = some Y → ∃ n, f40.g n X = some Y := by
 rintro ⟨t, e⟩ y hh
 obtain ⟨ho, rfl⟩ := zr hh
 simp only [Nt] at ho
 obtain ⟨ht, hok⟩ := ho
 refine ⟨0, ?_⟩
 have g1 : F58 t = some (wB t) := by show (bif okT t then _ else _) = _; rw [ht]; rfl
 have g2 : F68 ((t, 1024), e, 1) = some ((t, (rm t.2.1.length e 1024 1).1), (rm t.2.1.length e 1024 1).2) := zp (by simp [goW, ht, hok])
 simp only [f40.g, Rose.eta, g1, g2, Nx, yM, UA]
 cases hc : wB t != 0 with
 | true => rfl
 | false =>
  simp only [Nu]
  cases hm : YI t e with
  | false => rfl
  | true =>
   have hf : xK t.2.1.length e = true := by unfold YI at hm; simp only [Nt] at hm; exact hm.2.2
   have g3 : F69 (t, e) = some (xm (xQ t) e) := zp (by simp only [ht, hok, hf, NC])
   simp only [NJ, Nu, g3, Nx]
   cases (xm (xQ t) e).2 <;> rfl
theorem mV : ConOk Tryz.prog 40 iw := f40.ok R1 ll WN Va
end Go.Proofs.YtefddghdaimklaaGreatDoor.AI
/- vU laws of floats: nought less a number, a nought times minus one. -/
namespace Go.Proofs.YtefddghdaimklaaGreatDoor.AI
open Go
theorem ai {x : Nat} (h : x < 9223372036854775808) : x ^^^ 9223372036854775808 = x + 9223372036854775808 := by
 have e : x + 9223372036854775808 = 2 ^ 63 * 1 + x := by omega
 rw [e, Nat.two_pow_add_eq_or_of_lt (by omega) 1, Nat.mul_one, Nat.or_comm]
 refine Nat.eq_of_testBit_eq fun i => ?_
 rw [Nat.testBit_xor, Nat.testBit_or, show (9223372036854775808 : Nat) = 2 ^ 63 from rfl, Nat.testBit_two_pow]
 by_cases hi : 63 = i
 ·subst hi
  rw [Nat.testBit_lt_two_pow (show x < 2 ^ 63 by omega)]; rfl
 ·rw [NR hi]; cases x.testBit i <;> rfl
theorem UQ {x : Nat} (h0 : 9223372036854775808 ≤ x) (h : x < 18446744073709551616) : x ^^^ 9223372036854775808 = x - 9223372036854775808 := by
 have h1 := ai (x := x - 9223372036854775808) (by omega)
 have h2 : x - 9223372036854775808 + 9223372036854775808 = x := by omega
 rw [h2] at h1
 calc x ^^^ 9223372036854775808 = ((x - 9223372036854775808) ^^^ 9223372036854775808) ^^^ 9223372036854775808 := by rw [h1]
  _ = x - 9223372036854775808 := by rw [Nat.xor_assoc, Nat.xor_self, Nat.xor_zero]
theorem TL : 2 ^ (FloatKind.f64.format.exponentBits + FloatKind.f64.format.fractionBits) = 9223372036854775808 := by kernel_rfl
theorem U3 (x : Nat) : Op.negFloat .f64 x = x ^^^ 9223372036854775808 := by unfold Op.negFloat; rw [TL]
end Go.Proofs.YtefddghdaimklaaGreatDoor.AI
/- The plain laws of the runs: what is reckoned of values. -/
namespace Go.Proofs.YtefddghdaimklaaGreatDoor.AI
open Go
theorem ja : ConOk Tryz.prog 103 kr := f103.ok (fun x y h => ⟨0, by cases h; rfl⟩)
theorem gZ : ConOk Tryz.prog 36 bo := f36.ok (fun x y h => ⟨0, by cases h; simp only [f36.g, z1, isT]⟩)
theorem lE : ConOk Tryz.prog 154 kh := f154.ok (fun x y h => ⟨0, by cases h; simp only [f154.g, z1, isF]⟩)
theorem lw : ConOk Tryz.prog 105 kT := f105.ok (fun x y h => ⟨0, by cases h; cases x <;> rfl⟩)
theorem jI : ConOk Tryz.prog 156 js := f156.ok (fun x y h => ⟨0, by cases h; rfl⟩)
theorem b8 : ConOk Tryz.prog 159 ZH := f159.ok (fun x y h => ⟨0, by cases h; simp only [f159.g, asF]; cases x.1 == 2 <;> rfl⟩)
theorem V7 (x : ByteArray × Int) : f106.g 0 x = some (vN x.1 x.2) := by
 simp only [f106.g, vN]
 cases zd x.1 (⟨#[61]⟩ : ByteArray) <;> cases zd x.1 (⟨#[60, 62]⟩ : ByteArray) <;> cases zd x.1 (⟨#[60]⟩ : ByteArray) <;> cases zd x.1 (⟨#[60, 61]⟩ : ByteArray) <;> cases zd x.1 (⟨#[62]⟩ : ByteArray) <;> rfl
theorem bU : ConOk Tryz.prog 106 cP := f106.ok (fun x y h => ⟨0, by cases h; exact V7 x⟩)
theorem TG (x : zc × zc) : f107.g 0 x = some (c9 x.1 x.2) := by
 simp only [f107.g, Qr, F45, Nx, c9]
 cases (co x.1 x.2).2 <;> rfl
theorem ax : ConOk Tryz.prog 107 ZM := f107.ok (fun x y h => ⟨0, by cases h; exact TG x⟩) gB Yk
theorem vu : zd (⟨#[43]⟩ : ByteArray) (⟨#[43]⟩ : ByteArray) = true := by kernel_rfl
theorem vo : zd (⟨#[43]⟩ : ByteArray) (⟨#[45]⟩ : ByteArray) = false := by kernel_rfl
theorem vj : zd (⟨#[43]⟩ : ByteArray) (⟨#[42]⟩ : ByteArray) = false := by kernel_rfl
theorem wZ : zd (⟨#[43]⟩ : ByteArray) (⟨#[47]⟩ : ByteArray) = false := by kernel_rfl
theorem vC : zd (⟨#[43]⟩ : ByteArray) (⟨#[37]⟩ : ByteArray) = false := by kernel_rfl
theorem vt : zd (⟨#[45]⟩ : ByteArray) (⟨#[43]⟩ : ByteArray) = false := by kernel_rfl
theorem vi : zd (⟨#[45]⟩ : ByteArray) (⟨#[45]⟩ : ByteArray) = true := by kernel_rfl
theorem w8 : zd (⟨#[45]⟩ : ByteArray) (⟨#[42]⟩ : ByteArray) = false := by kernel_rfl
theorem vh : zd (⟨#[45]⟩ : ByteArray) (⟨#[47]⟩ : ByteArray) = false := by kernel_rfl
theorem vm : zd (⟨#[45]⟩ : ByteArray) (⟨#[37]⟩ : ByteArray) = false := by kernel_rfl
theorem w6 : zd (⟨#[42]⟩ : ByteArray) (⟨#[43]⟩ : ByteArray) = false := by kernel_rfl
theorem wW : zd (⟨#[42]⟩ : ByteArray) (⟨#[45]⟩ : ByteArray) = false := by kernel_rfl
theorem vg : zd (⟨#[42]⟩ : ByteArray) (⟨#[42]⟩ : ByteArray) = true := by kernel_rfl
theorem vH : zd (⟨#[42]⟩ : ByteArray) (⟨#[47]⟩ : ByteArray) = false := by kernel_rfl
theorem vA : zd (⟨#[42]⟩ : ByteArray) (⟨#[37]⟩ : ByteArray) = false := by kernel_rfl
theorem vd : zd (⟨#[47]⟩ : ByteArray) (⟨#[43]⟩ : ByteArray) = false := by kernel_rfl
theorem vk : zd (⟨#[47]⟩ : ByteArray) (⟨#[45]⟩ : ByteArray) = false := by kernel_rfl
theorem vz : zd (⟨#[47]⟩ : ByteArray) (⟨#[42]⟩ : ByteArray) = false := by kernel_rfl
theorem vB : zd (⟨#[47]⟩ : ByteArray) (⟨#[47]⟩ : ByteArray) = true := by kernel_rfl
theorem vr : zd (⟨#[47]⟩ : ByteArray) (⟨#[37]⟩ : ByteArray) = false := by kernel_rfl
theorem vp : zd (⟨#[37]⟩ : ByteArray) (⟨#[43]⟩ : ByteArray) = false := by kernel_rfl
theorem vc : zd (⟨#[37]⟩ : ByteArray) (⟨#[45]⟩ : ByteArray) = false := by kernel_rfl
theorem vf : zd (⟨#[37]⟩ : ByteArray) (⟨#[42]⟩ : ByteArray) = false := by kernel_rfl
theorem wY : zd (⟨#[37]⟩ : ByteArray) (⟨#[47]⟩ : ByteArray) = false := by kernel_rfl
theorem wl : zd (⟨#[37]⟩ : ByteArray) (⟨#[37]⟩ : ByteArray) = true := by kernel_rfl
theorem hO {op : ByteArray} (h : SX op = true) : op = ⟨#[43]⟩ ∨ op = ⟨#[45]⟩ ∨ op = ⟨#[42]⟩ ∨ op = ⟨#[47]⟩ ∨ op = ⟨#[37]⟩ := by
 have := tV h
 simp only [arL, NM, List.not_mem_nil, or_false] at this
 exact this
theorem mh {n : Int} : okI n = true ↔ -9223372036854775808 ≤ n ∧ n ≤ 9223372036854775807 := by
 simp only [okI, Nt, NE]
theorem sK (n : Int) : okI (wE n) = true := by
 refine mh.2 ?_
 unfold wE
 simp only [IntKind.wrap, IntKind.min, IntKind.max, IntKind.signed, IntKind.bits, if_true]
 simp
 omega
theorem XQ : qN (9221120237041090560 : Int) = some cl := rfl
theorem lJ (r : Nat) (h : (FloatKind.f64.format.order r r != some .eq) = true) : wV (3, (0, (r, noS))) = (3, (0, (cl, noS))) := by
 have h0 : (fo r 0 == some .eq) = false := by rw [mq h]; rfl
 have h1 : (fo r r != some .eq) = true := h
 unfold wV
 simp only [h0, h1, Nv, Nu]
 rfl
theorem sh (o : Option Nat) : VF o (fun r => bif FloatKind.f64.format.order r r != some .eq then (bif FloatKind.f64.format.order r 0 == some .eq then (bif FloatKind.f64.format.order 0 0 != some .eq then ((qN (9221120237041090560 : Int)).bind fun r5 => some (((3 : Int), ((0 : Int), (r5, (⟨#[]⟩ : ByteArray)))), (0 : Int))) else (some (((3 : Int), ((0 : Int), (0, (⟨#[]⟩ : ByteArray)))), (0 : Int)))) else (bif FloatKind.f64.format.order r r != some .eq then ((qN (9221120237041090560 : Int)).bind fun r6 => some (((3 : Int), ((0 : Int), (r6, (⟨#[]⟩ : ByteArray)))), (0 : Int))) else (some (((3 : Int), ((0 : Int), (r, (⟨#[]⟩ : ByteArray)))), (0 : Int))))) else (some (((3 : Int), ((0 : Int), (r, (⟨#[]⟩ : ByteArray)))), (0 : Int)))) ((qN (9221120237041090560 : Int)).bind fun r7 => some (((3 : Int), ((0 : Int), (r7, (⟨#[]⟩ : ByteArray)))), (0 : Int))) = some (kj o, 0) := by
 cases o with
 | none => rfl
 | some r =>
  show (bif FloatKind.f64.format.order r r != some .eq then (bif FloatKind.f64.format.order r 0 == some .eq then (bif FloatKind.f64.format.order 0 0 != some .eq then ((qN (9221120237041090560 : Int)).bind fun r5 => some (((3 : Int), ((0 : Int), (r5, (⟨#[]⟩ : ByteArray)))), (0 : Int))) else (some (((3 : Int), ((0 : Int), (0, (⟨#[]⟩ : ByteArray)))), (0 : Int)))) else (bif FloatKind.f64.format.order r r != some .eq then ((qN (9221120237041090560 : Int)).bind fun r6 => some (((3 : Int), ((0 : Int), (r6, (⟨#[]⟩ : ByteArray)))), (0 : Int))) else (some (((3 : Int), ((0 : Int), (r, (⟨#[]⟩ : ByteArray)))), (0 : Int))))) else (some (((3 : Int), ((0 : Int), (r, (⟨#[]⟩ : ByteArray)))), (0 : Int)))) = _
  unfold kj
  simp only [XQ, Nx, fo]
  cases h : FloatKind.f64.format.order r r != some .eq with
  | true =>
   have h0 : (FloatKind.f64.format.order r 0 == some .eq) = false := by
    have : (fo r 0 == some .eq) = false := by rw [mq h]; rfl
    exact this
   rw [lJ r h, h0]
   rfl
  | false => rfl
theorem Sq : ∀ X Y, Re X = some Y → ∃ n, f108.g n X = some Y := by
 rintro ⟨op, a, b⟩ y hh
 obtain ⟨ho, rfl⟩ := zr hh
 simp only [okO, Nt] at ho
 obtain ⟨hop, ka, kb, ca, cb, za, zb, hr⟩ := ho
 refine ⟨0, ?_⟩
 have ia : okI a.2.1 = true := by simp only [okZ, Nt] at za; exact za.2.1
 have ib : okI b.2.1 = true := by simp only [okZ, Nt] at zb; exact zb.2.1
 rcases hO hop with rfl | rfl | rfl | rfl | rfl
 ·simp only [f108.g, oP, vu, vo, vj, wZ, vC, vt, vi, w8, vh, vm, w6, wW, vg, vH, vA, vd, vk, vz, vB, vr, vp, vc, vf, wY, wl, Nv, Nu, z1, kQ, nI, Nx, aJ, Vy]
  cases a.1 == 2 && b.1 == 2 with
  | true =>
   simp only [Nv]
   cases h : (decide (wE (a.2.1 + b.2.1) > a.2.1)) == (decide (b.2.1 > (0 : Int))) with
   | true => have h' : ((decide (IntKind.wrap .i64 (a.2.1 + b.2.1) > a.2.1)) == (decide (b.2.1 > (0 : Int)))) = true := h; rw [h']; rfl
   | false => have h' : ((decide (IntKind.wrap .i64 (a.2.1 + b.2.1) > a.2.1)) == (decide (b.2.1 > (0 : Int)))) = false := h; rw [h']; rfl
  | false => exact sh _
 ·simp only [f108.g, oP, vu, vo, vj, wZ, vC, vt, vi, w8, vh, vm, w6, wW, vg, vH, vA, vd, vk, vz, vB, vr, vp, vc, vf, wY, wl, Nv, Nu, z1, kQ, nI, Nx, aJ, Vy]
  cases a.1 == 2 && b.1 == 2 with
  | true =>
   simp only [Nv]
   cases h : (decide (wE (a.2.1 - b.2.1) < a.2.1)) == (decide (b.2.1 > (0 : Int))) with
   | true => have h' : ((decide (IntKind.wrap .i64 (a.2.1 - b.2.1) < a.2.1)) == (decide (b.2.1 > (0 : Int)))) = true := h; rw [h']; rfl
   | false => have h' : ((decide (IntKind.wrap .i64 (a.2.1 - b.2.1) < a.2.1)) == (decide (b.2.1 > (0 : Int)))) = false := h; rw [h']; rfl
  | false => exact sh _
 ·simp only [f108.g, oP, vu, vo, vj, wZ, vC, vt, vi, w8, vh, vm, w6, wW, vg, vH, vA, vd, vk, vz, vB, vr, vp, vc, vf, wY, wl, Nv, Nu, z1, yK, kQ, nI, Nx, aJ, Vy]
  cases a.1 == 2 && b.1 == 2 with
  | true =>
   simp only [Nv]
   cases h0 : a.2.1 == 0 || b.2.1 == 0 with
   | true => rfl
   | false =>
    rw [Bool.or_eq_false_iff] at h0
    simp only [Nu, h0.2]
    show (bif (wE (Int.tdiv (wE (a.2.1 * b.2.1)) b.2.1) != a.2.1 || (a.2.1 == -9223372036854775808 && b.2.1 == -1)) || (b.2.1 == -9223372036854775808 && a.2.1 == -1) then some (zeroV, 152) else some (db (wE (a.2.1 * b.2.1)), 0)) = _
    rw [Bool.or_assoc]
    cases wE (Int.tdiv (wE (a.2.1 * b.2.1)) b.2.1) != a.2.1 || (a.2.1 == -9223372036854775808 && b.2.1 == -1 || b.2.1 == -9223372036854775808 && a.2.1 == -1) <;> rfl
  | false => exact sh _
 ·simp only [f108.g, oP, vu, vo, vj, wZ, vC, vt, vi, w8, vh, vm, w6, wW, vg, vH, vA, vd, vk, vz, vB, vr, vp, vc, vf, wY, wl, Nv, Nu, z1, kQ, nI, Nx, aJ, Vy]
  cases a.1 == 2 && b.1 == 2 with
  | true =>
   simp only [Nv]
   cases h0 : b.2.1 == 0 with
   | true => rfl
   | false =>
    simp only [Nu]
    cases a.2.1 == -9223372036854775808 && b.2.1 == -1 <;> rfl
  | false => exact sh _
 ·have e : (a.1 == 2 && b.1 == 2) = true := by
   have er : zd (⟨#[37]⟩ : ByteArray) YN = true := wl
   rw [er] at hr
   simpa using hr
  simp only [f108.g, oP, vu, vo, vj, wZ, vC, vt, vi, w8, vh, vm, w6, wW, vg, vH, vA, vd, vk, vz, vB, vr, vp, vc, vf, wY, wl, Nv, Nu, z1, kQ, nI, Nx, aJ, Vy, e]
  cases h0 : b.2.1 == 0 with
  | true => rfl
  | false =>
   simp only [Nu]
   cases b.2.1 == -1 <;> rfl
theorem Yf : ConOk Tryz.prog 108 Z8 := f108.ok Sq jI b8 o5
end Go.Proofs.YtefddghdaimklaaGreatDoor.AI
/- The plain laws of the runs: unary operators; what values an expression may have. -/
namespace Go.Proofs.YtefddghdaimklaaGreatDoor.AI
open Go
theorem dX : zd (⟨#[45]⟩ : ByteArray) (⟨#[45]⟩ : ByteArray) = true := by kernel_rfl
theorem nQ : zd (⟨#[45]⟩ : ByteArray) (⟨#[110, 111, 116]⟩ : ByteArray) = false := by kernel_rfl
theorem cd : zd (⟨#[45]⟩ : ByteArray) (⟨#[105, 115, 32, 110, 117, 108, 108]⟩ : ByteArray) = false := by kernel_rfl
theorem eD : zd (⟨#[45]⟩ : ByteArray) (⟨#[105, 115, 32, 110, 111, 116, 32, 110, 117, 108, 108]⟩ : ByteArray) = false := by kernel_rfl
theorem e7 : zd (⟨#[110, 111, 116]⟩ : ByteArray) (⟨#[45]⟩ : ByteArray) = false := by kernel_rfl
theorem nT : zd (⟨#[110, 111, 116]⟩ : ByteArray) (⟨#[110, 111, 116]⟩ : ByteArray) = true := by kernel_rfl
theorem eX : zd (⟨#[110, 111, 116]⟩ : ByteArray) (⟨#[105, 115, 32, 110, 117, 108, 108]⟩ : ByteArray) = false := by kernel_rfl
theorem eN : zd (⟨#[110, 111, 116]⟩ : ByteArray) (⟨#[105, 115, 32, 110, 111, 116, 32, 110, 117, 108, 108]⟩ : ByteArray) = false := by kernel_rfl
theorem df : zd (⟨#[105, 115, 32, 110, 117, 108, 108]⟩ : ByteArray) (⟨#[45]⟩ : ByteArray) = false := by kernel_rfl
theorem de : zd (⟨#[105, 115, 32, 110, 117, 108, 108]⟩ : ByteArray) (⟨#[110, 111, 116]⟩ : ByteArray) = false := by kernel_rfl
theorem eY : zd (⟨#[105, 115, 32, 110, 117, 108, 108]⟩ : ByteArray) (⟨#[105, 115, 32, 110, 117, 108, 108]⟩ : ByteArray) = true := by kernel_rfl
theorem dh : zd (⟨#[105, 115, 32, 110, 111, 116, 32, 110, 117, 108, 108]⟩ : ByteArray) (⟨#[45]⟩ : ByteArray) = false := by kernel_rfl
theorem ch : zd (⟨#[105, 115, 32, 110, 111, 116, 32, 110, 117, 108, 108]⟩ : ByteArray) (⟨#[110, 111, 116]⟩ : ByteArray) = false := by kernel_rfl
theorem da : zd (⟨#[105, 115, 32, 110, 111, 116, 32, 110, 117, 108, 108]⟩ : ByteArray) (⟨#[105, 115, 32, 110, 117, 108, 108]⟩ : ByteArray) = false := by kernel_rfl
theorem d9 : zd (⟨#[105, 115, 32, 110, 111, 116, 32, 110, 117, 108, 108]⟩ : ByteArray) (⟨#[105, 115, 32, 110, 111, 116, 32, 110, 117, 108, 108]⟩ : ByteArray) = true := by kernel_rfl
theorem fO {op : ByteArray} (h : inS unL op = true) : op = ⟨#[45]⟩ ∨ op = ⟨#[110, 111, 116]⟩ ∨ op = ⟨#[105, 115, 32, 110, 117, 108, 108]⟩ ∨ op = ⟨#[105, 115, 32, 110, 111, 116, 32, 110, 117, 108, 108]⟩ := by
 have := tV h
 simp only [unL, NM, List.not_mem_nil, or_false] at this
 rcases this with h | h | h | h <;> simp [h]
theorem jW {a b : Int} (h : a ≠ b) : (a == b) = false := by simpa using h
theorem aV {a b : Int} (h : a = b) : (a == b) = true := by simpa using h
theorem Se : ∀ X Y, S7 X = some Y → ∃ n, f102.g n X = some Y := by
 rintro ⟨op, v⟩ y hh
 obtain ⟨ho, rfl⟩ := zr hh
 refine ⟨0, ?_⟩
 have e1 : zd op (⟨#[110, 111, 116]⟩ : ByteArray) = zd op qv := rfl
 simp only [f102.g, unV, lX, cj, Vo, kQ, Nx, e1]
 cases zd op (⟨#[105, 115, 32, 110, 117, 108, 108]⟩ : ByteArray) with
 | true => rfl
 | false =>
  cases zd op (⟨#[105, 115, 32, 110, 111, 116, 32, 110, 117, 108, 108]⟩ : ByteArray) with
  | true => rfl
  | false =>
   cases v.1 == 0 with
   | true => rfl
   | false =>
    cases zd op qv with
    | true => rfl
    | false =>
     cases v.1 == 3 with
     | true => exact sh (some (Op.negFloat .f64 v.2.2.1))
     | false => cases v.2.1 == -9223372036854775808 <;> rfl
theorem c8 : ConOk Tryz.prog 102 aQ := f102.ok Se ja lw lE jI o5
theorem uw {k : Int} (h : rN k = true) : k = 2 ∨ k = 3 := by
 simpa [rN] using h
end Go.Proofs.YtefddghdaimklaaGreatDoor.AI
/- The plain laws of expressions: what values one may have. -/
namespace Go.Proofs.YtefddghdaimklaaGreatDoor.AI
open Go
def okA (k : Int) (v : zc) : Prop := (v.1 = k ∨ v.1 = 0) ∧ zt v = 0 ∧ okZ v = true
theorem rQ : zt zeroV = 0 := by kernel_rfl
theorem t7 : okZ zeroV = true := by kernel_rfl
theorem yu (k : Int) : okA k zeroV := ⟨.inr rfl, rQ, t7⟩
theorem cg : zt (qH true) = 0 ∧ okZ (qH true) = true := ⟨by kernel_rfl, by kernel_rfl⟩
theorem gl : zt (qH false) = 0 ∧ okZ (qH false) = true := ⟨by kernel_rfl, by kernel_rfl⟩
theorem u9 (b : Bool) : okA 1 (qH b) := by
 cases b
 ·exact ⟨.inl rfl, gl⟩
 ·exact ⟨.inl rfl, cg⟩
theorem Zr (n : Int) : zt (db n) = 0 := by kernel_rfl
theorem bj {n : Int} (h : okI n = true) : okA 2 (db n) := ⟨.inl rfl, Zr n, by
 have : okZ (db n) = (true && (okI n && true)) := rfl
 rw [this, h]; rfl⟩
theorem Ze (r : Nat) : zt (3, (0, (r, noS))) = 0 := by kernel_rfl
theorem Ye (o : Option Nat) (h : ∀ r, o = some r → r < 18446744073709551616) : ∃ r, kj o = (3, (0, (r, noS))) ∧ r < 18446744073709551616 := by
 have hn : cl < 18446744073709551616 := by decide
 cases o with
 | none => exact ⟨cl, rfl, hn⟩
 | some r =>
  have hr := h r rfl
  cases hq : fo r r != some .eq with
  | true =>
   refine ⟨cl, ?_, hn⟩
   unfold kj
   simp only [hq, Nv, lJ r hq]
  | false =>
   refine ⟨r, ?_, hr⟩
   unfold kj
   simp only [hq, Nu]
theorem la (o : Option Nat) (h : ∀ r, o = some r → r < 18446744073709551616) : okA 3 (kj o) := by
 obtain ⟨r, e, hr⟩ := Ye o h
 rw [e]
 refine ⟨.inl rfl, Ze r, ?_⟩
 have : okZ (3, (0, (r, noS))) = (true && (true && decide (r < 18446744073709551616))) := rfl
 rw [this, Ny hr]; rfl
theorem cL : (2 : Nat) ^ FloatKind.f64.format.width = 18446744073709551616 := by kernel_rfl
theorem i9 (op : ByteArray) (x y : Nat) : ∀ r, Vy op x y = some r → r < 18446744073709551616 := by
 intro r h
 rw [← cL]
 unfold Vy at h
 cases h1 : zd op (⟨#[43]⟩ : ByteArray) with
 | true => rw [h1] at h; exact Ieee.Format.add_lt _ h
 | false =>
  rw [h1] at h
  cases h2 : zd op (⟨#[45]⟩ : ByteArray) with
  | true => rw [h2] at h; exact Ieee.Format.sub_lt _ h
  | false =>
   rw [h2] at h
   cases h3 : zd op (⟨#[42]⟩ : ByteArray) with
   | true => rw [h3] at h; exact Ieee.Format.mul_lt _ h
   | false => rw [h3] at h; exact Ieee.Format.div_lt _ h
theorem QD {x : Nat} (h : x < 18446744073709551616) : Op.negFloat .f64 x < 18446744073709551616 := by
 rw [U3]
 by_cases hx : x < 9223372036854775808
 ·rw [ai hx]; omega
 ·rw [UQ (by omega) h]; omega
theorem Wu {a b : Int} (ha : okI a = true) (hb : okI b = true) (b0 : (b == 0) = false) : okI (Int.tmod a b) = true := by
 obtain ⟨b1, b2⟩ := mh.1 hb
 have hb0 : b ≠ 0 := by simpa using b0
 have h : (Int.tmod a b).natAbs = a.natAbs % b.natAbs := Int.natAbs_tmod a b
 have hlt : a.natAbs % b.natAbs < b.natAbs := Nat.mod_lt _ (by omega)
 refine mh.2 ?_
 omega
theorem SU (op : ByteArray) {a b : Int} (ha : okI a = true) (hb : okI b = true) : okI (aJ op a b).1 = true := by
 have z : okI 0 = true := rfl
 unfold aJ
 cases zd op (⟨#[43]⟩ : ByteArray) with
 | true => simp only [Nv]; cases decide (wE (a + b) > a) == decide (b > 0) <;> first | exact z | exact sK _
 | false =>
 cases zd op (⟨#[45]⟩ : ByteArray) with
 | true => simp only [Nv, Nu]; cases decide (wE (a - b) < a) == decide (b > 0) <;> first | exact z | exact sK _
 | false =>
 cases zd op (⟨#[42]⟩ : ByteArray) with
 | true =>
  simp only [Nv, Nu]
  cases a == 0 || b == 0 with
  | true => exact z
  | false =>
   simp only [Nu]
   cases wE (Int.tdiv (wE (a * b)) b) != a || (a == -9223372036854775808 && b == -1 || b == -9223372036854775808 && a == -1) <;> first | exact z | exact sK _
 | false =>
 cases zd op (⟨#[47]⟩ : ByteArray) with
 | true =>
  simp only [Nv, Nu]
  cases b == 0 with
  | true => exact z
  | false =>
   simp only [Nu]
   cases a == -9223372036854775808 && b == -1 <;> first | exact z | exact sK _
 | false =>
  simp only [Nu]
  cases h0 : b == 0 with
  | true => exact z
  | false =>
   simp only [Nu]
   cases b == -1 with
   | true => exact z
   | false => exact Wu ha hb h0
theorem Xw {v : zc} (h : okZ v = true) : okI v.2.1 = true ∧ v.2.2.1 < 18446744073709551616 := by
 simp only [okZ, Nt, NE] at h
 exact h.2
theorem QU : mz true 2 2 = 2 := by kernel_rfl
theorem RL : mz true 2 3 = 3 := by kernel_rfl
theorem RW : mz true 3 2 = 3 := by kernel_rfl
theorem QG : mz true 3 3 = 3 := by kernel_rfl
theorem b9 {op : ByteArray} {a b : zc} {k0 k1 : Int} (hop : SX op = true) (h : (nb op k0 k1).2 = true) (ha : okA k0 a) (hb : okA k1 b) (a0 : a.1 ≠ 0) (b0 : b.1 ≠ 0) :
  okO op a b = true ∧ ((oP op a b).2 = 0 → okA (nb op k0 k1).1 (oP op a b).1) := by
 obtain ⟨ha1, ha2, ha3⟩ := ha
 obtain ⟨hb1, hb2, hb3⟩ := hb
 have ea : a.1 = k0 := by omega
 have eb : b.1 = k1 := by omega
 have n0 : (k0 == 0) = false := jW (by omega)
 have n1 : (k1 == 0) = false := jW (by omega)
 have hk : rN k0 = true ∧ rN k1 = true ∧ (zd op YN && (k0 == 3 || k1 == 3)) = false ∧ (nb op k0 k1).1 = mz true k0 k1 := by
  unfold nb Pb at h ⊢
  simp only [n0, n1, Nu, bne, NW, Bool.and_true] at h ⊢
  cases h1 : rN k0 <;> cases h2 : rN k1 <;> cases h3 : (zd op YN && (k0 == 3 || k1 == 3)) <;> simp only [h1, h2, h3, NJ, NW, Bool.or_true, Bool.true_or, Bool.or_false, Bool.or_self, Nv, Nu] at h ⊢ <;> first | exact ⟨trivial, trivial, trivial, trivial⟩ | cases h
 obtain ⟨h1, h2, h3, h4⟩ := hk
 have hrem : (!(zd op YN) || (a.1 == 2 && b.1 == 2)) = true := by
  cases hr : zd op YN with
  | false => rfl
  | true =>
   rw [hr, NT, Bool.or_eq_false_iff] at h3
   have q0 : k0 = 2 := by rcases uw h1 with h | h; exact h; rw [h] at h3; cases h3.1
   have q1 : k1 = 2 := by rcases uw h2 with h | h; exact h; rw [h] at h3; cases h3.2
   rw [aV (ea.trans q0), aV (eb.trans q1)]; rfl
 refine ⟨?_, fun hz => ?_⟩
 ·unfold okO
  rw [hop, ea, eb, h1, h2, ha2, hb2, ha3, hb3]
  rw [ea, eb] at hrem
  rw [hrem]; rfl
 ·rw [h4]
  unfold oP at hz ⊢
  rcases uw h1 with q0 | q0 <;> rcases uw h2 with q1 | q1 <;> subst q0 <;> subst q1
  ·rw [QU]
   simp only [aV ea, aV eb, NC, Nv] at hz ⊢
   cases hi : (aJ op a.2.1 b.2.1).2 != 0 with
   | true =>
    rw [hi, Nv] at hz
    simp only at hz
    rw [hz] at hi; cases hi
   | false =>
    rw [Nu]
    exact bj (SU op (Xw ha3).1 (Xw hb3).1)
  ·rw [RL]
   simp only [aV ea, jW (show b.1 ≠ 2 by omega), Bool.and_false, Nu]
   exact la _ (i9 op _ _)
  ·rw [RW]
   simp only [jW (show a.1 ≠ 2 by omega), Bool.false_and, Nu]
   exact la _ (i9 op _ _)
  ·rw [QG]
   simp only [jW (show a.1 ≠ 2 by omega), Bool.false_and, Nu]
   exact la _ (i9 op _ _)
theorem Uj : (zd (⟨#[45]⟩ : ByteArray) xu || zd (⟨#[45]⟩ : ByteArray) orS) = false := by kernel_rfl
theorem Ua : (zd (⟨#[110, 111, 116]⟩ : ByteArray) xu || zd (⟨#[110, 111, 116]⟩ : ByteArray) orS) = false := by kernel_rfl
theorem TY : (zd (⟨#[105, 115, 32, 110, 117, 108, 108]⟩ : ByteArray) xu || zd (⟨#[105, 115, 32, 110, 117, 108, 108]⟩ : ByteArray) orS) = false := by kernel_rfl
theorem Sz : (zd (⟨#[105, 115, 32, 110, 111, 116, 32, 110, 117, 108, 108]⟩ : ByteArray) xu || zd (⟨#[105, 115, 32, 110, 111, 116, 32, 110, 117, 108, 108]⟩ : ByteArray) orS) = false := by kernel_rfl
theorem Oe : (inS arL ⟨#[43]⟩ = true ∧ inS cpL ⟨#[43]⟩ = false) ∧ (zd ⟨#[43]⟩ xu || zd ⟨#[43]⟩ orS) = false ∧ zd ⟨#[43]⟩ qv = false := ⟨⟨by kernel_rfl, by kernel_rfl⟩, by kernel_rfl, by kernel_rfl⟩
theorem PY : (inS arL ⟨#[45]⟩ = true ∧ inS cpL ⟨#[45]⟩ = false) ∧ (zd ⟨#[45]⟩ xu || zd ⟨#[45]⟩ orS) = false ∧ zd ⟨#[45]⟩ qv = false := ⟨⟨by kernel_rfl, by kernel_rfl⟩, by kernel_rfl, by kernel_rfl⟩
theorem Oi : (inS arL ⟨#[42]⟩ = true ∧ inS cpL ⟨#[42]⟩ = false) ∧ (zd ⟨#[42]⟩ xu || zd ⟨#[42]⟩ orS) = false ∧ zd ⟨#[42]⟩ qv = false := ⟨⟨by kernel_rfl, by kernel_rfl⟩, by kernel_rfl, by kernel_rfl⟩
theorem PC : (inS arL ⟨#[47]⟩ = true ∧ inS cpL ⟨#[47]⟩ = false) ∧ (zd ⟨#[47]⟩ xu || zd ⟨#[47]⟩ orS) = false ∧ zd ⟨#[47]⟩ qv = false := ⟨⟨by kernel_rfl, by kernel_rfl⟩, by kernel_rfl, by kernel_rfl⟩
theorem PD : (inS arL ⟨#[37]⟩ = true ∧ inS cpL ⟨#[37]⟩ = false) ∧ (zd ⟨#[37]⟩ xu || zd ⟨#[37]⟩ orS) = false ∧ zd ⟨#[37]⟩ qv = false := ⟨⟨by kernel_rfl, by kernel_rfl⟩, by kernel_rfl, by kernel_rfl⟩
theorem PB : (inS arL ⟨#[61]⟩ = false ∧ inS cpL ⟨#[61]⟩ = true) ∧ (zd ⟨#[61]⟩ xu || zd ⟨#[61]⟩ orS) = false ∧ zd ⟨#[61]⟩ qv = false := ⟨⟨by kernel_rfl, by kernel_rfl⟩, by kernel_rfl, by kernel_rfl⟩
theorem PT : (inS arL ⟨#[60, 62]⟩ = false ∧ inS cpL ⟨#[60, 62]⟩ = true) ∧ (zd ⟨#[60, 62]⟩ xu || zd ⟨#[60, 62]⟩ orS) = false ∧ zd ⟨#[60, 62]⟩ qv = false := ⟨⟨by kernel_rfl, by kernel_rfl⟩, by kernel_rfl, by kernel_rfl⟩
theorem P7 : (inS arL ⟨#[60]⟩ = false ∧ inS cpL ⟨#[60]⟩ = true) ∧ (zd ⟨#[60]⟩ xu || zd ⟨#[60]⟩ orS) = false ∧ zd ⟨#[60]⟩ qv = false := ⟨⟨by kernel_rfl, by kernel_rfl⟩, by kernel_rfl, by kernel_rfl⟩
theorem PX : (inS arL ⟨#[60, 61]⟩ = false ∧ inS cpL ⟨#[60, 61]⟩ = true) ∧ (zd ⟨#[60, 61]⟩ xu || zd ⟨#[60, 61]⟩ orS) = false ∧ zd ⟨#[60, 61]⟩ qv = false := ⟨⟨by kernel_rfl, by kernel_rfl⟩, by kernel_rfl, by kernel_rfl⟩
theorem Pp : (inS arL ⟨#[62]⟩ = false ∧ inS cpL ⟨#[62]⟩ = true) ∧ (zd ⟨#[62]⟩ xu || zd ⟨#[62]⟩ orS) = false ∧ zd ⟨#[62]⟩ qv = false := ⟨⟨by kernel_rfl, by kernel_rfl⟩, by kernel_rfl, by kernel_rfl⟩
theorem Ql : (inS arL ⟨#[62, 61]⟩ = false ∧ inS cpL ⟨#[62, 61]⟩ = true) ∧ (zd ⟨#[62, 61]⟩ xu || zd ⟨#[62, 61]⟩ orS) = false ∧ zd ⟨#[62, 61]⟩ qv = false := ⟨⟨by kernel_rfl, by kernel_rfl⟩, by kernel_rfl, by kernel_rfl⟩
theorem Sr {op : ByteArray} (h : inS unL op = true) : (zd op xu || zd op orS) = false := by
 rcases fO h with rfl | rfl | rfl | rfl
 ·exact Uj
 ·exact Ua
 ·exact TY
 ·exact Sz
theorem XY {op : ByteArray} (h : op ∈ biL) : (op = xu ∨ op = orS) ∨ ((inS arL op = false ∧ inS cpL op = true) ∧ (zd op xu || zd op orS) = false ∧ zd op qv = false) ∨ ((inS arL op = true ∧ inS cpL op = false) ∧ (zd op xu || zd op orS) = false ∧ zd op qv = false) := by
 simp only [biL, NM, List.not_mem_nil, or_false] at h
 rcases h with rfl | rfl | rfl | rfl | rfl | rfl | rfl | rfl | rfl | rfl | rfl | rfl | rfl
 ·exact .inr (.inr Oe)
 ·exact .inr (.inr PY)
 ·exact .inr (.inr Oi)
 ·exact .inr (.inr PC)
 ·exact .inr (.inr PD)
 ·exact .inr (.inl PB)
 ·exact .inr (.inl PT)
 ·exact .inr (.inl P7)
 ·exact .inr (.inl PX)
 ·exact .inr (.inl Pp)
 ·exact .inr (.inl Ql)
 ·exact .inl (.inl rfl)
 ·exact .inl (.inr rfl)
theorem gO {cs : List Int} {op : ByteArray} {c : Int} {x v : zc} {l : List Int} (hop : inS unL op = true) (hl : l.length = 1) (hk : (wT cs (3, op, c, x) l).2 = true) (hv : okA (l.getD 0 0) v) :
  okU op v = true ∧ ((unV op v).2 = 0 → okA (wT cs (3, op, c, x) l).1 (unV op v).1) := by
 obtain ⟨v1, v2, v3⟩ := hv
 have z := (Xw v3)
 generalize hl0 : l.getD 0 0 = k0 at v1
 have kn : wT cs (3, op, c, x) l = bif zd op Ra then (k0, rN k0 || k0 == 0) else bif zd op qv then (1, qb k0) else (1, true) := by
  unfold wT
  simp only [hl0, hl, show ((3 : Int) == 1) = false from rfl, show ((3 : Int) == 2) = false from rfl, show ((3 : Int) == 5) = false from rfl, show ((3 : Int) == 3) = true from rfl, show ((1 : Nat) == 1) = true from rfl, Bool.and_true, Nv, Nu]
 rw [kn] at hk ⊢
 have s1 : ∀ q : ByteArray, zd q Ra = zd q ⟨#[45]⟩ := fun _ => rfl
 have s2 : ∀ q : ByteArray, zd q qv = zd q ⟨#[110, 111, 116]⟩ := fun _ => rfl
 have nul : ∀ {k : Int}, v.1 = 0 → okA k zeroV := fun _ => yu _
 unfold okU
 rw [hop, v3]
 rcases fO hop with rfl | rfl | rfl | rfl
 ·simp only [s1, s2, dX, nQ, Nv, Nu, NJ, NW, Bool.false_or, Bool.true_or, Bool.and_true, NT] at hk ⊢
  have hn : (v.1 == 0 || rN v.1) = true := by
   rcases v1 with h | h
   ·rw [h, Bool.or_comm]; exact hk
   ·rw [h]; rfl
  refine ⟨hn, fun hz => ?_⟩
  simp only [unV, s2, cd, eD, nQ, Nu] at hz ⊢
  by_cases h0 : v.1 = 0
  ·rw [aV h0]; exact yu _
  ·have hk0 : v.1 = k0 := by omega
   have hnum : rN v.1 = true := by rw [jW h0] at hn; exact hn
   rw [jW h0] at hz ⊢
   rcases uw hnum with h2 | h3
   ·rw [jW (show v.1 ≠ 3 by omega)] at hz ⊢
    simp only [Nu] at hz ⊢
    cases hm : v.2.1 == -9223372036854775808 with
    | true => rw [hm] at hz; cases hz
    | false => rw [← hk0, h2]; exact bj (sK _)
   ·rw [aV h3]
    simp only [Nv, Nu]
    rw [← hk0, h3]
    exact la _ (fun r hr => by cases hr; exact QD z.2)
 ·simp only [s1, s2, e7, nT, Nv, Nu, NJ, NW, Bool.false_or, Bool.true_or, Bool.and_true, NT] at hk ⊢
  have hn : qb v.1 = true := by
   rcases v1 with h | h
   ·rw [h]; exact hk
   ·rw [h]; rfl
  refine ⟨hn, fun hz => ?_⟩
  simp only [unV, s2, eX, eN, nT, Nv, Nu] at hz ⊢
  cases v.1 == 0 with
  | true => exact yu _
  | false => exact u9 _
 ·simp only [s1, s2, df, de, eY, Nv, Nu, NJ, NW, Bool.false_or, Bool.true_or, Bool.and_true, NT, unV]
  exact ⟨trivial, fun _ => u9 _⟩
 ·simp only [s1, s2, dh, ch, da, d9, Nv, Nu, NJ, NW, Bool.false_or, Bool.true_or, Bool.and_true, NT, unV]
  exact ⟨trivial, fun _ => u9 _⟩
theorem mM {k : Int} {v : zc} (h : okA k v) (hk : qb k = true) : okA 1 v := by
 have : k = 1 ∨ k = 0 := by simpa [qb] using hk
 exact ⟨by have := h.1; omega, h.2⟩
theorem V3 {op : ByteArray} {p q : zc × Int} (hp : p.2 = 0 → okA 1 p.1) (hq : q.2 = 0 → okA 1 q.1) (h : (qF op p q).2 = 0) : okA 1 (qF op p q).1 := by
 unfold qF at h ⊢
 cases h1 : p.2 != 0 || (bif zd op orS then isT p.1 else isF p.1) with
 | true => rw [h1, Nv] at h; rw [Nv]; exact hp h
 | false =>
  rw [h1, Nu] at h; rw [Nu]
  cases h2 : q.2 != 0 || (bif zd op orS then isT q.1 else isF q.1) || !(p.1.1 == 0) with
  | true => rw [h2, Nv] at h; rw [Nv]; exact hq h
  | false => exact yu _
theorem Tc (a : zc) : ∀ (u : Bool) (rs : List (zc × Int)), okA 1 (inL a u rs).1
 | u, [] => by
  unfold inL
  cases u
  ·exact u9 _
  ·exact yu _
 | u, b :: r => by
  unfold inL
  cases b.2 != 0 with
  | true => exact yu _
  | false =>
   cases a.1 == 0 || b.1.1 == 0 with
   | true => exact Tc a true r
   | false =>
    cases c9 a b.1 == 0 with
    | true => exact u9 _
    | false => exact Tc a u r
theorem Ry (rs : List (zc × Int)) : okA 1 (inV rs).1 := by
 unfold inV
 split
 ·exact yu _
 ·rename_i a r
  cases a.2 != 0 with
  | true => exact yu _
  | false => exact Tc _ _ _
theorem p6 {op : ByteArray} {k0 k1 : Int} {p q : zc × Int} (hop : op ∈ biL) (hk : (YK op k0 k1).2 = true) (hp : p.2 = 0 → okA k0 p.1) (hq : q.2 = 0 → okA k1 q.1) :
  ((zd op xu || zd op orS) = true → qb k0 = true ∧ qb k1 = true) ∧
  ((zd op xu || zd op orS) = false → inS cpL op = false → p.2 = 0 → q.2 = 0 → p.1.1 ≠ 0 → q.1.1 ≠ 0 → okO op p.1 q.1 = true) ∧
  (((bif zd op xu || zd op orS then qF op p q else dC op p q)).2 = 0 → okA (YK op k0 k1).1 (bif zd op xu || zd op orS then qF op p q else dC op p q).1) := by
 rcases XY hop with h | ⟨⟨h1, h2⟩, h3, h4⟩ | ⟨⟨h1, h2⟩, h3, h4⟩
 ·have lo : (zd op xu || zd op orS) = true ∧ zd op qv = false ∧ inS cpL op = false := by
   rcases h with rfl | rfl
   ·exact ⟨by kernel_rfl, by kernel_rfl, by kernel_rfl⟩
   ·exact ⟨by kernel_rfl, by kernel_rfl, by kernel_rfl⟩
  obtain ⟨l1, l2, l3⟩ := lo
  have kb : YK op k0 k1 = (1, qb k0 && qb k1) := by unfold YK; rw [l2, l3, l1]; rfl
  rw [kb] at hk ⊢
  simp only [Nt] at hk
  rw [l1]
  refine ⟨fun _ => hk, fun h => (by cases h), fun h => ?_⟩
  exact V3 (fun e => mM (hp e) hk.1) (fun e => mM (hq e) hk.2) h
 ·have kb : YK op k0 k1 = (1, ZX k0 k1) := by unfold YK; rw [h4, h2]; rfl
  rw [kb, h3]
  refine ⟨fun h => (by cases h), fun _ e => (by rw [h2] at e; cases e), fun h => ?_⟩
  simp only [Nu] at h ⊢
  unfold dC at h ⊢
  cases p.2 != 0 with
  | true => exact yu _
  | false =>
   cases q.2 != 0 with
   | true => exact yu _
   | false =>
    cases p.1.1 == 0 || q.1.1 == 0 with
    | true => exact yu _
    | false =>
     simp only [Nu, h2, Nv]
     exact u9 _
 ·have kb : YK op k0 k1 = nb op k0 k1 := by unfold YK; rw [h4, h2, h3]; rfl
  rw [kb] at hk ⊢
  rw [h3]
  refine ⟨fun h => (by cases h), fun _ _ e1 e2 n1 n2 => (b9 h1 hk (hp e1) (hq e2) n1 n2).1, fun h => ?_⟩
  simp only [Nu] at h ⊢
  unfold dC at h ⊢
  cases e1 : p.2 != 0 with
  | true => exact yu _
  | false =>
   cases e2 : q.2 != 0 with
   | true => exact yu _
   | false =>
    cases e3 : p.1.1 == 0 || q.1.1 == 0 with
    | true => exact yu _
    | false =>
     rw [e1, e2, e3] at h
     simp only [Nu, h2] at h ⊢
     rw [Bool.or_eq_false_iff] at e3
     exact (b9 h1 hk (hp (by simpa using e1)) (hq (by simpa using e2)) (by simpa using e3.1) (by simpa using e3.2)).2 h
def okL : List Int → List (zc × Int) → Prop
 | [], [] => True
 | k :: l, r :: rs => (r.2 = 0 → okA k r.1) ∧ okL l rs
 | _, _ => False
theorem ux : ∀ {l : List Int} {rs : List (zc × Int)}, okL l rs → ∀ i, i < l.length → (rs.getD i noR).2 = 0 → okA (l.getD i 0) (rs.getD i noR).1
 | [], [], _, i, hi, _ => by simp at hi
 | k :: l, r :: rs, h, 0, _, he => h.1 he
 | k :: l, r :: rs, h, i + 1, hi, he => ux h.2 i (by simpa using hi) he
theorem eh : ∀ {cs : List Int} {row : List zc}, xY cs row = true → row.length = cs.length
 | [], [], _ => rfl
 | k :: cs, v :: row, h => by
  simp only [xY, Nt] at h
  simp [eh h.2.2.2]
 | [], v :: row, h => by cases h
 | k :: cs, [], h => by cases h
theorem mo : ∀ {cs : List Int} {row : List zc}, xY cs row = true → ∀ i, i < cs.length → okA (cs.getD i 0) (row.getD i zeroV)
 | k :: cs, v :: row, h, 0, _ => by
  simp only [xY, Nt, Bool.or_eq_true, beq_iff_eq] at h
  exact ⟨h.1, h.2.1, h.2.2.1⟩
 | k :: cs, v :: row, h, i + 1, hi => by
  simp only [xY, Nt] at h
  exact mo h.2.2.2 i (by simpa using hi)
 | [], _, h, i, hi => by simp at hi
 | k :: cs, [], h, i, hi => by cases h
theorem SG {cs : List Int} {row : List zc} {a : Int × ByteArray × Int × zc} {l : List Int} {rs : List (zc × Int)} (hfit : xY cs row = true) (hn : vV cs.length a l.length = true) (hz : okZ a.2.2.2 = true)
  (hk : (wT cs a l).2 = true) (hl : okL l rs) (h : (vT row a rs).2 = 0) : okA (wT cs a l).1 (vT row a rs).1 := by
 obtain ⟨k0, op, c, v⟩ := a
 by_cases h1 : k0 = 1
 ·subst h1
  simp only [vV, t8, show ((1 : Int) == 1) = true from rfl, Bool.true_or, Nv, Nt, beq_iff_eq] at hn
  exact ⟨.inl rfl, hn.2.2.2, hz⟩
 by_cases h2 : k0 = 2
 ·subst h2
  simp only [vV, t8, show ((2 : Int) == 1) = false from rfl, show ((2 : Int) == 2) = true from rfl, Bool.or_true, Nv, Nu, Nt, NE] at hn
  exact mo hfit c.toNat (by omega)
 have f1 := jW h1
 have f2 := jW h2
 simp only [vV, f1, f2, Bool.or_self, Nu, wz, Nt] at hn
 rcases sS hn.1 with ⟨q1, q2, q3⟩ | ⟨q1, q2, q3⟩ | ⟨q1, q2, q3⟩ <;> simp only at q1 q3 <;> subst q1
 ·have hop : inS unL op = true := List.any_eq_true.2 ⟨op, q3, (zw _ _).2 rfl⟩
  have e : vT row (3, op, c, v) rs = bif (rs.getD 0 noR).2 != 0 then (zeroV, (rs.getD 0 noR).2) else unV op (rs.getD 0 noR).1 := by
   unfold vT
   simp only [show ((3 : Int) == 1) = false from rfl, show ((3 : Int) == 2) = false from rfl, show ((3 : Int) == 5) = false from rfl, show ((3 : Int) == 3) = true from rfl, Sr hop, Nv, Nu]
  rw [e] at h ⊢
  cases h0 : (rs.getD 0 noR).2 != 0 with
  | true => exact yu _
  | false =>
   rw [h0, Nu] at h
   rw [Nu]
   exact (gO hop q2 hk (ux hl 0 (by omega) (by simpa using h0))).2 h
 ·have e : vT row (4, op, c, v) rs = bif zd op xu || zd op orS then qF op (rs.getD 0 noR) (rs.getD 1 noR) else dC op (rs.getD 0 noR) (rs.getD 1 noR) := rfl
  have kn : wT cs (4, op, c, v) l = YK op (l.getD 0 0) (l.getD 1 0) := by
   unfold wT
   simp only [q2, show ((4 : Int) == 1) = false from rfl, show ((4 : Int) == 2) = false from rfl, show ((4 : Int) == 5) = false from rfl, show ((4 : Int) == 3) = false from rfl, show ((2 : Nat) == 1) = false from rfl, Bool.and_false, Nu]
   rfl
  rw [e] at h ⊢
  rw [kn] at hk ⊢
  exact (p6 q3 hk (ux hl 0 (by omega)) (ux hl 1 (by omega))).2.2 h
 ·exact Ry rs
theorem i8 (row : List zc) (e : zg) : zO row e = vT row e.lab (mc row e.kids) := by cases e; rfl
theorem ot (row : List zc) : ∀ ks : List zg, mc row ks = ks.map (zO row)
 | [] => rfl
 | k :: r => by simp only [mc, NN, ot row r]
mutual
theorem We {cs : List Int} {row : List zc} (hfit : xY cs row = true) : ∀ e : zg, qG e = true → xK cs.length e = true → (xm cs e).2 = true → (zO row e).2 = 0 → okA (xm cs e).1 (zO row e).1
 | .node a ks, hb, hf, hk, h => by
  simp only [qG, Nt] at hb
  simp only [xK, Nt] at hf
  simp only [xm] at hk ⊢
  simp only [zO] at h ⊢
  cases hl : xT cs ks with
  | none => rw [hl] at hk; cases hk
  | some l =>
   rw [hl] at hk
   exact SG hfit (by rw [sL cs ks l hl]; exact hf.1) hb.2.1 hk (qX hfit ks l hb.2.2.2 hf.2 hl) h
theorem qX {cs : List Int} {row : List zc} (hfit : xY cs row = true) : ∀ (ks : List zg) (l : List Int), lq ks = true → tr cs.length ks = true → xT cs ks = some l → okL l (mc row ks)
 | [], l, _, _, hl => by simp only [xT, NA] at hl; subst hl; trivial
 | k :: r, l, hb, hf, hl => by
  simp only [lq, Nt] at hb
  simp only [tr, Nt] at hf
  simp only [xT] at hl
  cases hk : (xm cs k).2 with
  | false => rw [hk] at hl; cases hl
  | true =>
   rw [hk] at hl
   simp only [NJ, Nu] at hl
   cases hr : xT cs r with
   | none => rw [hr] at hl; cases hl
   | some l' =>
    rw [hr] at hl
    cases hl
    exact ⟨We hfit k hb.1 hf.1 hk, qX hfit r l' hb.2 hf.2 hr⟩
end
end Go.Proofs.YtefddghdaimklaaGreatDoor.AI
/- The plain laws of the runs: what an expression is worth. -/
namespace Go.Proofs.YtefddghdaimklaaGreatDoor.AI
open Go
theorem p0 (cs : List Int) : ∀ (ks : List zg) (l : List Int), xT cs ks = some l → ∀ v ∈ ks, (xm cs v).2 = true
 | k :: r, l, h, v, hv => by
  simp only [xT] at h
  cases hk : (xm cs k).2 with
  | false => rw [hk] at h; cases h
  | true =>
   rw [hk] at h
   simp only [NJ, Nu] at h
   cases hr : xT cs r with
   | none => rw [hr] at h; cases h
   | some l' =>
    rcases NM.1 hv with rfl | hv
    ·exact hk
    ·exact p0 cs r l' hr v hv
theorem WS {e : zg} {row : List zc} (h : Z9 (e, row)) : ∃ cs l : List Int, okE e = true ∧ xY cs row = true ∧ okB 40 row = true ∧ vV cs.length e.lab e.kids.length = true ∧ l.length = e.kids.length ∧ (wT cs e.lab l).2 = true ∧ okL l (e.kids.map (zO row)) ∧ ∀ v ∈ e.kids, Z9 (v, row) := by
 obtain ⟨cs, hok, hf, hk, hfit, hb⟩ := h
 simp only at hok hf hk hfit hb
 have hf' := hf
 rw [oJ, Nt] at hf'
 rw [Yp] at hk
 cases hl : xT cs e.kids with
 | none => rw [hl] at hk; cases hk
 | some l =>
  rw [hl] at hk
  have hbig := (nG hok).2.2.2.1
  have := qX hfit e.kids l hbig hf'.2 hl
  rw [ot] at this
  refine ⟨cs, l, hok, hfit, hb, hf'.1, sL cs _ _ hl, hk, this, fun v hv => ⟨cs, (qU hok hv).1, pu hf'.2 v hv, p0 cs _ _ hl v hv, hfit, hb⟩⟩
theorem WT {row : List zc} {op : ByteArray} {c : Int} {v : zc} {rs : List (zc × Int)} (hop : inS unL op = true) : vT row (3, op, c, v) rs = bif (rs.getD 0 noR).2 != 0 then (zeroV, (rs.getD 0 noR).2) else unV op (rs.getD 0 noR).1 := by
 unfold vT
 simp only [show ((3 : Int) == 1) = false from rfl, show ((3 : Int) == 2) = false from rfl, show ((3 : Int) == 5) = false from rfl, show ((3 : Int) == 3) = true from rfl, Sr hop, Nv, Nu]
theorem fR {cs : List Int} {op : ByteArray} {c : Int} {v : zc} {l : List Int} (h : l.length = 2) : wT cs (4, op, c, v) l = YK op (l.getD 0 0) (l.getD 1 0) := by
 unfold wT
 simp only [h, show ((4 : Int) == 1) = false from rfl, show ((4 : Int) == 2) = false from rfl, show ((4 : Int) == 5) = false from rfl, show ((4 : Int) == 3) = false from rfl, show ((2 : Nat) == 1) = false from rfl, Bool.and_false, Nu]
 rfl
theorem cy {ks : List zg} {i : Nat} {v : zg} (h : ks[i]? = some v) (f : zg → zc × Int) : ks.getD i tExpr.dflt = v ∧ (ks.map f).getD i noR = f v := by
 simp [List.getD, h]
theorem ah {ks : List zg} {i : Nat} (h : i < ks.length) : ∃ v, ks[i]? = some v := ⟨_, NL h⟩
theorem fY {ks : List zg} {v : zg} (h : ks[0]? = some v) : ks = v :: ks.drop 1 := by
 cases ks with
 | nil => cases h
 | cons a r => simp at h; subst h; rfl
theorem Vh {cs : List Int} {row : List zc} {c : Int} (hfit : xY cs row = true) (h0 : 0 ≤ c) (h1 : c < (cs.length : Int)) : (decide (0 ≤ c) && decide (c < (row.length : Int))) = true := by
 rw [eh hfit]
 simp [h0, h1]
theorem Qy (k : Nat) : ∀ X Y, Uc (k + 1) X = some Y → ∃ n, @f62.g ⟨Uc k⟩ n X = some Y := by
 rintro ⟨e, row⟩ y hh
 obtain ⟨⟨hty, hs⟩, rfl⟩ := gG hh
 obtain ⟨cs, l, hok, hfit, hrow, hn, hl, hk, hv, hkids⟩ := WS hty
 letI : Rec62 := ⟨Uc k⟩
 have hsz := (nG hok).2.2.2.2
 have hlen := pc e.kids
 have hkid : ∀ {v : zg}, v ∈ e.kids → (Rec62.F (v, row) : Option (zc × Int)) = some (zO row v) := fun {v} hm => mS ⟨hkids v hm, by
  have := (qU hok hm).2
  simp only at hs ⊢
  rw [pr] at hs
  omega⟩
 have hz := (nG hok).2.1
 refine ⟨e.kids.length + 1, ?_⟩
 show f62.g (e.kids.length + 1) (e, row) = some (zO row e)
 rw [i8, ot]
 simp only [f62.g, Rose.eta, yK]
 generalize e.lab = a at hn hk hz ⊢
 obtain ⟨k0, op, c, v⟩ := a
 simp only at hz ⊢
 by_cases h1 : k0 = 1
 ·subst h1; rfl
 by_cases h2 : k0 = 2
 ·subst h2
  simp only [vV, t8, show ((2 : Int) == 1) = false from rfl, show ((2 : Int) == 2) = true from rfl, Bool.or_true, Nv, Nu, Nt, NE] at hn ⊢
  rw [Vh hfit hn.2.2.1 hn.2.2.2.1]
  rfl
 have f1 := jW h1
 have f2 := jW h2
 simp only [vV, f1, f2, Bool.or_self, Nu, wz, Nt] at hn
 simp only [f1, f2, Nu]
 have a1 : zd op (⟨#[97, 110, 100]⟩ : ByteArray) = zd op xu := rfl
 have a2 : zd op (⟨#[111, 114]⟩ : ByteArray) = zd op orS := rfl
 have hpos : 0 < e.kids.length := by rcases sS hn.1 with h | h | h <;> omega
 obtain ⟨v0, hv0⟩ := ah hpos
 obtain ⟨g0, r0⟩ := cy hv0 (zO row)
 have k0' := hkid (ND hv0)
 have o0 := ux hv 0 (by omega)
 rw [r0] at o0
 rcases sS hn.1 with ⟨q1, q2, q3⟩ | ⟨q1, q2, q3⟩ | ⟨q1, q2, q3⟩ <;> simp only at q1 q3 <;> subst q1
 ·have hop : inS unL op = true := List.any_eq_true.2 ⟨op, q3, (zw _ _).2 rfl⟩
  rw [WT hop, r0]
  simp only [show ((3 : Int) == 5) = false from rfl, show ((3 : Int) == 3) = true from rfl, Nv, Nu, a1, a2, Sr hop, lv hpos, g0, k0', Nx]
  cases he : (zO row v0).2 != 0 with
  | true => rfl
  | false =>
   have hu := (gO hop (by omega) hk (o0 (by simpa using he))).1
   have g : S7 (op, (zO row v0).1) = some (unV op (zO row v0).1) := zp hu
   simp only [Nu, g, Nx]
 ·have hp1 : 1 < e.kids.length := by omega
  obtain ⟨v1, hv1⟩ := ah hp1
  obtain ⟨g1, r1⟩ := cy hv1 (zO row)
  have k1' := hkid (ND hv1)
  have o1 := ux hv 1 (by omega)
  rw [r1] at o1
  rw [fR (by omega)] at hk
  obtain ⟨b1, b2, _⟩ := p6 q3 hk o0 o1
  have en : vT row (4, op, c, v) (e.kids.map (zO row)) = bif zd op xu || zd op orS then qF op (zO row v0) (zO row v1) else dC op (zO row v0) (zO row v1) := by
   have : vT row (4, op, c, v) (e.kids.map (zO row)) = bif zd op xu || zd op orS then qF op ((e.kids.map (zO row)).getD 0 noR) ((e.kids.map (zO row)).getD 1 noR) else dC op ((e.kids.map (zO row)).getD 0 noR) ((e.kids.map (zO row)).getD 1 noR) := rfl
   rw [this, r0, r1]
  rw [en]
  simp only [show ((4 : Int) == 5) = false from rfl, show ((4 : Int) == 3) = false from rfl, Nv, Nu, a1, a2, lv hpos, Vu hp1, g0, g1, k0', k1', Nx, F36, Vo, lX, SO, Rz, cj]
  generalize zO row v0 = p at o0 b2 ⊢
  generalize zO row v1 = q at o1 b2 ⊢
  cases hao : zd op xu || zd op orS with
  | true =>
   simp only [Nv, qF]
   cases zd op orS with
   | true =>
    simp only [Nv]
    cases p.2 != 0 <;> cases isT p.1 <;> cases q.2 != 0 <;> cases isT q.1 <;> cases p.1.1 == 0 <;> rfl
   | false =>
    simp only [Nu]
    cases p.2 != 0 <;> cases isF p.1 <;> cases q.2 != 0 <;> cases isF q.1 <;> cases p.1.1 == 0 <;> rfl
  | false =>
   simp only [Nu, dC]
   have gc : cn (cpL, op) = some (inS cpL op) := zp rfl
   simp only [gc, Nx]
   cases e1 : p.2 != 0 with
   | true => rfl
   | false =>
    cases e2 : q.2 != 0 with
    | true => rfl
    | false =>
     cases e3 : p.1.1 == 0 with
     | true => rfl
     | false =>
      cases e4 : q.1.1 == 0 with
      | true => rfl
      | false =>
       cases e5 : inS cpL op with
       | true => rfl
       | false =>
        have g : Re (op, p.1, q.1) = some (oP op p.1 q.1) := zp (b2 hao e5 (by simpa using e1) (by simpa using e2) (by simpa using e3) (by simpa using e4))
        simp only [Nu, Bool.or_self, g, Nx]
 ·have en : vT row (5, op, c, v) (e.kids.map (zO row)) = inV (e.kids.map (zO row)) := rfl
  rw [en, fY hv0, NN, ← fY hv0]
  simp only [show ((5 : Int) == 5) = true from rfl, Nv, Nu, lv hpos, VH (show 1 ≤ e.kids.length by omega), g0, k0', Nx, lX, inV]
  cases he : (zO row v0).2 != 0 with
  | true => rfl
  | false =>
   simp only [Nu]
   have hd : (e.kids.drop 1).length ≤ e.kids.length := by rw [List.length_drop]; exact Nat.sub_le _ _
   refine z9 (step := f62.s1 (e.kids.length + 1) (e, row) (zO row v0) ((zO row v0).1.1 == 0)) (e.kids.drop 1) (fun i (u : Bool) => (u, (i : Int))) (fun _ _ => True) (fun i u r => some (inL (zO row v0).1 u (r.map (zO row)))) (fun S u _ => ?_) (fun S i u w r hi hw hr _ ih => ?_) (e.kids.length + 1) (by omega) ((zO row v0).1.1 == 0) trivial
   ·simp only [f62.s1, yi, Nu, cj, Nx, List.map_nil, inL]
    cases u <;> rfl
   ·have kw := hkid (List.mem_of_mem_drop (ND hw))
    simp only [f62.s1, xi hi, yZ, yf hw, NC, Nv, Rose.eta, kw, Nx, nx (show i ≤ _ by omega), lX, SO, cj, NN, inL]
    cases (zO row w).2 != 0 with
    | true => rfl
    | false =>
     simp only [Nu]
     cases (zO row v0).1.1 == 0 with
     | true => exact ih true trivial
     | false =>
      cases (zO row w).1.1 == 0 with
      | true => exact ih true trivial
      | false =>
       simp only [Nu, Bool.or_self]
       cases c9 (zO row v0).1 (zO row w).1 == 0 with
       | true => rfl
       | false => exact ih u trivial
theorem k8 : ∀ k, ConOk Tryz.prog 62 (zk [(true, tExpr), (false, .sl tValue)] [(true, tValue), (false, .int .i64)] true (Uc k))
 | 0 => uZ fun X => by unfold Uc ifG; simp
 | k + 1 => @f62.ok ⟨Uc k⟩ (Uc (k + 1)) (Qy k) gZ (k8 k) c8 ja sN lw bU ax Yf lE
theorem W1 : ConOk Tryz.prog 62 Tn := tP k8 fun X Y h => by
 obtain ⟨ho, rfl⟩ := gG h
 exact ⟨z4 X.1 + 1, mS ⟨ho, NG _⟩⟩
theorem UW {v : zc} (h : okA 1 v) : (bif !(v.1 == 0) then v.2.1 == 1 else false) = isT v := by
 unfold isT
 by_cases h0 : v.1 = 0
 ·rw [aV h0, jW (show v.1 ≠ 1 by omega)]; rfl
 ·have h1 : v.1 = 1 := by have := h.1; omega
  rw [jW h0, aV h1]; rfl
theorem Sj {v : zc} (h : okA 1 v) : (bif !(v.1 == 0) then v.2.1 == 0 else false) = isF v := by
 unfold isF
 by_cases h0 : v.1 = 0
 ·rw [aV h0, jW (show v.1 ≠ 1 by omega)]; rfl
 ·have h1 : v.1 = 1 := by have := h.1; omega
  rw [jW h0, aV h1]; rfl
end Go.Proofs.YtefddghdaimklaaGreatDoor.AI
