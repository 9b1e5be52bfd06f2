/- A part of the proof. -/
import Derived.Test.YtefddghdaimklaaGreatDoorSz
import Derived.Test.YtefddghdaimklaaGreatDoorBv
import Derived.KernelRfl
import GoSem.Op.Unary
import Derived.Test.YtefddghdaimklaaGreatDoorBw
import Derived.Laws.FloatBits
set_option linter.unusedVariables false
set_option linter.unusedSimpArgs false
/- The plain laws of the runs: nodes, what may be, kinds. -/
namespace Go.Proofs.YtefddghdaimklaaGreatDoor.AI
open Go
theorem xf {P : Program} {f : FuncId} {s rs : Sig} {b : Bool} {F : s.den → Option rs.den} (h : ∀ X, F X = none) : ConOk P f (zj s rs b F) := by
 cases b with
 | true => exact ⟨fun x args vals X Y hI hv hl hF => (by have := h X; rw [show F X = some Y from hF] at this; cases this), fun h => (by cases h), fun _ args H l X h => wg H l s args X h, fun h => by cases h⟩
 | false => exact ⟨fun x args vals X Y hI hv hl hF => (by have := h X; rw [show F X = some Y from hF] at this; cases this), fun _ => ⟨fun _ _ _ => rfl, fun _ _ => rfl, fun _ _ _ => rfl⟩, fun h => (by cases h), fun h => by cases h⟩
theorem xb {P : Program} {f : FuncId} {s rs : Sig} {b : Bool} {F : s.den → Option rs.den} {Fn : Nat → s.den → Option rs.den} (hn : ∀ k, ConOk P f (zj s rs b (Fn k))) (h : ∀ X Y, F X = some Y → ∃ k, Fn k X = some Y) : ConOk P f (zj s rs b F) :=
 ⟨fun x args vals X Y hI hv hl hF => (h X Y hF).elim fun k hk => (hn k).1 x args vals X Y hI hv hl hk, (hn 0).2, (hn 0).3, (hn 0).4⟩
theorem i7 {P : Program} {f : FuncId} {t0 : Ty} {s rs : Sig} {F : t0.den × s.den → Option (t0.den × rs.den)} (h : ∀ X, F X = none) : ConOk P f (qm t0 s rs F) :=
 ⟨fun x args vals X Y hI hv hl hF => (by have := h (X.2.1, X.2.2); rw [show F (X.2.1, X.2.2) = some Y from hF] at this; cases this), fun h => (by cases h), fun h => (by cases h), fun h => by cases h⟩
theorem l6 {P : Program} {f : FuncId} {t0 : Ty} {s rs : Sig} {F : t0.den × s.den → Option (t0.den × rs.den)} {Fn : Nat → t0.den × s.den → Option (t0.den × rs.den)} (hn : ∀ k, ConOk P f (qm t0 s rs (Fn k))) (h : ∀ X Y, F X = some Y → ∃ k, Fn k X = some Y) : ConOk P f (qm t0 s rs F) :=
 ⟨fun x args vals X Y hI hv hl hF => (h (X.2.1, X.2.2) Y hF).elim fun k hk => (hn k).1 x args vals X Y hI hv hl hk, (hn 0).2, (hn 0).3, (hn 0).4⟩
theorem WN {n : Int} (h0 : 0 ≤ n) (h1 : n ≤ 140737488355328) : IntKind.wrap .i64 (n + (1 : Int)) = n + 1 := xU (by omega) (by omega)
theorem Xh {a : Int × ByteArray × Int × zc} {ks : List zn} (h : oW (.node a ks) = true) : ks.length ≤ 140737488355328 ∧ hP ks = true := by
 simp only [oW, Li] at h
 exact ⟨zS (by omega) h.2.2.1, h.2.2.2⟩
theorem XJ (e : zn) (h : Int) : xv e h = uk e.kids (h + 1) := by cases e; rfl
theorem ud (e : zn) : zT e = xz e.kids + 1 := by cases e; rfl
theorem P3 {e : zn} (h : oW e = true) : e.kids.length ≤ 140737488355328 ∧ hP e.kids = true := by cases e; exact Xh h
theorem u6 {e : zn} (h : okE e = true) : okS e.lab.2.1 = true ∧ okZ e.lab.2.2.2 = true ∧ okB 96 e.kids = true ∧ hP e.kids = true ∧ xz e.kids + 1 ≤ 1048576 := by cases e; exact gK h
theorem wM {e : zn} (h : okE e = true) {k : zn} (hk : k ∈ e.kids) : okE k = true ∧ zT k < xz e.kids + 1 := by cases e; exact TR h hk
theorem QH (n : Nat) (e : zn) (left deep : Int) : ry n e left deep = bif decide (left - 1 < 0) || decide (deep > 100) then (left - 1, false)
  else bif e.lab.1 == 1 || e.lab.1 == 2 then (left - 1, rN n e.lab e.kids.length)
  else bif !wF e.lab e.kids.length then (left - 1, false) else o5 n e.kids (left - 1) (deep + 1) := by cases e; rfl
theorem Xr (e : zn) (had deep : Int) : xi e had deep = bif decide (had + 1 > 1024) || decide (deep > 100) then (had + 1, false) else uv e.kids (had + 1) (deep + 1) := by cases e; rfl
theorem tY (n : Nat) (e : zn) : yS n e = (wt n e.lab e.kids.length && ux n e.kids) := by cases e; rfl
theorem gf (cs : List Int) (e : zn) : yW cs e = (match xA cs e.kids with | none => (0, false) | some l => wY cs e.lab l) := by cases e; rfl
theorem Oa (k : Nat) : ∀ X Y, Sy (k + 1) X = some Y → ∃ n, @f39.g ⟨Sy k⟩ n X = some Y := by
 rintro ⟨e, h⟩ y hh
 obtain ⟨ho, rfl⟩ := zr hh
 simp only [Li, Lt] at ho
 obtain ⟨hb, hi, h0, h1, hs⟩ := ho
 obtain ⟨hl, hbl⟩ := P3 hb
 letI : Rec39 := ⟨Sy k⟩
 refine ⟨e.kids.length + 1, ?_⟩
 show f39.g (e.kids.length + 1) (e, h) = some (xv e h)
 rw [XJ]
 have e0 : f39.g (e.kids.length + 1) (e, h) = zF (f39.s1 (e.kids.length + 1) (e, h)) (e.kids.length + 1) (h + 1, (0 : Int)) := by
  simp only [f39.g, WN h0 (show h ≤ _ by omega)]
 rw [e0]
 refine zP (step := f39.s1 (e.kids.length + 1) (e, h)) e.kids (fun i (c : Int) => (c, (i : Int))) (fun i c => 0 ≤ c ∧ c ≤ 262145) (fun i c r => some (uk r c)) (fun S c _ => ?_) (fun S i c v r hi hv hr hc ih => ?_) (e.kids.length + 1) (Lv _) (h + 1) ⟨by omega, by omega⟩
 ·simp only [f39.s1, zM, Lj, uk]
 ·simp only [f39.s1, zX hi, z1, zE hv, Lr, Lk, nx (show i ≤ _ by omega), Rose.eta, uk]
  cases hd : decide (c ≤ 262144) with
  | false => rfl
  | true =>
   have hd' := LB hd
   have hm := mS (Ls hv)
   have hbv := qP hbl v (Ls hv)
   have hsz : zT v < k := by rw [ud] at hs; omega
   have g : (Rec39.F (v, c) : Option Int) = some (xv v c) := zo (by
    simp only [hbv, okI, Ln hc.1, Ln hd', Ln (show (-9223372036854775808 : Int) ≤ c by omega), Ln (show c ≤ 9223372036854775807 by omega), Ln hsz, Lr])
   obtain ⟨q1, q2, _⟩ := tT v c hc.1 hd'
   simp only [Lk, g, Lm]
   exact ih (xv v c) ⟨by omega, q2⟩
theorem jX : ∀ k, ConOk Tryz.prog 39 (zj [(true, tExpr), (false, .int .i64)] [(false, .int .i64)] true (Sy k))
 | 0 => xf fun X => by unfold Sy; simp [yM]
 | k + 1 => @f39.ok ⟨Sy k⟩ (Sy (k + 1)) (Oa k) (jX k)
theorem Wj : ConOk Tryz.prog 39 Se := xb jX fun X Y h => by
 obtain ⟨ho, rfl⟩ := zr h
 refine ⟨zT X.1 + 1, zo ?_⟩
 simp only [Li] at ho ⊢
 exact ⟨ho.1, ho.2.1, ho.2.2.1, ho.2.2.2, Ln (Lv _)⟩
theorem XZ : ConOk Tryz.prog 14 Tl := f14.ok (fun x y h => by
 obtain ⟨ho, rfl⟩ := zr h
 have e : F39 (x, 0) = some (xv x 0) := zo (by simp only [ho]; rfl)
 exact ⟨0, by simp only [f14.g, Rose.eta, e, Lm]⟩) Wj
theorem Rv : ConOk Tryz.prog 5 OK := f5.ok (fun x y h => by
 obtain ⟨ho, rfl⟩ := zr h
 have e : F14 x = some (decide (xv x 0 > 262144)) := zo ho
 refine ⟨0, ?_⟩
 simp only [f5.g, Rose.eta, e, Lm, YD]
 cases decide (xv x 0 > 262144) <;> rfl) XZ
theorem O2 (k : Nat) : ∀ X Y, F8n (k + 1) X = some Y → ∃ n, @f8.g ⟨F8n k⟩ n X = some Y := by
 intro e y hh
 obtain ⟨ho, rfl⟩ := zr hh
 simp only [Li, Lt] at ho
 obtain ⟨hok, hs⟩ := ho
 obtain ⟨_, _, hB, hbl, hsz⟩ := u6 hok
 have hl := wI e.kids
 letI : Rec8 := ⟨F8n k⟩
 refine ⟨e.kids.length + 1, ?_⟩
 show f8.g (e.kids.length + 1) e = some e
 have := zP (step := f8.s1 (e.kids.length + 1) e) e.kids (fun i (_ : Unit) => ((i : Int), (i, e.kids.take i))) (fun _ _ => True) (fun _ _ _ => some e) (fun S c _ => by
  simp only [f8.s1, zM, Lj, Lz, Rose.eta]) (fun S i c v r hi hv hr hc ih => by
  obtain ⟨q1, q2⟩ := wM hok (Ls hv)
  have g : (Rec8.F v : Option zn) = some v := zo (by
   simp only [q1, LK, Lt]
   rw [ud] at hs; omega)
  have hroom : decide ((i + 1) * 96 ≤ zq) = true := Ln (by have : zq = 140737488355328 := rfl; omega)
  simp only [f8.s1, zX hi, z1, zE hv, Lr, Lk, nx (show i ≤ _ by omega), Rose.eta, g, Lm, hroom]
  have e1 : List.take i (e.kids.take i) ++ [v] = e.kids.take (i + 1) := by rw [List.take_take, Nat.min_self, xo hv]
  rw [e1]
  exact ih () trivial) (e.kids.length + 1) (Lv _) () trivial
 exact this
theorem fO : ∀ k, ConOk Tryz.prog 8 (zj [(true, tExpr)] [(true, tExpr)] false (F8n k))
 | 0 => xf fun X => by unfold F8n; simp [yM]
 | k + 1 => @f8.ok ⟨F8n k⟩ (F8n (k + 1)) (O2 k) (fO k)
theorem RK : ConOk Tryz.prog 8 Ny := xb fO fun X Y h => by
 obtain ⟨ho, rfl⟩ := zr h
 exact ⟨zT X + 1, zo (by simp only [ho, LK]; exact Ln (Lv _))⟩
theorem mv (a b : ByteArray) : zd a b = zd b a := by
 rw [Bool.eq_iff_iff, zI, zI]; exact eq_comm
theorem Pn : ∀ X Y, F44 X = some Y → ∃ n, f44.g n X = some Y := by
 intro x y h
 obtain ⟨ho, rfl⟩ := zr h
 have hl := zS (by omega) ho
 refine ⟨x.1.length + 1, wH _ (Lv _) (fun S => ?_) (fun S i v hi hv => ?_)⟩
 ·simp only [f44.s1, zM, Lj]
 ·simp only [f44.s1, zX hi, z1, zE hv, nx (show i ≤ _ by omega), Lr, Lk, mv x.2 v]
theorem fh : ConOk Tryz.prog 44 cN := f44.ok Pn
theorem s7 : ConOk Tryz.prog 104 sK := f104.ok (fun x y h => by
 obtain ⟨ho, rfl⟩ := zr h
 have e : F44 x = some (ut (fun w => zd w x.2) x.1) := zo ho
 exact ⟨0, by simp only [f104.g, e, Lm, rF]; rfl⟩) fh
theorem P6 : ∀ X Y, F81 X = some Y → ∃ n, f81.g n X = some Y := by
 intro x y h
 obtain ⟨ho, rfl⟩ := zr h
 have hl := zS (by omega) ho
 refine ⟨x.1.length + 1, gP _ (Lv _) (fun S => ?_) (fun S i v hi hv => ?_)⟩
 ·simp only [f81.s1, zM, Lj]
 ·simp only [f81.s1, zX hi, z1, zE hv, nx (show i ≤ _ by omega), Lr, Lk]
theorem ml : ConOk Tryz.prog 81 i8 := f81.ok P6
theorem aK : ConOk Tryz.prog 130 Zz := f130.ok (fun x y h => ⟨0, by cases h; rfl⟩)
theorem bu : ConOk Tryz.prog 131 ZH := f131.ok (fun x y h => ⟨0, by cases h; rfl⟩)
theorem PI (s : ByteArray) : cr (unL, s) = some (inS unL s) := zo rfl
theorem Q9 (s : ByteArray) : cr (arL, s) = some (inS arL s) := zo rfl
theorem VF (s : ByteArray) : cr (cpL, s) = some (inS cpL s) := zo rfl
theorem O1 (s : ByteArray) : F81 (unL, s) = some (inS unL s) := zo rfl
theorem Nd (s : ByteArray) : F81 (biL, s) = some (inS biL s) := zo rfl
theorem fG : ConOk Tryz.prog 50 aF := f50.ok (fun x y h => ⟨0, by
 cases h
 have e : F81 (cpL, x) = some (inS cpL x) := zo rfl
 show (F81 (cpL, x)).bind (fun r => some r) = _
 rw [e]; rfl⟩) ml
theorem ao : ConOk Tryz.prog 134 Z6 := f134.ok (fun x y h => ⟨0, by
 cases h
 have e : F81 (arL, x) = some (inS arL x) := zo rfl
 show (F81 (arL, x)).bind (fun r => some r) = _
 rw [e]; rfl⟩) ml
theorem Z5 (v : zc) : lH v (0, (0, (0, noS))) = wJ v := by
 unfold lH wJ
 cases v.1 == 0 <;> cases v.2.1 == 0 <;> rfl
theorem Yj : ConOk Tryz.prog 129 cD := f129.ok (fun x y h => ⟨0, by
 cases h
 show (Qg (x, (0, (0, (0, noS))))).bind (fun r => some r) = _
 rw [Tu, Lm, Z5]⟩) Yp
theorem bp : ConOk Tryz.prog 112 cy := f112.ok (fun x y h => ⟨0, by
 cases h
 simp only [f112.g, F63, Lm, zW, wJ]
 have e : (((x.2.2.1 : Nat) : Int) == 0) = (x.2.2.1 == 0) := by rw [Bool.eq_iff_iff, beq_iff_eq, beq_iff_eq]; omega
 cases x.1 == 0 <;> cases x.2.1 == 0 <;> simp [e] <;> rfl⟩) tq
theorem hU {α : Type} (l : List α) (m : Nat) : (((l.length : Nat) : Int) == (m : Int)) = (l.length == m) := by
 rw [Bool.eq_iff_iff, beq_iff_eq, beq_iff_eq]; omega
theorem fA {α : Type} (l : List α) : (((l.length : Nat) : Int) == (0 : Int)) = (l.length == 0) := hU l 0
theorem fP {α : Type} (l : List α) : (((l.length : Nat) : Int) == (1 : Int)) = (l.length == 1) := hU l 1
theorem gH {α : Type} (l : List α) : (((l.length : Nat) : Int) == (2 : Int)) = (l.length == 2) := hU l 2
theorem Zo {α : Type} (l : List α) : decide (((l.length : Nat) : Int) ≥ (2 : Int)) = decide (l.length ≥ 2) := by
 rw [Bool.eq_iff_iff, LF, LF]; omega
theorem Tt {t : zg} {e : zn} {left deep : Int} (ht : okT t = true) (hok : okE e = true) (h1 : 0 ≤ left ∧ left ≤ 1024) (h2 : 0 ≤ deep ∧ deep ≤ 101) {v : zn} (hv : v ∈ e.kids) {k : Nat} (hs : zT e < k + 1) :
  Y8 k ((t, left), (v, deep)) = some ((t, (ry t.2.1.length v left deep).1), (ry t.2.1.length v left deep).2) := by
 obtain ⟨q1, q2⟩ := wM hok hv
 refine zo ?_
 simp only [goW, ht, q1, Ln h1.1, Ln h1.2, Ln h2.1, Ln h2.2, LK, Lt]
 rw [ud] at hs; omega
theorem gO (n : Nat) : ∀ (e : zn) (left deep : Int), 0 ≤ left → -1 ≤ (ry n e left deep).1 ∧ (ry n e left deep).1 ≤ left ∧ ((ry n e left deep).2 = true → 0 ≤ (ry n e left deep).1)
 | .node a ks, left, deep, h => by
  simp only [ry]
  cases hc : decide (left - 1 < 0) || decide (deep > 100) with
  | true => simp only [Lk]; exact ⟨by omega, by omega, fun h => by cases h⟩
  | false =>
   simp only [Bool.or_eq_false_iff, decide_eq_false_iff_not] at hc
   simp only [Lj]
   cases a.1 == 1 || a.1 == 2 with
   | true => simp only [Lk]; exact ⟨by omega, by omega, fun _ => by omega⟩
   | false =>
    simp only [Lj]
    cases wF a ks.length with
    | false => simp only [LN, Lk]; exact ⟨by omega, by omega, fun h => by cases h⟩
    | true =>
     simp only [LA, Lj]
     obtain ⟨r1, r2, r3⟩ := mayL_low n ks (left - 1) (deep + 1) (by omega)
     exact ⟨r1, by omega, r3⟩
where
 mayL_low (n : Nat) : ∀ (ks : List zn) (left deep : Int), 0 ≤ left → -1 ≤ (o5 n ks left deep).1 ∧ (o5 n ks left deep).1 ≤ left ∧ ((o5 n ks left deep).2 = true → 0 ≤ (o5 n ks left deep).1)
 | [], left, deep, h => by simp only [o5]; exact ⟨by omega, by omega, fun _ => h⟩
 | k :: r, left, deep, h => by
  obtain ⟨q1, q2, q3⟩ := gO n k left deep h
  simp only [o5]
  cases hk : (ry n k left deep).2 with
  | false => simp only [LN, Lk]; exact ⟨q1, q2, fun h => by cases h⟩
  | true =>
   simp only [LA, Lj]
   obtain ⟨r1, r2, r3⟩ := mayL_low n r (ry n k left deep).1 deep (q3 hk)
   exact ⟨r1, by omega, r3⟩
theorem qM {t : zg} {e : zn} {deep : Int} {k : Nat} (ht : okT t = true) (hok : okE e = true) (h2 : 0 ≤ deep ∧ deep ≤ 100) (hs : zT e < k + 1)
  {step : ((Int × ByteArray × (List zQ) × (List Int) × (List yn) × (List ce) × Int) → Option ((zg × Int) × Bool)) → (Int × ByteArray × (List zQ) × (List Int) × (List yn) × (List ce) × Int) → Option ((zg × Int) × Bool)}
  (hstep : ∀ S y, step S y = bif decide (y.1 < (e.kids.length : Int)) then
   (bif decide (0 ≤ y.1) && decide (y.1 < (e.kids.length : Int)) then
    ((Y8 k (((y.2.1, (y.2.2.1, (y.2.2.2.1, (y.2.2.2.2.1, y.2.2.2.2.2.1)))), y.2.2.2.2.2.2), ((Rose.node ((e.kids.getD y.1.toNat tExpr.dflt).lab) ((e.kids.getD y.1.toNat tExpr.dflt).kids)), IntKind.wrap .i64 (deep + (1 : Int))))).bind fun r6 =>
     bif !r6.2 then (some (r6.1, false))
     else (S (IntKind.wrap .i64 (y.1 + (1 : Int)), (r6.1.1.1, (r6.1.1.2.1, (r6.1.1.2.2.1, (r6.1.1.2.2.2.1, (r6.1.1.2.2.2.2, r6.1.2))))))))
   else none)
  else (some (((y.2.1, (y.2.2.1, (y.2.2.2.1, (y.2.2.2.2.1, y.2.2.2.2.2.1)))), y.2.2.2.2.2.2), true)))
  {left : Int} (hl : 0 ≤ left ∧ left ≤ 1024) :
  zF step (e.kids.length + 1) ((0 : Int), (t.1, (t.2.1, (t.2.2.1, (t.2.2.2.1, (t.2.2.2.2, left)))))) = some ((t, (o5 t.2.1.length e.kids left (deep + 1)).1), (o5 t.2.1.length e.kids left (deep + 1)).2) := by
 have hlen := wI e.kids
 have hsz := (u6 hok).2.2.2.2
 refine zP (step := step) e.kids (fun i (l : Int) => ((i : Int), (t.1, (t.2.1, (t.2.2.1, (t.2.2.2.1, (t.2.2.2.2, l))))))) (fun i l => 0 ≤ l ∧ l ≤ 1024) (fun i l r => some ((t, (o5 t.2.1.length r l (deep + 1)).1), (o5 t.2.1.length r l (deep + 1)).2)) (fun S l _ => ?_) (fun S i l v r hi hv hr hc ih => ?_) (e.kids.length + 1) (Lv _) left hl
 ·rw [hstep]
  simp only [zM, Lj, o5]
 ·rw [hstep]
  have g := Tt (k := k) (left := l) (deep := deep + 1) ht hok hc ⟨by omega, by omega⟩ (Ls hv) hs
  simp only [zX hi, z1, zE hv, Lr, Lk, nx (show i ≤ _ by omega), Rose.eta, WN h2.1 (show deep ≤ _ by omega), g, Lm, o5]
  obtain ⟨q1, q2, q3⟩ := gO t.2.1.length v l (deep + 1) hc.1
  cases hm : (ry t.2.1.length v l (deep + 1)).2 with
  | false => rfl
  | true =>
   simp only [LA, Lj]
   exact ih (ry t.2.1.length v l (deep + 1)).1 ⟨q3 hm, by omega⟩
theorem PU (k : Nat) : ∀ X Y, Y8 (k + 1) X = some Y → ∃ n, @f68.g ⟨Y8 k⟩ n X = some Y := by
 rintro ⟨⟨t, left⟩, e, deep⟩ y hh
 obtain ⟨ho, rfl⟩ := zr hh
 simp only [goW, Li, Lt] at ho
 obtain ⟨⟨ht, hok, l0, l1, d0, d1⟩, hs⟩ := ho
 obtain ⟨_, hv, _, _, _⟩ := u6 hok
 letI : Rec68 := ⟨Y8 k⟩
 refine ⟨e.kids.length + 1, ?_⟩
 have hw : IntKind.wrap .i64 (left - (1 : Int)) = left - 1 := xU (by omega) (by omega)
 have hchk : F75 e.lab.2.2.2 = some (zO e.lab.2.2.2) := s8 (by
  simp only [okZ, Li] at hv
  exact hv.1)
 show f68.g (e.kids.length + 1) ((t, left), (e, deep)) = some ((t, (ry t.2.1.length e left deep).1), (ry t.2.1.length e left deep).2)
 have hl1 : 0 ≤ left - 1 → (0 ≤ left - 1 ∧ left - 1 ≤ 1024) := fun h => ⟨h, by omega⟩
 simp only [f68.g, hw, yf, zW, QH]
 cases hc : decide (left - 1 < 0) || decide (deep > 100) with
 | true => rfl
 | false =>
  simp only [Bool.or_eq_false_iff, decide_eq_false_iff_not] at hc
  have hl : 0 ≤ left - 1 ∧ left - 1 ≤ 1024 := ⟨by omega, by omega⟩
  have hd : 0 ≤ deep ∧ deep ≤ 100 := ⟨d0, by omega⟩
  have L1 := fun r3 r4 => qM (step := f68.s1 (e.kids.length + 1) ((t, left), (e, deep)) r3 r4) ht hok hd hs (fun S y => rfl) hl
  have L2 := fun r3 r4 => qM (step := f68.s2 (e.kids.length + 1) ((t, left), (e, deep)) r3 r4) ht hok hd hs (fun S y => rfl) hl
  have L3 := fun r3 r4 r5 => qM (step := f68.s3 (e.kids.length + 1) ((t, left), (e, deep)) r3 r4 r5) ht hok hd hs (fun S y => rfl) hl
  have L4 := fun r3 => qM (step := f68.s4 (e.kids.length + 1) ((t, left), (e, deep)) r3) ht hok hd hs (fun S y => rfl) hl
  simp only [Lj, hchk, Lm, fA, fP, gH, Zo, PI, Q9, VF, XO, rN, wF, Qf, L1, L2, L3, L4]
  generalize o5 t.2.1.length e.kids (left - 1) (deep + 1) = M
  generalize e.kids.length = m
  obtain ⟨k0, op, c, v⟩ := e.lab
  simp only
  have ea : zd op (⟨#[97, 110, 100]⟩ : ByteArray) = zd op xY := rfl
  have eo : zd op (⟨#[111, 114]⟩ : ByteArray) = zd op orS := rfl
  have en : zd op (⟨#[]⟩ : ByteArray) = zd op noS := rfl
  simp only [ea, eo, en]
  by_cases e1 : k0 = 1
  ·subst e1
   simp only [show ((1 : Int) == 1) = true from rfl, show ((1 : Int) == 2) = false from rfl, Bool.true_or, Lk]
   cases m == 0 <;> cases zd op noS <;> cases c == 0 <;> rfl
  by_cases e2 : k0 = 2
  ·subst e2
   simp only [show ((2 : Int) == 1) = false from rfl, show ((2 : Int) == 2) = true from rfl, Bool.or_true, Lk, Lj]
   cases m == 0 <;> cases zd op noS <;> cases decide (c ≥ 0) <;> cases decide (c < (t.2.1.length : Int)) <;> rfl
  have f1 : (k0 == 1) = false := by simpa using e1
  have f2 : (k0 == 2) = false := by simpa using e2
  simp only [f1, f2, Bool.or_self, Lj]
  by_cases e3 : k0 = 3
  ·subst e3
   simp only [show ((3 : Int) == 3) = true from rfl, Lk, bne]
   cases m == 1 <;> cases inS unL op <;> cases c == 0 <;> cases wJ v <;> rfl
  by_cases e4 : k0 = 4
  ·subst e4
   simp only [show ((4 : Int) == 3) = false from rfl, show ((4 : Int) == 4) = true from rfl, Lk, Lj, bne]
   cases m == 2 <;> cases inS arL op <;> cases inS cpL op <;> cases zd op xY <;> cases zd op orS <;> cases c == 0 <;> cases wJ v <;> rfl
  by_cases e5 : k0 = 5
  ·subst e5
   simp only [show ((5 : Int) == 3) = false from rfl, show ((5 : Int) == 4) = false from rfl, show ((5 : Int) == 5) = true from rfl, Lk, Lj, bne]
   cases decide (m ≥ 2) <;> cases zd op noS <;> cases c == 0 <;> cases wJ v <;> rfl
  ·have f3 : (k0 == 3) = false := by simpa using e3
   have f4 : (k0 == 4) = false := by simpa using e4
   have f5 : (k0 == 5) = false := by simpa using e5
   simp only [f3, f4, f5, Lj, Bool.false_and, LN, Lk]
theorem jN : ∀ k, ConOk Tryz.prog 68 (qm (.pair tTable (.int .i64)) [(true, tExpr), (false, .int .i64)] [(false, .bool)] (Y8 k))
 | 0 => i7 fun X => by unfold Y8; simp [yM]
 | k + 1 => @f68.ok ⟨Y8 k⟩ (Y8 (k + 1)) (PU k) (jN k) tg s7 bp
theorem WI : ConOk Tryz.prog 68 Sf := l6 jN fun X Y h => by
 obtain ⟨ho, rfl⟩ := zr h
 exact ⟨zT X.2.1 + 1, zo (by rw [ho]; exact Ln (Lv _))⟩
end Go.Proofs.YtefddghdaimklaaGreatDoor.AI
/- The plain laws of the runs: nodes of the reference, kinds, checks. -/
namespace Go.Proofs.YtefddghdaimklaaGreatDoor.AI
open Go
theorem Od (k : Nat) : ∀ X Y, TQ (k + 1) X = some Y → ∃ n, @f78.g ⟨TQ k⟩ n X = some Y := by
 rintro ⟨e, had, deep⟩ y hh
 obtain ⟨ho, rfl⟩ := zr hh
 simp only [goN, Li, Lt] at ho
 obtain ⟨⟨hok, h0, h1, d0, d1⟩, hs⟩ := ho
 have hsz := (u6 hok).2.2.2.2
 have hlen := wI e.kids
 letI : Rec78 := ⟨TQ k⟩
 refine ⟨e.kids.length + 1, ?_⟩
 show f78.g (e.kids.length + 1) (e, had, deep) = some (xi e had deep)
 rw [Xr]
 simp only [f78.g, WN h0 (show had ≤ _ by omega), yf]
 cases hc : decide (had + 1 > 1024) || decide (deep > 100) with
 | true => rfl
 | false =>
  simp only [Bool.or_eq_false_iff, decide_eq_false_iff_not] at hc
  simp only [Lj]
  refine zP (step := f78.s1 (e.kids.length + 1) (e, had, deep)) e.kids (fun i (p : Int × Bool) => (p.1, (p.2, (i : Int)))) (fun i p => p.2 = true → 0 ≤ p.1 ∧ p.1 ≤ 1024) (fun i p r => some (bif p.2 then uv r p.1 (deep + 1) else (p.1, false))) (fun S p _ => ?_) (fun S i p v r hi hv hr hp ih => ?_) (e.kids.length + 1) (Lv _) (had + 1, true) (fun _ => ⟨by omega, by omega⟩)
  ·obtain ⟨p, b⟩ := p
   cases b <;> simp only [f78.s1, zM, Lj, Lk, uv]
  ·obtain ⟨p, b⟩ := p
   cases b with
   | false => simp only [f78.s1, zX hi, Lj, Lk]
   | true =>
    obtain ⟨p0, p1⟩ := hp rfl
    obtain ⟨q1, q2⟩ := wM hok (Ls hv)
    have g : (Rec78.F (v, p, deep + 1) : Option (Int × Bool)) = some (xi v p (deep + 1)) := zo (by
     have hd : zT v < k := by rw [ud] at hs; omega
     simp only [goN, q1, Ln p0, Ln p1, Ln (show 0 ≤ deep + 1 by omega), Ln (show deep + 1 ≤ 101 by omega), Ln hd, Lr])
    simp only [f78.s1, zX hi, z1, zE hv, Lr, Lk, nx (show i ≤ _ by omega), Rose.eta, WN d0 (show deep ≤ _ by omega), g, Lm, uv]
    obtain ⟨w1, _⟩ := tN v p (deep + 1)
    refine (ih (xi v p (deep + 1)) (fun h => ?_)).trans ?_
    ·obtain ⟨a1, a2, a3⟩ := w1 h
     omega
    ·cases (xi v p (deep + 1)).2 <;> rfl
theorem jZ : ∀ k, ConOk Tryz.prog 78 (zj [(true, tExpr), (false, .int .i64), (false, .int .i64)] [(false, .int .i64), (false, .bool)] true (TQ k))
 | 0 => xf fun X => by unfold TQ; simp [yM]
 | k + 1 => @f78.ok ⟨TQ k⟩ (TQ (k + 1)) (Od k) (jZ k)
theorem Vs : ConOk Tryz.prog 78 T0 := xb jZ fun X Y h => by
 obtain ⟨ho, rfl⟩ := zr h
 exact ⟨zT X.1 + 1, zo (by rw [ho]; exact Ln (Lv _))⟩
theorem WF (op : ByteArray) : inS biL op = (inS arL op || (inS cpL op || (zd op xY || zd op orS))) := by
 have : inS biL op = inS (arL ++ (cpL ++ [xY, orS])) op := rfl
 rw [this, mv op xY, mv op orS]
 unfold inS
 simp only [List.any_append, List.any_cons, List.any_nil, Bool.or_false]
theorem Pg (k : Nat) : ∀ X Y, TW (k + 1) X = some Y → ∃ n, @f79.g ⟨TW k⟩ n X = some Y := by
 rintro ⟨t, e⟩ y hh
 obtain ⟨ho, rfl⟩ := zr hh
 simp only [Li, Lt] at ho
 obtain ⟨ht, hok, hs⟩ := ho
 have hsz := (u6 hok).2.2.2.2
 have hv := (u6 hok).2.1
 have hlen := wI e.kids
 letI : Rec79 := ⟨TW k⟩
 refine ⟨e.kids.length + 1, ?_⟩
 show f79.g (e.kids.length + 1) (t, e) = some (yS t.2.1.length e)
 have hchk : F37 e.lab.2.2.2 = some (zO e.lab.2.2.2) := my (by
  simp only [okZ, Li] at hv
  exact hv.1)
 have := zP (step := f79.s1 (e.kids.length + 1) (t, e)) e.kids (fun i (_ : Unit) => (i : Int)) (fun _ _ => True) (fun i _ r => some (bif ux t.2.1.length r then wt t.2.1.length e.lab e.kids.length else false)) (fun S c _ => by
  simp only [f79.s1, zM, Lj, yf, zW, hchk, Lm, fA, fP, gH, Zo, VU, Qs, Qp, O1, Nd, WF, wt, rN, wF, Qf, ux, Lk]
  generalize e.kids.length = m
  obtain ⟨k0, op, c, v⟩ := e.lab
  simp only
  have en : zd op (⟨#[]⟩ : ByteArray) = zd op noS := rfl
  simp only [en]
  by_cases e1 : k0 = 1
  ·subst e1
   simp only [show ((1 : Int) == 1) = true from rfl, show ((1 : Int) == 2) = false from rfl, Bool.true_or, Lk]
   cases m == 0 <;> cases zd op noS <;> cases c == 0 <;> rfl
  by_cases e2 : k0 = 2
  ·subst e2
   simp only [show ((2 : Int) == 1) = false from rfl, show ((2 : Int) == 2) = true from rfl, Bool.or_true, Lk, Lj]
   cases m == 0 <;> cases zd op noS <;> cases decide (c ≥ 0) <;> cases decide (c < (t.2.1.length : Int)) <;> cases wJ v <;> rfl
  have f1 : (k0 == 1) = false := by simpa using e1
  have f2 : (k0 == 2) = false := by simpa using e2
  simp only [f1, f2, Bool.or_self, Lj]
  by_cases e3 : k0 = 3
  ·subst e3
   simp only [show ((3 : Int) == 3) = true from rfl, Lk]
   cases m == 1 <;> cases inS unL op <;> cases c == 0 <;> cases wJ v <;> rfl
  by_cases e4 : k0 = 4
  ·subst e4
   simp only [show ((4 : Int) == 3) = false from rfl, show ((4 : Int) == 4) = true from rfl, Lk, Lj]
   cases m == 2 <;> cases inS arL op <;> cases inS cpL op <;> cases zd op xY <;> cases zd op orS <;> cases c == 0 <;> cases wJ v <;> rfl
  by_cases e5 : k0 = 5
  ·subst e5
   simp only [show ((5 : Int) == 3) = false from rfl, show ((5 : Int) == 4) = false from rfl, show ((5 : Int) == 5) = true from rfl, Lk, Lj]
   cases decide (m ≥ 2) <;> cases zd op noS <;> cases c == 0 <;> cases wJ v <;> rfl
  ·have f3 : (k0 == 3) = false := by simpa using e3
   have f4 : (k0 == 4) = false := by simpa using e4
   have f5 : (k0 == 5) = false := by simpa using e5
   simp only [f3, f4, f5, Lj, Bool.false_and]) (fun S i c v r hi hv hr hc ih => by
  obtain ⟨q1, q2⟩ := wM hok (Ls hv)
  have hd : zT v < k := by rw [ud] at hs; omega
  have g : (Rec79.F (t, v) : Option Bool) = some (yS t.2.1.length v) := zo (by simp only [ht, q1, Ln hd, Lr])
  simp only [f79.s1, zX hi, z1, zE hv, Lr, Lk, nx (show i ≤ _ by omega), Rose.eta, g, Lm, ux]
  cases yS t.2.1.length v with
  | false => rfl
  | true => exact ih () trivial) (e.kids.length + 1) (Lv _) () trivial
 refine (show f79.g (e.kids.length + 1) (t, e) = _ from this).trans ?_
 rw [tY]
 cases ux t.2.1.length e.kids <;> simp
theorem km : ∀ k, ConOk Tryz.prog 79 (zj [(true, tTable), (true, tExpr)] [(false, .bool)] true (TW k))
 | 0 => xf fun X => by unfold TW; simp [yM]
 | k + 1 => @f79.ok ⟨TW k⟩ (TW (k + 1)) (Pg k) mw (km k) ml Yj aK bu
theorem Vz : ConOk Tryz.prog 79 TA := xb km fun X Y h => by
 obtain ⟨ho, rfl⟩ := zr h
 simp only [Li] at ho
 exact ⟨zT X.2 + 1, zo (by simp only [ho.1, ho.2, LK]; exact Ln (Lv _))⟩
theorem pu : ConOk Tryz.prog 132 py := f132.ok (fun x y h => ⟨0, by cases h; simp only [f132.g, yf, wC]⟩)
theorem ez : ConOk Tryz.prog 49 ZK := f49.ok (fun x y h => ⟨0, by cases h; simp only [f49.g, yf, uq]⟩)
theorem TH : ∀ X Y, VO X = some Y → ∃ n, f133.g n X = some Y := by
 rintro ⟨a, b⟩ y h
 cases h
 refine ⟨0, ?_⟩
 simp only [f133.g, iU, Lm, oS, yf, zW]
 cases a == b <;> cases wC a <;> cases wC b <;> cases a == 0 <;> cases b == 0 <;> rfl
theorem cU : ConOk Tryz.prog 133 Z7 := f133.ok TH pu
theorem SK : ∀ X Y, Qa X = some Y → ∃ n, f116.g n X = some Y := by
 rintro ⟨op, a, b⟩ y h
 cases h
 refine ⟨0, ?_⟩
 have er : zd op (⟨#[37]⟩ : ByteArray) = zd op iL := rfl
 simp only [f116.g, d6, Lm, vW, Uf, yf, zW, er, bne]
 by_cases ha : a = 0
 ·subst ha
  simp only [show ((0 : Int) == 0) = true from rfl, Lk, LA, Bool.and_false, Lj, Bool.or_false]
  cases hb : b == 0 with
  | true => rfl
  | false => cases wC b <;> cases wC 0 <;> cases zd op iL <;> cases b == 3 <;> cases (0 : Int) == 3 <;> rfl
 ·have ea : (a == 0) = false := by simpa using ha
  simp only [ea, Lj]
  cases wC a <;> cases wC b <;> cases zd op iL <;> cases a == 3 <;> cases b == 3 <;> cases b == 0 <;> rfl
theorem bL : ConOk Tryz.prog 116 Yx := f116.ok SK oE
theorem Rp : ∀ X Y, Qe X = some Y → ∃ n, f135.g n X = some Y := by
 rintro ⟨op, a, b⟩ y h
 cases h
 refine ⟨0, ?_⟩
 have er : zd op (⟨#[37]⟩ : ByteArray) = zd op iL := rfl
 simp only [f135.g, iU, Lm, rC, Qb, yf, zW, er]
 cases ha : a == 0 with
 | true =>
  simp only [Lk]
  cases b == 0 <;> cases zd op iL <;> cases wC b <;> cases wC a <;> cases b == 2 <;> cases a == 2 <;> rfl
 | false =>
  simp only [Lj]
  cases zd op iL <;> cases wC b <;> cases wC a <;> cases b == 2 <;> cases a == 2 <;> cases b == 0 <;> rfl
theorem a7 : ConOk Tryz.prog 135 al := f135.ok Rp pu
theorem sG (cs : List Int) : ∀ (ks : List zn) (l : List Int), xA cs ks = some l → l.length = ks.length
 | [], l, h => by simp only [xA, Lp] at h; subst h; rfl
 | k :: r, l, h => by
  simp only [xA] at h
  cases hk : (yW cs k).2 with
  | false => rw [hk] at h; cases h
  | true =>
   rw [hk] at h
   simp only [LA, Lj] at h
   cases hr : xA cs r with
   | none => rw [hr] at h; cases h
   | some l' =>
    rw [hr] at h
    cases h
    simp [sG cs r l' hr]
theorem nW {n : Nat} {cs : List Int} {e : zn} (hf : yS n e = true) : (mG cs e).2 = (yW cs e).2 ∧ ((yW cs e).2 = true → (mG cs e).1 = (yW cs e).1) := by
 rw [tY] at hf
 simp only [Li] at hf
 rw [gf]
 unfold mG
 cases hl : xA cs e.kids with
 | none => exact ⟨rfl, fun _ => rfl⟩
 | some l => exact ZM hf.1 (sG cs _ _ hl)
theorem m7 (t : zg) (c : Int) (h0 : 0 ≤ c) (h1 : c < (t.2.1.length : Int)) : (yG t).getD c.toNat 0 = (t.2.1.getD c.toNat tColumn.dflt).2.1 := by
 have hlt : c.toNat < t.2.1.length := by omega
 simp [yG, List.getD, LC hlt]
theorem qo {m : Nat} (h : 0 < m) : (decide (0 ≤ (0 : Int)) && decide ((0 : Int) < ((m : Nat) : Int))) = true := by simp; omega
theorem Yl {m : Nat} (h : 1 < m) : (decide (0 ≤ (1 : Int)) && decide ((1 : Int) < ((m : Nat) : Int))) = true := by simp; omega
theorem Ur {m : Nat} (h : 1 ≤ m) : (decide (0 ≤ (1 : Int)) && decide ((1 : Int) ≤ ((m : Nat) : Int))) = true := by simp; omega
theorem Vm (m : Nat) : (((m : Nat) : Int) == (1 : Int)) = (m == 1) := by rw [Bool.eq_iff_iff, beq_iff_eq, beq_iff_eq]; omega
theorem W7 {n : Nat} {t : zg} {e : zn} {l : List Int} (hn : wt t.2.1.length e.lab l.length = true) (hl : okB 8 l = true) (S : Int × Nat × List Int → Option (Int × Bool)) [Rec69] (hk : l.length = e.kids.length) :
  f69.s1 n (t, e) S ((e.kids.length : Int), (l.length, l)) = some (wY (yG t) e.lab l) := by
 simp only [f69.s1, zM, Lj, yf, zW, Lz, VF, d6, F41, Ub, Qa, Lm, Vm]
 generalize e.lab = a at hn ⊢
 obtain ⟨k0, op, c, v⟩ := a
 simp only [wY]
 have e1 : zd op (⟨#[45]⟩ : ByteArray) = zd op cq := rfl
 have e2 : zd op (⟨#[110, 111, 116]⟩ : ByteArray) = zd op tG := rfl
 have e3 : zd op (⟨#[97, 110, 100]⟩ : ByteArray) = zd op xY := rfl
 have e4 : zd op (⟨#[111, 114]⟩ : ByteArray) = zd op orS := rfl
 simp only [e1, e2, e3, e4]
 by_cases h1 : k0 = 1
 ·subst h1; rfl
 by_cases h2 : k0 = 2
 ·subst h2
  simp only [wt, rN, show ((2 : Int) == 1) = false from rfl, show ((2 : Int) == 2) = true from rfl, Bool.or_true, Lk, Lj, Li, Lt] at hn ⊢
  have hc : (decide (0 ≤ c) && decide (c < (t.2.1.length : Int))) = true := by simp only [Li, Lt]; exact ⟨hn.2.2.1, hn.2.2.2.1⟩
  rw [hc, m7 t c hn.2.2.1 hn.2.2.2.1]; rfl
 have f1 : (k0 == 1) = false := by simpa using h1
 have f2 : (k0 == 2) = false := by simpa using h2
 simp only [wt, f1, f2, Bool.or_self, Lj, wF, Li] at hn
 simp only [f1, f2, Lj]
 rcases vn hn.1 with ⟨q1, q2, q3⟩ | ⟨q1, q2, q3⟩ | ⟨q1, q2, q3⟩ <;> simp only at q1 q3 <;> subst q1
 ·simp only [show ((3 : Int) == 5) = false from rfl, show ((3 : Int) == 3) = true from rfl, Lk, Lj, q2, show ((1 : Nat) == 1) = true from rfl, Bool.and_true, qo (show 0 < 1 by omega)]
  cases zd op cq with
  | true =>
   simp only [Lk]
   show (bif wC (l.getD 0 0) then some (l.getD 0 0, true) else some (l.getD 0 0, l.getD 0 0 == 0)) = _
   cases wC (l.getD 0 0) <;> rfl
  | false =>
   simp only [Lj]
   cases zd op tG <;> rfl
 ·simp only [show ((4 : Int) == 5) = false from rfl, show ((4 : Int) == 3) = false from rfl, Lk, Lj, q2, show ((2 : Nat) == 1) = false from rfl, Bool.and_false, qo (show 0 < 2 by omega), Yl (show 1 < 2 by omega)]
  show (bif zd op tG then some (1, uq (l.getD 0 0)) else bif inS cpL op then some (1, oS (l.getD 0 0) (l.getD 1 0)) else bif zd op xY || zd op orS then (bif uq (l.getD 0 0) then some (1, uq (l.getD 1 0)) else some (1, false)) else some (vW op (l.getD 0 0) (l.getD 1 0))) = _
  cases zd op tG with
  | true => rfl
  | false =>
   cases inS cpL op with
   | true => rfl
   | false =>
    cases zd op xY || zd op orS with
    | true => simp only [Lj, Lk]; cases uq (l.getD 0 0) <;> rfl
    | false => rfl
 ·simp only [show ((5 : Int) == 5) = true from rfl, Lk, Ur (show 1 ≤ l.length by omega)]
  have g : R5 (List.drop 1 l, l) = some ((l.drop 1).any fun y => !oS (l.getD 0 0) y) := by
   show (bif okB 8 (List.drop 1 l) && decide (0 < l.length) then _ else _) = _
   have h8 : okB 8 (List.drop 1 l) = true := by
    have := xJ.1 hl
    refine xJ.2 ?_
    have h3 : (List.drop 1 l).length * 8 ≤ l.length * 8 := LG _ (by rw [List.length_drop]; exact Nat.sub_le _ _)
    omega
   rw [h8, Ln (show 0 < l.length by omega)]; rfl
  rw [g]; rfl
theorem nZ {m : Nat} (h : m ≤ 1048576) : decide ((m + 1) * 8 ≤ zq) = true := Ln (by have : zq = 140737488355328 := rfl; omega)
theorem Zc {l : List Int} (h : l.length ≤ 1048576) : okB 8 l = true := xJ.2 (by omega)
theorem PP (k : Nat) : ∀ X Y, US (k + 1) X = some Y → ∃ n, @f69.g ⟨US k⟩ n X = some Y := by
 rintro ⟨t, e⟩ y hh
 obtain ⟨ho, rfl⟩ := zr hh
 simp only [Li, Lt] at ho
 obtain ⟨ht, hok, hf, hs⟩ := ho
 have hsz := (u6 hok).2.2.2.2
 have hlen := wI e.kids
 have hf' := hf
 rw [tY] at hf'
 simp only [Li] at hf'
 letI : Rec69 := ⟨US k⟩
 refine ⟨e.kids.length + 1, ?_⟩
 show f69.g (e.kids.length + 1) (t, e) = some (yW (yG t) e)
 have := zP (step := f69.s1 (e.kids.length + 1) (t, e)) e.kids (fun i (acc : List Int) => ((i : Int), (acc.length, acc))) (fun i acc => acc.length = i) (fun i acc r => some (match xA (yG t) r with | none => (0, false) | some l => wY (yG t) e.lab (acc ++ l))) (fun S acc hacc => by
  rw [W7 (by rw [hacc]; exact hf'.1) (Zc (by omega)) S hacc]
  simp only [xA, List.append_nil]) (fun S i acc v r hi hv hr hacc ih => by
  obtain ⟨q1, q2⟩ := wM hok (Ls hv)
  have hd : zT v < k := by rw [ud] at hs; omega
  have hfv := rx hf'.2 v (Ls hv)
  have g : (Rec69.F (t, v) : Option (Int × Bool)) = some (yW (yG t) v) := zo (by simp only [ht, q1, hfv, Ln hd, Lr])
  simp only [f69.s1, zX hi, z1, zE hv, Lr, Lk, nx (show i ≤ _ by omega), Rose.eta, g, Lm, xA, nZ (show acc.length ≤ 1048576 by omega), Lz]
  cases hk : (yW (yG t) v).2 with
  | false => rfl
  | true =>
   simp only [LA, Lj]
   have e1 : acc.length + 1 = (acc ++ [(yW (yG t) v).1]).length := by simp
   rw [e1, ih (acc ++ [(yW (yG t) v).1]) (by simp [hacc])]
   cases xA (yG t) r with
   | none => rfl
   | some l => simp only [LL, List.singleton_append]) (e.kids.length + 1) (Lv _) [] rfl
 refine (show f69.g (e.kids.length + 1) (t, e) = _ from this).trans ?_
 rw [gf]
 cases xA (yG t) e.kids <;> rfl
theorem lS : ∀ k, ConOk Tryz.prog 69 (zj [(true, tTable), (true, tExpr)] [(false, .int .i64), (false, .bool)] true (US k))
 | 0 => xf fun X => by unfold US; simp [yM]
 | k + 1 => @f69.ok ⟨US k⟩ (US (k + 1)) (PP k) fH (lS k) fc s7 ol oE bL
theorem Vj : ConOk Tryz.prog 69 SJ := xb lS fun X Y h => by
 obtain ⟨ho, rfl⟩ := zr h
 simp only [Li] at ho
 exact ⟨zT X.2 + 1, zo (by simp only [ho.1, ho.2.1, ho.2.2, LK]; exact Ln (Lv _))⟩
end Go.Proofs.YtefddghdaimklaaGreatDoor.AI
/- The plain laws of the runs: kinds in the reference, checks. -/
namespace Go.Proofs.YtefddghdaimklaaGreatDoor.AI
open Go
theorem SF (op : ByteArray) : Pw op = some (inS arL op) := rfl
theorem ai [Rec80] (m : Nat) (x : zg × zn) (l : List Int) (i0 : Int) (hl : 1 ≤ l.length) (hb : l.length ≤ 1048576) (hm : l.length ≤ m) :
  zF (f80.s1 m x (l.length, (i0, l))) m (1 : Int) = some (bif (l.drop 1).any fun y => !oS (l.getD 0 0) y then (0, false) else (1, true)) := by
 have hd : (l.drop 1).length = l.length - 1 := by simp
 have := zP (step := f80.s1 m x (l.length, (i0, l))) (l.drop 1) (fun i (_ : Unit) => ((i + 1 : Nat) : Int)) (fun _ _ => True) (fun _ _ r => some (bif r.any fun y => !oS (l.getD 0 0) y then ((0 : Int), false) else (1, true))) (fun S _ _ => by
  have e : decide ((((l.drop 1).length + 1 : Nat) : Int) < (l.length : Int)) = false := by rw [hd]; simp; omega
  simp only [f80.s1, e, Lj, List.any_nil]) (fun S i _ v r hi hv hr _ ih => by
  have e1 : decide (((i + 1 : Nat) : Int) < (l.length : Int)) = true := Ln (by omega)
  have e2 : decide (0 ≤ ((i + 1 : Nat) : Int)) = true := Ln (by omega)
  have e3 : l.getD ((i + 1 : Nat) : Int).toNat (Ty.dflt (.int .i64)) = v := by
   have : l[i + 1]? = some v := by rw [List.getElem?_drop] at hv; rw [Nat.add_comm]; exact hv
   exact zE this
  simp only [f80.s1, e1, e2, e3, qo (show 0 < l.length by omega), Lr, Lk, VO, Lm, nx (show i + 1 ≤ _ by omega), List.any_cons]
  show (bif !oS (l.getD 0 0) v then _ else _) = _
  cases oS (l.getD 0 0) v with
  | false => rfl
  | true => exact ih () trivial) m (by omega) () trivial
 exact this
theorem bg [Rec80] {m : Nat} {t : zg} {e : zn} {l : List Int} (hn : wt t.2.1.length e.lab l.length = true) (hb : l.length ≤ 1048576) (hm : l.length ≤ m) (S : Nat × Int × List Int → Option (Int × Bool)) (hk : l.length = e.kids.length) :
  f80.s2 m (t, e) S (l.length, ((e.kids.length : Int), l)) = some (iB (yG t) e.lab l) := by
 simp only [f80.s2, zM, Lj, F50, iU, F49, VO, Qe, SF, Lm]
 generalize hlab : e.lab = a at hn ⊢
 obtain ⟨k0, op, c, v⟩ := a
 simp only [iB]
 have e1 : zd op (⟨#[45]⟩ : ByteArray) = zd op cq := rfl
 have e2 : zd op (⟨#[110, 111, 116]⟩ : ByteArray) = zd op tG := rfl
 simp only [e1, e2]
 by_cases h1 : k0 = 1
 ·subst h1; rfl
 by_cases h2 : k0 = 2
 ·subst h2
  simp only [wt, rN, show ((2 : Int) == 1) = false from rfl, show ((2 : Int) == 2) = true from rfl, Bool.or_true, Lk, Lj, Li, Lt] at hn ⊢
  have hc : (decide (0 ≤ c) && decide (c < (t.2.1.length : Int))) = true := by simp only [Li, Lt]; exact ⟨hn.2.2.1, hn.2.2.2.1⟩
  rw [hc, m7 t c hn.2.2.1 hn.2.2.2.1]; rfl
 have f1 : (k0 == 1) = false := by simpa using h1
 have f2 : (k0 == 2) = false := by simpa using h2
 simp only [wt, f1, f2, Bool.or_self, Lj, wF, Li] at hn
 simp only [f1, f2, Lj]
 rcases vn hn.1 with ⟨q1, q2, q3⟩ | ⟨q1, q2, q3⟩ | ⟨q1, q2, q3⟩ <;> simp only at q1 q3 <;> subst q1
 ·simp only [show ((3 : Int) == 3) = true from rfl, Lk, Lj, qo (show 0 < l.length by omega)]
  cases zd op cq with
  | true =>
   simp only [Lk]
   show (bif wC (l.getD 0 0) then some (l.getD 0 0, true) else some (l.getD 0 0, l.getD 0 0 == 0)) = _
   cases wC (l.getD 0 0) <;> rfl
  | false =>
   simp only [Lj]
   cases zd op tG <;> rfl
 ·simp only [show ((4 : Int) == 5) = false from rfl, show ((4 : Int) == 3) = false from rfl, Lk, Lj, qo (show 0 < l.length by omega), Yl (show 1 < l.length by omega)]
  show (bif inS arL op then some (rC op (l.getD 0 0) (l.getD 1 0)) else bif inS cpL op then some (1, oS (l.getD 0 0) (l.getD 1 0)) else (bif uq (l.getD 0 0) then some (1, uq (l.getD 1 0)) else some (1, false))) = _
  cases inS arL op with
  | true => rfl
  | false =>
   cases inS cpL op with
   | true => rfl
   | false => simp only [Lj]; cases uq (l.getD 0 0) <;> rfl
 ·simp only [show ((5 : Int) == 5) = true from rfl, show ((5 : Int) == 3) = false from rfl, Lk, Lj]
  exact ai m (t, e) l _ (by omega) hb hm
theorem P2 (k : Nat) : ∀ X Y, Uu (k + 1) X = some Y → ∃ n, @f80.g ⟨Uu k⟩ n X = some Y := by
 rintro ⟨t, e⟩ y hh
 obtain ⟨ho, rfl⟩ := zr hh
 simp only [Li, Lt] at ho
 obtain ⟨ht, hok, hf, hs⟩ := ho
 have hsz := (u6 hok).2.2.2.2
 have hlen := wI e.kids
 have hf' := hf
 rw [tY] at hf'
 simp only [Li] at hf'
 letI : Rec80 := ⟨Uu k⟩
 refine ⟨e.kids.length + 1, ?_⟩
 show f80.g (e.kids.length + 1) (t, e) = some (mG (yG t) e)
 have := zP (step := f80.s2 (e.kids.length + 1) (t, e)) e.kids (fun i (acc : List Int) => (acc.length, ((i : Int), acc))) (fun i acc => acc.length = i) (fun i acc r => some (match xA (yG t) r with | none => (0, false) | some l => iB (yG t) e.lab (acc ++ l))) (fun S acc hacc => by
  rw [bg (by rw [hacc]; exact hf'.1) (by omega) (by omega) S hacc]
  simp only [xA, List.append_nil]) (fun S i acc v r hi hv hr hacc ih => by
  obtain ⟨q1, q2⟩ := wM hok (Ls hv)
  have hd : zT v < k := by rw [ud] at hs; omega
  have hfv := rx hf'.2 v (Ls hv)
  have g : (Rec80.F (t, v) : Option (Int × Bool)) = some (mG (yG t) v) := zo (by simp only [ht, q1, hfv, Ln hd, Lr])
  obtain ⟨w1, w2⟩ := nW (cs := yG t) hfv
  simp only [f80.s2, zX hi, z1, zE hv, Lr, Lk, nx (show i ≤ _ by omega), Rose.eta, g, Lm, xA, nZ (show acc.length ≤ 1048576 by omega), Lz, w1]
  cases hk : (yW (yG t) v).2 with
  | false => rfl
  | true =>
   simp only [LA, Lj, w2 hk]
   have e1 : acc.length + 1 = (acc ++ [(yW (yG t) v).1]).length := by simp
   rw [e1, ih (acc ++ [(yW (yG t) v).1]) (by simp [hacc])]
   cases xA (yG t) r with
   | none => rfl
   | some l => simp only [LL, List.singleton_append]) (e.kids.length + 1) (Lv _) [] rfl
 refine (show f80.g (e.kids.length + 1) (t, e) = _ from this).trans ?_
 unfold mG
 cases xA (yG t) e.kids <;> rfl
theorem jH : ∀ k, ConOk Tryz.prog 80 (zj [(true, tTable), (true, tExpr)] [(false, .int .i64), (false, .bool)] true (Uu k))
 | 0 => xf fun X => by unfold Uu; simp [yM]
 | k + 1 => @f80.ok ⟨Uu k⟩ (Uu (k + 1)) (P2 k) ez fG (jH k) pu cU ao a7
theorem WT : ConOk Tryz.prog 80 Rx := xb jH fun X Y h => by
 obtain ⟨ho, rfl⟩ := zr h
 simp only [Li] at ho
 exact ⟨zT X.2 + 1, zo (by simp only [ho.1, ho.2.1, ho.2.2, LK]; exact Ln (Lv _))⟩
theorem Ql : ∀ X Y, F40 X = some Y → ∃ n, f40.g n X = some Y := by
 rintro ⟨t, e⟩ y hh
 obtain ⟨ho, rfl⟩ := zr hh
 simp only [Li] at ho
 obtain ⟨ht, hok⟩ := ho
 refine ⟨0, ?_⟩
 have g1 : F58 t = some (xw t) := by show (bif okT t then _ else _) = _; rw [ht]; rfl
 have g2 : F68 ((t, 1024), e, 1) = some ((t, (ry t.2.1.length e 1024 1).1), (ry t.2.1.length e 1024 1).2) := zo (by simp [goW, ht, hok])
 simp only [f40.g, Rose.eta, g1, g2, Lm, yB, Ri]
 cases hc : xw t != 0 with
 | true => rfl
 | false =>
  simp only [Lj]
  cases hm : cp t e with
  | false => rfl
  | true =>
   have hf : yS t.2.1.length e = true := by unfold cp at hm; simp only [Li] at hm; exact hm.2.2
   have g3 : F69 (t, e) = some (yW (yG t) e) := zo (by simp only [ht, hok, hf, Lr])
   simp only [LA, Lj, g3, Lm]
   cases (yW (yG t) e).2 <;> rfl
theorem li : ConOk Tryz.prog 40 hZ := f40.ok Ql mP WI Vj
theorem P0 : ∀ X Y, F48 X = some Y → ∃ n, f48.g n X = some Y := by
 rintro ⟨t, e⟩ y hh
 obtain ⟨ho, rfl⟩ := zr hh
 simp only [Li] at ho
 obtain ⟨ht, hok⟩ := ho
 refine ⟨0, ?_⟩
 have g1 : F77 t = some (xw t) := by show (bif okT t then _ else _) = _; rw [ht]; rfl
 have g2 : F78 (e, 0, 1) = some (xi e 0 1) := zo (by simp [goN, hok])
 have g4 : F79 (t, e) = some (yS t.2.1.length e) := zo (by simp only [ht, hok, Lr])
 have hn := ab t e
 simp only [f48.g, Rose.eta, g1, g2, g4, Lm, yB, ← hn]
 cases hc : xw t != 0 with
 | true => rfl
 | false =>
  simp only [Lj]
  cases (xi e 0 1).2 with
  | false => rfl
  | true =>
   cases hf : yS t.2.1.length e with
   | false => rfl
   | true =>
    have g3 : F80 (t, e) = some (mG (yG t) e) := zo (by simp only [ht, hok, hf, Lr])
    obtain ⟨w1, w2⟩ := nW (cs := yG t) hf
    simp only [LA, Lr, Lj, g3, Lm, w1]
    cases hk : (yW (yG t) e).2 with
    | false => rfl
    | true => simp only [LA, Lj, w2 hk]
theorem XE : ConOk Tryz.prog 48 U8 := f48.ok P0 Wd Vs Vz WT
end Go.Proofs.YtefddghdaimklaaGreatDoor.AI
/- ua laws of floats: nought less a number, a nought times minus one. -/
namespace Go.Proofs.YtefddghdaimklaaGreatDoor.AI
open Go
theorem bS {x : Nat} (h : x < 9223372036854775808) : x ^^^ 9223372036854775808 = x + 9223372036854775808 := by
 have e : x + 9223372036854775808 = 2 ^ 63 * 1 + x := by omega
 rw [e, Nat.two_pow_add_eq_or_of_lt (by omega) 1, Nat.mul_one, Nat.or_comm]
 refine Nat.eq_of_testBit_eq fun i => ?_
 rw [Nat.testBit_xor, Nat.testBit_or, show (9223372036854775808 : Nat) = 2 ^ 63 from rfl, Nat.testBit_two_pow]
 by_cases hi : 63 = i
 ·subst hi
  rw [Nat.testBit_lt_two_pow (show x < 2 ^ 63 by omega)]; rfl
 ·rw [LI hi]; cases x.testBit i <;> rfl
theorem UT {x : Nat} (h0 : 9223372036854775808 ≤ x) (h : x < 18446744073709551616) : x ^^^ 9223372036854775808 = x - 9223372036854775808 := by
 have h1 := bS (x := x - 9223372036854775808) (by omega)
 have h2 : x - 9223372036854775808 + 9223372036854775808 = x := by omega
 rw [h2] at h1
 calc x ^^^ 9223372036854775808 = ((x - 9223372036854775808) ^^^ 9223372036854775808) ^^^ 9223372036854775808 := by rw [h1]
  _ = x - 9223372036854775808 := by rw [Nat.xor_assoc, Nat.xor_self, Nat.xor_zero]
theorem UP : 2 ^ (FloatKind.f64.format.exponentBits + FloatKind.f64.format.fractionBits) = 9223372036854775808 := by kernel_rfl
theorem T8 (x : Nat) : Op.negFloat .f64 x = x ^^^ 9223372036854775808 := by unfold Op.negFloat; rw [UP]
end Go.Proofs.YtefddghdaimklaaGreatDoor.AI
/- The plain laws of the runs: what is reckoned of values. -/
namespace Go.Proofs.YtefddghdaimklaaGreatDoor.AI
open Go
theorem kT : ConOk Tryz.prog 103 je := f103.ok (fun x y h => ⟨0, by cases h; rfl⟩)
theorem fT : ConOk Tryz.prog 36 cZ := f36.ok (fun x y h => ⟨0, by cases h; simp only [f36.g, zW, isT]⟩)
theorem kP : ConOk Tryz.prog 154 kR := f154.ok (fun x y h => ⟨0, by cases h; simp only [f154.g, zW, isF]⟩)
theorem lJ : ConOk Tryz.prog 105 lY := f105.ok (fun x y h => ⟨0, by cases h; cases x <;> rfl⟩)
theorem kq : ConOk Tryz.prog 156 lX := f156.ok (fun x y h => ⟨0, by cases h; rfl⟩)
theorem bX : ConOk Tryz.prog 159 bN := f159.ok (fun x y h => ⟨0, by cases h; simp only [f159.g, asF]; cases x.1 == 2 <;> rfl⟩)
theorem RR (x : ByteArray × Int) : f106.g 0 x = some (Xz x.1 x.2) := by
 simp only [f106.g, Xz]
 cases zd x.1 (⟨#[61]⟩ : ByteArray) <;> cases zd x.1 (⟨#[60, 62]⟩ : ByteArray) <;> cases zd x.1 (⟨#[60]⟩ : ByteArray) <;> cases zd x.1 (⟨#[60, 61]⟩ : ByteArray) <;> cases zd x.1 (⟨#[62]⟩ : ByteArray) <;> rfl
theorem ZJ : ConOk Tryz.prog 106 Zs := f106.ok (fun x y h => ⟨0, by cases h; exact RR x⟩)
theorem U3 (x : zc × zc) : f107.g 0 x = some (RS x.1 x.2) := by
 simp only [f107.g, Qx, F45, Lm, RS]
 cases (R1 x.1 x.2).2 <;> rfl
theorem cV : ConOk Tryz.prog 107 YC := f107.ok (fun x y h => ⟨0, by cases h; exact U3 x⟩) eE bV
theorem vM : zd (⟨#[43]⟩ : ByteArray) (⟨#[43]⟩ : ByteArray) = true := by kernel_rfl
theorem vB : zd (⟨#[43]⟩ : ByteArray) (⟨#[45]⟩ : ByteArray) = false := by kernel_rfl
theorem vc : zd (⟨#[43]⟩ : ByteArray) (⟨#[42]⟩ : ByteArray) = false := by kernel_rfl
theorem vG : zd (⟨#[43]⟩ : ByteArray) (⟨#[47]⟩ : ByteArray) = false := by kernel_rfl
theorem vP : zd (⟨#[43]⟩ : ByteArray) (⟨#[37]⟩ : ByteArray) = false := by kernel_rfl
theorem vq : zd (⟨#[45]⟩ : ByteArray) (⟨#[43]⟩ : ByteArray) = false := by kernel_rfl
theorem wZ : zd (⟨#[45]⟩ : ByteArray) (⟨#[45]⟩ : ByteArray) = true := by kernel_rfl
theorem vH : zd (⟨#[45]⟩ : ByteArray) (⟨#[42]⟩ : ByteArray) = false := by kernel_rfl
theorem w6 : zd (⟨#[45]⟩ : ByteArray) (⟨#[47]⟩ : ByteArray) = false := by kernel_rfl
theorem vI : zd (⟨#[45]⟩ : ByteArray) (⟨#[37]⟩ : ByteArray) = false := by kernel_rfl
theorem vg : zd (⟨#[42]⟩ : ByteArray) (⟨#[43]⟩ : ByteArray) = false := by kernel_rfl
theorem vt : zd (⟨#[42]⟩ : ByteArray) (⟨#[45]⟩ : ByteArray) = false := by kernel_rfl
theorem vA : zd (⟨#[42]⟩ : ByteArray) (⟨#[42]⟩ : ByteArray) = true := by kernel_rfl
theorem vi : zd (⟨#[42]⟩ : ByteArray) (⟨#[47]⟩ : ByteArray) = false := by kernel_rfl
theorem vf : zd (⟨#[42]⟩ : ByteArray) (⟨#[37]⟩ : ByteArray) = false := by kernel_rfl
theorem vO : zd (⟨#[47]⟩ : ByteArray) (⟨#[43]⟩ : ByteArray) = false := by kernel_rfl
theorem vm : zd (⟨#[47]⟩ : ByteArray) (⟨#[45]⟩ : ByteArray) = false := by kernel_rfl
theorem w7 : zd (⟨#[47]⟩ : ByteArray) (⟨#[42]⟩ : ByteArray) = false := by kernel_rfl
theorem vp : zd (⟨#[47]⟩ : ByteArray) (⟨#[47]⟩ : ByteArray) = true := by kernel_rfl
theorem wV : zd (⟨#[47]⟩ : ByteArray) (⟨#[37]⟩ : ByteArray) = false := by kernel_rfl
theorem vk : zd (⟨#[37]⟩ : ByteArray) (⟨#[43]⟩ : ByteArray) = false := by kernel_rfl
theorem vL : zd (⟨#[37]⟩ : ByteArray) (⟨#[45]⟩ : ByteArray) = false := by kernel_rfl
theorem vN : zd (⟨#[37]⟩ : ByteArray) (⟨#[42]⟩ : ByteArray) = false := by kernel_rfl
theorem vo : zd (⟨#[37]⟩ : ByteArray) (⟨#[47]⟩ : ByteArray) = false := by kernel_rfl
theorem wi : zd (⟨#[37]⟩ : ByteArray) (⟨#[37]⟩ : ByteArray) = true := by kernel_rfl
theorem hO {op : ByteArray} (h : TG op = true) : op = ⟨#[43]⟩ ∨ op = ⟨#[45]⟩ ∨ op = ⟨#[42]⟩ ∨ op = ⟨#[47]⟩ ∨ op = ⟨#[37]⟩ := by
 have := oQ h
 simp only [arL, LD, List.not_mem_nil, or_false] at this
 exact this
theorem lh {n : Int} : okI n = true ↔ -9223372036854775808 ≤ n ∧ n ≤ 9223372036854775807 := by
 simp only [okI, Li, Lt]
theorem sV (n : Int) : okI (wz n) = true := by
 refine lh.2 ?_
 unfold wz
 simp only [IntKind.wrap, IntKind.min, IntKind.max, IntKind.signed, IntKind.bits, if_true]
 simp
 omega
theorem YZ : qQ (9221120237041090560 : Int) = some cu := rfl
theorem jt (r : Nat) (h : (FloatKind.f64.format.order r r != some .eq) = true) : wX (3, (0, (r, noS))) = (3, (0, (cu, noS))) := by
 have h0 : (fo r 0 == some .eq) = false := by rw [mU h]; rfl
 have h1 : (fo r r != some .eq) = true := h
 unfold wX
 simp only [h0, h1, Lk, Lj]
 rfl
theorem sE (o : Option Nat) : VI o (fun r => bif FloatKind.f64.format.order r r != some .eq then (bif FloatKind.f64.format.order r 0 == some .eq then (bif FloatKind.f64.format.order 0 0 != some .eq then ((qQ (9221120237041090560 : Int)).bind fun r5 => some (((3 : Int), ((0 : Int), (r5, (⟨#[]⟩ : ByteArray)))), (0 : Int))) else (some (((3 : Int), ((0 : Int), (0, (⟨#[]⟩ : ByteArray)))), (0 : Int)))) else (bif FloatKind.f64.format.order r r != some .eq then ((qQ (9221120237041090560 : Int)).bind fun r6 => some (((3 : Int), ((0 : Int), (r6, (⟨#[]⟩ : ByteArray)))), (0 : Int))) else (some (((3 : Int), ((0 : Int), (r, (⟨#[]⟩ : ByteArray)))), (0 : Int))))) else (some (((3 : Int), ((0 : Int), (r, (⟨#[]⟩ : ByteArray)))), (0 : Int)))) ((qQ (9221120237041090560 : Int)).bind fun r7 => some (((3 : Int), ((0 : Int), (r7, (⟨#[]⟩ : ByteArray)))), (0 : Int))) = some (jv o, 0) := by
 cases o with
 | none => rfl
 | some r =>
  show (bif FloatKind.f64.format.order r r != some .eq then (bif FloatKind.f64.format.order r 0 == some .eq then (bif FloatKind.f64.format.order 0 0 != some .eq then ((qQ (9221120237041090560 : Int)).bind fun r5 => some (((3 : Int), ((0 : Int), (r5, (⟨#[]⟩ : ByteArray)))), (0 : Int))) else (some (((3 : Int), ((0 : Int), (0, (⟨#[]⟩ : ByteArray)))), (0 : Int)))) else (bif FloatKind.f64.format.order r r != some .eq then ((qQ (9221120237041090560 : Int)).bind fun r6 => some (((3 : Int), ((0 : Int), (r6, (⟨#[]⟩ : ByteArray)))), (0 : Int))) else (some (((3 : Int), ((0 : Int), (r, (⟨#[]⟩ : ByteArray)))), (0 : Int))))) else (some (((3 : Int), ((0 : Int), (r, (⟨#[]⟩ : ByteArray)))), (0 : Int)))) = _
  unfold jv
  simp only [YZ, Lm, fo]
  cases h : FloatKind.f64.format.order r r != some .eq with
  | true =>
   have h0 : (FloatKind.f64.format.order r 0 == some .eq) = false := by
    have : (fo r 0 == some .eq) = false := by rw [mU h]; rfl
    exact this
   rw [jt r h, h0]
   rfl
  | false => rfl
theorem TZ : ∀ X Y, R3 X = some Y → ∃ n, f108.g n X = some Y := by
 rintro ⟨op, a, b⟩ y hh
 obtain ⟨ho, rfl⟩ := zr hh
 simp only [okO, Li] at ho
 obtain ⟨hop, ka, kb, ca, cb, za, zb, hr⟩ := ho
 refine ⟨0, ?_⟩
 have ia : okI a.2.1 = true := by simp only [okZ, Li] at za; exact za.2.1
 have ib : okI b.2.1 = true := by simp only [okZ, Li] at zb; exact zb.2.1
 rcases hO hop with rfl | rfl | rfl | rfl | rfl
 ·simp only [f108.g, pH, vM, vB, vc, vG, vP, vq, wZ, vH, w6, vI, vg, vt, vA, vi, vf, vO, vm, w7, vp, wV, vk, vL, vN, vo, wi, Lk, Lj, zW, kz, nV, Lm, Zu, VZ]
  cases a.1 == 2 && b.1 == 2 with
  | true =>
   simp only [Lk]
   cases h : (decide (wz (a.2.1 + b.2.1) > a.2.1)) == (decide (b.2.1 > (0 : Int))) with
   | true => have h' : ((decide (IntKind.wrap .i64 (a.2.1 + b.2.1) > a.2.1)) == (decide (b.2.1 > (0 : Int)))) = true := h; rw [h']; rfl
   | false => have h' : ((decide (IntKind.wrap .i64 (a.2.1 + b.2.1) > a.2.1)) == (decide (b.2.1 > (0 : Int)))) = false := h; rw [h']; rfl
  | false => exact sE _
 ·simp only [f108.g, pH, vM, vB, vc, vG, vP, vq, wZ, vH, w6, vI, vg, vt, vA, vi, vf, vO, vm, w7, vp, wV, vk, vL, vN, vo, wi, Lk, Lj, zW, kz, nV, Lm, Zu, VZ]
  cases a.1 == 2 && b.1 == 2 with
  | true =>
   simp only [Lk]
   cases h : (decide (wz (a.2.1 - b.2.1) < a.2.1)) == (decide (b.2.1 > (0 : Int))) with
   | true => have h' : ((decide (IntKind.wrap .i64 (a.2.1 - b.2.1) < a.2.1)) == (decide (b.2.1 > (0 : Int)))) = true := h; rw [h']; rfl
   | false => have h' : ((decide (IntKind.wrap .i64 (a.2.1 - b.2.1) < a.2.1)) == (decide (b.2.1 > (0 : Int)))) = false := h; rw [h']; rfl
  | false => exact sE _
 ·simp only [f108.g, pH, vM, vB, vc, vG, vP, vq, wZ, vH, w6, vI, vg, vt, vA, vi, vf, vO, vm, w7, vp, wV, vk, vL, vN, vo, wi, Lk, Lj, zW, yf, kz, nV, Lm, Zu, VZ]
  cases a.1 == 2 && b.1 == 2 with
  | true =>
   simp only [Lk]
   cases h0 : a.2.1 == 0 || b.2.1 == 0 with
   | true => rfl
   | false =>
    rw [Bool.or_eq_false_iff] at h0
    simp only [Lj, h0.2]
    show (bif (wz (Int.tdiv (wz (a.2.1 * b.2.1)) b.2.1) != a.2.1 || (a.2.1 == -9223372036854775808 && b.2.1 == -1)) || (b.2.1 == -9223372036854775808 && a.2.1 == -1) then some (zeroV, 152) else some (ci (wz (a.2.1 * b.2.1)), 0)) = _
    rw [Bool.or_assoc]
    cases wz (Int.tdiv (wz (a.2.1 * b.2.1)) b.2.1) != a.2.1 || (a.2.1 == -9223372036854775808 && b.2.1 == -1 || b.2.1 == -9223372036854775808 && a.2.1 == -1) <;> rfl
  | false => exact sE _
 ·simp only [f108.g, pH, vM, vB, vc, vG, vP, vq, wZ, vH, w6, vI, vg, vt, vA, vi, vf, vO, vm, w7, vp, wV, vk, vL, vN, vo, wi, Lk, Lj, zW, kz, nV, Lm, Zu, VZ]
  cases a.1 == 2 && b.1 == 2 with
  | true =>
   simp only [Lk]
   cases h0 : b.2.1 == 0 with
   | true => rfl
   | false =>
    simp only [Lj]
    cases a.2.1 == -9223372036854775808 && b.2.1 == -1 <;> rfl
  | false => exact sE _
 ·have e : (a.1 == 2 && b.1 == 2) = true := by
   have er : zd (⟨#[37]⟩ : ByteArray) iL = true := wi
   rw [er] at hr
   simpa using hr
  simp only [f108.g, pH, vM, vB, vc, vG, vP, vq, wZ, vH, w6, vI, vg, vt, vA, vi, vf, vO, vm, w7, vp, wV, vk, vL, vN, vo, wi, Lk, Lj, zW, kz, nV, Lm, Zu, VZ, e]
  cases h0 : b.2.1 == 0 with
  | true => rfl
  | false =>
   simp only [Lj]
   cases b.2.1 == -1 <;> rfl
theorem aW : ConOk Tryz.prog 108 ZQ := f108.ok TZ kq bX pU
end Go.Proofs.YtefddghdaimklaaGreatDoor.AI
/- The plain laws of the runs: unary operators; what values an expression may have. -/
namespace Go.Proofs.YtefddghdaimklaaGreatDoor.AI
open Go
theorem cf : zd (⟨#[45]⟩ : ByteArray) (⟨#[45]⟩ : ByteArray) = true := by kernel_rfl
theorem nt : zd (⟨#[45]⟩ : ByteArray) (⟨#[110, 111, 116]⟩ : ByteArray) = false := by kernel_rfl
theorem dY : zd (⟨#[45]⟩ : ByteArray) (⟨#[105, 115, 32, 110, 117, 108, 108]⟩ : ByteArray) = false := by kernel_rfl
theorem dI : zd (⟨#[45]⟩ : ByteArray) (⟨#[105, 115, 32, 110, 111, 116, 32, 110, 117, 108, 108]⟩ : ByteArray) = false := by kernel_rfl
theorem d8 : zd (⟨#[110, 111, 116]⟩ : ByteArray) (⟨#[45]⟩ : ByteArray) = false := by kernel_rfl
theorem nO : zd (⟨#[110, 111, 116]⟩ : ByteArray) (⟨#[110, 111, 116]⟩ : ByteArray) = true := by kernel_rfl
theorem eO : zd (⟨#[110, 111, 116]⟩ : ByteArray) (⟨#[105, 115, 32, 110, 117, 108, 108]⟩ : ByteArray) = false := by kernel_rfl
theorem eX : zd (⟨#[110, 111, 116]⟩ : ByteArray) (⟨#[105, 115, 32, 110, 111, 116, 32, 110, 117, 108, 108]⟩ : ByteArray) = false := by kernel_rfl
theorem dT : zd (⟨#[105, 115, 32, 110, 117, 108, 108]⟩ : ByteArray) (⟨#[45]⟩ : ByteArray) = false := by kernel_rfl
theorem dZ : zd (⟨#[105, 115, 32, 110, 117, 108, 108]⟩ : ByteArray) (⟨#[110, 111, 116]⟩ : ByteArray) = false := by kernel_rfl
theorem dj : zd (⟨#[105, 115, 32, 110, 117, 108, 108]⟩ : ByteArray) (⟨#[105, 115, 32, 110, 117, 108, 108]⟩ : ByteArray) = true := by kernel_rfl
theorem cn : zd (⟨#[105, 115, 32, 110, 111, 116, 32, 110, 117, 108, 108]⟩ : ByteArray) (⟨#[45]⟩ : ByteArray) = false := by kernel_rfl
theorem dP : zd (⟨#[105, 115, 32, 110, 111, 116, 32, 110, 117, 108, 108]⟩ : ByteArray) (⟨#[110, 111, 116]⟩ : ByteArray) = false := by kernel_rfl
theorem dU : zd (⟨#[105, 115, 32, 110, 111, 116, 32, 110, 117, 108, 108]⟩ : ByteArray) (⟨#[105, 115, 32, 110, 117, 108, 108]⟩ : ByteArray) = false := by kernel_rfl
theorem dJ : zd (⟨#[105, 115, 32, 110, 111, 116, 32, 110, 117, 108, 108]⟩ : ByteArray) (⟨#[105, 115, 32, 110, 111, 116, 32, 110, 117, 108, 108]⟩ : ByteArray) = true := by kernel_rfl
theorem gF {op : ByteArray} (h : inS unL op = true) : op = ⟨#[45]⟩ ∨ op = ⟨#[110, 111, 116]⟩ ∨ op = ⟨#[105, 115, 32, 110, 117, 108, 108]⟩ ∨ op = ⟨#[105, 115, 32, 110, 111, 116, 32, 110, 117, 108, 108]⟩ := by
 have := oQ h
 simp only [unL, LD, List.not_mem_nil, or_false] at this
 rcases this with h | h | h | h <;> simp [h]
theorem ct {a b : Int} (h : a ≠ b) : (a == b) = false := by simpa using h
theorem Sw {a b : Int} (h : a = b) : (a == b) = true := by simpa using h
theorem U7 : ∀ X Y, R8 X = some Y → ∃ n, f102.g n X = some Y := by
 rintro ⟨op, v⟩ y hh
 obtain ⟨ho, rfl⟩ := zr hh
 refine ⟨0, ?_⟩
 have e1 : zd op (⟨#[110, 111, 116]⟩ : ByteArray) = zd op tG := rfl
 simp only [f102.g, unV, jL, dX, V5, kz, Lm, e1]
 cases zd op (⟨#[105, 115, 32, 110, 117, 108, 108]⟩ : ByteArray) with
 | true => rfl
 | false =>
  cases zd op (⟨#[105, 115, 32, 110, 111, 116, 32, 110, 117, 108, 108]⟩ : ByteArray) with
  | true => rfl
  | false =>
   cases v.1 == 0 with
   | true => rfl
   | false =>
    cases zd op tG with
    | true => rfl
    | false =>
     cases v.1 == 3 with
     | true => exact sE (some (Op.negFloat .f64 v.2.2.1))
     | false => cases v.2.1 == -9223372036854775808 <;> rfl
theorem bf : ConOk Tryz.prog 102 ZP := f102.ok U7 kT lJ kP kq pU
theorem uE {k : Int} (h : wC k = true) : k = 2 ∨ k = 3 := by
 simpa [wC] using h
end Go.Proofs.YtefddghdaimklaaGreatDoor.AI
/- The plain laws of expressions: what values one may have. -/
namespace Go.Proofs.YtefddghdaimklaaGreatDoor.AI
open Go
def okA (k : Int) (v : zc) : Prop := (v.1 = k ∨ v.1 = 0) ∧ zO v = 0 ∧ okZ v = true
theorem d7 : zO zeroV = 0 := by kernel_rfl
theorem u7 : okZ zeroV = true := by kernel_rfl
theorem yy (k : Int) : okA k zeroV := ⟨.inr rfl, d7, u7⟩
theorem eW : zO (qK true) = 0 ∧ okZ (qK true) = true := ⟨by kernel_rfl, by kernel_rfl⟩
theorem iZ : zO (qK false) = 0 ∧ okZ (qK false) = true := ⟨by kernel_rfl, by kernel_rfl⟩
theorem tj (b : Bool) : okA 1 (qK b) := by
 cases b
 ·exact ⟨.inl rfl, iZ⟩
 ·exact ⟨.inl rfl, eW⟩
theorem bz (n : Int) : zO (ci n) = 0 := by kernel_rfl
theorem c9 {n : Int} (h : okI n = true) : okA 2 (ci n) := ⟨.inl rfl, bz n, by
 have : okZ (ci n) = (true && (okI n && true)) := rfl
 rw [this, h]; rfl⟩
theorem bP (r : Nat) : zO (3, (0, (r, noS))) = 0 := by kernel_rfl
theorem bo (o : Option Nat) (h : ∀ r, o = some r → r < 18446744073709551616) : ∃ r, jv o = (3, (0, (r, noS))) ∧ r < 18446744073709551616 := by
 have hn : cu < 18446744073709551616 := by decide
 cases o with
 | none => exact ⟨cu, rfl, hn⟩
 | some r =>
  have hr := h r rfl
  cases hq : fo r r != some .eq with
  | true =>
   refine ⟨cu, ?_, hn⟩
   unfold jv
   simp only [hq, Lk, jt r hq]
  | false =>
   refine ⟨r, ?_, hr⟩
   unfold jv
   simp only [hq, Lj]
theorem mR (o : Option Nat) (h : ∀ r, o = some r → r < 18446744073709551616) : okA 3 (jv o) := by
 obtain ⟨r, e, hr⟩ := bo o h
 rw [e]
 refine ⟨.inl rfl, bP r, ?_⟩
 have : okZ (3, (0, (r, noS))) = (true && (true && decide (r < 18446744073709551616))) := rfl
 rw [this, Ln hr]; rfl
theorem Yv : (2 : Nat) ^ FloatKind.f64.format.width = 18446744073709551616 := by kernel_rfl
theorem iz (op : ByteArray) (x y : Nat) : ∀ r, VZ op x y = some r → r < 18446744073709551616 := by
 intro r h
 rw [← Yv]
 unfold VZ at h
 cases h1 : zd op (⟨#[43]⟩ : ByteArray) with
 | true => rw [h1] at h; exact Ieee.Format.add_lt _ h
 | false =>
  rw [h1] at h
  cases h2 : zd op (⟨#[45]⟩ : ByteArray) with
  | true => rw [h2] at h; exact Ieee.Format.sub_lt _ h
  | false =>
   rw [h2] at h
   cases h3 : zd op (⟨#[42]⟩ : ByteArray) with
   | true => rw [h3] at h; exact Ieee.Format.mul_lt _ h
   | false => rw [h3] at h; exact Ieee.Format.div_lt _ h
theorem PO {x : Nat} (h : x < 18446744073709551616) : Op.negFloat .f64 x < 18446744073709551616 := by
 rw [T8]
 by_cases hx : x < 9223372036854775808
 ·rw [bS hx]; omega
 ·rw [UT (by omega) h]; omega
theorem Wc {a b : Int} (ha : okI a = true) (hb : okI b = true) (b0 : (b == 0) = false) : okI (Int.tmod a b) = true := by
 obtain ⟨b1, b2⟩ := lh.1 hb
 have hb0 : b ≠ 0 := by simpa using b0
 have h : (Int.tmod a b).natAbs = a.natAbs % b.natAbs := Int.natAbs_tmod a b
 have hlt : a.natAbs % b.natAbs < b.natAbs := Nat.mod_lt _ (by omega)
 refine lh.2 ?_
 omega
theorem ST (op : ByteArray) {a b : Int} (ha : okI a = true) (hb : okI b = true) : okI (Zu op a b).1 = true := by
 have z : okI 0 = true := rfl
 unfold Zu
 cases zd op (⟨#[43]⟩ : ByteArray) with
 | true => simp only [Lk]; cases decide (wz (a + b) > a) == decide (b > 0) <;> first | exact z | exact sV _
 | false =>
 cases zd op (⟨#[45]⟩ : ByteArray) with
 | true => simp only [Lk, Lj]; cases decide (wz (a - b) < a) == decide (b > 0) <;> first | exact z | exact sV _
 | false =>
 cases zd op (⟨#[42]⟩ : ByteArray) with
 | true =>
  simp only [Lk, Lj]
  cases a == 0 || b == 0 with
  | true => exact z
  | false =>
   simp only [Lj]
   cases wz (Int.tdiv (wz (a * b)) b) != a || (a == -9223372036854775808 && b == -1 || b == -9223372036854775808 && a == -1) <;> first | exact z | exact sV _
 | false =>
 cases zd op (⟨#[47]⟩ : ByteArray) with
 | true =>
  simp only [Lk, Lj]
  cases b == 0 with
  | true => exact z
  | false =>
   simp only [Lj]
   cases a == -9223372036854775808 && b == -1 <;> first | exact z | exact sV _
 | false =>
  simp only [Lj]
  cases h0 : b == 0 with
  | true => exact z
  | false =>
   simp only [Lj]
   cases b == -1 with
   | true => exact z
   | false => exact Wc ha hb h0
theorem TY {v : zc} (h : okZ v = true) : okI v.2.1 = true ∧ v.2.2.1 < 18446744073709551616 := by
 simp only [okZ, Li, Lt] at h
 exact h.2
theorem Oe : mt true 2 2 = 2 := by kernel_rfl
theorem PJ : mt true 2 3 = 3 := by kernel_rfl
theorem PS : mt true 3 2 = 3 := by kernel_rfl
theorem QD : mt true 3 3 = 3 := by kernel_rfl
theorem aq {op : ByteArray} {a b : zc} {k0 k1 : Int} (hop : TG op = true) (h : (vW op k0 k1).2 = true) (ha : okA k0 a) (hb : okA k1 b) (a0 : a.1 ≠ 0) (b0 : b.1 ≠ 0) :
  okO op a b = true ∧ ((pH op a b).2 = 0 → okA (vW op k0 k1).1 (pH op a b).1) := by
 obtain ⟨ha1, ha2, ha3⟩ := ha
 obtain ⟨hb1, hb2, hb3⟩ := hb
 have ea : a.1 = k0 := by omega
 have eb : b.1 = k1 := by omega
 have n0 : (k0 == 0) = false := ct (by omega)
 have n1 : (k1 == 0) = false := ct (by omega)
 have hk : wC k0 = true ∧ wC k1 = true ∧ (zd op iL && (k0 == 3 || k1 == 3)) = false ∧ (vW op k0 k1).1 = mt true k0 k1 := by
  unfold vW Uf at h ⊢
  simp only [n0, n1, Lj, bne, LN, Bool.and_true] at h ⊢
  cases h1 : wC k0 <;> cases h2 : wC k1 <;> cases h3 : (zd op iL && (k0 == 3 || k1 == 3)) <;> simp only [h1, h2, h3, LA, LN, Bool.or_true, Bool.true_or, Bool.or_false, Bool.or_self, Lk, Lj] at h ⊢ <;> first | exact ⟨trivial, trivial, trivial, trivial⟩ | cases h
 obtain ⟨h1, h2, h3, h4⟩ := hk
 have hrem : (!(zd op iL) || (a.1 == 2 && b.1 == 2)) = true := by
  cases hr : zd op iL with
  | false => rfl
  | true =>
   rw [hr, LK, Bool.or_eq_false_iff] at h3
   have q0 : k0 = 2 := by rcases uE h1 with h | h; exact h; rw [h] at h3; cases h3.1
   have q1 : k1 = 2 := by rcases uE h2 with h | h; exact h; rw [h] at h3; cases h3.2
   rw [Sw (ea.trans q0), Sw (eb.trans q1)]; rfl
 refine ⟨?_, fun hz => ?_⟩
 ·unfold okO
  rw [hop, ea, eb, h1, h2, ha2, hb2, ha3, hb3]
  rw [ea, eb] at hrem
  rw [hrem]; rfl
 ·rw [h4]
  unfold pH at hz ⊢
  rcases uE h1 with q0 | q0 <;> rcases uE h2 with q1 | q1 <;> subst q0 <;> subst q1
  ·rw [Oe]
   simp only [Sw ea, Sw eb, Lr, Lk] at hz ⊢
   cases hi : (Zu op a.2.1 b.2.1).2 != 0 with
   | true =>
    rw [hi, Lk] at hz
    simp only at hz
    rw [hz] at hi; cases hi
   | false =>
    rw [Lj]
    exact c9 (ST op (TY ha3).1 (TY hb3).1)
  ·rw [PJ]
   simp only [Sw ea, ct (show b.1 ≠ 2 by omega), Bool.and_false, Lj]
   exact mR _ (iz op _ _)
  ·rw [PS]
   simp only [ct (show a.1 ≠ 2 by omega), Bool.false_and, Lj]
   exact mR _ (iz op _ _)
  ·rw [QD]
   simp only [ct (show a.1 ≠ 2 by omega), Bool.false_and, Lj]
   exact mR _ (iz op _ _)
theorem Ro : (zd (⟨#[45]⟩ : ByteArray) xY || zd (⟨#[45]⟩ : ByteArray) orS) = false := by kernel_rfl
theorem U9 : (zd (⟨#[110, 111, 116]⟩ : ByteArray) xY || zd (⟨#[110, 111, 116]⟩ : ByteArray) orS) = false := by kernel_rfl
theorem SC : (zd (⟨#[105, 115, 32, 110, 117, 108, 108]⟩ : ByteArray) xY || zd (⟨#[105, 115, 32, 110, 117, 108, 108]⟩ : ByteArray) orS) = false := by kernel_rfl
theorem RA : (zd (⟨#[105, 115, 32, 110, 111, 116, 32, 110, 117, 108, 108]⟩ : ByteArray) xY || zd (⟨#[105, 115, 32, 110, 111, 116, 32, 110, 117, 108, 108]⟩ : ByteArray) orS) = false := by kernel_rfl
theorem OR : (inS arL ⟨#[43]⟩ = true ∧ inS cpL ⟨#[43]⟩ = false) ∧ (zd ⟨#[43]⟩ xY || zd ⟨#[43]⟩ orS) = false ∧ zd ⟨#[43]⟩ tG = false := ⟨⟨by kernel_rfl, by kernel_rfl⟩, by kernel_rfl, by kernel_rfl⟩
theorem Nn : (inS arL ⟨#[45]⟩ = true ∧ inS cpL ⟨#[45]⟩ = false) ∧ (zd ⟨#[45]⟩ xY || zd ⟨#[45]⟩ orS) = false ∧ zd ⟨#[45]⟩ tG = false := ⟨⟨by kernel_rfl, by kernel_rfl⟩, by kernel_rfl, by kernel_rfl⟩
theorem NF : (inS arL ⟨#[42]⟩ = true ∧ inS cpL ⟨#[42]⟩ = false) ∧ (zd ⟨#[42]⟩ xY || zd ⟨#[42]⟩ orS) = false ∧ zd ⟨#[42]⟩ tG = false := ⟨⟨by kernel_rfl, by kernel_rfl⟩, by kernel_rfl, by kernel_rfl⟩
theorem Nf : (inS arL ⟨#[47]⟩ = true ∧ inS cpL ⟨#[47]⟩ = false) ∧ (zd ⟨#[47]⟩ xY || zd ⟨#[47]⟩ orS) = false ∧ zd ⟨#[47]⟩ tG = false := ⟨⟨by kernel_rfl, by kernel_rfl⟩, by kernel_rfl, by kernel_rfl⟩
theorem OY : (inS arL ⟨#[37]⟩ = true ∧ inS cpL ⟨#[37]⟩ = false) ∧ (zd ⟨#[37]⟩ xY || zd ⟨#[37]⟩ orS) = false ∧ zd ⟨#[37]⟩ tG = false := ⟨⟨by kernel_rfl, by kernel_rfl⟩, by kernel_rfl, by kernel_rfl⟩
theorem OW : (inS arL ⟨#[61]⟩ = false ∧ inS cpL ⟨#[61]⟩ = true) ∧ (zd ⟨#[61]⟩ xY || zd ⟨#[61]⟩ orS) = false ∧ zd ⟨#[61]⟩ tG = false := ⟨⟨by kernel_rfl, by kernel_rfl⟩, by kernel_rfl, by kernel_rfl⟩
theorem Nj : (inS arL ⟨#[60, 62]⟩ = false ∧ inS cpL ⟨#[60, 62]⟩ = true) ∧ (zd ⟨#[60, 62]⟩ xY || zd ⟨#[60, 62]⟩ orS) = false ∧ zd ⟨#[60, 62]⟩ tG = false := ⟨⟨by kernel_rfl, by kernel_rfl⟩, by kernel_rfl, by kernel_rfl⟩
theorem OO : (inS arL ⟨#[60]⟩ = false ∧ inS cpL ⟨#[60]⟩ = true) ∧ (zd ⟨#[60]⟩ xY || zd ⟨#[60]⟩ orS) = false ∧ zd ⟨#[60]⟩ tG = false := ⟨⟨by kernel_rfl, by kernel_rfl⟩, by kernel_rfl, by kernel_rfl⟩
theorem O8 : (inS arL ⟨#[60, 61]⟩ = false ∧ inS cpL ⟨#[60, 61]⟩ = true) ∧ (zd ⟨#[60, 61]⟩ xY || zd ⟨#[60, 61]⟩ orS) = false ∧ zd ⟨#[60, 61]⟩ tG = false := ⟨⟨by kernel_rfl, by kernel_rfl⟩, by kernel_rfl, by kernel_rfl⟩
theorem OZ : (inS arL ⟨#[62]⟩ = false ∧ inS cpL ⟨#[62]⟩ = true) ∧ (zd ⟨#[62]⟩ xY || zd ⟨#[62]⟩ orS) = false ∧ zd ⟨#[62]⟩ tG = false := ⟨⟨by kernel_rfl, by kernel_rfl⟩, by kernel_rfl, by kernel_rfl⟩
theorem Oj : (inS arL ⟨#[62, 61]⟩ = false ∧ inS cpL ⟨#[62, 61]⟩ = true) ∧ (zd ⟨#[62, 61]⟩ xY || zd ⟨#[62, 61]⟩ orS) = false ∧ zd ⟨#[62, 61]⟩ tG = false := ⟨⟨by kernel_rfl, by kernel_rfl⟩, by kernel_rfl, by kernel_rfl⟩
theorem Ss {op : ByteArray} (h : inS unL op = true) : (zd op xY || zd op orS) = false := by
 rcases gF h with rfl | rfl | rfl | rfl
 ·exact Ro
 ·exact U9
 ·exact SC
 ·exact RA
theorem Xg {op : ByteArray} (h : op ∈ biL) : (op = xY ∨ op = orS) ∨ ((inS arL op = false ∧ inS cpL op = true) ∧ (zd op xY || zd op orS) = false ∧ zd op tG = false) ∨ ((inS arL op = true ∧ inS cpL op = false) ∧ (zd op xY || zd op orS) = false ∧ zd op tG = false) := by
 simp only [biL, LD, List.not_mem_nil, or_false] at h
 rcases h with rfl | rfl | rfl | rfl | rfl | rfl | rfl | rfl | rfl | rfl | rfl | rfl | rfl
 ·exact .inr (.inr OR)
 ·exact .inr (.inr Nn)
 ·exact .inr (.inr NF)
 ·exact .inr (.inr Nf)
 ·exact .inr (.inr OY)
 ·exact .inr (.inl OW)
 ·exact .inr (.inl Nj)
 ·exact .inr (.inl OO)
 ·exact .inr (.inl O8)
 ·exact .inr (.inl OZ)
 ·exact .inr (.inl Oj)
 ·exact .inl (.inl rfl)
 ·exact .inl (.inr rfl)
theorem gX {cs : List Int} {op : ByteArray} {c : Int} {x v : zc} {l : List Int} (hop : inS unL op = true) (hl : l.length = 1) (hk : (wY cs (3, op, c, x) l).2 = true) (hv : okA (l.getD 0 0) v) :
  okU op v = true ∧ ((unV op v).2 = 0 → okA (wY cs (3, op, c, x) l).1 (unV op v).1) := by
 obtain ⟨v1, v2, v3⟩ := hv
 have z := (TY v3)
 generalize hl0 : l.getD 0 0 = k0 at v1
 have kn : wY cs (3, op, c, x) l = bif zd op cq then (k0, wC k0 || k0 == 0) else bif zd op tG then (1, uq k0) else (1, true) := by
  unfold wY
  simp only [hl0, hl, show ((3 : Int) == 1) = false from rfl, show ((3 : Int) == 2) = false from rfl, show ((3 : Int) == 5) = false from rfl, show ((3 : Int) == 3) = true from rfl, show ((1 : Nat) == 1) = true from rfl, Bool.and_true, Lk, Lj]
 rw [kn] at hk ⊢
 have s1 : ∀ q : ByteArray, zd q cq = zd q ⟨#[45]⟩ := fun _ => rfl
 have s2 : ∀ q : ByteArray, zd q tG = zd q ⟨#[110, 111, 116]⟩ := fun _ => rfl
 have nul : ∀ {k : Int}, v.1 = 0 → okA k zeroV := fun _ => yy _
 unfold okU
 rw [hop, v3]
 rcases gF hop with rfl | rfl | rfl | rfl
 ·simp only [s1, s2, cf, nt, Lk, Lj, LA, LN, Bool.false_or, Bool.true_or, Bool.and_true, LK] at hk ⊢
  have hn : (v.1 == 0 || wC v.1) = true := by
   rcases v1 with h | h
   ·rw [h, Bool.or_comm]; exact hk
   ·rw [h]; rfl
  refine ⟨hn, fun hz => ?_⟩
  simp only [unV, s2, dY, dI, nt, Lj] at hz ⊢
  by_cases h0 : v.1 = 0
  ·rw [Sw h0]; exact yy _
  ·have hk0 : v.1 = k0 := by omega
   have hnum : wC v.1 = true := by rw [ct h0] at hn; exact hn
   rw [ct h0] at hz ⊢
   rcases uE hnum with h2 | h3
   ·rw [ct (show v.1 ≠ 3 by omega)] at hz ⊢
    simp only [Lj] at hz ⊢
    cases hm : v.2.1 == -9223372036854775808 with
    | true => rw [hm] at hz; cases hz
    | false => rw [← hk0, h2]; exact c9 (sV _)
   ·rw [Sw h3]
    simp only [Lk, Lj]
    rw [← hk0, h3]
    exact mR _ (fun r hr => by cases hr; exact PO z.2)
 ·simp only [s1, s2, d8, nO, Lk, Lj, LA, LN, Bool.false_or, Bool.true_or, Bool.and_true, LK] at hk ⊢
  have hn : uq v.1 = true := by
   rcases v1 with h | h
   ·rw [h]; exact hk
   ·rw [h]; rfl
  refine ⟨hn, fun hz => ?_⟩
  simp only [unV, s2, eO, eX, nO, Lk, Lj] at hz ⊢
  cases v.1 == 0 with
  | true => exact yy _
  | false => exact tj _
 ·simp only [s1, s2, dT, dZ, dj, Lk, Lj, LA, LN, Bool.false_or, Bool.true_or, Bool.and_true, LK, unV]
  exact ⟨trivial, fun _ => tj _⟩
 ·simp only [s1, s2, cn, dP, dU, dJ, Lk, Lj, LA, LN, Bool.false_or, Bool.true_or, Bool.and_true, LK, unV]
  exact ⟨trivial, fun _ => tj _⟩
theorem cJ {k : Int} {v : zc} (h : okA k v) (hk : uq k = true) : okA 1 v := by
 have : k = 1 ∨ k = 0 := by simpa [uq] using hk
 exact ⟨by have := h.1; omega, h.2⟩
theorem RX {op : ByteArray} {p q : zc × Int} (hp : p.2 = 0 → okA 1 p.1) (hq : q.2 = 0 → okA 1 q.1) (h : (o4 op p q).2 = 0) : okA 1 (o4 op p q).1 := by
 unfold o4 at h ⊢
 cases h1 : p.2 != 0 || (bif zd op orS then isT p.1 else isF p.1) with
 | true => rw [h1, Lk] at h; rw [Lk]; exact hp h
 | false =>
  rw [h1, Lj] at h; rw [Lj]
  cases h2 : q.2 != 0 || (bif zd op orS then isT q.1 else isF q.1) || !(p.1.1 == 0) with
  | true => rw [h2, Lk] at h; rw [Lk]; exact hq h
  | false => exact yy _
theorem RP (a : zc) : ∀ (u : Bool) (rs : List (zc × Int)), okA 1 (inL a u rs).1
 | u, [] => by
  unfold inL
  cases u
  ·exact tj _
  ·exact yy _
 | u, b :: r => by
  unfold inL
  cases b.2 != 0 with
  | true => exact yy _
  | false =>
   cases a.1 == 0 || b.1.1 == 0 with
   | true => exact RP a true r
   | false =>
    cases RS a b.1 == 0 with
    | true => exact tj _
    | false => exact RP a u r
theorem Pr (rs : List (zc × Int)) : okA 1 (inV rs).1 := by
 unfold inV
 split
 ·exact yy _
 ·rename_i a r
  cases a.2 != 0 with
  | true => exact yy _
  | false => exact RP _ _ _
theorem kC {op : ByteArray} {k0 k1 : Int} {p q : zc × Int} (hop : op ∈ biL) (hk : (qp op k0 k1).2 = true) (hp : p.2 = 0 → okA k0 p.1) (hq : q.2 = 0 → okA k1 q.1) :
  ((zd op xY || zd op orS) = true → uq k0 = true ∧ uq k1 = true) ∧
  ((zd op xY || zd op orS) = false → inS cpL op = false → p.2 = 0 → q.2 = 0 → p.1.1 ≠ 0 → q.1.1 ≠ 0 → okO op p.1 q.1 = true) ∧
  (((bif zd op xY || zd op orS then o4 op p q else W2 op p q)).2 = 0 → okA (qp op k0 k1).1 (bif zd op xY || zd op orS then o4 op p q else W2 op p q).1) := by
 rcases Xg hop with h | ⟨⟨h1, h2⟩, h3, h4⟩ | ⟨⟨h1, h2⟩, h3, h4⟩
 ·have lo : (zd op xY || zd op orS) = true ∧ zd op tG = false ∧ inS cpL op = false := by
   rcases h with rfl | rfl
   ·exact ⟨by kernel_rfl, by kernel_rfl, by kernel_rfl⟩
   ·exact ⟨by kernel_rfl, by kernel_rfl, by kernel_rfl⟩
  obtain ⟨l1, l2, l3⟩ := lo
  have kb : qp op k0 k1 = (1, uq k0 && uq k1) := by unfold qp; rw [l2, l3, l1]; rfl
  rw [kb] at hk ⊢
  simp only [Li] at hk
  rw [l1]
  refine ⟨fun _ => hk, fun h => (by cases h), fun h => ?_⟩
  exact RX (fun e => cJ (hp e) hk.1) (fun e => cJ (hq e) hk.2) h
 ·have kb : qp op k0 k1 = (1, oS k0 k1) := by unfold qp; rw [h4, h2]; rfl
  rw [kb, h3]
  refine ⟨fun h => (by cases h), fun _ e => (by rw [h2] at e; cases e), fun h => ?_⟩
  simp only [Lj] at h ⊢
  unfold W2 at h ⊢
  cases p.2 != 0 with
  | true => exact yy _
  | false =>
   cases q.2 != 0 with
   | true => exact yy _
   | false =>
    cases p.1.1 == 0 || q.1.1 == 0 with
    | true => exact yy _
    | false =>
     simp only [Lj, h2, Lk]
     exact tj _
 ·have kb : qp op k0 k1 = vW op k0 k1 := by unfold qp; rw [h4, h2, h3]; rfl
  rw [kb] at hk ⊢
  rw [h3]
  refine ⟨fun h => (by cases h), fun _ _ e1 e2 n1 n2 => (aq h1 hk (hp e1) (hq e2) n1 n2).1, fun h => ?_⟩
  simp only [Lj] at h ⊢
  unfold W2 at h ⊢
  cases e1 : p.2 != 0 with
  | true => exact yy _
  | false =>
   cases e2 : q.2 != 0 with
   | true => exact yy _
   | false =>
    cases e3 : p.1.1 == 0 || q.1.1 == 0 with
    | true => exact yy _
    | false =>
     rw [e1, e2, e3] at h
     simp only [Lj, h2] at h ⊢
     rw [Bool.or_eq_false_iff] at e3
     exact (aq h1 hk (hp (by simpa using e1)) (hq (by simpa using e2)) (by simpa using e3.1) (by simpa using e3.2)).2 h
def okL : List Int → List (zc × Int) → Prop
 | [], [] => True
 | k :: l, r :: rs => (r.2 = 0 → okA k r.1) ∧ okL l rs
 | _, _ => False
theorem rZ : ∀ {l : List Int} {rs : List (zc × Int)}, okL l rs → ∀ i, i < l.length → (rs.getD i noR).2 = 0 → okA (l.getD i 0) (rs.getD i noR).1
 | [], [], _, i, hi, _ => by simp at hi
 | k :: l, r :: rs, h, 0, _, he => h.1 he
 | k :: l, r :: rs, h, i + 1, hi, he => rZ h.2 i (by simpa using hi) he
theorem ey : ∀ {cs : List Int} {row : List zc}, tL cs row = true → row.length = cs.length
 | [], [], _ => rfl
 | k :: cs, v :: row, h => by
  simp only [tL, Li] at h
  simp [ey h.2.2.2]
 | [], v :: row, h => by cases h
 | k :: cs, [], h => by cases h
theorem fB : ∀ {cs : List Int} {row : List zc}, tL cs row = true → ∀ i, i < cs.length → okA (cs.getD i 0) (row.getD i zeroV)
 | k :: cs, v :: row, h, 0, _ => by
  simp only [tL, Li, Bool.or_eq_true, beq_iff_eq] at h
  exact ⟨h.1, h.2.1, h.2.2.1⟩
 | k :: cs, v :: row, h, i + 1, hi => by
  simp only [tL, Li] at h
  exact fB h.2.2.2 i (by simpa using hi)
 | [], _, h, i, hi => by simp at hi
 | k :: cs, [], h, i, hi => by cases h
theorem Uz {cs : List Int} {row : List zc} {a : Int × ByteArray × Int × zc} {l : List Int} {rs : List (zc × Int)} (hfit : tL cs row = true) (hn : wt cs.length a l.length = true) (hz : okZ a.2.2.2 = true)
  (hk : (wY cs a l).2 = true) (hl : okL l rs) (h : (qD row a rs).2 = 0) : okA (wY cs a l).1 (qD row a rs).1 := by
 obtain ⟨k0, op, c, v⟩ := a
 by_cases h1 : k0 = 1
 ·subst h1
  simp only [wt, rN, show ((1 : Int) == 1) = true from rfl, Bool.true_or, Lk, Li, beq_iff_eq] at hn
  exact ⟨.inl rfl, hn.2.2.2, hz⟩
 by_cases h2 : k0 = 2
 ·subst h2
  simp only [wt, rN, show ((2 : Int) == 1) = false from rfl, show ((2 : Int) == 2) = true from rfl, Bool.or_true, Lk, Lj, Li, Lt] at hn
  exact fB hfit c.toNat (by omega)
 have f1 := ct h1
 have f2 := ct h2
 simp only [wt, f1, f2, Bool.or_self, Lj, wF, Li] at hn
 rcases vn hn.1 with ⟨q1, q2, q3⟩ | ⟨q1, q2, q3⟩ | ⟨q1, q2, q3⟩ <;> simp only at q1 q3 <;> subst q1
 ·have hop : inS unL op = true := List.any_eq_true.2 ⟨op, q3, (zI _ _).2 rfl⟩
  have e : qD row (3, op, c, v) rs = bif (rs.getD 0 noR).2 != 0 then (zeroV, (rs.getD 0 noR).2) else unV op (rs.getD 0 noR).1 := by
   unfold qD
   simp only [show ((3 : Int) == 1) = false from rfl, show ((3 : Int) == 2) = false from rfl, show ((3 : Int) == 5) = false from rfl, show ((3 : Int) == 3) = true from rfl, Ss hop, Lk, Lj]
  rw [e] at h ⊢
  cases h0 : (rs.getD 0 noR).2 != 0 with
  | true => exact yy _
  | false =>
   rw [h0, Lj] at h
   rw [Lj]
   exact (gX hop q2 hk (rZ hl 0 (by omega) (by simpa using h0))).2 h
 ·have e : qD row (4, op, c, v) rs = bif zd op xY || zd op orS then o4 op (rs.getD 0 noR) (rs.getD 1 noR) else W2 op (rs.getD 0 noR) (rs.getD 1 noR) := rfl
  have kn : wY cs (4, op, c, v) l = qp op (l.getD 0 0) (l.getD 1 0) := by
   unfold wY
   simp only [q2, show ((4 : Int) == 1) = false from rfl, show ((4 : Int) == 2) = false from rfl, show ((4 : Int) == 5) = false from rfl, show ((4 : Int) == 3) = false from rfl, show ((2 : Nat) == 1) = false from rfl, Bool.and_false, Lj]
   rfl
  rw [e] at h ⊢
  rw [kn] at hk ⊢
  exact (kC q3 hk (rZ hl 0 (by omega)) (rZ hl 1 (by omega))).2.2 h
 ·exact Pr rs
theorem Re (row : List zc) (e : zn) : yh row e = qD row e.lab (da row e.kids) := by cases e; rfl
theorem pI (row : List zc) : ∀ ks : List zn, da row ks = ks.map (yh row)
 | [] => rfl
 | k :: r => by simp only [da, LE, pI row r]
mutual
theorem XU {cs : List Int} {row : List zc} (hfit : tL cs row = true) : ∀ e : zn, oW e = true → yS cs.length e = true → (yW cs e).2 = true → (yh row e).2 = 0 → okA (yW cs e).1 (yh row e).1
 | .node a ks, hb, hf, hk, h => by
  simp only [oW, Li] at hb
  simp only [yS, Li] at hf
  simp only [yW] at hk ⊢
  simp only [yh] at h ⊢
  cases hl : xA cs ks with
  | none => rw [hl] at hk; cases hk
  | some l =>
   rw [hl] at hk
   exact Uz hfit (by rw [sG cs ks l hl]; exact hf.1) hb.2.1 hk (mQ hfit ks l hb.2.2.2 hf.2 hl) h
theorem mQ {cs : List Int} {row : List zc} (hfit : tL cs row = true) : ∀ (ks : List zn) (l : List Int), hP ks = true → ux cs.length ks = true → xA cs ks = some l → okL l (da row ks)
 | [], l, _, _, hl => by simp only [xA, Lp] at hl; subst hl; trivial
 | k :: r, l, hb, hf, hl => by
  simp only [hP, Li] at hb
  simp only [ux, Li] at hf
  simp only [xA] at hl
  cases hk : (yW cs k).2 with
  | false => rw [hk] at hl; cases hl
  | true =>
   rw [hk] at hl
   simp only [LA, Lj] at hl
   cases hr : xA cs r with
   | none => rw [hr] at hl; cases hl
   | some l' =>
    rw [hr] at hl
    cases hl
    exact ⟨XU hfit k hb.1 hf.1 hk, mQ hfit r l' hb.2 hf.2 hr⟩
end
end Go.Proofs.YtefddghdaimklaaGreatDoor.AI
/- The plain laws of the runs: what an expression is worth. -/
namespace Go.Proofs.YtefddghdaimklaaGreatDoor.AI
open Go
theorem ku (cs : List Int) : ∀ (ks : List zn) (l : List Int), xA cs ks = some l → ∀ v ∈ ks, (yW cs v).2 = true
 | k :: r, l, h, v, hv => by
  simp only [xA] at h
  cases hk : (yW cs k).2 with
  | false => rw [hk] at h; cases h
  | true =>
   rw [hk] at h
   simp only [LA, Lj] at h
   cases hr : xA cs r with
   | none => rw [hr] at h; cases h
   | some l' =>
    rcases LD.1 hv with rfl | hv
    ·exact hk
    ·exact ku cs r l' hr v hv
theorem We {e : zn} {row : List zc} (h : az (e, row)) : ∃ cs l : List Int, okE e = true ∧ tL cs row = true ∧ okB 40 row = true ∧ wt cs.length e.lab e.kids.length = true ∧ l.length = e.kids.length ∧ (wY cs e.lab l).2 = true ∧ okL l (e.kids.map (yh row)) ∧ ∀ v ∈ e.kids, az (v, row) := by
 obtain ⟨cs, hok, hf, hk, hfit, hb⟩ := h
 simp only at hok hf hk hfit hb
 have hf' := hf
 rw [tY, Li] at hf'
 rw [gf] at hk
 cases hl : xA cs e.kids with
 | none => rw [hl] at hk; cases hk
 | some l =>
  rw [hl] at hk
  have hbig := (u6 hok).2.2.2.1
  have := mQ hfit e.kids l hbig hf'.2 hl
  rw [pI] at this
  refine ⟨cs, l, hok, hfit, hb, hf'.1, sG cs _ _ hl, hk, this, fun v hv => ⟨cs, (wM hok hv).1, rx hf'.2 v hv, ku cs _ _ hl v hv, hfit, hb⟩⟩
theorem XT {row : List zc} {op : ByteArray} {c : Int} {v : zc} {rs : List (zc × Int)} (hop : inS unL op = true) : qD row (3, op, c, v) rs = bif (rs.getD 0 noR).2 != 0 then (zeroV, (rs.getD 0 noR).2) else unV op (rs.getD 0 noR).1 := by
 unfold qD
 simp only [show ((3 : Int) == 1) = false from rfl, show ((3 : Int) == 2) = false from rfl, show ((3 : Int) == 5) = false from rfl, show ((3 : Int) == 3) = true from rfl, Ss hop, Lk, Lj]
theorem X3 {cs : List Int} {op : ByteArray} {c : Int} {v : zc} {l : List Int} (h : l.length = 2) : wY cs (4, op, c, v) l = qp op (l.getD 0 0) (l.getD 1 0) := by
 unfold wY
 simp only [h, show ((4 : Int) == 1) = false from rfl, show ((4 : Int) == 2) = false from rfl, show ((4 : Int) == 5) = false from rfl, show ((4 : Int) == 3) = false from rfl, show ((2 : Nat) == 1) = false from rfl, Bool.and_false, Lj]
 rfl
theorem c8 {ks : List zn} {i : Nat} {v : zn} (h : ks[i]? = some v) (f : zn → zc × Int) : ks.getD i tExpr.dflt = v ∧ (ks.map f).getD i noR = f v := by
 simp [List.getD, h]
theorem YQ {ks : List zn} {i : Nat} (h : i < ks.length) : ∃ v, ks[i]? = some v := ⟨_, LC h⟩
theorem fL {ks : List zn} {v : zn} (h : ks[0]? = some v) : ks = v :: ks.drop 1 := by
 cases ks with
 | nil => cases h
 | cons a r => simp at h; subst h; rfl
theorem Xk {cs : List Int} {row : List zc} {c : Int} (hfit : tL cs row = true) (h0 : 0 ≤ c) (h1 : c < (cs.length : Int)) : (decide (0 ≤ c) && decide (c < (row.length : Int))) = true := by
 rw [ey hfit]
 simp [h0, h1]
theorem Ov (k : Nat) : ∀ X Y, TC (k + 1) X = some Y → ∃ n, @f62.g ⟨TC k⟩ n X = some Y := by
 rintro ⟨e, row⟩ y hh
 obtain ⟨⟨hty, hs⟩, rfl⟩ := fi hh
 obtain ⟨cs, l, hok, hfit, hrow, hn, hl, hk, hv, hkids⟩ := We hty
 letI : Rec62 := ⟨TC k⟩
 have hsz := (u6 hok).2.2.2.2
 have hlen := wI e.kids
 have hkid : ∀ {v : zn}, v ∈ e.kids → (Rec62.F (v, row) : Option (zc × Int)) = some (yh row v) := fun {v} hm => mZ ⟨hkids v hm, by
  have := (wM hok hm).2
  simp only at hs ⊢
  rw [ud] at hs
  omega⟩
 have hz := (u6 hok).2.1
 refine ⟨e.kids.length + 1, ?_⟩
 show f62.g (e.kids.length + 1) (e, row) = some (yh row e)
 rw [Re, pI]
 simp only [f62.g, Rose.eta, yf]
 generalize e.lab = a at hn hk hz ⊢
 obtain ⟨k0, op, c, v⟩ := a
 simp only at hz ⊢
 by_cases h1 : k0 = 1
 ·subst h1; rfl
 by_cases h2 : k0 = 2
 ·subst h2
  simp only [wt, rN, show ((2 : Int) == 1) = false from rfl, show ((2 : Int) == 2) = true from rfl, Bool.or_true, Lk, Lj, Li, Lt] at hn ⊢
  rw [Xk hfit hn.2.2.1 hn.2.2.2.1]
  rfl
 have f1 := ct h1
 have f2 := ct h2
 simp only [wt, f1, f2, Bool.or_self, Lj, wF, Li] at hn
 simp only [f1, f2, Lj]
 have a1 : zd op (⟨#[97, 110, 100]⟩ : ByteArray) = zd op xY := rfl
 have a2 : zd op (⟨#[111, 114]⟩ : ByteArray) = zd op orS := rfl
 have hpos : 0 < e.kids.length := by rcases vn hn.1 with h | h | h <;> omega
 obtain ⟨v0, hv0⟩ := YQ hpos
 obtain ⟨g0, r0⟩ := c8 hv0 (yh row)
 have k0' := hkid (Ls hv0)
 have o0 := rZ hv 0 (by omega)
 rw [r0] at o0
 rcases vn hn.1 with ⟨q1, q2, q3⟩ | ⟨q1, q2, q3⟩ | ⟨q1, q2, q3⟩ <;> simp only at q1 q3 <;> subst q1
 ·have hop : inS unL op = true := List.any_eq_true.2 ⟨op, q3, (zI _ _).2 rfl⟩
  rw [XT hop, r0]
  simp only [show ((3 : Int) == 5) = false from rfl, show ((3 : Int) == 3) = true from rfl, Lk, Lj, a1, a2, Ss hop, qo hpos, g0, k0', Lm]
  cases he : (yh row v0).2 != 0 with
  | true => rfl
  | false =>
   have hu := (gX hop (by omega) hk (o0 (by simpa using he))).1
   have g : R8 (op, (yh row v0).1) = some (unV op (yh row v0).1) := zo hu
   simp only [Lj, g, Lm]
 ·have hp1 : 1 < e.kids.length := by omega
  obtain ⟨v1, hv1⟩ := YQ hp1
  obtain ⟨g1, r1⟩ := c8 hv1 (yh row)
  have k1' := hkid (Ls hv1)
  have o1 := rZ hv 1 (by omega)
  rw [r1] at o1
  rw [X3 (by omega)] at hk
  obtain ⟨b1, b2, _⟩ := kC q3 hk o0 o1
  have en : qD row (4, op, c, v) (e.kids.map (yh row)) = bif zd op xY || zd op orS then o4 op (yh row v0) (yh row v1) else W2 op (yh row v0) (yh row v1) := by
   have : qD row (4, op, c, v) (e.kids.map (yh row)) = bif zd op xY || zd op orS then o4 op ((e.kids.map (yh row)).getD 0 noR) ((e.kids.map (yh row)).getD 1 noR) else W2 op ((e.kids.map (yh row)).getD 0 noR) ((e.kids.map (yh row)).getD 1 noR) := rfl
   rw [this, r0, r1]
  rw [en]
  simp only [show ((4 : Int) == 5) = false from rfl, show ((4 : Int) == 3) = false from rfl, Lk, Lj, a1, a2, qo hpos, Yl hp1, g0, g1, k0', k1', Lm, F36, V5, jL, Rg, Qz, dX]
  generalize yh row v0 = p at o0 b2 ⊢
  generalize yh row v1 = q at o1 b2 ⊢
  cases hao : zd op xY || zd op orS with
  | true =>
   simp only [Lk, o4]
   cases zd op orS with
   | true =>
    simp only [Lk]
    cases p.2 != 0 <;> cases isT p.1 <;> cases q.2 != 0 <;> cases isT q.1 <;> cases p.1.1 == 0 <;> rfl
   | false =>
    simp only [Lj]
    cases p.2 != 0 <;> cases isF p.1 <;> cases q.2 != 0 <;> cases isF q.1 <;> cases p.1.1 == 0 <;> rfl
  | false =>
   simp only [Lj, W2]
   have gc : cr (cpL, op) = some (inS cpL op) := zo rfl
   simp only [gc, Lm]
   cases e1 : p.2 != 0 with
   | true => rfl
   | false =>
    cases e2 : q.2 != 0 with
    | true => rfl
    | false =>
     cases e3 : p.1.1 == 0 with
     | true => rfl
     | false =>
      cases e4 : q.1.1 == 0 with
      | true => rfl
      | false =>
       cases e5 : inS cpL op with
       | true => rfl
       | false =>
        have g : R3 (op, p.1, q.1) = some (pH op p.1 q.1) := zo (b2 hao e5 (by simpa using e1) (by simpa using e2) (by simpa using e3) (by simpa using e4))
        simp only [Lj, Bool.or_self, g, Lm]
 ·have en : qD row (5, op, c, v) (e.kids.map (yh row)) = inV (e.kids.map (yh row)) := rfl
  rw [en, fL hv0, LE, ← fL hv0]
  simp only [show ((5 : Int) == 5) = true from rfl, Lk, Lj, qo hpos, Ur (show 1 ≤ e.kids.length by omega), g0, k0', Lm, jL, inV]
  cases he : (yh row v0).2 != 0 with
  | true => rfl
  | false =>
   simp only [Lj]
   have hd : (e.kids.drop 1).length ≤ e.kids.length := by rw [List.length_drop]; exact Nat.sub_le _ _
   refine zP (step := f62.s1 (e.kids.length + 1) (e, row) (yh row v0) ((yh row v0).1.1 == 0)) (e.kids.drop 1) (fun i (u : Bool) => (u, (i : Int))) (fun _ _ => True) (fun i u r => some (inL (yh row v0).1 u (r.map (yh row)))) (fun S u _ => ?_) (fun S i u w r hi hw hr _ ih => ?_) (e.kids.length + 1) (by omega) ((yh row v0).1.1 == 0) trivial
   ·simp only [f62.s1, zM, Lj, dX, Lm, List.map_nil, inL]
    cases u <;> rfl
   ·have kw := hkid (List.mem_of_mem_drop (Ls hw))
    simp only [f62.s1, zX hi, z1, zE hw, Lr, Lk, Rose.eta, kw, Lm, nx (show i ≤ _ by omega), jL, Rg, dX, LE, inL]
    cases (yh row w).2 != 0 with
    | true => rfl
    | false =>
     simp only [Lj]
     cases (yh row v0).1.1 == 0 with
     | true => exact ih true trivial
     | false =>
      cases (yh row w).1.1 == 0 with
      | true => exact ih true trivial
      | false =>
       simp only [Lj, Bool.or_self]
       cases RS (yh row v0).1 (yh row w).1 == 0 with
       | true => rfl
       | false => exact ih u trivial
theorem kg : ∀ k, ConOk Tryz.prog 62 (zj [(true, tExpr), (false, .sl tValue)] [(true, tValue), (false, .int .i64)] true (TC k))
 | 0 => xf fun X => by unfold TC ifG; simp
 | k + 1 => @f62.ok ⟨TC k⟩ (TC (k + 1)) (Ov k) fT (kg k) bf kT s7 lJ ZJ cV aW kP
theorem WY : ConOk Tryz.prog 62 SY := xb kg fun X Y h => by
 obtain ⟨ho, rfl⟩ := fi h
 exact ⟨zT X.1 + 1, mZ ⟨ho, Lv _⟩⟩
end Go.Proofs.YtefddghdaimklaaGreatDoor.AI
