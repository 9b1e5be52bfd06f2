/- A part of the proof. -/
import Derived.Test.YtefddghdaimklaaGreatDoorBc
set_option linter.unusedVariables false
set_option linter.unusedSimpArgs false
set_option linter.unusedSectionVars false
set_option maxRecDepth 100000
namespace Go.Proofs.YtefddghdaimklaaGreatDoor.AI
open Go
noncomputable section
set_option maxRecDepth 100000
abbrev f39.A0 : Sig := [(true, tExpr), (false, .int .i64)]
class Rec39 where
 F : (zg × Int) → Option (Int)
section
variable [Rec39]
def VL : Con := zk f39.A0 [(false, .int .i64)] true Rec39.F
def E39 : FuncId → Option Con := (zN 39 VL yc)
noncomputable def C39 : List (FuncId × Func) := [(39, Tryz.f39)]
def f39.h1 (x : zg × Int) (y1 : Int × Int) : List AV × List Ob := ([.undef, vv [cI y1.1], vv [.ptr 0 0], .undef, .undef, vv [cI y1.2]] ++ uN 21 [], [.box [cI x.1.lab.1, cT x.1.lab.2.1, cI x.1.lab.2.2.1, cI x.1.lab.2.2.2.1, cI x.1.lab.2.2.2.2.1, .sc (.float .f64) x.1.lab.2.2.2.2.2.1, cT x.1.lab.2.2.2.2.2.2, .sc (.sl tExpr) x.1.kids]])
def f39.L1 (n : Nat) (x : zg × Int) (m1 : Nat) (y1 : Int × Int) : Option (Int) :=
 lK (ann 39 3) 1 E39 C39 n 1 39 Tryz.f39 [1, 1, 0, 1, 0, 0] [1, 1, 0, 1, 0] m1 (f39.h1 x y1) (un TT Tryz.f39 (zq [(false, .int .i64)]))
def f39.s1 (n : Nat) (x : zg × Int) (S1 : (Int × Int) → Option (Int)) (y1 : Int × Int) : Option (Int) :=
 bif bif (decide (y1.2 < (x.1.kids.length : Int))) then (decide (y1.1 ≤ (262144 : Int))) else false then
 bif decide (0 ≤ y1.2) && decide (y1.2 < (x.1.kids.length : Int)) then
 (Rec39.F ((Rose.node ((x.1.kids.getD y1.2.toNat tExpr.dflt).lab) ((x.1.kids.getD y1.2.toNat tExpr.dflt).kids)), y1.1)).bind fun r2 =>
 S1 (r2, IntKind.wrap .i64 (y1.2 + (1 : Int)))
 else
 (none)
 else
 some y1.1
theorem f39.l1 (n : Nat) (x : zg × Int) : ∀ (m : Nat) (y1 : Int × Int), f39.L1 n x m y1 = zY (f39.s1 n x) m y1 :=
 zM (fun _ => rfl) fun m y => by kernel_rfl
def f39.g (n : Nat) (x : zg × Int) : Option (Int) :=
 zY (f39.s1 n x) n (IntKind.wrap .i64 (x.2 + (1 : Int)), (0 : Int))
theorem f39.eq (n : Nat) (x : zg × Int) : rK E39 C39 n 1 39 (zu f39.A0 x) (zq [(false, .int .i64)]) = f39.g n x := by
 simp only [f39.g, ← f39.l1]
 kernel_rfl
theorem f39.codes : CdO E39 C39 := zm (aC Tryz.func39 aN) (by kernel_rfl)
theorem f39.ok (G : (zg × Int) → Option (Int)) (h : Run G f39.g) (e39 : CO 39 VL) : CO 39 (zk f39.A0 [(false, .int .i64)] true G) :=
 zn zE zD (zf e39 zj) f39.codes (fun _ => Nw.1 rfl) (h.go f39.eq)
end
def UB : Con := zk f39.A0 [(false, .int .i64)] true F39
def E14 : FuncId → Option Con := (zN 39 UB yc)
noncomputable def C14 : List (FuncId × Func) := [(14, Tryz.f14)]
def f14.g (n : Nat) (x : zg) : Option (Bool) :=
 (F39 ((Rose.node x.lab x.kids), (0 : Int))).bind fun r1 =>
 some (decide (r1 > (262144 : Int)))
theorem f14.eq (n : Nat) (x : zg) : rK E14 C14 n 1 14 (zu [(true, tExpr)] x) (zq [(false, .bool)]) = f14.g n x := by
 kernel_rfl
theorem f14.codes : CdO E14 C14 := zm (aC Tryz.func14 aN) (by kernel_rfl)
theorem f14.ok (h : Run F14 f14.g) (e39 : CO 39 UB) : CO 14 (zk [(true, tExpr)] [(false, .bool)] true F14) :=
 zn zE zD (zf e39 zj) f14.codes (fun _ => Nw.1 rfl) (h.go f14.eq)
def Tb : Con := zk [(true, tExpr)] [(false, .bool)] true F14
def E5 : FuncId → Option Con := (zN 14 Tb yc)
noncomputable def C5 : List (FuncId × Func) := [(5, Tryz.f5)]
def f5.g (n : Nat) (x : zg) : Option (zg) :=
 (F14 (Rose.node x.lab x.kids)).bind fun r1 =>
 bif r1 then
 some (Rose.node ((0 : Int), ((⟨#[]⟩ : BA), ((0 : Int), ((0 : Int), ((0 : Int), (0, (⟨#[]⟩ : BA))))))) ([]))
 else
 some (Rose.node x.lab x.kids)
theorem f5.eq (n : Nat) (x : zg) : rK E5 C5 n 1 5 (zu [(true, tExpr)] x) (zq [(true, tExpr)]) = f5.g n x := by
 kernel_rfl
theorem f5.codes : CdO E5 C5 := zm (aC Tryz.func5 aN) (by kernel_rfl)
theorem f5.ok (h : Run F5 f5.g) (e14 : CO 14 Tb) : CO 5 (zk [(true, tExpr)] [(true, tExpr)] false F5) :=
 zn zE zD (zf e14 zj) f5.codes (fun h => by cases h) (h.go f5.eq)
def P1 : Con := zk [(true, tExpr)] [(true, tExpr)] false F5
class Rec8 where
 F : zg → Option (zg)
section
variable [Rec8]
end
abbrev f44.Z0 : Type := (List ByteArray) × ByteArray
abbrev f44.A1 : Sig := [(false, .sl .str), (false, .str)]
def E44 : FuncId → Option Con := yc
noncomputable def C44 : List (FuncId × Func) := [(44, Tryz.f44)]
def f44.h1 (x : f44.Z0) (y1 : Int) : List AV × List Ob := ([vv [.sc (.sl .str) x.1], vv [cT x.2]] ++ uN 5 ([vv [cI (x.1.length : Int)], vv [cI y1]] ++ uN 10 []), [])
def f44.L1 (n : Nat) (x : f44.Z0) (m1 : Nat) (y1 : Int) : Option (Int) :=
 lK (ann 44 2) 0 E44 C44 n 1 44 Tryz.f44 [1, 0, 1, 0, 0] [1, 0, 1, 0] m1 (f44.h1 x y1) (un TT Tryz.f44 (zq [(false, .int .i64)]))
def f44.s1 (n : Nat) (x : f44.Z0) (S1 : Int → Option (Int)) (y1 : Int) : Option (Int) :=
 bif decide (y1 < (x.1.length : Int)) then
 bif decide (0 ≤ y1) && decide (y1 < (x.1.length : Int)) then
 bif zd x.2 (x.1.getD y1.toNat (Ty.dflt .str)) then
 some y1
 else
 S1 (IntKind.wrap .i64 (y1 + (1 : Int)))
 else
 (none)
 else
 some (-1 : Int)
theorem f44.l1 (n : Nat) (x : f44.Z0) : ∀ (m : Nat) (y1 : Int), f44.L1 n x m y1 = zY (f44.s1 n x) m y1 :=
 zM (fun _ => rfl) fun m y => by kernel_rfl
def f44.g (n : Nat) (x : f44.Z0) : Option (Int) :=
 zY (f44.s1 n x) n (0 : Int)
theorem f44.eq (n : Nat) (x : f44.Z0) : rK E44 C44 n 1 44 (zu f44.A1 x) (zq [(false, .int .i64)]) = f44.g n x := by
 simp only [f44.g, ← f44.l1]
 kernel_rfl
theorem f44.codes : CdO E44 C44 := zm (aC Tryz.func44 aN) (by kernel_rfl)
theorem f44.ok (h : Run F44 f44.g)  : CO 44 (zk f44.A1 [(false, .int .i64)] true F44) :=
 zn zE zD zj f44.codes (fun _ => Nw.1 rfl) (h.go f44.eq)
def ae : Con := zk f44.A1 [(false, .int .i64)] true F44
abbrev f104.A0 : Sig := [(false, .sl .str), (false, .str)]
def OH : FuncId → Option Con := (zN 44 ae yc)
noncomputable def O9 : List (FuncId × Func) := [(104, Tryz.f104)]
def f104.g (n : Nat) (x : (List ByteArray) × ByteArray) : Option (Bool) :=
 (F44 x).bind fun r1 =>
 some (decide (r1 ≥ (0 : Int)))
theorem f104.eq (n : Nat) (x : (List ByteArray) × ByteArray) : rK OH O9 n 1 104 (zu f104.A0 x) (zq [(false, .bool)]) = f104.g n x := by
 kernel_rfl
theorem f104.codes : CdO OH O9 := zm (aC Tryz.func104 aN) (by kernel_rfl)
theorem f104.ok (h : Run cn f104.g) (e44 : CO 44 ae) : CO 104 (zk f104.A0 [(false, .bool)] true cn) :=
 zn zE zD (zf e44 zj) f104.codes (fun _ => Nw.1 rfl) (h.go f104.eq)
def tX : Con := zk f104.A0 [(false, .bool)] true cn
def Oo : FuncId → Option Con := (zN 63 oB yc)
noncomputable def OZ : List (FuncId × Func) := [(112, Tryz.f112)]
def f112.g (n : Nat) (x : zc) : Option (Bool) :=
 bif bif (x.1 == (0 : Int)) then (x.2.1 == (0 : Int)) else false then
 (F63 x.2.2.1).bind fun r1 =>
 some (bif (r1 == (0 : Int)) then (zd x.2.2.2 (⟨#[]⟩ : BA)) else false)
 else
 some false
theorem f112.eq (n : Nat) (x : zc) : rK Oo OZ n 1 112 (zu [(true, tValue)] x) (zq [(false, .bool)]) = f112.g n x := by
 kernel_rfl
theorem f112.codes : CdO Oo OZ := zm (aC Tryz.func112 aN) (by kernel_rfl)
theorem f112.ok (h : Run Vn f112.g) (e63 : CO 63 oB) : CO 112 (zk [(true, tValue)] [(false, .bool)] true Vn) :=
 zn zE zD (zf e63 zj) f112.codes (fun _ => Nw.1 rfl) (h.go f112.eq)
def bi : Con := zk [(true, tValue)] [(false, .bool)] true Vn
abbrev f68.Z0 : Type := Int × ByteArray × (List zR) × (List Int) × (List yC) × (List YH) × Int
abbrev f68.Z1 : Type := (zi × Int) × (zg × Int)
abbrev f68.Y2 : Type := (zi × Int) × Bool
abbrev f68.A3 : Sig := [(true, tExpr), (false, .int .i64)]
class Rec68 where
 F : ((zi × Int) × (zg × Int)) → Option f68.Y2
section
variable [Rec68]
def VY : Con := qg (.pair tTable (.int .i64)) f68.A3 [(false, .bool)] Rec68.F
def E68 : FuncId → Option Con := (zN 112 bi (zN 104 tX (zN 75 rX (zN 68 VY yc))))
noncomputable def C68 : List (FuncId × Func) := [(68, Tryz.f68)]
def f68.h1 (x : f68.Z1) (r3 : Bool) (r4 : Bool) (y5 : f68.Z0) : List AV × List Ob := ([vv [.ptr 0 0], .undef, vv [cI x.2.2]] ++ uN 138 ([vv [.sc (.sl tExpr) x.2.1.kids], vv [cI (x.2.1.kids.length : Int)], vv [cI y5.1]] ++ uN 10 []), [.box [cT y5.2.1, .sc (.sl tColumn) y5.2.2.1, .sc (.sl (.int .i64)) y5.2.2.2.1, .sc (.sl tIndex) y5.2.2.2.2.1, .sc (.sl tRef) y5.2.2.2.2.2.1, cI y5.2.2.2.2.2.2], .box [cI x.2.1.lab.1, cT x.2.1.lab.2.1, cI x.2.1.lab.2.2.1, cI x.2.1.lab.2.2.2.1, cI x.2.1.lab.2.2.2.2.1, .sc (.float .f64) x.2.1.lab.2.2.2.2.2.1, cT x.2.1.lab.2.2.2.2.2.2, .sc (.sl tExpr) x.2.1.kids]])
def f68.h2 (x : f68.Z1) (r7 : Bool) (r8 : Bool) (y9 : f68.Z0) : List AV × List Ob := ([vv [.ptr 0 0], .undef, vv [cI x.2.2]] ++ uN 138 ([vv [.sc (.sl tExpr) x.2.1.kids], vv [cI (x.2.1.kids.length : Int)], vv [cI y9.1]] ++ uN 10 []), [.box [cT y9.2.1, .sc (.sl tColumn) y9.2.2.1, .sc (.sl (.int .i64)) y9.2.2.2.1, .sc (.sl tIndex) y9.2.2.2.2.1, .sc (.sl tRef) y9.2.2.2.2.2.1, cI y9.2.2.2.2.2.2], .box [cI x.2.1.lab.1, cT x.2.1.lab.2.1, cI x.2.1.lab.2.2.1, cI x.2.1.lab.2.2.2.1, cI x.2.1.lab.2.2.2.2.1, .sc (.float .f64) x.2.1.lab.2.2.2.2.2.1, cT x.2.1.lab.2.2.2.2.2.2, .sc (.sl tExpr) x.2.1.kids]])
def f68.h3 (x : f68.Z1) (r7 : Bool) (r11 : Bool) (r12 : Bool) (y13 : f68.Z0) : List AV × List Ob := ([vv [.ptr 0 0], .undef, vv [cI x.2.2]] ++ uN 138 ([vv [.sc (.sl tExpr) x.2.1.kids], vv [cI (x.2.1.kids.length : Int)], vv [cI y13.1]] ++ uN 10 []), [.box [cT y13.2.1, .sc (.sl tColumn) y13.2.2.1, .sc (.sl (.int .i64)) y13.2.2.2.1, .sc (.sl tIndex) y13.2.2.2.2.1, .sc (.sl tRef) y13.2.2.2.2.2.1, cI y13.2.2.2.2.2.2], .box [cI x.2.1.lab.1, cT x.2.1.lab.2.1, cI x.2.1.lab.2.2.1, cI x.2.1.lab.2.2.2.1, cI x.2.1.lab.2.2.2.2.1, .sc (.float .f64) x.2.1.lab.2.2.2.2.2.1, cT x.2.1.lab.2.2.2.2.2.2, .sc (.sl tExpr) x.2.1.kids]])
def f68.h4 (x : f68.Z1) (r15 : Bool) (y16 : f68.Z0) : List AV × List Ob := ([vv [.ptr 0 0], .undef, vv [cI x.2.2]] ++ uN 138 ([vv [.sc (.sl tExpr) x.2.1.kids], vv [cI (x.2.1.kids.length : Int)], vv [cI y16.1]] ++ uN 10 []), [.box [cT y16.2.1, .sc (.sl tColumn) y16.2.2.1, .sc (.sl (.int .i64)) y16.2.2.2.1, .sc (.sl tIndex) y16.2.2.2.2.1, .sc (.sl tRef) y16.2.2.2.2.2.1, cI y16.2.2.2.2.2.2], .box [cI x.2.1.lab.1, cT x.2.1.lab.2.1, cI x.2.1.lab.2.2.1, cI x.2.1.lab.2.2.2.1, cI x.2.1.lab.2.2.2.2.1, .sc (.float .f64) x.2.1.lab.2.2.2.2.2.1, cT x.2.1.lab.2.2.2.2.2.2, .sc (.sl tExpr) x.2.1.kids]])
def f68.L1 (n : Nat) (x : f68.Z1) (r3 : Bool) (r4 : Bool) (m5 : Nat) (y5 : f68.Z0) : Option f68.Y2 :=
 tv (ann 68 20).keep 2 (fun fr H k => ye TT 1 E68 (xH TT E68 n ann (xW C68) 1) n (ann 68) (j1 [1, 1, 1, 1, 1, 1, 1, 0, 1, 0, 0] (xw Tryz.f68)) fr H k) m5 (f68.h1 x r3 r4 y5).1 (f68.h1 x r3 r4 y5).2 (cp TT 1 E68 (xH TT E68 n ann (xW C68) 1) n (ann 68) [1, 1, 1, 1, 1, 1, 1, 0, 1, 0] (xw Tryz.f68) (un TT Tryz.f68 (mB (.pair tTable (.int .i64)) [(false, .bool)])))
def f68.L2 (n : Nat) (x : f68.Z1) (r7 : Bool) (r8 : Bool) (m9 : Nat) (y9 : f68.Z0) : Option f68.Y2 :=
 tv (ann 68 20).keep 2 (fun fr H k => ye TT 1 E68 (xH TT E68 n ann (xW C68) 1) n (ann 68) (j1 [1, 1, 1, 1, 1, 1, 1, 0, 1, 0, 0] (xw Tryz.f68)) fr H k) m9 (f68.h2 x r7 r8 y9).1 (f68.h2 x r7 r8 y9).2 (cp TT 1 E68 (xH TT E68 n ann (xW C68) 1) n (ann 68) [1, 1, 1, 1, 1, 1, 1, 0, 1, 0] (xw Tryz.f68) (un TT Tryz.f68 (mB (.pair tTable (.int .i64)) [(false, .bool)])))
def f68.L3 (n : Nat) (x : f68.Z1) (r7 : Bool) (r11 : Bool) (r12 : Bool) (m13 : Nat) (y13 : f68.Z0) : Option f68.Y2 :=
 tv (ann 68 20).keep 2 (fun fr H k => ye TT 1 E68 (xH TT E68 n ann (xW C68) 1) n (ann 68) (j1 [1, 1, 1, 1, 1, 1, 1, 0, 1, 0, 0] (xw Tryz.f68)) fr H k) m13 (f68.h3 x r7 r11 r12 y13).1 (f68.h3 x r7 r11 r12 y13).2 (cp TT 1 E68 (xH TT E68 n ann (xW C68) 1) n (ann 68) [1, 1, 1, 1, 1, 1, 1, 0, 1, 0] (xw Tryz.f68) (un TT Tryz.f68 (mB (.pair tTable (.int .i64)) [(false, .bool)])))
def f68.L4 (n : Nat) (x : f68.Z1) (r15 : Bool) (m16 : Nat) (y16 : f68.Z0) : Option f68.Y2 :=
 tv (ann 68 20).keep 2 (fun fr H k => ye TT 1 E68 (xH TT E68 n ann (xW C68) 1) n (ann 68) (j1 [1, 1, 1, 1, 1, 1, 1, 0, 1, 0, 0] (xw Tryz.f68)) fr H k) m16 (f68.h4 x r15 y16).1 (f68.h4 x r15 y16).2 (cp TT 1 E68 (xH TT E68 n ann (xW C68) 1) n (ann 68) [1, 1, 1, 1, 1, 1, 1, 0, 1, 0] (xw Tryz.f68) (un TT Tryz.f68 (mB (.pair tTable (.int .i64)) [(false, .bool)])))
def f68.s1 (n : Nat) (x : f68.Z1) (r3 : Bool) (r4 : Bool) (S5 : (Int × ByteArray × (List zR) × (List Int) × (List yC) × (List YH) × Int) → Option f68.Y2) (y5 : f68.Z0) : Option f68.Y2 :=
 bif decide (y5.1 < (x.2.1.kids.length : Int)) then
 bif decide (0 ≤ y5.1) && decide (y5.1 < (x.2.1.kids.length : Int)) then
 (Rec68.F (((y5.2.1, (y5.2.2.1, (y5.2.2.2.1, (y5.2.2.2.2.1, y5.2.2.2.2.2.1)))), y5.2.2.2.2.2.2), ((Rose.node ((x.2.1.kids.getD y5.1.toNat tExpr.dflt).lab) ((x.2.1.kids.getD y5.1.toNat tExpr.dflt).kids)), IntKind.wrap .i64 (x.2.2 + (1 : Int))))).bind fun r6 =>
 bif !r6.2 then
 some (r6.1, false)
 else
 S5 (IntKind.wrap .i64 (y5.1 + (1 : Int)), (r6.1.1.1, (r6.1.1.2.1, (r6.1.1.2.2.1, (r6.1.1.2.2.2.1, (r6.1.1.2.2.2.2, r6.1.2))))))
 else
 (none)
 else
 some (((y5.2.1, (y5.2.2.1, (y5.2.2.2.1, (y5.2.2.2.2.1, y5.2.2.2.2.2.1)))), y5.2.2.2.2.2.2), true)
theorem f68.l1 (n : Nat) (x : f68.Z1) (r3 : Bool) (r4 : Bool) : ∀ (m : Nat) (y5 : f68.Z0), f68.L1 n x r3 r4 m y5 = zY (f68.s1 n x r3 r4) m y5 :=
 zM (fun _ => rfl) fun m y => by kernel_rfl
def f68.s2 (n : Nat) (x : f68.Z1) (r7 : Bool) (r8 : Bool) (S9 : (Int × ByteArray × (List zR) × (List Int) × (List yC) × (List YH) × Int) → Option f68.Y2) (y9 : f68.Z0) : Option f68.Y2 :=
 bif decide (y9.1 < (x.2.1.kids.length : Int)) then
 bif decide (0 ≤ y9.1) && decide (y9.1 < (x.2.1.kids.length : Int)) then
 (Rec68.F (((y9.2.1, (y9.2.2.1, (y9.2.2.2.1, (y9.2.2.2.2.1, y9.2.2.2.2.2.1)))), y9.2.2.2.2.2.2), ((Rose.node ((x.2.1.kids.getD y9.1.toNat tExpr.dflt).lab) ((x.2.1.kids.getD y9.1.toNat tExpr.dflt).kids)), IntKind.wrap .i64 (x.2.2 + (1 : Int))))).bind fun r10 =>
 bif !r10.2 then
 some (r10.1, false)
 else
 S9 (IntKind.wrap .i64 (y9.1 + (1 : Int)), (r10.1.1.1, (r10.1.1.2.1, (r10.1.1.2.2.1, (r10.1.1.2.2.2.1, (r10.1.1.2.2.2.2, r10.1.2))))))
 else
 (none)
 else
 some (((y9.2.1, (y9.2.2.1, (y9.2.2.2.1, (y9.2.2.2.2.1, y9.2.2.2.2.2.1)))), y9.2.2.2.2.2.2), true)
theorem f68.l2 (n : Nat) (x : f68.Z1) (r7 : Bool) (r8 : Bool) : ∀ (m : Nat) (y9 : f68.Z0), f68.L2 n x r7 r8 m y9 = zY (f68.s2 n x r7 r8) m y9 :=
 zM (fun _ => rfl) fun m y => by kernel_rfl
def f68.s3 (n : Nat) (x : f68.Z1) (r7 : Bool) (r11 : Bool) (r12 : Bool) (S13 : (Int × ByteArray × (List zR) × (List Int) × (List yC) × (List YH) × Int) → Option f68.Y2) (y13 : f68.Z0) : Option f68.Y2 :=
 bif decide (y13.1 < (x.2.1.kids.length : Int)) then
 bif decide (0 ≤ y13.1) && decide (y13.1 < (x.2.1.kids.length : Int)) then
 (Rec68.F (((y13.2.1, (y13.2.2.1, (y13.2.2.2.1, (y13.2.2.2.2.1, y13.2.2.2.2.2.1)))), y13.2.2.2.2.2.2), ((Rose.node ((x.2.1.kids.getD y13.1.toNat tExpr.dflt).lab) ((x.2.1.kids.getD y13.1.toNat tExpr.dflt).kids)), IntKind.wrap .i64 (x.2.2 + (1 : Int))))).bind fun r14 =>
 bif !r14.2 then
 some (r14.1, false)
 else
 S13 (IntKind.wrap .i64 (y13.1 + (1 : Int)), (r14.1.1.1, (r14.1.1.2.1, (r14.1.1.2.2.1, (r14.1.1.2.2.2.1, (r14.1.1.2.2.2.2, r14.1.2))))))
 else
 (none)
 else
 some (((y13.2.1, (y13.2.2.1, (y13.2.2.2.1, (y13.2.2.2.2.1, y13.2.2.2.2.2.1)))), y13.2.2.2.2.2.2), true)
theorem f68.l3 (n : Nat) (x : f68.Z1) (r7 : Bool) (r11 : Bool) (r12 : Bool) : ∀ (m : Nat) (y13 : f68.Z0), f68.L3 n x r7 r11 r12 m y13 = zY (f68.s3 n x r7 r11 r12) m y13 :=
 zM (fun _ => rfl) fun m y => by kernel_rfl
def f68.s4 (n : Nat) (x : f68.Z1) (r15 : Bool) (S16 : (Int × ByteArray × (List zR) × (List Int) × (List yC) × (List YH) × Int) → Option f68.Y2) (y16 : f68.Z0) : Option f68.Y2 :=
 bif decide (y16.1 < (x.2.1.kids.length : Int)) then
 bif decide (0 ≤ y16.1) && decide (y16.1 < (x.2.1.kids.length : Int)) then
 (Rec68.F (((y16.2.1, (y16.2.2.1, (y16.2.2.2.1, (y16.2.2.2.2.1, y16.2.2.2.2.2.1)))), y16.2.2.2.2.2.2), ((Rose.node ((x.2.1.kids.getD y16.1.toNat tExpr.dflt).lab) ((x.2.1.kids.getD y16.1.toNat tExpr.dflt).kids)), IntKind.wrap .i64 (x.2.2 + (1 : Int))))).bind fun r17 =>
 bif !r17.2 then
 some (r17.1, false)
 else
 S16 (IntKind.wrap .i64 (y16.1 + (1 : Int)), (r17.1.1.1, (r17.1.1.2.1, (r17.1.1.2.2.1, (r17.1.1.2.2.2.1, (r17.1.1.2.2.2.2, r17.1.2))))))
 else
 (none)
 else
 some (((y16.2.1, (y16.2.2.1, (y16.2.2.2.1, (y16.2.2.2.2.1, y16.2.2.2.2.2.1)))), y16.2.2.2.2.2.2), true)
theorem f68.l4 (n : Nat) (x : f68.Z1) (r15 : Bool) : ∀ (m : Nat) (y16 : f68.Z0), f68.L4 n x r15 m y16 = zY (f68.s4 n x r15) m y16 :=
 zM (fun _ => rfl) fun m y => by kernel_rfl
def f68.g (n : Nat) (x : f68.Z1) : Option f68.Y2 :=
 bif bif (decide (IntKind.wrap .i64 (x.1.2 - (1 : Int)) < (0 : Int))) then true else (decide (x.2.2 > (100 : Int))) then
 some ((x.1.1, IntKind.wrap .i64 (x.1.2 - (1 : Int))), false)
 else
 bif x.2.1.lab.1 == (1 : Int) then
 bif bif (bif ((x.2.1.kids.length : Int) == (0 : Int)) then (zd x.2.1.lab.2.1 (⟨#[]⟩ : BA)) else false) then (x.2.1.lab.2.2.1 == (0 : Int)) else false then
 (F75 x.2.1.lab.2.2.2).bind fun r1 =>
 some ((x.1.1, IntKind.wrap .i64 (x.1.2 - (1 : Int))), r1 == (0 : Int))
 else
 some ((x.1.1, IntKind.wrap .i64 (x.1.2 - (1 : Int))), false)
 else
 bif x.2.1.lab.1 == (2 : Int) then
 bif bif (bif (bif ((x.2.1.kids.length : Int) == (0 : Int)) then (zd x.2.1.lab.2.1 (⟨#[]⟩ : BA)) else false) then (decide (x.2.1.lab.2.2.1 ≥ (0 : Int))) else false) then (decide (x.2.1.lab.2.2.1 < (x.1.1.2.1.length : Int))) else false then
 (Vn x.2.1.lab.2.2.2).bind fun r2 =>
 some ((x.1.1, IntKind.wrap .i64 (x.1.2 - (1 : Int))), r2)
 else
 some ((x.1.1, IntKind.wrap .i64 (x.1.2 - (1 : Int))), false)
 else
 bif x.2.1.lab.1 == (3 : Int) then
 bif (x.2.1.kids.length : Int) == (1 : Int) then
 (cn (unL, x.2.1.lab.2.1)).bind fun r3 =>
 bif bif (!r3) then true else (x.2.1.lab.2.2.1 != (0 : Int)) then
 some ((x.1.1, IntKind.wrap .i64 (x.1.2 - (1 : Int))), false)
 else
 (Vn x.2.1.lab.2.2.2).bind fun r4 =>
 bif !r4 then
 some ((x.1.1, IntKind.wrap .i64 (x.1.2 - (1 : Int))), false)
 else
 zY (f68.s1 n x r3 r4) n ((0 : Int), (x.1.1.1, (x.1.1.2.1, (x.1.1.2.2.1, (x.1.1.2.2.2.1, (x.1.1.2.2.2.2, IntKind.wrap .i64 (x.1.2 - (1 : Int))))))))
 else
 some ((x.1.1, IntKind.wrap .i64 (x.1.2 - (1 : Int))), false)
 else
 bif x.2.1.lab.1 == (4 : Int) then
 bif (x.2.1.kids.length : Int) == (2 : Int) then
 (cn (arL, x.2.1.lab.2.1)).bind fun r7 =>
 bif r7 then
 bif x.2.1.lab.2.2.1 != (0 : Int) then
 some ((x.1.1, IntKind.wrap .i64 (x.1.2 - (1 : Int))), false)
 else
 (Vn x.2.1.lab.2.2.2).bind fun r8 =>
 bif !r8 then
 some ((x.1.1, IntKind.wrap .i64 (x.1.2 - (1 : Int))), false)
 else
 zY (f68.s2 n x r7 r8) n ((0 : Int), (x.1.1.1, (x.1.1.2.1, (x.1.1.2.2.1, (x.1.1.2.2.2.1, (x.1.1.2.2.2.2, IntKind.wrap .i64 (x.1.2 - (1 : Int))))))))
 else
 (cn (cpL, x.2.1.lab.2.1)).bind fun r11 =>
 bif bif (!(bif (bif r11 then true else (zd x.2.1.lab.2.1 (⟨#[97, 110, 100]⟩ : BA))) then true else (zd x.2.1.lab.2.1 (⟨#[111, 114]⟩ : BA)))) then true else (x.2.1.lab.2.2.1 != (0 : Int)) then
 some ((x.1.1, IntKind.wrap .i64 (x.1.2 - (1 : Int))), false)
 else
 (Vn x.2.1.lab.2.2.2).bind fun r12 =>
 bif !r12 then
 some ((x.1.1, IntKind.wrap .i64 (x.1.2 - (1 : Int))), false)
 else
 zY (f68.s3 n x r7 r11 r12) n ((0 : Int), (x.1.1.1, (x.1.1.2.1, (x.1.1.2.2.1, (x.1.1.2.2.2.1, (x.1.1.2.2.2.2, IntKind.wrap .i64 (x.1.2 - (1 : Int))))))))
 else
 some ((x.1.1, IntKind.wrap .i64 (x.1.2 - (1 : Int))), false)
 else
 bif x.2.1.lab.1 == (5 : Int) then
 bif bif (!(bif (decide ((x.2.1.kids.length : Int) ≥ (2 : Int))) then (zd x.2.1.lab.2.1 (⟨#[]⟩ : BA)) else false)) then true else (x.2.1.lab.2.2.1 != (0 : Int)) then
 some ((x.1.1, IntKind.wrap .i64 (x.1.2 - (1 : Int))), false)
 else
 (Vn x.2.1.lab.2.2.2).bind fun r15 =>
 bif !r15 then
 some ((x.1.1, IntKind.wrap .i64 (x.1.2 - (1 : Int))), false)
 else
 zY (f68.s4 n x r15) n ((0 : Int), (x.1.1.1, (x.1.1.2.1, (x.1.1.2.2.1, (x.1.1.2.2.2.1, (x.1.1.2.2.2.2, IntKind.wrap .i64 (x.1.2 - (1 : Int))))))))
 else
 some ((x.1.1, IntKind.wrap .i64 (x.1.2 - (1 : Int))), false)
theorem f68.eq (n : Nat) (x : f68.Z1) : Pc TT E68 n ann (xW C68) 1 68 (UH f68.A3 x.2) (rj (.pair tTable (.int .i64)) x.1) (mB (.pair tTable (.int .i64)) [(false, .bool)]) = f68.g n x := by
 simp only [f68.g, ← f68.l1, ← f68.l2, ← f68.l3, ← f68.l4]
 kernel_rfl
theorem f68.codes : CdO E68 C68 := zm (aC Tryz.func68 aN) (by kernel_rfl)
theorem f68.ok (G : ((zi × Int) × (zg × Int)) → Option f68.Y2) (h : Run G f68.g) (e68 : CO 68 VY) (e75 : CO 75 rX) (e104 : CO 104 tX) (e112 : CO 112 bi) : CO 68 (qg (.pair tTable (.int .i64)) f68.A3 [(false, .bool)] G) :=
 ZT zE zD (zf e112 (zf e104 (zf e75 (zf e68 zj)))) f68.codes (Nw.1 rfl) (h.go f68.eq)
end
def TN : Con := qg (.pair tTable (.int .i64)) f68.A3 [(false, .bool)] F68
class Rec78 where
 F : (zg × Int × Int) → Option (Int × Bool)
section
variable [Rec78]
end
class Rec79 where
 F : (zi × zg) → Option (Bool)
section
variable [Rec79]
end
abbrev f116.A0 : Sig := [(false, .str), (false, .int .i64), (false, .int .i64)]
abbrev f116.A1 : Sig := [(false, .int .i64), (false, .bool)]
def Ol : FuncId → Option Con := (zN 115 px yc)
noncomputable def OR : List (FuncId × Func) := [(116, Tryz.f116)]
def f116.g (n : Nat) (x : ByteArray × Int × Int) : Option (Int × Bool) :=
 bif x.2.1 == (0 : Int) then
 bif x.2.2 == (0 : Int) then
 some (x.2.2, true)
 else
 (eO x.2.2).bind fun r1 =>
 bif !r1 then
 some ((0 : Int), false)
 else
 (eO x.2.1).bind fun r2 =>
 bif bif (!r2) then (x.2.1 != (0 : Int)) else false then
 bif bif (!r2) then (x.2.1 != (0 : Int)) else false then
 some ((0 : Int), false)
 else
 bif x.2.1 == (0 : Int) then
 some (x.2.2, true)
 else
 some (mz true x.2.2 x.2.1, true)
 else
 bif bif (zd x.1 (⟨#[37]⟩ : BA)) then (bif (x.2.2 == (3 : Int)) then true else (x.2.1 == (3 : Int))) else false then
 some ((0 : Int), false)
 else
 bif x.2.1 == (0 : Int) then
 some (x.2.2, true)
 else
 some (mz true x.2.2 x.2.1, true)
 else
 bif x.2.1 == (0 : Int) then
 some (x.2.1, true)
 else
 (eO x.2.1).bind fun r3 =>
 bif !r3 then
 some ((0 : Int), false)
 else
 (eO x.2.2).bind fun r4 =>
 bif bif (!r4) then (x.2.2 != (0 : Int)) else false then
 bif bif (!r4) then (x.2.2 != (0 : Int)) else false then
 some ((0 : Int), false)
 else
 bif x.2.2 == (0 : Int) then
 some (x.2.1, true)
 else
 some (mz true x.2.1 x.2.2, true)
 else
 bif bif (zd x.1 (⟨#[37]⟩ : BA)) then (bif (x.2.1 == (3 : Int)) then true else (x.2.2 == (3 : Int))) else false then
 some ((0 : Int), false)
 else
 bif x.2.2 == (0 : Int) then
 some (x.2.1, true)
 else
 some (mz true x.2.1 x.2.2, true)
theorem f116.eq (n : Nat) (x : ByteArray × Int × Int) : rK Ol OR n 1 116 (zu f116.A0 x) (zq f116.A1) = f116.g n x := by
 kernel_rfl
theorem f116.codes : CdO Ol OR := zm (aC Tryz.func116 aN) (by kernel_rfl)
theorem f116.ok (h : Run S4 f116.g) (e115 : CO 115 px) : CO 116 (zk f116.A0 f116.A1 true S4) :=
 zn zE zD (zf e115 zj) f116.codes (fun _ => Nw.1 rfl) (h.go f116.eq)
def bp : Con := zk f116.A0 f116.A1 true S4
abbrev f69.Z0 : Type := Int × Nat × (List Int)
abbrev f69.Z1 : Type := zi × zg
abbrev f69.A2 : Sig := [(false, .int .i64), (false, .bool)]
abbrev f69.A3 : Sig := [(true, tTable), (true, tExpr)]
class Rec69 where
 F : (zi × zg) → Option (Int × Bool)
section
variable [Rec69]
def VT : Con := zk f69.A3 f69.A2 true Rec69.F
def E69 : FuncId → Option Con := (zN 116 bp (zN 115 px (zN 114 pS (zN 104 tX (zN 89 cY (zN 69 VT (zN 41 ZN yc)))))))
noncomputable def C69 : List (FuncId × Func) := [(69, Tryz.f69)]
def f69.h1 (x : f69.Z1) (y1 : f69.Z0) : List AV × List Ob := ([.undef, .undef, vv [.ptr 0 0], vv [.ptr 1 0], .undef, .undef, vv [.ptr 2 0]] ++ uN 5 ([vv [.sc (.sl tExpr) x.2.kids], vv [cI (x.2.kids.length : Int)], vv [cI y1.1]] ++ uN 119 []), [.box [cT x.1.1, .sc (.sl tColumn) x.1.2.1, .sc (.sl (.int .i64)) x.1.2.2.1, .sc (.sl tIndex) x.1.2.2.2.1, .sc (.sl tRef) x.1.2.2.2.2], .box [cI x.2.lab.1, cT x.2.lab.2.1, cI x.2.lab.2.2.1, cI x.2.lab.2.2.2.1, cI x.2.lab.2.2.2.2.1, .sc (.float .f64) x.2.lab.2.2.2.2.2.1, cT x.2.lab.2.2.2.2.2.2, .sc (.sl tExpr) x.2.kids], .box [.own 3 y1.2.1], .arr 3 (.int .i64) y1.2.2])
def f69.L1 (n : Nat) (x : f69.Z1) (m1 : Nat) (y1 : f69.Z0) : Option (Int × Bool) :=
 lK (ann 69 3) 4 E69 C69 n 1 69 Tryz.f69 [1, 1, 0, 1, 0, 0] [1, 1, 0, 1, 0] m1 (f69.h1 x y1) (un TT Tryz.f69 (zq f69.A2))
def f69.s1 (n : Nat) (x : f69.Z1) (S1 : (Int × Nat × (List Int)) → Option (Int × Bool)) (y1 : f69.Z0) : Option (Int × Bool) :=
 bif decide (y1.1 < (x.2.kids.length : Int)) then
 bif decide (0 ≤ y1.1) && decide (y1.1 < (x.2.kids.length : Int)) then
 (Rec69.F (x.1, (Rose.node ((x.2.kids.getD y1.1.toNat tExpr.dflt).lab) ((x.2.kids.getD y1.1.toNat tExpr.dflt).kids)))).bind fun r2 =>
 bif !r2.2 then
 some ((0 : Int), false)
 else
 bif decide ((y1.2.1 + 1) * 8 ≤ zo) then
 S1 (IntKind.wrap .i64 (y1.1 + (1 : Int)), (y1.2.1 + 1, List.take y1.2.1 y1.2.2 ++ ([r2.1])))
 else
 (none)
 else
 (none)
 else
 bif x.2.lab.1 == (1 : Int) then
 some (x.2.lab.2.2.2.1, true)
 else
 bif x.2.lab.1 == (2 : Int) then
 bif decide (0 ≤ x.2.lab.2.2.1) && decide (x.2.lab.2.2.1 < (x.1.2.1.length : Int)) then
 some ((x.1.2.1.getD x.2.lab.2.2.1.toNat tColumn.dflt).2.1, true)
 else
 (none)
 else
 bif x.2.lab.1 == (5 : Int) then
 bif decide (0 ≤ (1 : Int)) && decide ((1 : Int) ≤ ((List.take y1.2.1 y1.2.2).length : Int)) then
 (SZ (List.drop 1 (List.take y1.2.1 y1.2.2), List.take y1.2.1 y1.2.2)).bind fun r3 =>
 some ((1 : Int), !r3)
 else
 (none)
 else
 bif bif (zd x.2.lab.2.1 (⟨#[45]⟩ : BA)) then (((y1.2.1 : Nat) : Int) == (1 : Int)) else false then
 bif decide (0 ≤ (0 : Int)) && decide ((0 : Int) < ((y1.2.1 : Nat) : Int)) then
 bif decide (0 ≤ (0 : Int)) && decide ((0 : Int) < ((y1.2.1 : Nat) : Int)) then
 (eO (y1.2.2.getD 0 (Ty.dflt (.int .i64)))).bind fun r4 =>
 bif r4 then
 some (y1.2.2.getD 0 (Ty.dflt (.int .i64)), true)
 else
 bif decide (0 ≤ (0 : Int)) && decide ((0 : Int) < ((y1.2.1 : Nat) : Int)) then
 some (y1.2.2.getD 0 (Ty.dflt (.int .i64)), y1.2.2.getD 0 (Ty.dflt (.int .i64)) == (0 : Int))
 else
 (none)
 else
 (none)
 else
 (none)
 else
 bif zd x.2.lab.2.1 (⟨#[110, 111, 116]⟩ : BA) then
 bif decide (0 ≤ (0 : Int)) && decide ((0 : Int) < ((y1.2.1 : Nat) : Int)) then
 (F41 (y1.2.2.getD 0 (Ty.dflt (.int .i64)))).bind fun r5 =>
 some ((1 : Int), r5)
 else
 (none)
 else
 bif x.2.lab.1 == (3 : Int) then
 some ((1 : Int), true)
 else
 (cn (cpL, x.2.lab.2.1)).bind fun r6 =>
 bif r6 then
 bif decide (0 ≤ (0 : Int)) && decide ((0 : Int) < ((y1.2.1 : Nat) : Int)) then
 bif decide (0 ≤ (1 : Int)) && decide ((1 : Int) < ((y1.2.1 : Nat) : Int)) then
 (VA (y1.2.2.getD 0 (Ty.dflt (.int .i64)), y1.2.2.getD 1 (Ty.dflt (.int .i64)))).bind fun r7 =>
 some ((1 : Int), r7)
 else
 (none)
 else
 (none)
 else
 bif bif (zd x.2.lab.2.1 (⟨#[97, 110, 100]⟩ : BA)) then true else (zd x.2.lab.2.1 (⟨#[111, 114]⟩ : BA)) then
 bif decide (0 ≤ (0 : Int)) && decide ((0 : Int) < ((y1.2.1 : Nat) : Int)) then
 (F41 (y1.2.2.getD 0 (Ty.dflt (.int .i64)))).bind fun r8 =>
 bif r8 then
 bif decide (0 ≤ (1 : Int)) && decide ((1 : Int) < ((y1.2.1 : Nat) : Int)) then
 (F41 (y1.2.2.getD 1 (Ty.dflt (.int .i64)))).bind fun r9 =>
 some ((1 : Int), r9)
 else
 (none)
 else
 some ((1 : Int), false)
 else
 (none)
 else
 bif decide (0 ≤ (0 : Int)) && decide ((0 : Int) < ((y1.2.1 : Nat) : Int)) then
 bif decide (0 ≤ (1 : Int)) && decide ((1 : Int) < ((y1.2.1 : Nat) : Int)) then
 (S4 (x.2.lab.2.1, (y1.2.2.getD 0 (Ty.dflt (.int .i64)), y1.2.2.getD 1 (Ty.dflt (.int .i64))))).bind fun r10 =>
 some r10
 else
 (none)
 else
 (none)
theorem f69.l1 (n : Nat) (x : f69.Z1) : ∀ (m : Nat) (y1 : f69.Z0), f69.L1 n x m y1 = zY (f69.s1 n x) m y1 :=
 zM (fun _ => rfl) fun m y => by kernel_rfl
def f69.g (n : Nat) (x : f69.Z1) : Option (Int × Bool) :=
 zY (f69.s1 n x) n ((0 : Int), (0, []))
theorem f69.eq (n : Nat) (x : f69.Z1) : rK E69 C69 n 1 69 (zu f69.A3 x) (zq f69.A2) = f69.g n x := by
 simp only [f69.g, ← f69.l1]
 kernel_rfl
theorem f69.codes : CdO E69 C69 := zm (aC Tryz.func69 aN) (by kernel_rfl)
theorem f69.ok (G : (zi × zg) → Option (Int × Bool)) (h : Run G f69.g) (e41 : CO 41 ZN) (e69 : CO 69 VT) (e89 : CO 89 cY) (e104 : CO 104 tX) (e114 : CO 114 pS) (e115 : CO 115 px) (e116 : CO 116 bp) : CO 69 (zk f69.A3 f69.A2 true G) :=
 zn zE zD (zf e116 (zf e115 (zf e114 (zf e104 (zf e89 (zf e69 (zf e41 zj))))))) f69.codes (fun _ => Nw.1 rfl) (h.go f69.eq)
end
def Uw : Con := zk f69.A3 f69.A2 true F69
class Rec80 where
 F : (zi × zg) → Option (Int × Bool)
section
variable [Rec80]
end
abbrev f40.A0 : Sig := [(false, .int .i64), (false, .int .i64)]
abbrev f40.A1 : Sig := [(true, tTable), (true, tExpr)]
def E40 : FuncId → Option Con := (zN 69 Uw (zN 68 TN (zN 58 iP yc)))
noncomputable def C40 : List (FuncId × Func) := [(40, Tryz.f40)]
def f40.g (n : Nat) (x : zi × zg) : Option (Int × Int) :=
 (F58 x.1).bind fun r1 =>
 bif r1 != (0 : Int) then
 some ((0 : Int), r1)
 else
 (F68 ((x.1, (1024 : Int)), ((Rose.node x.2.lab x.2.kids), (1 : Int)))).bind fun r2 =>
 bif !r2.2 then
 some ((0 : Int), (150 : Int))
 else
 (F69 (x.1, (Rose.node x.2.lab x.2.kids))).bind fun r3 =>
 bif !r3.2 then
 some ((0 : Int), (151 : Int))
 else
 some (r3.1, (0 : Int))
theorem f40.eq (n : Nat) (x : zi × zg) : rK E40 C40 n 1 40 (zu f40.A1 x) (zq f40.A0) = f40.g n x := by
 kernel_rfl
theorem f40.codes : CdO E40 C40 := zm (aC Tryz.func40 aN) (by kernel_rfl)
theorem f40.ok (h : Run F40 f40.g) (e58 : CO 58 iP) (e68 : CO 68 TN) (e69 : CO 69 Uw) : CO 40 (zk f40.A1 f40.A0 true F40) :=
 zn zE zD (zf e69 (zf e68 (zf e58 zj))) f40.codes (fun _ => Nw.1 rfl) (h.go f40.eq)
def iw : Con := zk f40.A1 f40.A0 true F40
def Nh : FuncId → Option Con := yc
noncomputable def Ox : List (FuncId × Func) := [(103, Tryz.f103)]
def f103.g (n : Nat) (x : zc) : Option (Bool) :=
 some (x.1 == (0 : Int))
theorem f103.eq (n : Nat) (x : zc) : rK Nh Ox n 1 103 (zu [(true, tValue)] x) (zq [(false, .bool)]) = f103.g n x := by
 kernel_rfl
theorem f103.codes : CdO Nh Ox := zm (aC Tryz.func103 aN) (by kernel_rfl)
theorem f103.ok (h : Run lX f103.g)  : CO 103 (zk [(true, tValue)] [(false, .bool)] true lX) :=
 zn zE zD zj f103.codes (fun _ => Nw.1 rfl) (h.go f103.eq)
def kr : Con := zk [(true, tValue)] [(false, .bool)] true lX
def E36 : FuncId → Option Con := yc
noncomputable def C36 : List (FuncId × Func) := [(36, Tryz.f36)]
def f36.g (n : Nat) (x : zc) : Option (Bool) :=
 some (bif (x.1 == (1 : Int)) then (x.2.1 == (1 : Int)) else false)
theorem f36.eq (n : Nat) (x : zc) : rK E36 C36 n 1 36 (zu [(true, tValue)] x) (zq [(false, .bool)]) = f36.g n x := by
 kernel_rfl
theorem f36.codes : CdO E36 C36 := zm (aC Tryz.func36 aN) (by kernel_rfl)
theorem f36.ok (h : Run F36 f36.g)  : CO 36 (zk [(true, tValue)] [(false, .bool)] true F36) :=
 zn zE zD zj f36.codes (fun _ => Nw.1 rfl) (h.go f36.eq)
def bo : Con := zk [(true, tValue)] [(false, .bool)] true F36
def O5 : FuncId → Option Con := yc
noncomputable def O3 : List (FuncId × Func) := [(154, Tryz.f154)]
def f154.g (n : Nat) (x : zc) : Option (Bool) :=
 some (bif (x.1 == (1 : Int)) then (x.2.1 == (0 : Int)) else false)
theorem f154.eq (n : Nat) (x : zc) : rK O5 O3 n 1 154 (zu [(true, tValue)] x) (zq [(false, .bool)]) = f154.g n x := by
 kernel_rfl
theorem f154.codes : CdO O5 O3 := zm (aC Tryz.func154 aN) (by kernel_rfl)
theorem f154.ok (h : Run Vo f154.g)  : CO 154 (zk [(true, tValue)] [(false, .bool)] true Vo) :=
 zn zE zD zj f154.codes (fun _ => Nw.1 rfl) (h.go f154.eq)
def kh : Con := zk [(true, tValue)] [(false, .bool)] true Vo
def O7 : FuncId → Option Con := yc
noncomputable def OF : List (FuncId × Func) := [(105, Tryz.f105)]
def f105.g (n : Nat) (x : Bool) : Option (zc) :=
 bif x then
 some ((1 : Int), ((1 : Int), (0, (⟨#[]⟩ : BA))))
 else
 some ((1 : Int), ((0 : Int), (0, (⟨#[]⟩ : BA))))
theorem f105.eq (n : Nat) (x : Bool) : rK O7 OF n 1 105 (zu [(false, .bool)] x) (zq [(true, tValue)]) = f105.g n x := by
 kernel_rfl
theorem f105.codes : CdO O7 OF := zm (aC Tryz.func105 aN) (by kernel_rfl)
theorem f105.ok (h : Run cj f105.g)  : CO 105 (zk [(false, .bool)] [(true, tValue)] true cj) :=
 zn zE zD zj f105.codes (fun _ => Nw.1 rfl) (h.go f105.eq)
def kT : Con := zk [(false, .bool)] [(true, tValue)] true cj
def O1 : FuncId → Option Con := yc
noncomputable def Ng : List (FuncId × Func) := [(156, Tryz.f156)]
def f156.g (n : Nat) (x : Int) : Option (zc) :=
 some ((2 : Int), (x, (0, (⟨#[]⟩ : BA))))
theorem f156.eq (n : Nat) (x : Int) : rK O1 Ng n 1 156 (zu [(false, .int .i64)] x) (zq [(true, tValue)]) = f156.g n x := by
 kernel_rfl
theorem f156.codes : CdO O1 Ng := zm (aC Tryz.func156 aN) (by kernel_rfl)
theorem f156.ok (h : Run kQ f156.g)  : CO 156 (zk [(false, .int .i64)] [(true, tValue)] true kQ) :=
 zn zE zD zj f156.codes (fun _ => Nw.1 rfl) (h.go f156.eq)
def js : Con := zk [(false, .int .i64)] [(true, tValue)] true kQ
def Oq : FuncId → Option Con := yc
noncomputable def OD : List (FuncId × Func) := [(159, Tryz.f159)]
def f159.g (n : Nat) (x : zc) : Option (Nat) :=
 bif x.1 == (2 : Int) then
 some (FloatKind.f64.nearest x.2.1)
 else
 some x.2.2.1
theorem f159.eq (n : Nat) (x : zc) : rK Oq OD n 1 159 (zu [(true, tValue)] x) (zq [(false, .float .f64)]) = f159.g n x := by
 kernel_rfl
theorem f159.codes : CdO Oq OD := zm (aC Tryz.func159 aN) (by kernel_rfl)
theorem f159.ok (h : Run nI f159.g)  : CO 159 (zk [(true, tValue)] [(false, .float .f64)] true nI) :=
 zn zE zD zj f159.codes (fun _ => Nw.1 rfl) (h.go f159.eq)
def ZH : Con := zk [(true, tValue)] [(false, .float .f64)] true nI
end
end Go.Proofs.YtefddghdaimklaaGreatDoor.AI
