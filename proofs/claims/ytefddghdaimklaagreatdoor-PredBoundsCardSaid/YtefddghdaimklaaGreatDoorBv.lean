/- A part of the proof. -/
import Derived.Test.YtefddghdaimklaaGreatDoorBc
set_option linter.unusedVariables false
set_option linter.unusedSimpArgs false
set_option linter.unusedSectionVars false
set_option maxRecDepth 100000
namespace Go.Proofs.YtefddghdaimklaaGreatDoor.AI
open Go
noncomputable section
set_option maxRecDepth 100000
abbrev f39.A0 : Sig := [(true, tExpr), (false, .int .i64)]
class Rec39 where
 F : (zn × Int) → Option (Int)
section
variable [Rec39]
def V6 : Con := zj f39.A0 [(false, .int .i64)] true Rec39.F
def E39 : FuncId → Option Con := (zy 39 V6 zU)
noncomputable def C39 : List (FuncId × Func) := [(39, Tryz.f39)]
def f39.h1 (x : zn × Int) (y1 : Int × Int) : List AV × List Ob := ([.undef, vv [cI y1.1], vv [.ptr 0 0], .undef, .undef, vv [cI y1.2]] ++ uN 21 [], [.box [cI x.1.lab.1, cT x.1.lab.2.1, cI x.1.lab.2.2.1, cI x.1.lab.2.2.2.1, cI x.1.lab.2.2.2.2.1, .sc (.float .f64) x.1.lab.2.2.2.2.2.1, cT x.1.lab.2.2.2.2.2.2, .sc (.sl tExpr) x.1.kids]])
def f39.L1 (n : Nat) (x : zn × Int) (m1 : Nat) (y1 : Int × Int) : Option (Int) :=
 lK (ann 39 3) 1 E39 C39 n 1 39 Tryz.f39 [1, 1, 0, 1, 0, 0] [1, 1, 0, 1, 0] m1 (f39.h1 x y1) (xa TT Tryz.f39 (zp [(false, .int .i64)]))
def f39.s1 (n : Nat) (x : zn × Int) (S1 : (Int × Int) → Option (Int)) (y1 : Int × Int) : Option (Int) :=
 bif bif (decide (y1.2 < (x.1.kids.length : Int))) then (decide (y1.1 ≤ (262144 : Int))) else false then
 bif decide (0 ≤ y1.2) && decide (y1.2 < (x.1.kids.length : Int)) then
 (Rec39.F ((Rose.node ((x.1.kids.getD y1.2.toNat tExpr.dflt).lab) ((x.1.kids.getD y1.2.toNat tExpr.dflt).kids)), y1.1)).bind fun r2 =>
 S1 (r2, IntKind.wrap .i64 (y1.2 + (1 : Int)))
 else
 (none)
 else
 some y1.1
theorem f39.l1 (n : Nat) (x : zn × Int) : ∀ (m : Nat) (y1 : Int × Int), f39.L1 n x m y1 = zF (f39.s1 n x) m y1 :=
 zw (fun _ => rfl) fun m y => by kernel_rfl
def f39.g (n : Nat) (x : zn × Int) : Option (Int) :=
 zF (f39.s1 n x) n (IntKind.wrap .i64 (x.2 + (1 : Int)), (0 : Int))
theorem f39.eq (n : Nat) (x : zn × Int) : rK E39 C39 n 1 39 (zt f39.A0 x) (zp [(false, .int .i64)]) = f39.g n x := by
 simp only [f39.g, ← f39.l1]
 kernel_rfl
theorem f39.codes : CdO E39 C39 := zm (aC Tryz.func39 aN) (by kernel_rfl)
theorem f39.ok (G : (zn × Int) → Option (Int)) (h : Run G f39.g) (e39 : CO 39 V6) : CO 39 (zj f39.A0 [(false, .int .i64)] true G) :=
 zi zu zv (zf e39 zk) f39.codes (fun _ => Ll.1 rfl) (h.go f39.eq)
end
def Se : Con := zj f39.A0 [(false, .int .i64)] true F39
def E14 : FuncId → Option Con := (zy 39 Se zU)
noncomputable def C14 : List (FuncId × Func) := [(14, Tryz.f14)]
def f14.g (n : Nat) (x : zn) : Option (Bool) :=
 (F39 ((Rose.node x.lab x.kids), (0 : Int))).bind fun r1 =>
 some (decide (r1 > (262144 : Int)))
theorem f14.eq (n : Nat) (x : zn) : rK E14 C14 n 1 14 (zt [(true, tExpr)] x) (zp [(false, .bool)]) = f14.g n x := by
 kernel_rfl
theorem f14.codes : CdO E14 C14 := zm (aC Tryz.func14 aN) (by kernel_rfl)
theorem f14.ok (h : Run F14 f14.g) (e39 : CO 39 Se) : CO 14 (zj [(true, tExpr)] [(false, .bool)] true F14) :=
 zi zu zv (zf e39 zk) f14.codes (fun _ => Ll.1 rfl) (h.go f14.eq)
def Tl : Con := zj [(true, tExpr)] [(false, .bool)] true F14
def E5 : FuncId → Option Con := (zy 14 Tl zU)
noncomputable def C5 : List (FuncId × Func) := [(5, Tryz.f5)]
def f5.g (n : Nat) (x : zn) : Option (zn) :=
 (F14 (Rose.node x.lab x.kids)).bind fun r1 =>
 bif r1 then
 some (Rose.node ((0 : Int), ((⟨#[]⟩ : BA), ((0 : Int), ((0 : Int), ((0 : Int), (0, (⟨#[]⟩ : BA))))))) ([]))
 else
 some (Rose.node x.lab x.kids)
theorem f5.eq (n : Nat) (x : zn) : rK E5 C5 n 1 5 (zt [(true, tExpr)] x) (zp [(true, tExpr)]) = f5.g n x := by
 kernel_rfl
theorem f5.codes : CdO E5 C5 := zm (aC Tryz.func5 aN) (by kernel_rfl)
theorem f5.ok (h : Run F5 f5.g) (e14 : CO 14 Tl) : CO 5 (zj [(true, tExpr)] [(true, tExpr)] false F5) :=
 zi zu zv (zf e14 zk) f5.codes (fun h => by cases h) (h.go f5.eq)
def OK : Con := zj [(true, tExpr)] [(true, tExpr)] false F5
abbrev f8.Z0 : Type := Int × Nat × (List zn)
class Rec8 where
 F : zn → Option (zn)
section
variable [Rec8]
def Qm : Con := zj [(true, tExpr)] [(true, tExpr)] false Rec8.F
def E8 : FuncId → Option Con := (zy 8 Qm zU)
noncomputable def C8 : List (FuncId × Func) := [(8, Tryz.f8)]
def f8.h1 (x : zn) (y1 : f8.Z0) : List AV × List Ob := ([.undef, vv [.ptr 0 0], vv [.ptr 1 0], vv [.ptr 2 0], vv [cI y1.1]] ++ uN 28 [], [.box [cI x.lab.1, cT x.lab.2.1, cI x.lab.2.2.1, cI x.lab.2.2.2.1, cI x.lab.2.2.2.2.1, .sc (.float .f64) x.lab.2.2.2.2.2.1, cT x.lab.2.2.2.2.2.2, .sc (.sl tExpr) x.kids], .box [cI (0 : Int), cT (⟨#[]⟩ : BA), cI (0 : Int), cI (0 : Int), cI (0 : Int), .sc (.float .f64) 0, cT (⟨#[]⟩ : BA), .nils], .box [cI x.lab.1, cT x.lab.2.1, cI x.lab.2.2.1, cI x.lab.2.2.2.1, cI x.lab.2.2.2.2.1, .sc (.float .f64) x.lab.2.2.2.2.2.1, cT x.lab.2.2.2.2.2.2, .own 3 y1.2.1], .arr 33 tExpr y1.2.2])
def f8.L1 (n : Nat) (x : zn) (m1 : Nat) (y1 : f8.Z0) : Option (zn) :=
 lK (ann 8 3) 4 E8 C8 n 1 8 Tryz.f8 [1, 1, 0, 1, 0, 0] [1, 1, 0, 1, 0] m1 (f8.h1 x y1) (xa TT Tryz.f8 (zp [(true, tExpr)]))
def f8.s1 (n : Nat) (x : zn) (S1 : (Int × Nat × (List zn)) → Option (zn)) (y1 : f8.Z0) : Option (zn) :=
 bif decide (y1.1 < (x.kids.length : Int)) then
 bif decide (0 ≤ y1.1) && decide (y1.1 < (x.kids.length : Int)) then
 (Rec8.F (Rose.node ((x.kids.getD y1.1.toNat tExpr.dflt).lab) ((x.kids.getD y1.1.toNat tExpr.dflt).kids))).bind fun r2 =>
 bif decide ((y1.2.1 + 1) * 96 ≤ zq) then
 S1 (IntKind.wrap .i64 (y1.1 + (1 : Int)), (y1.2.1 + 1, List.take y1.2.1 y1.2.2 ++ ([(Rose.node r2.lab r2.kids)])))
 else
 (none)
 else
 (none)
 else
 some (Rose.node x.lab (List.take y1.2.1 y1.2.2))
theorem f8.l1 (n : Nat) (x : zn) : ∀ (m : Nat) (y1 : f8.Z0), f8.L1 n x m y1 = zF (f8.s1 n x) m y1 :=
 zw (fun _ => rfl) fun m y => by kernel_rfl
def f8.g (n : Nat) (x : zn) : Option (zn) :=
 zF (f8.s1 n x) n ((0 : Int), (0, []))
theorem f8.eq (n : Nat) (x : zn) : rK E8 C8 n 1 8 (zt [(true, tExpr)] x) (zp [(true, tExpr)]) = f8.g n x := by
 simp only [f8.g, ← f8.l1]
 kernel_rfl
theorem f8.codes : CdO E8 C8 := zm (aC Tryz.func8 aN) (by kernel_rfl)
theorem f8.ok (G : zn → Option (zn)) (h : Run G f8.g) (e8 : CO 8 Qm) : CO 8 (zj [(true, tExpr)] [(true, tExpr)] false G) :=
 zi zu zv (zf e8 zk) f8.codes (fun h => by cases h) (h.go f8.eq)
end
def Ny : Con := zj [(true, tExpr)] [(true, tExpr)] false F8
abbrev f44.Z0 : Type := (List ByteArray) × ByteArray
abbrev f44.A1 : Sig := [(false, .sl .str), (false, .str)]
def E44 : FuncId → Option Con := zU
noncomputable def C44 : List (FuncId × Func) := [(44, Tryz.f44)]
def f44.h1 (x : f44.Z0) (y1 : Int) : List AV × List Ob := ([vv [.sc (.sl .str) x.1], vv [cT x.2]] ++ uN 5 ([vv [cI (x.1.length : Int)], vv [cI y1]] ++ uN 10 []), [])
def f44.L1 (n : Nat) (x : f44.Z0) (m1 : Nat) (y1 : Int) : Option (Int) :=
 lK (ann 44 2) 0 E44 C44 n 1 44 Tryz.f44 [1, 0, 1, 0, 0] [1, 0, 1, 0] m1 (f44.h1 x y1) (xa TT Tryz.f44 (zp [(false, .int .i64)]))
def f44.s1 (n : Nat) (x : f44.Z0) (S1 : Int → Option (Int)) (y1 : Int) : Option (Int) :=
 bif decide (y1 < (x.1.length : Int)) then
 bif decide (0 ≤ y1) && decide (y1 < (x.1.length : Int)) then
 bif zd x.2 (x.1.getD y1.toNat (Ty.dflt .str)) then
 some y1
 else
 S1 (IntKind.wrap .i64 (y1 + (1 : Int)))
 else
 (none)
 else
 some (-1 : Int)
theorem f44.l1 (n : Nat) (x : f44.Z0) : ∀ (m : Nat) (y1 : Int), f44.L1 n x m y1 = zF (f44.s1 n x) m y1 :=
 zw (fun _ => rfl) fun m y => by kernel_rfl
def f44.g (n : Nat) (x : f44.Z0) : Option (Int) :=
 zF (f44.s1 n x) n (0 : Int)
theorem f44.eq (n : Nat) (x : f44.Z0) : rK E44 C44 n 1 44 (zt f44.A1 x) (zp [(false, .int .i64)]) = f44.g n x := by
 simp only [f44.g, ← f44.l1]
 kernel_rfl
theorem f44.codes : CdO E44 C44 := zm (aC Tryz.func44 aN) (by kernel_rfl)
theorem f44.ok (h : Run F44 f44.g)  : CO 44 (zj f44.A1 [(false, .int .i64)] true F44) :=
 zi zu zv zk f44.codes (fun _ => Ll.1 rfl) (h.go f44.eq)
def cN : Con := zj f44.A1 [(false, .int .i64)] true F44
abbrev f104.A0 : Sig := [(false, .sl .str), (false, .str)]
def MH : FuncId → Option Con := (zy 44 cN zU)
noncomputable def MK : List (FuncId × Func) := [(104, Tryz.f104)]
def f104.g (n : Nat) (x : (List ByteArray) × ByteArray) : Option (Bool) :=
 (F44 x).bind fun r1 =>
 some (decide (r1 ≥ (0 : Int)))
theorem f104.eq (n : Nat) (x : (List ByteArray) × ByteArray) : rK MH MK n 1 104 (zt f104.A0 x) (zp [(false, .bool)]) = f104.g n x := by
 kernel_rfl
theorem f104.codes : CdO MH MK := zm (aC Tryz.func104 aN) (by kernel_rfl)
theorem f104.ok (h : Run cr f104.g) (e44 : CO 44 cN) : CO 104 (zj f104.A0 [(false, .bool)] true cr) :=
 zi zu zv (zf e44 zk) f104.codes (fun _ => Ll.1 rfl) (h.go f104.eq)
def sK : Con := zj f104.A0 [(false, .bool)] true cr
abbrev f81.Z0 : Type := (List ByteArray) × ByteArray
abbrev f81.A1 : Sig := [(false, .sl .str), (false, .str)]
def E81 : FuncId → Option Con := zU
noncomputable def C81 : List (FuncId × Func) := [(81, Tryz.f81)]
def f81.h1 (x : f81.Z0) (y1 : Int) : List AV × List Ob := ([vv [.sc (.sl .str) x.1], vv [cT x.2]] ++ uN 3 ([vv [cI y1]] ++ uN 12 []), [])
def f81.L1 (n : Nat) (x : f81.Z0) (m1 : Nat) (y1 : Int) : Option (Bool) :=
 lK (ann 81 2) 0 E81 C81 n 1 81 Tryz.f81 [1, 0, 1, 0, 0] [1, 0, 1, 0] m1 (f81.h1 x y1) (xa TT Tryz.f81 (zp [(false, .bool)]))
def f81.s1 (n : Nat) (x : f81.Z0) (S1 : Int → Option (Bool)) (y1 : Int) : Option (Bool) :=
 bif decide (y1 < (x.1.length : Int)) then
 bif decide (0 ≤ y1) && decide (y1 < (x.1.length : Int)) then
 bif zd (x.1.getD y1.toNat (Ty.dflt .str)) x.2 then
 some true
 else
 S1 (IntKind.wrap .i64 (y1 + (1 : Int)))
 else
 (none)
 else
 some false
theorem f81.l1 (n : Nat) (x : f81.Z0) : ∀ (m : Nat) (y1 : Int), f81.L1 n x m y1 = zF (f81.s1 n x) m y1 :=
 zw (fun _ => rfl) fun m y => by kernel_rfl
def f81.g (n : Nat) (x : f81.Z0) : Option (Bool) :=
 zF (f81.s1 n x) n (0 : Int)
theorem f81.eq (n : Nat) (x : f81.Z0) : rK E81 C81 n 1 81 (zt f81.A1 x) (zp [(false, .bool)]) = f81.g n x := by
 simp only [f81.g, ← f81.l1]
 kernel_rfl
theorem f81.codes : CdO E81 C81 := zm (aC Tryz.func81 aN) (by kernel_rfl)
theorem f81.ok (h : Run F81 f81.g)  : CO 81 (zj f81.A1 [(false, .bool)] true F81) :=
 zi zu zv zk f81.codes (fun _ => Ll.1 rfl) (h.go f81.eq)
def i8 : Con := zj f81.A1 [(false, .bool)] true F81
def MT : FuncId → Option Con := zU
noncomputable def MY : List (FuncId × Func) := [(130, Tryz.f130)]
def f130.g (n : Nat) (x : Unit) : Option ((List ByteArray)) :=
 some (List.take 4 ([(⟨#[45]⟩ : BA), (⟨#[110, 111, 116]⟩ : BA), (⟨#[105, 115, 32, 110, 117, 108, 108]⟩ : BA), (⟨#[105, 115, 32, 110, 111, 116, 32, 110, 117, 108, 108]⟩ : BA)]))
theorem f130.eq (n : Nat) (x : Unit) : rK MT MY n 1 130 (zt [] x) (zp [(false, .sl .str)]) = f130.g n x := by
 kernel_rfl
theorem f130.codes : CdO MT MY := zm (aC Tryz.func130 aN) (by kernel_rfl)
theorem f130.ok (h : Run Qs f130.g)  : CO 130 (zj [] [(false, .sl .str)] false Qs) :=
 zi zu zv zk f130.codes (fun h => by cases h) (h.go f130.eq)
def Zz : Con := zj [] [(false, .sl .str)] false Qs
def MB : FuncId → Option Con := zU
noncomputable def Md : List (FuncId × Func) := [(131, Tryz.f131)]
def f131.g (n : Nat) (x : Unit) : Option ((List ByteArray)) :=
 some (List.take 13 ([(⟨#[43]⟩ : BA), (⟨#[45]⟩ : BA), (⟨#[42]⟩ : BA), (⟨#[47]⟩ : BA), (⟨#[37]⟩ : BA), (⟨#[61]⟩ : BA), (⟨#[60, 62]⟩ : BA), (⟨#[60]⟩ : BA), (⟨#[60, 61]⟩ : BA), (⟨#[62]⟩ : BA), (⟨#[62, 61]⟩ : BA), (⟨#[97, 110, 100]⟩ : BA), (⟨#[111, 114]⟩ : BA)]))
theorem f131.eq (n : Nat) (x : Unit) : rK MB Md n 1 131 (zt [] x) (zp [(false, .sl .str)]) = f131.g n x := by
 kernel_rfl
theorem f131.codes : CdO MB Md := zm (aC Tryz.func131 aN) (by kernel_rfl)
theorem f131.ok (h : Run Qp f131.g)  : CO 131 (zj [] [(false, .sl .str)] false Qp) :=
 zi zu zv zk f131.codes (fun h => by cases h) (h.go f131.eq)
def ZH : Con := zj [] [(false, .sl .str)] false Qp
def E50 : FuncId → Option Con := (zy 81 i8 zU)
noncomputable def C50 : List (FuncId × Func) := [(50, Tryz.f50)]
def f50.g (n : Nat) (x : ByteArray) : Option (Bool) :=
 (F81 (List.take 6 ([(⟨#[61]⟩ : BA), (⟨#[60, 62]⟩ : BA), (⟨#[60]⟩ : BA), (⟨#[60, 61]⟩ : BA), (⟨#[62]⟩ : BA), (⟨#[62, 61]⟩ : BA)]), x)).bind fun r1 =>
 some r1
theorem f50.eq (n : Nat) (x : ByteArray) : rK E50 C50 n 1 50 (zt [(false, .str)] x) (zp [(false, .bool)]) = f50.g n x := by
 kernel_rfl
theorem f50.codes : CdO E50 C50 := zm (aC Tryz.func50 aN) (by kernel_rfl)
theorem f50.ok (h : Run F50 f50.g) (e81 : CO 81 i8) : CO 50 (zj [(false, .str)] [(false, .bool)] true F50) :=
 zi zu zv (zf e81 zk) f50.codes (fun _ => Ll.1 rfl) (h.go f50.eq)
def aF : Con := zj [(false, .str)] [(false, .bool)] true F50
def N0 : FuncId → Option Con := (zy 81 i8 zU)
noncomputable def MI : List (FuncId × Func) := [(134, Tryz.f134)]
def f134.g (n : Nat) (x : ByteArray) : Option (Bool) :=
 (F81 (List.take 5 ([(⟨#[43]⟩ : BA), (⟨#[45]⟩ : BA), (⟨#[42]⟩ : BA), (⟨#[47]⟩ : BA), (⟨#[37]⟩ : BA)]), x)).bind fun r1 =>
 some r1
theorem f134.eq (n : Nat) (x : ByteArray) : rK N0 MI n 1 134 (zt [(false, .str)] x) (zp [(false, .bool)]) = f134.g n x := by
 kernel_rfl
theorem f134.codes : CdO N0 MI := zm (aC Tryz.func134 aN) (by kernel_rfl)
theorem f134.ok (h : Run Pw f134.g) (e81 : CO 81 i8) : CO 134 (zj [(false, .str)] [(false, .bool)] true Pw) :=
 zi zu zv (zf e81 zk) f134.codes (fun _ => Ll.1 rfl) (h.go f134.eq)
def Z6 : Con := zj [(false, .str)] [(false, .bool)] true Pw
def MR : FuncId → Option Con := (zy 63 rA zU)
noncomputable def M3 : List (FuncId × Func) := [(112, Tryz.f112)]
def f112.g (n : Nat) (x : zc) : Option (Bool) :=
 bif bif (x.1 == (0 : Int)) then (x.2.1 == (0 : Int)) else false then
 (F63 x.2.2.1).bind fun r1 =>
 some (bif (r1 == (0 : Int)) then (zd x.2.2.2 (⟨#[]⟩ : BA)) else false)
 else
 some false
theorem f112.eq (n : Nat) (x : zc) : rK MR M3 n 1 112 (zt [(true, tValue)] x) (zp [(false, .bool)]) = f112.g n x := by
 kernel_rfl
theorem f112.codes : CdO MR M3 := zm (aC Tryz.func112 aN) (by kernel_rfl)
theorem f112.ok (h : Run XO f112.g) (e63 : CO 63 rA) : CO 112 (zj [(true, tValue)] [(false, .bool)] true XO) :=
 zi zu zv (zf e63 zk) f112.codes (fun _ => Ll.1 rfl) (h.go f112.eq)
def cy : Con := zj [(true, tValue)] [(false, .bool)] true XO
abbrev f68.Z0 : Type := Int × ByteArray × (List zQ) × (List Int) × (List yn) × (List ce) × Int
abbrev f68.Z1 : Type := (zg × Int) × (zn × Int)
abbrev f68.Y2 : Type := (zg × Int) × Bool
abbrev f68.A3 : Sig := [(true, tExpr), (false, .int .i64)]
class Rec68 where
 F : ((zg × Int) × (zn × Int)) → Option f68.Y2
section
variable [Rec68]
def Uq : Con := qm (.pair tTable (.int .i64)) f68.A3 [(false, .bool)] Rec68.F
def E68 : FuncId → Option Con := (zy 112 cy (zy 104 sK (zy 75 rE (zy 68 Uq zU))))
noncomputable def C68 : List (FuncId × Func) := [(68, Tryz.f68)]
def f68.h1 (x : f68.Z1) (r3 : Bool) (r4 : Bool) (y5 : f68.Z0) : List AV × List Ob := ([vv [.ptr 0 0], .undef, vv [cI x.2.2]] ++ uN 138 ([vv [.sc (.sl tExpr) x.2.1.kids], vv [cI (x.2.1.kids.length : Int)], vv [cI y5.1]] ++ uN 10 []), [.box [cT y5.2.1, .sc (.sl tColumn) y5.2.2.1, .sc (.sl (.int .i64)) y5.2.2.2.1, .sc (.sl tIndex) y5.2.2.2.2.1, .sc (.sl tRef) y5.2.2.2.2.2.1, cI y5.2.2.2.2.2.2], .box [cI x.2.1.lab.1, cT x.2.1.lab.2.1, cI x.2.1.lab.2.2.1, cI x.2.1.lab.2.2.2.1, cI x.2.1.lab.2.2.2.2.1, .sc (.float .f64) x.2.1.lab.2.2.2.2.2.1, cT x.2.1.lab.2.2.2.2.2.2, .sc (.sl tExpr) x.2.1.kids]])
def f68.h2 (x : f68.Z1) (r7 : Bool) (r8 : Bool) (y9 : f68.Z0) : List AV × List Ob := ([vv [.ptr 0 0], .undef, vv [cI x.2.2]] ++ uN 138 ([vv [.sc (.sl tExpr) x.2.1.kids], vv [cI (x.2.1.kids.length : Int)], vv [cI y9.1]] ++ uN 10 []), [.box [cT y9.2.1, .sc (.sl tColumn) y9.2.2.1, .sc (.sl (.int .i64)) y9.2.2.2.1, .sc (.sl tIndex) y9.2.2.2.2.1, .sc (.sl tRef) y9.2.2.2.2.2.1, cI y9.2.2.2.2.2.2], .box [cI x.2.1.lab.1, cT x.2.1.lab.2.1, cI x.2.1.lab.2.2.1, cI x.2.1.lab.2.2.2.1, cI x.2.1.lab.2.2.2.2.1, .sc (.float .f64) x.2.1.lab.2.2.2.2.2.1, cT x.2.1.lab.2.2.2.2.2.2, .sc (.sl tExpr) x.2.1.kids]])
def f68.h3 (x : f68.Z1) (r7 : Bool) (r11 : Bool) (r12 : Bool) (y13 : f68.Z0) : List AV × List Ob := ([vv [.ptr 0 0], .undef, vv [cI x.2.2]] ++ uN 138 ([vv [.sc (.sl tExpr) x.2.1.kids], vv [cI (x.2.1.kids.length : Int)], vv [cI y13.1]] ++ uN 10 []), [.box [cT y13.2.1, .sc (.sl tColumn) y13.2.2.1, .sc (.sl (.int .i64)) y13.2.2.2.1, .sc (.sl tIndex) y13.2.2.2.2.1, .sc (.sl tRef) y13.2.2.2.2.2.1, cI y13.2.2.2.2.2.2], .box [cI x.2.1.lab.1, cT x.2.1.lab.2.1, cI x.2.1.lab.2.2.1, cI x.2.1.lab.2.2.2.1, cI x.2.1.lab.2.2.2.2.1, .sc (.float .f64) x.2.1.lab.2.2.2.2.2.1, cT x.2.1.lab.2.2.2.2.2.2, .sc (.sl tExpr) x.2.1.kids]])
def f68.h4 (x : f68.Z1) (r15 : Bool) (y16 : f68.Z0) : List AV × List Ob := ([vv [.ptr 0 0], .undef, vv [cI x.2.2]] ++ uN 138 ([vv [.sc (.sl tExpr) x.2.1.kids], vv [cI (x.2.1.kids.length : Int)], vv [cI y16.1]] ++ uN 10 []), [.box [cT y16.2.1, .sc (.sl tColumn) y16.2.2.1, .sc (.sl (.int .i64)) y16.2.2.2.1, .sc (.sl tIndex) y16.2.2.2.2.1, .sc (.sl tRef) y16.2.2.2.2.2.1, cI y16.2.2.2.2.2.2], .box [cI x.2.1.lab.1, cT x.2.1.lab.2.1, cI x.2.1.lab.2.2.1, cI x.2.1.lab.2.2.2.1, cI x.2.1.lab.2.2.2.2.1, .sc (.float .f64) x.2.1.lab.2.2.2.2.2.1, cT x.2.1.lab.2.2.2.2.2.2, .sc (.sl tExpr) x.2.1.kids]])
def f68.L1 (n : Nat) (x : f68.Z1) (r3 : Bool) (r4 : Bool) (m5 : Nat) (y5 : f68.Z0) : Option f68.Y2 :=
 wo (ann 68 20).keep 2 (fun fr H k => z0 TT 1 E68 (yi TT E68 n ann (yk C68) 1) n (ann 68) (t5 [1, 1, 1, 1, 1, 1, 1, 0, 1, 0, 0] (zZ Tryz.f68)) fr H k) m5 (f68.h1 x r3 r4 y5).1 (f68.h1 x r3 r4 y5).2 (oT TT 1 E68 (yi TT E68 n ann (yk C68) 1) n (ann 68) [1, 1, 1, 1, 1, 1, 1, 0, 1, 0] (zZ Tryz.f68) (xa TT Tryz.f68 (mN (.pair tTable (.int .i64)) [(false, .bool)])))
def f68.L2 (n : Nat) (x : f68.Z1) (r7 : Bool) (r8 : Bool) (m9 : Nat) (y9 : f68.Z0) : Option f68.Y2 :=
 wo (ann 68 20).keep 2 (fun fr H k => z0 TT 1 E68 (yi TT E68 n ann (yk C68) 1) n (ann 68) (t5 [1, 1, 1, 1, 1, 1, 1, 0, 1, 0, 0] (zZ Tryz.f68)) fr H k) m9 (f68.h2 x r7 r8 y9).1 (f68.h2 x r7 r8 y9).2 (oT TT 1 E68 (yi TT E68 n ann (yk C68) 1) n (ann 68) [1, 1, 1, 1, 1, 1, 1, 0, 1, 0] (zZ Tryz.f68) (xa TT Tryz.f68 (mN (.pair tTable (.int .i64)) [(false, .bool)])))
def f68.L3 (n : Nat) (x : f68.Z1) (r7 : Bool) (r11 : Bool) (r12 : Bool) (m13 : Nat) (y13 : f68.Z0) : Option f68.Y2 :=
 wo (ann 68 20).keep 2 (fun fr H k => z0 TT 1 E68 (yi TT E68 n ann (yk C68) 1) n (ann 68) (t5 [1, 1, 1, 1, 1, 1, 1, 0, 1, 0, 0] (zZ Tryz.f68)) fr H k) m13 (f68.h3 x r7 r11 r12 y13).1 (f68.h3 x r7 r11 r12 y13).2 (oT TT 1 E68 (yi TT E68 n ann (yk C68) 1) n (ann 68) [1, 1, 1, 1, 1, 1, 1, 0, 1, 0] (zZ Tryz.f68) (xa TT Tryz.f68 (mN (.pair tTable (.int .i64)) [(false, .bool)])))
def f68.L4 (n : Nat) (x : f68.Z1) (r15 : Bool) (m16 : Nat) (y16 : f68.Z0) : Option f68.Y2 :=
 wo (ann 68 20).keep 2 (fun fr H k => z0 TT 1 E68 (yi TT E68 n ann (yk C68) 1) n (ann 68) (t5 [1, 1, 1, 1, 1, 1, 1, 0, 1, 0, 0] (zZ Tryz.f68)) fr H k) m16 (f68.h4 x r15 y16).1 (f68.h4 x r15 y16).2 (oT TT 1 E68 (yi TT E68 n ann (yk C68) 1) n (ann 68) [1, 1, 1, 1, 1, 1, 1, 0, 1, 0] (zZ Tryz.f68) (xa TT Tryz.f68 (mN (.pair tTable (.int .i64)) [(false, .bool)])))
def f68.s1 (n : Nat) (x : f68.Z1) (r3 : Bool) (r4 : Bool) (S5 : (Int × ByteArray × (List zQ) × (List Int) × (List yn) × (List ce) × Int) → Option f68.Y2) (y5 : f68.Z0) : Option f68.Y2 :=
 bif decide (y5.1 < (x.2.1.kids.length : Int)) then
 bif decide (0 ≤ y5.1) && decide (y5.1 < (x.2.1.kids.length : Int)) then
 (Rec68.F (((y5.2.1, (y5.2.2.1, (y5.2.2.2.1, (y5.2.2.2.2.1, y5.2.2.2.2.2.1)))), y5.2.2.2.2.2.2), ((Rose.node ((x.2.1.kids.getD y5.1.toNat tExpr.dflt).lab) ((x.2.1.kids.getD y5.1.toNat tExpr.dflt).kids)), IntKind.wrap .i64 (x.2.2 + (1 : Int))))).bind fun r6 =>
 bif !r6.2 then
 some (r6.1, false)
 else
 S5 (IntKind.wrap .i64 (y5.1 + (1 : Int)), (r6.1.1.1, (r6.1.1.2.1, (r6.1.1.2.2.1, (r6.1.1.2.2.2.1, (r6.1.1.2.2.2.2, r6.1.2))))))
 else
 (none)
 else
 some (((y5.2.1, (y5.2.2.1, (y5.2.2.2.1, (y5.2.2.2.2.1, y5.2.2.2.2.2.1)))), y5.2.2.2.2.2.2), true)
theorem f68.l1 (n : Nat) (x : f68.Z1) (r3 : Bool) (r4 : Bool) : ∀ (m : Nat) (y5 : f68.Z0), f68.L1 n x r3 r4 m y5 = zF (f68.s1 n x r3 r4) m y5 :=
 zw (fun _ => rfl) fun m y => by kernel_rfl
def f68.s2 (n : Nat) (x : f68.Z1) (r7 : Bool) (r8 : Bool) (S9 : (Int × ByteArray × (List zQ) × (List Int) × (List yn) × (List ce) × Int) → Option f68.Y2) (y9 : f68.Z0) : Option f68.Y2 :=
 bif decide (y9.1 < (x.2.1.kids.length : Int)) then
 bif decide (0 ≤ y9.1) && decide (y9.1 < (x.2.1.kids.length : Int)) then
 (Rec68.F (((y9.2.1, (y9.2.2.1, (y9.2.2.2.1, (y9.2.2.2.2.1, y9.2.2.2.2.2.1)))), y9.2.2.2.2.2.2), ((Rose.node ((x.2.1.kids.getD y9.1.toNat tExpr.dflt).lab) ((x.2.1.kids.getD y9.1.toNat tExpr.dflt).kids)), IntKind.wrap .i64 (x.2.2 + (1 : Int))))).bind fun r10 =>
 bif !r10.2 then
 some (r10.1, false)
 else
 S9 (IntKind.wrap .i64 (y9.1 + (1 : Int)), (r10.1.1.1, (r10.1.1.2.1, (r10.1.1.2.2.1, (r10.1.1.2.2.2.1, (r10.1.1.2.2.2.2, r10.1.2))))))
 else
 (none)
 else
 some (((y9.2.1, (y9.2.2.1, (y9.2.2.2.1, (y9.2.2.2.2.1, y9.2.2.2.2.2.1)))), y9.2.2.2.2.2.2), true)
theorem f68.l2 (n : Nat) (x : f68.Z1) (r7 : Bool) (r8 : Bool) : ∀ (m : Nat) (y9 : f68.Z0), f68.L2 n x r7 r8 m y9 = zF (f68.s2 n x r7 r8) m y9 :=
 zw (fun _ => rfl) fun m y => by kernel_rfl
def f68.s3 (n : Nat) (x : f68.Z1) (r7 : Bool) (r11 : Bool) (r12 : Bool) (S13 : (Int × ByteArray × (List zQ) × (List Int) × (List yn) × (List ce) × Int) → Option f68.Y2) (y13 : f68.Z0) : Option f68.Y2 :=
 bif decide (y13.1 < (x.2.1.kids.length : Int)) then
 bif decide (0 ≤ y13.1) && decide (y13.1 < (x.2.1.kids.length : Int)) then
 (Rec68.F (((y13.2.1, (y13.2.2.1, (y13.2.2.2.1, (y13.2.2.2.2.1, y13.2.2.2.2.2.1)))), y13.2.2.2.2.2.2), ((Rose.node ((x.2.1.kids.getD y13.1.toNat tExpr.dflt).lab) ((x.2.1.kids.getD y13.1.toNat tExpr.dflt).kids)), IntKind.wrap .i64 (x.2.2 + (1 : Int))))).bind fun r14 =>
 bif !r14.2 then
 some (r14.1, false)
 else
 S13 (IntKind.wrap .i64 (y13.1 + (1 : Int)), (r14.1.1.1, (r14.1.1.2.1, (r14.1.1.2.2.1, (r14.1.1.2.2.2.1, (r14.1.1.2.2.2.2, r14.1.2))))))
 else
 (none)
 else
 some (((y13.2.1, (y13.2.2.1, (y13.2.2.2.1, (y13.2.2.2.2.1, y13.2.2.2.2.2.1)))), y13.2.2.2.2.2.2), true)
theorem f68.l3 (n : Nat) (x : f68.Z1) (r7 : Bool) (r11 : Bool) (r12 : Bool) : ∀ (m : Nat) (y13 : f68.Z0), f68.L3 n x r7 r11 r12 m y13 = zF (f68.s3 n x r7 r11 r12) m y13 :=
 zw (fun _ => rfl) fun m y => by kernel_rfl
def f68.s4 (n : Nat) (x : f68.Z1) (r15 : Bool) (S16 : (Int × ByteArray × (List zQ) × (List Int) × (List yn) × (List ce) × Int) → Option f68.Y2) (y16 : f68.Z0) : Option f68.Y2 :=
 bif decide (y16.1 < (x.2.1.kids.length : Int)) then
 bif decide (0 ≤ y16.1) && decide (y16.1 < (x.2.1.kids.length : Int)) then
 (Rec68.F (((y16.2.1, (y16.2.2.1, (y16.2.2.2.1, (y16.2.2.2.2.1, y16.2.2.2.2.2.1)))), y16.2.2.2.2.2.2), ((Rose.node ((x.2.1.kids.getD y16.1.toNat tExpr.dflt).lab) ((x.2.1.kids.getD y16.1.toNat tExpr.dflt).kids)), IntKind.wrap .i64 (x.2.2 + (1 : Int))))).bind fun r17 =>
 bif !r17.2 then
 some (r17.1, false)
 else
 S16 (IntKind.wrap .i64 (y16.1 + (1 : Int)), (r17.1.1.1, (r17.1.1.2.1, (r17.1.1.2.2.1, (r17.1.1.2.2.2.1, (r17.1.1.2.2.2.2, r17.1.2))))))
 else
 (none)
 else
 some (((y16.2.1, (y16.2.2.1, (y16.2.2.2.1, (y16.2.2.2.2.1, y16.2.2.2.2.2.1)))), y16.2.2.2.2.2.2), true)
theorem f68.l4 (n : Nat) (x : f68.Z1) (r15 : Bool) : ∀ (m : Nat) (y16 : f68.Z0), f68.L4 n x r15 m y16 = zF (f68.s4 n x r15) m y16 :=
 zw (fun _ => rfl) fun m y => by kernel_rfl
def f68.g (n : Nat) (x : f68.Z1) : Option f68.Y2 :=
 bif bif (decide (IntKind.wrap .i64 (x.1.2 - (1 : Int)) < (0 : Int))) then true else (decide (x.2.2 > (100 : Int))) then
 some ((x.1.1, IntKind.wrap .i64 (x.1.2 - (1 : Int))), false)
 else
 bif x.2.1.lab.1 == (1 : Int) then
 bif bif (bif ((x.2.1.kids.length : Int) == (0 : Int)) then (zd x.2.1.lab.2.1 (⟨#[]⟩ : BA)) else false) then (x.2.1.lab.2.2.1 == (0 : Int)) else false then
 (F75 x.2.1.lab.2.2.2).bind fun r1 =>
 some ((x.1.1, IntKind.wrap .i64 (x.1.2 - (1 : Int))), r1 == (0 : Int))
 else
 some ((x.1.1, IntKind.wrap .i64 (x.1.2 - (1 : Int))), false)
 else
 bif x.2.1.lab.1 == (2 : Int) then
 bif bif (bif (bif ((x.2.1.kids.length : Int) == (0 : Int)) then (zd x.2.1.lab.2.1 (⟨#[]⟩ : BA)) else false) then (decide (x.2.1.lab.2.2.1 ≥ (0 : Int))) else false) then (decide (x.2.1.lab.2.2.1 < (x.1.1.2.1.length : Int))) else false then
 (XO x.2.1.lab.2.2.2).bind fun r2 =>
 some ((x.1.1, IntKind.wrap .i64 (x.1.2 - (1 : Int))), r2)
 else
 some ((x.1.1, IntKind.wrap .i64 (x.1.2 - (1 : Int))), false)
 else
 bif x.2.1.lab.1 == (3 : Int) then
 bif (x.2.1.kids.length : Int) == (1 : Int) then
 (cr (unL, x.2.1.lab.2.1)).bind fun r3 =>
 bif bif (!r3) then true else (x.2.1.lab.2.2.1 != (0 : Int)) then
 some ((x.1.1, IntKind.wrap .i64 (x.1.2 - (1 : Int))), false)
 else
 (XO x.2.1.lab.2.2.2).bind fun r4 =>
 bif !r4 then
 some ((x.1.1, IntKind.wrap .i64 (x.1.2 - (1 : Int))), false)
 else
 zF (f68.s1 n x r3 r4) n ((0 : Int), (x.1.1.1, (x.1.1.2.1, (x.1.1.2.2.1, (x.1.1.2.2.2.1, (x.1.1.2.2.2.2, IntKind.wrap .i64 (x.1.2 - (1 : Int))))))))
 else
 some ((x.1.1, IntKind.wrap .i64 (x.1.2 - (1 : Int))), false)
 else
 bif x.2.1.lab.1 == (4 : Int) then
 bif (x.2.1.kids.length : Int) == (2 : Int) then
 (cr (arL, x.2.1.lab.2.1)).bind fun r7 =>
 bif r7 then
 bif x.2.1.lab.2.2.1 != (0 : Int) then
 some ((x.1.1, IntKind.wrap .i64 (x.1.2 - (1 : Int))), false)
 else
 (XO x.2.1.lab.2.2.2).bind fun r8 =>
 bif !r8 then
 some ((x.1.1, IntKind.wrap .i64 (x.1.2 - (1 : Int))), false)
 else
 zF (f68.s2 n x r7 r8) n ((0 : Int), (x.1.1.1, (x.1.1.2.1, (x.1.1.2.2.1, (x.1.1.2.2.2.1, (x.1.1.2.2.2.2, IntKind.wrap .i64 (x.1.2 - (1 : Int))))))))
 else
 (cr (cpL, x.2.1.lab.2.1)).bind fun r11 =>
 bif bif (!(bif (bif r11 then true else (zd x.2.1.lab.2.1 (⟨#[97, 110, 100]⟩ : BA))) then true else (zd x.2.1.lab.2.1 (⟨#[111, 114]⟩ : BA)))) then true else (x.2.1.lab.2.2.1 != (0 : Int)) then
 some ((x.1.1, IntKind.wrap .i64 (x.1.2 - (1 : Int))), false)
 else
 (XO x.2.1.lab.2.2.2).bind fun r12 =>
 bif !r12 then
 some ((x.1.1, IntKind.wrap .i64 (x.1.2 - (1 : Int))), false)
 else
 zF (f68.s3 n x r7 r11 r12) n ((0 : Int), (x.1.1.1, (x.1.1.2.1, (x.1.1.2.2.1, (x.1.1.2.2.2.1, (x.1.1.2.2.2.2, IntKind.wrap .i64 (x.1.2 - (1 : Int))))))))
 else
 some ((x.1.1, IntKind.wrap .i64 (x.1.2 - (1 : Int))), false)
 else
 bif x.2.1.lab.1 == (5 : Int) then
 bif bif (!(bif (decide ((x.2.1.kids.length : Int) ≥ (2 : Int))) then (zd x.2.1.lab.2.1 (⟨#[]⟩ : BA)) else false)) then true else (x.2.1.lab.2.2.1 != (0 : Int)) then
 some ((x.1.1, IntKind.wrap .i64 (x.1.2 - (1 : Int))), false)
 else
 (XO x.2.1.lab.2.2.2).bind fun r15 =>
 bif !r15 then
 some ((x.1.1, IntKind.wrap .i64 (x.1.2 - (1 : Int))), false)
 else
 zF (f68.s4 n x r15) n ((0 : Int), (x.1.1.1, (x.1.1.2.1, (x.1.1.2.2.1, (x.1.1.2.2.2.1, (x.1.1.2.2.2.2, IntKind.wrap .i64 (x.1.2 - (1 : Int))))))))
 else
 some ((x.1.1, IntKind.wrap .i64 (x.1.2 - (1 : Int))), false)
theorem f68.eq (n : Nat) (x : f68.Z1) : Oy TT E68 n ann (yk C68) 1 68 (Uv f68.A3 x.2) (su (.pair tTable (.int .i64)) x.1) (mN (.pair tTable (.int .i64)) [(false, .bool)]) = f68.g n x := by
 simp only [f68.g, ← f68.l1, ← f68.l2, ← f68.l3, ← f68.l4]
 kernel_rfl
theorem f68.codes : CdO E68 C68 := zm (aC Tryz.func68 aN) (by kernel_rfl)
theorem f68.ok (G : ((zg × Int) × (zn × Int)) → Option f68.Y2) (h : Run G f68.g) (e68 : CO 68 Uq) (e75 : CO 75 rE) (e104 : CO 104 sK) (e112 : CO 112 cy) : CO 68 (qm (.pair tTable (.int .i64)) f68.A3 [(false, .bool)] G) :=
 Zg zu zv (zf e112 (zf e104 (zf e75 (zf e68 zk)))) f68.codes (Ll.1 rfl) (h.go f68.eq)
end
def Sf : Con := qm (.pair tTable (.int .i64)) f68.A3 [(false, .bool)] F68
abbrev f78.Z0 : Type := zn × Int × Int
abbrev f78.A1 : Sig := [(true, tExpr), (false, .int .i64), (false, .int .i64)]
abbrev f78.A2 : Sig := [(false, .int .i64), (false, .bool)]
class Rec78 where
 F : (zn × Int × Int) → Option (Int × Bool)
section
variable [Rec78]
def Uk : Con := zj f78.A1 f78.A2 true Rec78.F
def E78 : FuncId → Option Con := (zy 78 Uk zU)
noncomputable def C78 : List (FuncId × Func) := [(78, Tryz.f78)]
def f78.h1 (x : f78.Z0) (y1 : Int × Bool × Int) : List AV × List Ob := ([.undef, vv [cI y1.1], vv [cI x.2.2], vv [.ptr 0 0]] ++ uN 4 ([vv [cB y1.2.1], vv [cI y1.2.2]] ++ uN 33 []), [.box [cI x.1.lab.1, cT x.1.lab.2.1, cI x.1.lab.2.2.1, cI x.1.lab.2.2.2.1, cI x.1.lab.2.2.2.2.1, .sc (.float .f64) x.1.lab.2.2.2.2.2.1, cT x.1.lab.2.2.2.2.2.2, .sc (.sl tExpr) x.1.kids]])
def f78.L1 (n : Nat) (x : f78.Z0) (m1 : Nat) (y1 : Int × Bool × Int) : Option (Int × Bool) :=
 lK (ann 78 6) 1 E78 C78 n 1 78 Tryz.f78 [1, 1, 1, 1, 0, 1, 0, 0] [1, 1, 1, 1, 0, 1, 0] m1 (f78.h1 x y1) (xa TT Tryz.f78 (zp f78.A2))
def f78.s1 (n : Nat) (x : f78.Z0) (S1 : (Int × Bool × Int) → Option (Int × Bool)) (y1 : Int × Bool × Int) : Option (Int × Bool) :=
 bif bif (decide (y1.2.2 < (x.1.kids.length : Int))) then y1.2.1 else false then
 bif decide (0 ≤ y1.2.2) && decide (y1.2.2 < (x.1.kids.length : Int)) then
 (Rec78.F ((Rose.node ((x.1.kids.getD y1.2.2.toNat tExpr.dflt).lab) ((x.1.kids.getD y1.2.2.toNat tExpr.dflt).kids)), (y1.1, IntKind.wrap .i64 (x.2.2 + (1 : Int))))).bind fun r2 =>
 S1 (r2.1, (r2.2, IntKind.wrap .i64 (y1.2.2 + (1 : Int))))
 else
 (none)
 else
 some (y1.1, y1.2.1)
theorem f78.l1 (n : Nat) (x : f78.Z0) : ∀ (m : Nat) (y1 : Int × Bool × Int), f78.L1 n x m y1 = zF (f78.s1 n x) m y1 :=
 zw (fun _ => rfl) fun m y => by kernel_rfl
def f78.g (n : Nat) (x : f78.Z0) : Option (Int × Bool) :=
 bif bif (decide (IntKind.wrap .i64 (x.2.1 + (1 : Int)) > (1024 : Int))) then true else (decide (x.2.2 > (100 : Int))) then
 some (IntKind.wrap .i64 (x.2.1 + (1 : Int)), false)
 else
 zF (f78.s1 n x) n (IntKind.wrap .i64 (x.2.1 + (1 : Int)), (true, (0 : Int)))
theorem f78.eq (n : Nat) (x : f78.Z0) : rK E78 C78 n 1 78 (zt f78.A1 x) (zp f78.A2) = f78.g n x := by
 simp only [f78.g, ← f78.l1]
 kernel_rfl
theorem f78.codes : CdO E78 C78 := zm (aC Tryz.func78 aN) (by kernel_rfl)
theorem f78.ok (G : (zn × Int × Int) → Option (Int × Bool)) (h : Run G f78.g) (e78 : CO 78 Uk) : CO 78 (zj f78.A1 f78.A2 true G) :=
 zi zu zv (zf e78 zk) f78.codes (fun _ => Ll.1 rfl) (h.go f78.eq)
end
def T0 : Con := zj f78.A1 f78.A2 true F78
def Mc : FuncId → Option Con := (zy 169 Yu zU)
noncomputable def My : List (FuncId × Func) := [(129, Tryz.f129)]
def f129.g (n : Nat) (x : zc) : Option (Bool) :=
 (Qg (x, ((0 : Int), ((0 : Int), (0, (⟨#[]⟩ : BA)))))).bind fun r1 =>
 some r1
theorem f129.eq (n : Nat) (x : zc) : rK Mc My n 1 129 (zt [(true, tValue)] x) (zp [(false, .bool)]) = f129.g n x := by
 kernel_rfl
theorem f129.codes : CdO Mc My := zm (aC Tryz.func129 aN) (by kernel_rfl)
theorem f129.ok (h : Run VU f129.g) (e169 : CO 169 Yu) : CO 129 (zj [(true, tValue)] [(false, .bool)] true VU) :=
 zi zu zv (zf e169 zk) f129.codes (fun _ => Ll.1 rfl) (h.go f129.eq)
def cD : Con := zj [(true, tValue)] [(false, .bool)] true VU
abbrev f79.Z0 : Type := zg × zn
abbrev f79.A1 : Sig := [(true, tTable), (true, tExpr)]
class Rec79 where
 F : (zg × zn) → Option (Bool)
section
variable [Rec79]
def Uj : Con := zj f79.A1 [(false, .bool)] true Rec79.F
def E79 : FuncId → Option Con := (zy 131 ZH (zy 130 Zz (zy 129 cD (zy 81 i8 (zy 79 Uj (zy 37 j8 zU))))))
noncomputable def C79 : List (FuncId × Func) := [(79, Tryz.f79)]
def f79.h1 (x : f79.Z0) (y1 : Int) : List AV × List Ob := ([.undef, .undef, vv [.ptr 0 0], vv [.ptr 1 0], .undef, vv [cI y1]] ++ uN 127 [], [.box [cT x.1.1, .sc (.sl tColumn) x.1.2.1, .sc (.sl (.int .i64)) x.1.2.2.1, .sc (.sl tIndex) x.1.2.2.2.1, .sc (.sl tRef) x.1.2.2.2.2], .box [cI x.2.lab.1, cT x.2.lab.2.1, cI x.2.lab.2.2.1, cI x.2.lab.2.2.2.1, cI x.2.lab.2.2.2.2.1, .sc (.float .f64) x.2.lab.2.2.2.2.2.1, cT x.2.lab.2.2.2.2.2.2, .sc (.sl tExpr) x.2.kids]])
def f79.L1 (n : Nat) (x : f79.Z0) (m1 : Nat) (y1 : Int) : Option (Bool) :=
 lK (ann 79 2) 2 E79 C79 n 1 79 Tryz.f79 [1, 0, 1, 0, 0] [1, 0, 1, 0] m1 (f79.h1 x y1) (xa TT Tryz.f79 (zp [(false, .bool)]))
def f79.s1 (n : Nat) (x : f79.Z0) (S1 : Int → Option (Bool)) (y1 : Int) : Option (Bool) :=
 bif decide (y1 < (x.2.kids.length : Int)) then
 bif decide (0 ≤ y1) && decide (y1 < (x.2.kids.length : Int)) then
 (Rec79.F (x.1, (Rose.node ((x.2.kids.getD y1.toNat tExpr.dflt).lab) ((x.2.kids.getD y1.toNat tExpr.dflt).kids)))).bind fun r2 =>
 bif !r2 then
 some false
 else
 S1 (IntKind.wrap .i64 (y1 + (1 : Int)))
 else
 (none)
 else
 bif x.2.lab.1 == (1 : Int) then
 bif bif (bif (zd x.2.lab.2.1 (⟨#[]⟩ : BA)) then (x.2.lab.2.2.1 == (0 : Int)) else false) then ((x.2.kids.length : Int) == (0 : Int)) else false then
 (F37 x.2.lab.2.2.2).bind fun r3 =>
 some (r3 == (0 : Int))
 else
 some false
 else
 bif x.2.lab.1 == (2 : Int) then
 bif zd x.2.lab.2.1 (⟨#[]⟩ : BA) then
 (VU x.2.lab.2.2.2).bind fun r4 =>
 some (bif (bif (bif r4 then ((x.2.kids.length : Int) == (0 : Int)) else false) then (decide (x.2.lab.2.2.1 ≥ (0 : Int))) else false) then (decide (x.2.lab.2.2.1 < (x.1.2.1.length : Int))) else false)
 else
 some false
 else
 bif x.2.lab.1 == (3 : Int) then
 (Qs ()).bind fun r5 =>
 (F81 (r5, x.2.lab.2.1)).bind fun r6 =>
 bif bif r6 then (x.2.lab.2.2.1 == (0 : Int)) else false then
 (VU x.2.lab.2.2.2).bind fun r7 =>
 some (bif r7 then ((x.2.kids.length : Int) == (1 : Int)) else false)
 else
 some false
 else
 bif x.2.lab.1 == (4 : Int) then
 (Qp ()).bind fun r8 =>
 (F81 (r8, x.2.lab.2.1)).bind fun r9 =>
 bif bif r9 then (x.2.lab.2.2.1 == (0 : Int)) else false then
 (VU x.2.lab.2.2.2).bind fun r10 =>
 some (bif r10 then ((x.2.kids.length : Int) == (2 : Int)) else false)
 else
 some false
 else
 bif x.2.lab.1 == (5 : Int) then
 bif bif (zd x.2.lab.2.1 (⟨#[]⟩ : BA)) then (x.2.lab.2.2.1 == (0 : Int)) else false then
 (VU x.2.lab.2.2.2).bind fun r11 =>
 some (bif r11 then (decide ((x.2.kids.length : Int) ≥ (2 : Int))) else false)
 else
 some false
 else
 some false
theorem f79.l1 (n : Nat) (x : f79.Z0) : ∀ (m : Nat) (y1 : Int), f79.L1 n x m y1 = zF (f79.s1 n x) m y1 :=
 zw (fun _ => rfl) fun m y => by kernel_rfl
def f79.g (n : Nat) (x : f79.Z0) : Option (Bool) :=
 zF (f79.s1 n x) n (0 : Int)
theorem f79.eq (n : Nat) (x : f79.Z0) : rK E79 C79 n 1 79 (zt f79.A1 x) (zp [(false, .bool)]) = f79.g n x := by
 simp only [f79.g, ← f79.l1]
 kernel_rfl
theorem f79.codes : CdO E79 C79 := zm (aC Tryz.func79 aN) (by kernel_rfl)
theorem f79.ok (G : (zg × zn) → Option (Bool)) (h : Run G f79.g) (e37 : CO 37 j8) (e79 : CO 79 Uj) (e81 : CO 81 i8) (e129 : CO 129 cD) (e130 : CO 130 Zz) (e131 : CO 131 ZH) : CO 79 (zj f79.A1 [(false, .bool)] true G) :=
 zi zu zv (zf e131 (zf e130 (zf e129 (zf e81 (zf e79 (zf e37 zk)))))) f79.codes (fun _ => Ll.1 rfl) (h.go f79.eq)
end
def TA : Con := zj f79.A1 [(false, .bool)] true F79
def MF : FuncId → Option Con := zU
noncomputable def N4 : List (FuncId × Func) := [(132, Tryz.f132)]
def f132.g (n : Nat) (x : Int) : Option (Bool) :=
 some (bif (x == (2 : Int)) then true else (x == (3 : Int)))
theorem f132.eq (n : Nat) (x : Int) : rK MF N4 n 1 132 (zt [(false, .int .i64)] x) (zp [(false, .bool)]) = f132.g n x := by
 kernel_rfl
theorem f132.codes : CdO MF N4 := zm (aC Tryz.func132 aN) (by kernel_rfl)
theorem f132.ok (h : Run iU f132.g)  : CO 132 (zj [(false, .int .i64)] [(false, .bool)] true iU) :=
 zi zu zv zk f132.codes (fun _ => Ll.1 rfl) (h.go f132.eq)
def py : Con := zj [(false, .int .i64)] [(false, .bool)] true iU
def E49 : FuncId → Option Con := zU
noncomputable def C49 : List (FuncId × Func) := [(49, Tryz.f49)]
def f49.g (n : Nat) (x : Int) : Option (Bool) :=
 some (bif (x == (1 : Int)) then true else (x == (0 : Int)))
theorem f49.eq (n : Nat) (x : Int) : rK E49 C49 n 1 49 (zt [(false, .int .i64)] x) (zp [(false, .bool)]) = f49.g n x := by
 kernel_rfl
theorem f49.codes : CdO E49 C49 := zm (aC Tryz.func49 aN) (by kernel_rfl)
theorem f49.ok (h : Run F49 f49.g)  : CO 49 (zj [(false, .int .i64)] [(false, .bool)] true F49) :=
 zi zu zv zk f49.codes (fun _ => Ll.1 rfl) (h.go f49.eq)
def ZK : Con := zj [(false, .int .i64)] [(false, .bool)] true F49
abbrev f133.A0 : Sig := [(false, .int .i64), (false, .int .i64)]
def Mp : FuncId → Option Con := (zy 132 py zU)
noncomputable def Mv : List (FuncId × Func) := [(133, Tryz.f133)]
def f133.g (n : Nat) (x : Int × Int) : Option (Bool) :=
 (iU x.1).bind fun r1 =>
 bif r1 then
 (iU x.2).bind fun r2 =>
 some (bif (bif (bif r2 then true else (x.1 == x.2)) then true else (x.1 == (0 : Int))) then true else (x.2 == (0 : Int)))
 else
 some (bif (bif (x.1 == x.2) then true else (x.1 == (0 : Int))) then true else (x.2 == (0 : Int)))
theorem f133.eq (n : Nat) (x : Int × Int) : rK Mp Mv n 1 133 (zt f133.A0 x) (zp [(false, .bool)]) = f133.g n x := by
 kernel_rfl
theorem f133.codes : CdO Mp Mv := zm (aC Tryz.func133 aN) (by kernel_rfl)
theorem f133.ok (h : Run VO f133.g) (e132 : CO 132 py) : CO 133 (zj f133.A0 [(false, .bool)] true VO) :=
 zi zu zv (zf e132 zk) f133.codes (fun _ => Ll.1 rfl) (h.go f133.eq)
def Z7 : Con := zj f133.A0 [(false, .bool)] true VO
abbrev f116.A0 : Sig := [(false, .str), (false, .int .i64), (false, .int .i64)]
abbrev f116.A1 : Sig := [(false, .int .i64), (false, .bool)]
def MJ : FuncId → Option Con := (zy 115 p9 zU)
noncomputable def MV : List (FuncId × Func) := [(116, Tryz.f116)]
def f116.g (n : Nat) (x : ByteArray × Int × Int) : Option (Int × Bool) :=
 bif x.2.1 == (0 : Int) then
 bif x.2.2 == (0 : Int) then
 some (x.2.2, true)
 else
 (d6 x.2.2).bind fun r1 =>
 bif !r1 then
 some ((0 : Int), false)
 else
 (d6 x.2.1).bind fun r2 =>
 bif bif (!r2) then (x.2.1 != (0 : Int)) else false then
 bif bif (!r2) then (x.2.1 != (0 : Int)) else false then
 some ((0 : Int), false)
 else
 bif x.2.1 == (0 : Int) then
 some (x.2.2, true)
 else
 some (mt true x.2.2 x.2.1, true)
 else
 bif bif (zd x.1 (⟨#[37]⟩ : BA)) then (bif (x.2.2 == (3 : Int)) then true else (x.2.1 == (3 : Int))) else false then
 some ((0 : Int), false)
 else
 bif x.2.1 == (0 : Int) then
 some (x.2.2, true)
 else
 some (mt true x.2.2 x.2.1, true)
 else
 bif x.2.1 == (0 : Int) then
 some (x.2.1, true)
 else
 (d6 x.2.1).bind fun r3 =>
 bif !r3 then
 some ((0 : Int), false)
 else
 (d6 x.2.2).bind fun r4 =>
 bif bif (!r4) then (x.2.2 != (0 : Int)) else false then
 bif bif (!r4) then (x.2.2 != (0 : Int)) else false then
 some ((0 : Int), false)
 else
 bif x.2.2 == (0 : Int) then
 some (x.2.1, true)
 else
 some (mt true x.2.1 x.2.2, true)
 else
 bif bif (zd x.1 (⟨#[37]⟩ : BA)) then (bif (x.2.1 == (3 : Int)) then true else (x.2.2 == (3 : Int))) else false then
 some ((0 : Int), false)
 else
 bif x.2.2 == (0 : Int) then
 some (x.2.1, true)
 else
 some (mt true x.2.1 x.2.2, true)
theorem f116.eq (n : Nat) (x : ByteArray × Int × Int) : rK MJ MV n 1 116 (zt f116.A0 x) (zp f116.A1) = f116.g n x := by
 kernel_rfl
theorem f116.codes : CdO MJ MV := zm (aC Tryz.func116 aN) (by kernel_rfl)
theorem f116.ok (h : Run Qa f116.g) (e115 : CO 115 p9) : CO 116 (zj f116.A0 f116.A1 true Qa) :=
 zi zu zv (zf e115 zk) f116.codes (fun _ => Ll.1 rfl) (h.go f116.eq)
def Yx : Con := zj f116.A0 f116.A1 true Qa
abbrev f135.A0 : Sig := [(false, .str), (false, .int .i64), (false, .int .i64)]
abbrev f135.A1 : Sig := [(false, .int .i64), (false, .bool)]
def MM : FuncId → Option Con := (zy 132 py zU)
noncomputable def Mw : List (FuncId × Func) := [(135, Tryz.f135)]
def f135.g (n : Nat) (x : ByteArray × Int × Int) : Option (Int × Bool) :=
 bif x.2.1 == (0 : Int) then
 bif x.2.2 == (0 : Int) then
 some ((0 : Int), true)
 else
 bif zd x.1 (⟨#[37]⟩ : BA) then
 some ((2 : Int), bif (x.2.2 == (2 : Int)) then (bif (x.2.1 == (2 : Int)) then true else (x.2.1 == (0 : Int))) else false)
 else
 bif x.2.1 == (0 : Int) then
 (iU x.2.2).bind fun r1 =>
 some (x.2.2, r1)
 else
 (iU x.2.2).bind fun r2 =>
 bif !r2 then
 some ((0 : Int), false)
 else
 (iU x.2.1).bind fun r3 =>
 bif !r3 then
 some ((0 : Int), false)
 else
 bif bif (x.2.2 == (2 : Int)) then (x.2.1 == (2 : Int)) else false then
 some ((2 : Int), true)
 else
 some ((3 : Int), true)
 else
 bif x.2.1 == (0 : Int) then
 some ((0 : Int), true)
 else
 bif zd x.1 (⟨#[37]⟩ : BA) then
 some ((2 : Int), bif (x.2.1 == (2 : Int)) then (bif (x.2.2 == (2 : Int)) then true else (x.2.2 == (0 : Int))) else false)
 else
 bif x.2.2 == (0 : Int) then
 (iU x.2.1).bind fun r4 =>
 some (x.2.1, r4)
 else
 (iU x.2.1).bind fun r5 =>
 bif !r5 then
 some ((0 : Int), false)
 else
 (iU x.2.2).bind fun r6 =>
 bif !r6 then
 some ((0 : Int), false)
 else
 bif bif (x.2.1 == (2 : Int)) then (x.2.2 == (2 : Int)) else false then
 some ((2 : Int), true)
 else
 some ((3 : Int), true)
theorem f135.eq (n : Nat) (x : ByteArray × Int × Int) : rK MM Mw n 1 135 (zt f135.A0 x) (zp f135.A1) = f135.g n x := by
 kernel_rfl
theorem f135.codes : CdO MM Mw := zm (aC Tryz.func135 aN) (by kernel_rfl)
theorem f135.ok (h : Run Qe f135.g) (e132 : CO 132 py) : CO 135 (zj f135.A0 f135.A1 true Qe) :=
 zi zu zv (zf e132 zk) f135.codes (fun _ => Ll.1 rfl) (h.go f135.eq)
def al : Con := zj f135.A0 f135.A1 true Qe
abbrev f69.Z0 : Type := Int × Nat × (List Int)
abbrev f69.Z1 : Type := zg × zn
abbrev f69.A2 : Sig := [(false, .int .i64), (false, .bool)]
abbrev f69.A3 : Sig := [(true, tTable), (true, tExpr)]
class Rec69 where
 F : (zg × zn) → Option (Int × Bool)
section
variable [Rec69]
def VL : Con := zj f69.A3 f69.A2 true Rec69.F
def E69 : FuncId → Option Con := (zy 116 Yx (zy 115 p9 (zy 114 pQ (zy 104 sK (zy 89 ax (zy 69 VL (zy 41 bt zU)))))))
noncomputable def C69 : List (FuncId × Func) := [(69, Tryz.f69)]
def f69.h1 (x : f69.Z1) (y1 : f69.Z0) : List AV × List Ob := ([.undef, .undef, vv [.ptr 0 0], vv [.ptr 1 0], .undef, .undef, vv [.ptr 2 0]] ++ uN 5 ([vv [.sc (.sl tExpr) x.2.kids], vv [cI (x.2.kids.length : Int)], vv [cI y1.1]] ++ uN 119 []), [.box [cT x.1.1, .sc (.sl tColumn) x.1.2.1, .sc (.sl (.int .i64)) x.1.2.2.1, .sc (.sl tIndex) x.1.2.2.2.1, .sc (.sl tRef) x.1.2.2.2.2], .box [cI x.2.lab.1, cT x.2.lab.2.1, cI x.2.lab.2.2.1, cI x.2.lab.2.2.2.1, cI x.2.lab.2.2.2.2.1, .sc (.float .f64) x.2.lab.2.2.2.2.2.1, cT x.2.lab.2.2.2.2.2.2, .sc (.sl tExpr) x.2.kids], .box [.own 3 y1.2.1], .arr 3 (.int .i64) y1.2.2])
def f69.L1 (n : Nat) (x : f69.Z1) (m1 : Nat) (y1 : f69.Z0) : Option (Int × Bool) :=
 lK (ann 69 3) 4 E69 C69 n 1 69 Tryz.f69 [1, 1, 0, 1, 0, 0] [1, 1, 0, 1, 0] m1 (f69.h1 x y1) (xa TT Tryz.f69 (zp f69.A2))
def f69.s1 (n : Nat) (x : f69.Z1) (S1 : (Int × Nat × (List Int)) → Option (Int × Bool)) (y1 : f69.Z0) : Option (Int × Bool) :=
 bif decide (y1.1 < (x.2.kids.length : Int)) then
 bif decide (0 ≤ y1.1) && decide (y1.1 < (x.2.kids.length : Int)) then
 (Rec69.F (x.1, (Rose.node ((x.2.kids.getD y1.1.toNat tExpr.dflt).lab) ((x.2.kids.getD y1.1.toNat tExpr.dflt).kids)))).bind fun r2 =>
 bif !r2.2 then
 some ((0 : Int), false)
 else
 bif decide ((y1.2.1 + 1) * 8 ≤ zq) then
 S1 (IntKind.wrap .i64 (y1.1 + (1 : Int)), (y1.2.1 + 1, List.take y1.2.1 y1.2.2 ++ ([r2.1])))
 else
 (none)
 else
 (none)
 else
 bif x.2.lab.1 == (1 : Int) then
 some (x.2.lab.2.2.2.1, true)
 else
 bif x.2.lab.1 == (2 : Int) then
 bif decide (0 ≤ x.2.lab.2.2.1) && decide (x.2.lab.2.2.1 < (x.1.2.1.length : Int)) then
 some ((x.1.2.1.getD x.2.lab.2.2.1.toNat tColumn.dflt).2.1, true)
 else
 (none)
 else
 bif x.2.lab.1 == (5 : Int) then
 bif decide (0 ≤ (1 : Int)) && decide ((1 : Int) ≤ ((List.take y1.2.1 y1.2.2).length : Int)) then
 (R5 (List.drop 1 (List.take y1.2.1 y1.2.2), List.take y1.2.1 y1.2.2)).bind fun r3 =>
 some ((1 : Int), !r3)
 else
 (none)
 else
 bif bif (zd x.2.lab.2.1 (⟨#[45]⟩ : BA)) then (((y1.2.1 : Nat) : Int) == (1 : Int)) else false then
 bif decide (0 ≤ (0 : Int)) && decide ((0 : Int) < ((y1.2.1 : Nat) : Int)) then
 bif decide (0 ≤ (0 : Int)) && decide ((0 : Int) < ((y1.2.1 : Nat) : Int)) then
 (d6 (y1.2.2.getD 0 (Ty.dflt (.int .i64)))).bind fun r4 =>
 bif r4 then
 some (y1.2.2.getD 0 (Ty.dflt (.int .i64)), true)
 else
 bif decide (0 ≤ (0 : Int)) && decide ((0 : Int) < ((y1.2.1 : Nat) : Int)) then
 some (y1.2.2.getD 0 (Ty.dflt (.int .i64)), y1.2.2.getD 0 (Ty.dflt (.int .i64)) == (0 : Int))
 else
 (none)
 else
 (none)
 else
 (none)
 else
 bif zd x.2.lab.2.1 (⟨#[110, 111, 116]⟩ : BA) then
 bif decide (0 ≤ (0 : Int)) && decide ((0 : Int) < ((y1.2.1 : Nat) : Int)) then
 (F41 (y1.2.2.getD 0 (Ty.dflt (.int .i64)))).bind fun r5 =>
 some ((1 : Int), r5)
 else
 (none)
 else
 bif x.2.lab.1 == (3 : Int) then
 some ((1 : Int), true)
 else
 (cr (cpL, x.2.lab.2.1)).bind fun r6 =>
 bif r6 then
 bif decide (0 ≤ (0 : Int)) && decide ((0 : Int) < ((y1.2.1 : Nat) : Int)) then
 bif decide (0 ≤ (1 : Int)) && decide ((1 : Int) < ((y1.2.1 : Nat) : Int)) then
 (Ub (y1.2.2.getD 0 (Ty.dflt (.int .i64)), y1.2.2.getD 1 (Ty.dflt (.int .i64)))).bind fun r7 =>
 some ((1 : Int), r7)
 else
 (none)
 else
 (none)
 else
 bif bif (zd x.2.lab.2.1 (⟨#[97, 110, 100]⟩ : BA)) then true else (zd x.2.lab.2.1 (⟨#[111, 114]⟩ : BA)) then
 bif decide (0 ≤ (0 : Int)) && decide ((0 : Int) < ((y1.2.1 : Nat) : Int)) then
 (F41 (y1.2.2.getD 0 (Ty.dflt (.int .i64)))).bind fun r8 =>
 bif r8 then
 bif decide (0 ≤ (1 : Int)) && decide ((1 : Int) < ((y1.2.1 : Nat) : Int)) then
 (F41 (y1.2.2.getD 1 (Ty.dflt (.int .i64)))).bind fun r9 =>
 some ((1 : Int), r9)
 else
 (none)
 else
 some ((1 : Int), false)
 else
 (none)
 else
 bif decide (0 ≤ (0 : Int)) && decide ((0 : Int) < ((y1.2.1 : Nat) : Int)) then
 bif decide (0 ≤ (1 : Int)) && decide ((1 : Int) < ((y1.2.1 : Nat) : Int)) then
 (Qa (x.2.lab.2.1, (y1.2.2.getD 0 (Ty.dflt (.int .i64)), y1.2.2.getD 1 (Ty.dflt (.int .i64))))).bind fun r10 =>
 some r10
 else
 (none)
 else
 (none)
theorem f69.l1 (n : Nat) (x : f69.Z1) : ∀ (m : Nat) (y1 : f69.Z0), f69.L1 n x m y1 = zF (f69.s1 n x) m y1 :=
 zw (fun _ => rfl) fun m y => by kernel_rfl
def f69.g (n : Nat) (x : f69.Z1) : Option (Int × Bool) :=
 zF (f69.s1 n x) n ((0 : Int), (0, []))
theorem f69.eq (n : Nat) (x : f69.Z1) : rK E69 C69 n 1 69 (zt f69.A3 x) (zp f69.A2) = f69.g n x := by
 simp only [f69.g, ← f69.l1]
 kernel_rfl
theorem f69.codes : CdO E69 C69 := zm (aC Tryz.func69 aN) (by kernel_rfl)
theorem f69.ok (G : (zg × zn) → Option (Int × Bool)) (h : Run G f69.g) (e41 : CO 41 bt) (e69 : CO 69 VL) (e89 : CO 89 ax) (e104 : CO 104 sK) (e114 : CO 114 pQ) (e115 : CO 115 p9) (e116 : CO 116 Yx) : CO 69 (zj f69.A3 f69.A2 true G) :=
 zi zu zv (zf e116 (zf e115 (zf e114 (zf e104 (zf e89 (zf e69 (zf e41 zk))))))) f69.codes (fun _ => Ll.1 rfl) (h.go f69.eq)
end
def SJ : Con := zj f69.A3 f69.A2 true F69
abbrev f80.Z0 : Type := Nat × Int × (List Int)
abbrev f80.Z1 : Type := zg × zn
abbrev f80.Y2 : Type := Int × Bool
abbrev f80.A3 : Sig := [(false, .int .i64), (false, .bool)]
abbrev f80.A4 : Sig := [(true, tTable), (true, tExpr)]
class Rec80 where
 F : (zg × zn) → Option f80.Y2
section
variable [Rec80]
def VY : Con := zj f80.A4 f80.A3 true Rec80.F
def E80 : FuncId → Option Con := (zy 135 al (zy 134 Z6 (zy 133 Z7 (zy 132 py (zy 80 VY (zy 50 aF (zy 49 ZK zU)))))))
noncomputable def C80 : List (FuncId × Func) := [(80, Tryz.f80)]
def f80.h1 (x : f80.Z1) (y1 : f80.Z0) (y5 : Int) : List AV × List Ob := (uN 6 ([vv [.own 2 y1.1]] ++ uN 3 ([vv [cI y5]] ++ uN 118 [])), [.box [cT x.1.1, .sc (.sl tColumn) x.1.2.1, .sc (.sl (.int .i64)) x.1.2.2.1, .sc (.sl tIndex) x.1.2.2.2.1, .sc (.sl tRef) x.1.2.2.2.2], .box [cI x.2.lab.1, cT x.2.lab.2.1, cI x.2.lab.2.2.1, cI x.2.lab.2.2.2.1, cI x.2.lab.2.2.2.2.1, .sc (.float .f64) x.2.lab.2.2.2.2.2.1, cT x.2.lab.2.2.2.2.2.2, .sc (.sl tExpr) x.2.kids], .arr 3 (.int .i64) y1.2.2])
def f80.h2 (x : f80.Z1) (y1 : f80.Z0) : List AV × List Ob := ([.undef, .undef, vv [.ptr 0 0], vv [.ptr 1 0], .undef, .undef, vv [.own 2 y1.1], vv [cI y1.2.1]] ++ uN 121 [], [.box [cT x.1.1, .sc (.sl tColumn) x.1.2.1, .sc (.sl (.int .i64)) x.1.2.2.1, .sc (.sl tIndex) x.1.2.2.2.1, .sc (.sl tRef) x.1.2.2.2.2], .box [cI x.2.lab.1, cT x.2.lab.2.1, cI x.2.lab.2.2.1, cI x.2.lab.2.2.2.1, cI x.2.lab.2.2.2.2.1, .sc (.float .f64) x.2.lab.2.2.2.2.2.1, cT x.2.lab.2.2.2.2.2.2, .sc (.sl tExpr) x.2.kids], .arr 3 (.int .i64) y1.2.2])
def f80.L1 (n : Nat) (x : f80.Z1) (y1 : f80.Z0) (m5 : Nat) (y5 : Int) : Option f80.Y2 :=
 lK (ann 80 20) 3 E80 C80 n 1 80 Tryz.f80 [1, 1, 1, 0, 1, 0, 1, 1, 1, 1, 1, 1, 1, 0, 0, 1, 0, 0] [1, 1, 1, 0, 1, 0, 1, 1, 1, 1, 1, 1, 1, 0, 0, 1, 0] m5 (f80.h1 x y1 y5) (xa TT Tryz.f80 (zp f80.A3))
def f80.L2 (n : Nat) (x : f80.Z1) (m1 : Nat) (y1 : f80.Z0) : Option f80.Y2 :=
 lK (ann 80 3) 3 E80 C80 n 1 80 Tryz.f80 [1, 1, 0, 1, 0, 0] [1, 1, 0, 1, 0] m1 (f80.h2 x y1) (xa TT Tryz.f80 (zp f80.A3))
def f80.s1 (n : Nat) (x : f80.Z1) (y1 : f80.Z0) (S5 : Int → Option f80.Y2) (y5 : Int) : Option f80.Y2 :=
 bif decide (y5 < ((y1.1 : Nat) : Int)) then
 bif decide (0 ≤ (0 : Int)) && decide ((0 : Int) < ((y1.1 : Nat) : Int)) then
 bif decide (0 ≤ y5) && decide (y5 < ((y1.1 : Nat) : Int)) then
 (VO (y1.2.2.getD 0 (Ty.dflt (.int .i64)), y1.2.2.getD y5.toNat (Ty.dflt (.int .i64)))).bind fun r6 =>
 bif !r6 then
 some ((0 : Int), false)
 else
 S5 (IntKind.wrap .i64 (y5 + (1 : Int)))
 else
 (none)
 else
 (none)
 else
 some ((1 : Int), true)
theorem f80.l1 (n : Nat) (x : f80.Z1) (y1 : f80.Z0) : ∀ (m : Nat) (y5 : Int), f80.L1 n x y1 m y5 = zF (f80.s1 n x y1) m y5 :=
 zw (fun _ => rfl) fun m y => by kernel_rfl
def f80.s2 (n : Nat) (x : f80.Z1) (S1 : (Nat × Int × (List Int)) → Option f80.Y2) (y1 : f80.Z0) : Option f80.Y2 :=
 bif decide (y1.2.1 < (x.2.kids.length : Int)) then
 bif decide (0 ≤ y1.2.1) && decide (y1.2.1 < (x.2.kids.length : Int)) then
 (Rec80.F (x.1, (Rose.node ((x.2.kids.getD y1.2.1.toNat tExpr.dflt).lab) ((x.2.kids.getD y1.2.1.toNat tExpr.dflt).kids)))).bind fun r2 =>
 bif !r2.2 then
 some ((0 : Int), false)
 else
 bif decide ((y1.1 + 1) * 8 ≤ zq) then
 S1 (y1.1 + 1, (IntKind.wrap .i64 (y1.2.1 + (1 : Int)), List.take y1.1 y1.2.2 ++ ([r2.1])))
 else
 (none)
 else
 (none)
 else
 bif x.2.lab.1 == (1 : Int) then
 some (x.2.lab.2.2.2.1, true)
 else
 bif x.2.lab.1 == (2 : Int) then
 bif decide (0 ≤ x.2.lab.2.2.1) && decide (x.2.lab.2.2.1 < (x.1.2.1.length : Int)) then
 some ((x.1.2.1.getD x.2.lab.2.2.1.toNat tColumn.dflt).2.1, true)
 else
 (none)
 else
 bif x.2.lab.1 == (3 : Int) then
 bif zd x.2.lab.2.1 (⟨#[45]⟩ : BA) then
 bif decide (0 ≤ (0 : Int)) && decide ((0 : Int) < ((y1.1 : Nat) : Int)) then
 bif decide (0 ≤ (0 : Int)) && decide ((0 : Int) < ((y1.1 : Nat) : Int)) then
 (iU (y1.2.2.getD 0 (Ty.dflt (.int .i64)))).bind fun r3 =>
 bif r3 then
 some (y1.2.2.getD 0 (Ty.dflt (.int .i64)), true)
 else
 bif decide (0 ≤ (0 : Int)) && decide ((0 : Int) < ((y1.1 : Nat) : Int)) then
 some (y1.2.2.getD 0 (Ty.dflt (.int .i64)), y1.2.2.getD 0 (Ty.dflt (.int .i64)) == (0 : Int))
 else
 (none)
 else
 (none)
 else
 (none)
 else
 bif !(zd x.2.lab.2.1 (⟨#[110, 111, 116]⟩ : BA)) then
 some ((1 : Int), true)
 else
 bif decide (0 ≤ (0 : Int)) && decide ((0 : Int) < ((y1.1 : Nat) : Int)) then
 (F49 (y1.2.2.getD 0 (Ty.dflt (.int .i64)))).bind fun r4 =>
 some ((1 : Int), r4)
 else
 (none)
 else
 bif x.2.lab.1 == (5 : Int) then
 zF (f80.s1 n x y1) n (1 : Int)
 else
 (Pw x.2.lab.2.1).bind fun r7 =>
 bif r7 then
 bif decide (0 ≤ (0 : Int)) && decide ((0 : Int) < ((y1.1 : Nat) : Int)) then
 bif decide (0 ≤ (1 : Int)) && decide ((1 : Int) < ((y1.1 : Nat) : Int)) then
 (Qe (x.2.lab.2.1, (y1.2.2.getD 0 (Ty.dflt (.int .i64)), y1.2.2.getD 1 (Ty.dflt (.int .i64))))).bind fun r8 =>
 some r8
 else
 (none)
 else
 (none)
 else
 (F50 x.2.lab.2.1).bind fun r9 =>
 bif r9 then
 bif decide (0 ≤ (0 : Int)) && decide ((0 : Int) < ((y1.1 : Nat) : Int)) then
 bif decide (0 ≤ (1 : Int)) && decide ((1 : Int) < ((y1.1 : Nat) : Int)) then
 (VO (y1.2.2.getD 0 (Ty.dflt (.int .i64)), y1.2.2.getD 1 (Ty.dflt (.int .i64)))).bind fun r10 =>
 some ((1 : Int), r10)
 else
 (none)
 else
 (none)
 else
 bif decide (0 ≤ (0 : Int)) && decide ((0 : Int) < ((y1.1 : Nat) : Int)) then
 (F49 (y1.2.2.getD 0 (Ty.dflt (.int .i64)))).bind fun r11 =>
 bif r11 then
 bif decide (0 ≤ (1 : Int)) && decide ((1 : Int) < ((y1.1 : Nat) : Int)) then
 (F49 (y1.2.2.getD 1 (Ty.dflt (.int .i64)))).bind fun r12 =>
 some ((1 : Int), r12)
 else
 (none)
 else
 some ((1 : Int), false)
 else
 (none)
theorem f80.k2 (n : Nat) (x : f80.Z1) (m : Nat) (y : f80.Z0) : f80.L2 n x (m + 1) y = f80.s2 n x (f80.L2 n x m) y := by
 simp only [f80.s2, ← f80.l1]
 kernel_rfl
theorem f80.l2 (n : Nat) (x : f80.Z1) : ∀ (m : Nat) (y1 : f80.Z0), f80.L2 n x m y1 = zF (f80.s2 n x) m y1 :=
 zw (L := f80.L2 n x) (step := f80.s2 n x) (fun _ => rfl) (f80.k2 n x)
def f80.g (n : Nat) (x : f80.Z1) : Option f80.Y2 :=
 zF (f80.s2 n x) n (0, ((0 : Int), []))
theorem f80.eq (n : Nat) (x : f80.Z1) : rK E80 C80 n 1 80 (zt f80.A4 x) (zp f80.A3) = f80.g n x := by
 simp only [f80.g, ← f80.l1, ← f80.l2]
 kernel_rfl
theorem f80.codes : CdO E80 C80 := zm (aC Tryz.func80 aN) (by kernel_rfl)
theorem f80.ok (G : (zg × zn) → Option f80.Y2) (h : Run G f80.g) (e49 : CO 49 ZK) (e50 : CO 50 aF) (e80 : CO 80 VY) (e132 : CO 132 py) (e133 : CO 133 Z7) (e134 : CO 134 Z6) (e135 : CO 135 al) : CO 80 (zj f80.A4 f80.A3 true G) :=
 zi zu zv (zf e135 (zf e134 (zf e133 (zf e132 (zf e80 (zf e50 (zf e49 zk))))))) f80.codes (fun _ => Ll.1 rfl) (h.go f80.eq)
end
def Rx : Con := zj f80.A4 f80.A3 true F80
abbrev f40.A0 : Sig := [(false, .int .i64), (false, .int .i64)]
abbrev f40.A1 : Sig := [(true, tTable), (true, tExpr)]
def E40 : FuncId → Option Con := (zy 69 SJ (zy 68 Sf (zy 58 gj zU)))
noncomputable def C40 : List (FuncId × Func) := [(40, Tryz.f40)]
def f40.g (n : Nat) (x : zg × zn) : Option (Int × Int) :=
 (F58 x.1).bind fun r1 =>
 bif r1 != (0 : Int) then
 some ((0 : Int), r1)
 else
 (F68 ((x.1, (1024 : Int)), ((Rose.node x.2.lab x.2.kids), (1 : Int)))).bind fun r2 =>
 bif !r2.2 then
 some ((0 : Int), (150 : Int))
 else
 (F69 (x.1, (Rose.node x.2.lab x.2.kids))).bind fun r3 =>
 bif !r3.2 then
 some ((0 : Int), (151 : Int))
 else
 some (r3.1, (0 : Int))
theorem f40.eq (n : Nat) (x : zg × zn) : rK E40 C40 n 1 40 (zt f40.A1 x) (zp f40.A0) = f40.g n x := by
 kernel_rfl
theorem f40.codes : CdO E40 C40 := zm (aC Tryz.func40 aN) (by kernel_rfl)
theorem f40.ok (h : Run F40 f40.g) (e58 : CO 58 gj) (e68 : CO 68 Sf) (e69 : CO 69 SJ) : CO 40 (zj f40.A1 f40.A0 true F40) :=
 zi zu zv (zf e69 (zf e68 (zf e58 zk))) f40.codes (fun _ => Ll.1 rfl) (h.go f40.eq)
def hZ : Con := zj f40.A1 f40.A0 true F40
abbrev f48.A0 : Sig := [(false, .int .i64), (false, .int .i64)]
abbrev f48.A1 : Sig := [(true, tTable), (true, tExpr)]
def E48 : FuncId → Option Con := (zy 80 Rx (zy 79 TA (zy 78 T0 (zy 77 Sm zU))))
noncomputable def C48 : List (FuncId × Func) := [(48, Tryz.f48)]
def f48.g (n : Nat) (x : zg × zn) : Option (Int × Int) :=
 (F77 x.1).bind fun r1 =>
 bif r1 != (0 : Int) then
 some ((0 : Int), r1)
 else
 (F78 ((Rose.node x.2.lab x.2.kids), ((0 : Int), (1 : Int)))).bind fun r2 =>
 bif !r2.2 then
 some ((0 : Int), (150 : Int))
 else
 (F79 (x.1, (Rose.node x.2.lab x.2.kids))).bind fun r3 =>
 bif !r3 then
 some ((0 : Int), (150 : Int))
 else
 (F80 (x.1, (Rose.node x.2.lab x.2.kids))).bind fun r4 =>
 bif !r4.2 then
 some ((0 : Int), (151 : Int))
 else
 some (r4.1, (0 : Int))
theorem f48.eq (n : Nat) (x : zg × zn) : rK E48 C48 n 1 48 (zt f48.A1 x) (zp f48.A0) = f48.g n x := by
 kernel_rfl
theorem f48.codes : CdO E48 C48 := zm (aC Tryz.func48 aN) (by kernel_rfl)
theorem f48.ok (h : Run F48 f48.g) (e77 : CO 77 Sm) (e78 : CO 78 T0) (e79 : CO 79 TA) (e80 : CO 80 Rx) : CO 48 (zj f48.A1 f48.A0 true F48) :=
 zi zu zv (zf e80 (zf e79 (zf e78 (zf e77 zk)))) f48.codes (fun _ => Ll.1 rfl) (h.go f48.eq)
def U8 : Con := zj f48.A1 f48.A0 true F48
def Mi : FuncId → Option Con := zU
noncomputable def MN : List (FuncId × Func) := [(103, Tryz.f103)]
def f103.g (n : Nat) (x : zc) : Option (Bool) :=
 some (x.1 == (0 : Int))
theorem f103.eq (n : Nat) (x : zc) : rK Mi MN n 1 103 (zt [(true, tValue)] x) (zp [(false, .bool)]) = f103.g n x := by
 kernel_rfl
theorem f103.codes : CdO Mi MN := zm (aC Tryz.func103 aN) (by kernel_rfl)
theorem f103.ok (h : Run jL f103.g)  : CO 103 (zj [(true, tValue)] [(false, .bool)] true jL) :=
 zi zu zv zk f103.codes (fun _ => Ll.1 rfl) (h.go f103.eq)
def je : Con := zj [(true, tValue)] [(false, .bool)] true jL
def E36 : FuncId → Option Con := zU
noncomputable def C36 : List (FuncId × Func) := [(36, Tryz.f36)]
def f36.g (n : Nat) (x : zc) : Option (Bool) :=
 some (bif (x.1 == (1 : Int)) then (x.2.1 == (1 : Int)) else false)
theorem f36.eq (n : Nat) (x : zc) : rK E36 C36 n 1 36 (zt [(true, tValue)] x) (zp [(false, .bool)]) = f36.g n x := by
 kernel_rfl
theorem f36.codes : CdO E36 C36 := zm (aC Tryz.func36 aN) (by kernel_rfl)
theorem f36.ok (h : Run F36 f36.g)  : CO 36 (zj [(true, tValue)] [(false, .bool)] true F36) :=
 zi zu zv zk f36.codes (fun _ => Ll.1 rfl) (h.go f36.eq)
def cZ : Con := zj [(true, tValue)] [(false, .bool)] true F36
def Mt : FuncId → Option Con := zU
noncomputable def MG : List (FuncId × Func) := [(154, Tryz.f154)]
def f154.g (n : Nat) (x : zc) : Option (Bool) :=
 some (bif (x.1 == (1 : Int)) then (x.2.1 == (0 : Int)) else false)
theorem f154.eq (n : Nat) (x : zc) : rK Mt MG n 1 154 (zt [(true, tValue)] x) (zp [(false, .bool)]) = f154.g n x := by
 kernel_rfl
theorem f154.codes : CdO Mt MG := zm (aC Tryz.func154 aN) (by kernel_rfl)
theorem f154.ok (h : Run V5 f154.g)  : CO 154 (zj [(true, tValue)] [(false, .bool)] true V5) :=
 zi zu zv zk f154.codes (fun _ => Ll.1 rfl) (h.go f154.eq)
def kR : Con := zj [(true, tValue)] [(false, .bool)] true V5
def N9 : FuncId → Option Con := zU
noncomputable def N7 : List (FuncId × Func) := [(105, Tryz.f105)]
def f105.g (n : Nat) (x : Bool) : Option (zc) :=
 bif x then
 some ((1 : Int), ((1 : Int), (0, (⟨#[]⟩ : BA))))
 else
 some ((1 : Int), ((0 : Int), (0, (⟨#[]⟩ : BA))))
theorem f105.eq (n : Nat) (x : Bool) : rK N9 N7 n 1 105 (zt [(false, .bool)] x) (zp [(true, tValue)]) = f105.g n x := by
 kernel_rfl
theorem f105.codes : CdO N9 N7 := zm (aC Tryz.func105 aN) (by kernel_rfl)
theorem f105.ok (h : Run dX f105.g)  : CO 105 (zj [(false, .bool)] [(true, tValue)] true dX) :=
 zi zu zv zk f105.codes (fun _ => Ll.1 rfl) (h.go f105.eq)
def lY : Con := zj [(false, .bool)] [(true, tValue)] true dX
def N6 : FuncId → Option Con := zU
noncomputable def Mn : List (FuncId × Func) := [(156, Tryz.f156)]
def f156.g (n : Nat) (x : Int) : Option (zc) :=
 some ((2 : Int), (x, (0, (⟨#[]⟩ : BA))))
theorem f156.eq (n : Nat) (x : Int) : rK N6 Mn n 1 156 (zt [(false, .int .i64)] x) (zp [(true, tValue)]) = f156.g n x := by
 kernel_rfl
theorem f156.codes : CdO N6 Mn := zm (aC Tryz.func156 aN) (by kernel_rfl)
theorem f156.ok (h : Run kz f156.g)  : CO 156 (zj [(false, .int .i64)] [(true, tValue)] true kz) :=
 zi zu zv zk f156.codes (fun _ => Ll.1 rfl) (h.go f156.eq)
def lX : Con := zj [(false, .int .i64)] [(true, tValue)] true kz
def Mk : FuncId → Option Con := zU
noncomputable def MP : List (FuncId × Func) := [(159, Tryz.f159)]
def f159.g (n : Nat) (x : zc) : Option (Nat) :=
 bif x.1 == (2 : Int) then
 some (FloatKind.f64.nearest x.2.1)
 else
 some x.2.2.1
theorem f159.eq (n : Nat) (x : zc) : rK Mk MP n 1 159 (zt [(true, tValue)] x) (zp [(false, .float .f64)]) = f159.g n x := by
 kernel_rfl
theorem f159.codes : CdO Mk MP := zm (aC Tryz.func159 aN) (by kernel_rfl)
theorem f159.ok (h : Run nV f159.g)  : CO 159 (zj [(true, tValue)] [(false, .float .f64)] true nV) :=
 zi zu zv zk f159.codes (fun _ => Ll.1 rfl) (h.go f159.eq)
def bN : Con := zj [(true, tValue)] [(false, .float .f64)] true nV
end
end Go.Proofs.YtefddghdaimklaaGreatDoor.AI
