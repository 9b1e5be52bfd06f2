/- A part of the proof. -/
import Derived.Test.YtefddghdaimklaaGreatDoorBb
set_option linter.unusedVariables false
set_option linter.unusedSimpArgs false
set_option maxRecDepth 100000
namespace Go.Proofs.YtefddghdaimklaaGreatDoor.AI
open Go
noncomputable section
set_option maxRecDepth 100000
abbrev BA : Type := ByteArray
abbrev uN (n : Nat) (l : List AV) : List AV := List.replicate n .undef ++ l
abbrev vv (l : List C) : AV := .val false l
abbrev cI (n : Int) : C := .sc (.int .i64) n
abbrev cT (s : ByteArray) : C := .sc .str s
abbrev cB (b : Bool) : C := .sc .bool b
abbrev Run {X Y : Type} (F : X → Option Y) (g : Nat → X → Option Y) : Prop := ∀ a b, F a = some b → ∃ n, g n a = some b
theorem Run.go {X Y : Type} {F : X → Option Y} {g r : Nat → X → Option Y} (h : Run F g) (e : ∀ n a, r n a = g n a) : Run F r := fun a b hF => (h a b hF).imp fun n hn => (e n a).trans hn
abbrev CO (f : FuncId) (c : Con) : Prop := ConOk Tryz.prog f c
abbrev CdO (E : FuncId → Option Con) (C : List (FuncId × Func)) : Prop := yU Tryz.prog E ann (yk C)
abbrev rK {R : Type} (E : FuncId → Option Con) (C : List (FuncId × Func)) (n d f : Nat) (a : List AV) (k : AV → List Ob → Option R) : Option R := j2 TT E n ann (yk C) d f a [] k
abbrev lK {R : Type} (an : Ann) (h : Nat) (E : FuncId → Option Con) (C : List (FuncId × Func)) (n d f : Nat) (fn : Func) (p q : List Nat) (m : Nat) (x : List AV × List Ob) (e : Ex → List AV → List Ob → Option R) : Option R :=
 wo an.keep h (fun fr H k => z0 TT 0 E (yi TT E n ann (yk C) d) n (ann f) (t5 p (zZ fn)) fr H k) m x.1 x.2 (oT TT 0 E (yi TT E n ann (yk C) d) n (ann f) q (zZ fn) e)
theorem aN : ∀ p ∈ ([] : List (FuncId × Func)), Tryz.prog.funcs[p.1]? = some p.2 := fun p h => by cases h
theorem aC {f : FuncId} {fn : Func} {l : List (FuncId × Func)} (h : Tryz.prog.funcs[f]? = some fn) (hl : ∀ p ∈ l, Tryz.prog.funcs[p.1]? = some p.2) : ∀ p ∈ (f, fn) :: l, Tryz.prog.funcs[p.1]? = some p.2 := fun p hp => by
 rcases LD.1 hp with rfl | hp
 ·exact h
 ·exact hl p hp
def c6 : Con := zj [(false, .str), (false, .str)] [(false, .bool)] true Q1
def rA : Con := zj [(false, .float .f64)] [(false, .int .u64)] true F63
def aT : Con := zj [(false, .str)] [(false, .bool)] true F64
def Rn : Con := zj [(false, .str), (false, .str)] [(false, .int .i64)] true F74
def pD : Con := zj [(false, .int .u64)] [(false, .float .f64)] true qQ
def YA : Con := zj [(false, .float .f64)] [(false, .float .f64)] true R4
def S8 : Con := zj [(false, .str), (false, .int .u8)] [(false, .int .i64)] true F93
abbrev f71.A0 : Sig := [(false, .int .i64), (false, .int .i64)]
def E71 : FuncId → Option Con := zU
noncomputable def C71 : List (FuncId × Func) := [(71, Tryz.f71), (117, Tryz.f117)]
def f71.g (n : Nat) (x : Int × Int) : Option (Int) :=
 bif x.1 != x.1 then
 bif x.2 != x.2 then
 some (0 : Int)
 else
 some (-1 : Int)
 else
 bif x.2 != x.2 then
 some (1 : Int)
 else
 bif decide (x.1 < x.2) then
 some (-1 : Int)
 else
 bif decide (x.1 > x.2) then
 some (1 : Int)
 else
 some (0 : Int)
theorem f71.eq (n : Nat) (x : Int × Int) : rK E71 C71 n 2 71 (zt f71.A0 x) (zp [(false, .int .i64)]) = f71.g n x := by
 kernel_rfl
theorem f71.codes : CdO E71 C71 := zm (aC Tryz.func71 (aC Tryz.func117 aN)) (by kernel_rfl)
theorem f71.ok (h : Run F71 f71.g)  : CO 71 (zj f71.A0 [(false, .int .i64)] true F71) :=
 zi zu zv zk f71.codes (fun _ => Ll.1 rfl) (h.go f71.eq)
def T6 : Con := zj f71.A0 [(false, .int .i64)] true F71
abbrev f72.A0 : Sig := [(false, .int .i64), (false, .int .i64)]
def E72 : FuncId → Option Con := zU
noncomputable def C72 : List (FuncId × Func) := [(72, Tryz.f72), (118, Tryz.f118)]
def f72.g (n : Nat) (x : Int × Int) : Option (Int) :=
 bif x.1 != x.1 then
 bif x.2 != x.2 then
 some (0 : Int)
 else
 some (-1 : Int)
 else
 bif x.2 != x.2 then
 some (1 : Int)
 else
 bif decide (x.1 < x.2) then
 some (-1 : Int)
 else
 bif decide (x.1 > x.2) then
 some (1 : Int)
 else
 some (0 : Int)
theorem f72.eq (n : Nat) (x : Int × Int) : rK E72 C72 n 2 72 (zt f72.A0 x) (zp [(false, .int .i64)]) = f72.g n x := by
 kernel_rfl
theorem f72.codes : CdO E72 C72 := zm (aC Tryz.func72 (aC Tryz.func118 aN)) (by kernel_rfl)
theorem f72.ok (h : Run F72 f72.g)  : CO 72 (zj f72.A0 [(false, .int .i64)] true F72) :=
 zi zu zv zk f72.codes (fun _ => Ll.1 rfl) (h.go f72.eq)
def gd : Con := zj f72.A0 [(false, .int .i64)] true F72
abbrev f73.A0 : Sig := [(false, .float .f64), (false, .float .f64)]
def E73 : FuncId → Option Con := zU
noncomputable def C73 : List (FuncId × Func) := [(73, Tryz.f73), (119, Tryz.f119)]
def f73.g (n : Nat) (x : Nat × Nat) : Option (Int) :=
 bif FloatKind.f64.format.order x.1 x.1 != some .eq then
 bif FloatKind.f64.format.order x.2 x.2 != some .eq then
 some (0 : Int)
 else
 bif FloatKind.f64.format.order x.1 x.1 != some .eq then
 some (1 : Int)
 else
 bif FloatKind.f64.format.order x.2 x.2 != some .eq then
 bif FloatKind.f64.format.order x.2 x.2 != some .eq then
 some (-1 : Int)
 else
 bif FloatKind.f64.format.order x.1 x.2 == some .gt then
 some (1 : Int)
 else
 some (0 : Int)
 else
 bif FloatKind.f64.format.order x.1 x.2 == some .lt then
 some (-1 : Int)
 else
 bif FloatKind.f64.format.order x.1 x.2 == some .gt then
 some (1 : Int)
 else
 some (0 : Int)
 else
 bif FloatKind.f64.format.order x.1 x.1 != some .eq then
 some (1 : Int)
 else
 bif FloatKind.f64.format.order x.2 x.2 != some .eq then
 bif FloatKind.f64.format.order x.2 x.2 != some .eq then
 some (-1 : Int)
 else
 bif FloatKind.f64.format.order x.1 x.2 == some .gt then
 some (1 : Int)
 else
 some (0 : Int)
 else
 bif FloatKind.f64.format.order x.1 x.2 == some .lt then
 some (-1 : Int)
 else
 bif FloatKind.f64.format.order x.1 x.2 == some .gt then
 some (1 : Int)
 else
 some (0 : Int)
theorem f73.eq (n : Nat) (x : Nat × Nat) : rK E73 C73 n 2 73 (zt f73.A0 x) (zp [(false, .int .i64)]) = f73.g n x := by
 kernel_rfl
theorem f73.codes : CdO E73 C73 := zm (aC Tryz.func73 (aC Tryz.func119 aN)) (by kernel_rfl)
theorem f73.ok (h : Run F73 f73.g)  : CO 73 (zj f73.A0 [(false, .int .i64)] true F73) :=
 zi zu zv zk f73.codes (fun _ => Ll.1 rfl) (h.go f73.eq)
def bQ : Con := zj f73.A0 [(false, .int .i64)] true F73
abbrev f82.A0 : Sig := [(false, .int .i64), (false, .int .i64)]
def E82 : FuncId → Option Con := zU
noncomputable def C82 : List (FuncId × Func) := [(82, Tryz.f82)]
def f82.g (n : Nat) (x : Int × Int) : Option (Int) :=
 bif decide (x.1 < x.2) then
 some (-1 : Int)
 else
 bif decide (x.1 > x.2) then
 some (1 : Int)
 else
 some (0 : Int)
theorem f82.eq (n : Nat) (x : Int × Int) : rK E82 C82 n 1 82 (zt f82.A0 x) (zp [(false, .int .i64)]) = f82.g n x := by
 kernel_rfl
theorem f82.codes : CdO E82 C82 := zm (aC Tryz.func82 aN) (by kernel_rfl)
theorem f82.ok (h : Run F82 f82.g)  : CO 82 (zj f82.A0 [(false, .int .i64)] true F82) :=
 zi zu zv zk f82.codes (fun _ => Ll.1 rfl) (h.go f82.eq)
def RC : Con := zj f82.A0 [(false, .int .i64)] true F82
abbrev f83.A0 : Sig := [(false, .float .f64), (false, .float .f64)]
def E83 : FuncId → Option Con := zU
noncomputable def C83 : List (FuncId × Func) := [(83, Tryz.f83), (136, Tryz.f136)]
def f83.g (n : Nat) (x : Nat × Nat) : Option (Int) :=
 bif FloatKind.f64.format.order x.1 x.1 != some .eq then
 bif FloatKind.f64.format.order x.1 x.1 != some .eq then
 bif FloatKind.f64.format.order x.2 x.2 != some .eq then
 some (0 : Int)
 else
 bif FloatKind.f64.format.order x.1 x.1 != some .eq then
 some (1 : Int)
 else
 some (-1 : Int)
 else
 bif FloatKind.f64.format.order x.1 x.1 != some .eq then
 some (1 : Int)
 else
 some (-1 : Int)
 else
 bif FloatKind.f64.format.order x.2 x.2 != some .eq then
 bif FloatKind.f64.format.order x.1 x.1 != some .eq then
 bif FloatKind.f64.format.order x.2 x.2 != some .eq then
 some (0 : Int)
 else
 bif FloatKind.f64.format.order x.1 x.1 != some .eq then
 some (1 : Int)
 else
 some (-1 : Int)
 else
 bif FloatKind.f64.format.order x.1 x.1 != some .eq then
 some (1 : Int)
 else
 some (-1 : Int)
 else
 bif FloatKind.f64.format.order x.1 x.2 == some .lt then
 some (-1 : Int)
 else
 bif FloatKind.f64.format.order x.1 x.2 == some .gt then
 some (1 : Int)
 else
 some (0 : Int)
theorem f83.eq (n : Nat) (x : Nat × Nat) : rK E83 C83 n 2 83 (zt f83.A0 x) (zp [(false, .int .i64)]) = f83.g n x := by
 kernel_rfl
theorem f83.codes : CdO E83 C83 := zm (aC Tryz.func83 (aC Tryz.func136 aN)) (by kernel_rfl)
theorem f83.ok (h : Run F83 f83.g)  : CO 83 (zj f83.A0 [(false, .int .i64)] true F83) :=
 zi zu zv zk f83.codes (fun _ => Ll.1 rfl) (h.go f83.eq)
def Sd : Con := zj f83.A0 [(false, .int .i64)] true F83
abbrev f84.A0 : Sig := [(false, .str), (false, .str)]
def E84 : FuncId → Option Con := zU
noncomputable def C84 : List (FuncId × Func) := [(84, Tryz.f84)]
def f84.g (n : Nat) (x : ByteArray × ByteArray) : Option (Int) :=
 bif yT x.1 x.2 then
 some (-1 : Int)
 else
 bif !(yT x.1 x.2 || zd x.1 x.2) then
 some (1 : Int)
 else
 some (0 : Int)
theorem f84.eq (n : Nat) (x : ByteArray × ByteArray) : rK E84 C84 n 1 84 (zt f84.A0 x) (zp [(false, .int .i64)]) = f84.g n x := by
 kernel_rfl
theorem f84.codes : CdO E84 C84 := zm (aC Tryz.func84 aN) (by kernel_rfl)
theorem f84.ok (h : Run F84 f84.g)  : CO 84 (zj f84.A0 [(false, .int .i64)] true F84) :=
 zi zu zv zk f84.codes (fun _ => Ll.1 rfl) (h.go f84.eq)
def TV : Con := zj f84.A0 [(false, .int .i64)] true F84
abbrev f45.A0 : Sig := [(true, tValue), (true, tValue)]
def E45 : FuncId → Option Con := (zy 74 Rn (zy 73 bQ (zy 72 gd (zy 71 T6 zU))))
noncomputable def C45 : List (FuncId × Func) := [(45, Tryz.f45)]
def f45.g (n : Nat) (x : zc × zc) : Option (Int) :=
 (F71 (x.1.1, x.2.1)).bind fun r1 =>
 bif r1 != (0 : Int) then
 some r1
 else
 bif x.1.1 == (1 : Int) then
 bif x.1.1 == (1 : Int) then
 (F72 (x.1.2.1, x.2.2.1)).bind fun r2 =>
 some r2
 else
 bif x.1.1 == (3 : Int) then
 (F73 (x.1.2.2.1, x.2.2.2.1)).bind fun r3 =>
 some r3
 else
 bif x.1.1 == (4 : Int) then
 bif x.1.1 == (4 : Int) then
 (F74 (x.1.2.2.2, x.2.2.2.2)).bind fun r4 =>
 some r4
 else
 some (0 : Int)
 else
 bif x.1.1 == (5 : Int) then
 (F74 (x.1.2.2.2, x.2.2.2.2)).bind fun r5 =>
 some r5
 else
 some (0 : Int)
 else
 bif x.1.1 == (2 : Int) then
 (F72 (x.1.2.1, x.2.2.1)).bind fun r6 =>
 some r6
 else
 bif x.1.1 == (3 : Int) then
 (F73 (x.1.2.2.1, x.2.2.2.1)).bind fun r7 =>
 some r7
 else
 bif x.1.1 == (4 : Int) then
 bif x.1.1 == (4 : Int) then
 (F74 (x.1.2.2.2, x.2.2.2.2)).bind fun r8 =>
 some r8
 else
 some (0 : Int)
 else
 bif x.1.1 == (5 : Int) then
 (F74 (x.1.2.2.2, x.2.2.2.2)).bind fun r9 =>
 some r9
 else
 some (0 : Int)
theorem f45.eq (n : Nat) (x : zc × zc) : rK E45 C45 n 1 45 (zt f45.A0 x) (zp [(false, .int .i64)]) = f45.g n x := by
 kernel_rfl
theorem f45.codes : CdO E45 C45 := zm (aC Tryz.func45 aN) (by kernel_rfl)
theorem f45.ok (h : Run F45 f45.g) (e71 : CO 71 T6) (e72 : CO 72 gd) (e73 : CO 73 bQ) (e74 : CO 74 Rn) : CO 45 (zj f45.A0 [(false, .int .i64)] true F45) :=
 zi zu zv (zf e74 (zf e73 (zf e72 (zf e71 zk)))) f45.codes (fun _ => Ll.1 rfl) (h.go f45.eq)
def ba : Con := zj f45.A0 [(false, .int .i64)] true F45
abbrev f52.A0 : Sig := [(true, tValue), (true, tValue)]
def E52 : FuncId → Option Con := (zy 84 TV (zy 83 Sd (zy 82 RC zU)))
noncomputable def C52 : List (FuncId × Func) := [(52, Tryz.f52)]
def f52.g (n : Nat) (x : zc × zc) : Option (Int) :=
 bif x.1.1 != x.2.1 then
 (F82 (x.1.1, x.2.1)).bind fun r1 =>
 some r1
 else
 bif x.1.1 == (1 : Int) then
 bif x.1.1 == (1 : Int) then
 (F82 (x.1.2.1, x.2.2.1)).bind fun r2 =>
 some r2
 else
 bif x.1.1 == (3 : Int) then
 (F83 (x.1.2.2.1, x.2.2.2.1)).bind fun r3 =>
 some r3
 else
 bif x.1.1 == (4 : Int) then
 bif x.1.1 == (4 : Int) then
 (F84 (x.1.2.2.2, x.2.2.2.2)).bind fun r4 =>
 some r4
 else
 some (0 : Int)
 else
 bif x.1.1 == (5 : Int) then
 (F84 (x.1.2.2.2, x.2.2.2.2)).bind fun r5 =>
 some r5
 else
 some (0 : Int)
 else
 bif x.1.1 == (2 : Int) then
 (F82 (x.1.2.1, x.2.2.1)).bind fun r6 =>
 some r6
 else
 bif x.1.1 == (3 : Int) then
 (F83 (x.1.2.2.1, x.2.2.2.1)).bind fun r7 =>
 some r7
 else
 bif x.1.1 == (4 : Int) then
 bif x.1.1 == (4 : Int) then
 (F84 (x.1.2.2.2, x.2.2.2.2)).bind fun r8 =>
 some r8
 else
 some (0 : Int)
 else
 bif x.1.1 == (5 : Int) then
 (F84 (x.1.2.2.2, x.2.2.2.2)).bind fun r9 =>
 some r9
 else
 some (0 : Int)
theorem f52.eq (n : Nat) (x : zc × zc) : rK E52 C52 n 1 52 (zt f52.A0 x) (zp [(false, .int .i64)]) = f52.g n x := by
 kernel_rfl
theorem f52.codes : CdO E52 C52 := zm (aC Tryz.func52 aN) (by kernel_rfl)
theorem f52.ok (h : Run F52 f52.g) (e82 : CO 82 RC) (e83 : CO 83 Sd) (e84 : CO 84 TV) : CO 52 (zj f52.A0 [(false, .int .i64)] true F52) :=
 zi zu zv (zf e84 (zf e83 (zf e82 zk))) f52.codes (fun _ => Ll.1 rfl) (h.go f52.eq)
def SG : Con := zj f52.A0 [(false, .int .i64)] true F52
def E75 : FuncId → Option Con := (zy 64 aT (zy 63 rA zU))
noncomputable def C75 : List (FuncId × Func) := [(75, Tryz.f75)]
def f75.g (n : Nat) (x : zc) : Option (Int) :=
 bif bif (decide (x.1 < (0 : Int))) then true else (decide (x.1 > (5 : Int))) then
 bif bif (decide (x.1 < (0 : Int))) then true else (decide (x.1 > (5 : Int))) then
 some (10 : Int)
 else
 bif decide ((x.2.2.2.size : Int) > (65536 : Int)) then
 some (3 : Int)
 else
 some (0 : Int)
 else
 bif bif (bif (x.1 == (1 : Int)) then (x.2.1 != (0 : Int)) else false) then (x.2.1 != (1 : Int)) else false then
 bif bif (bif (x.1 == (1 : Int)) then (x.2.1 != (0 : Int)) else false) then (x.2.1 != (1 : Int)) else false then
 some (10 : Int)
 else
 bif decide ((x.2.2.2.size : Int) > (65536 : Int)) then
 some (3 : Int)
 else
 some (0 : Int)
 else
 bif bif (bif (x.1 != (1 : Int)) then (x.1 != (2 : Int)) else false) then (x.2.1 != (0 : Int)) else false then
 bif bif (bif (x.1 != (1 : Int)) then (x.1 != (2 : Int)) else false) then (x.2.1 != (0 : Int)) else false then
 some (10 : Int)
 else
 bif decide ((x.2.2.2.size : Int) > (65536 : Int)) then
 some (3 : Int)
 else
 some (0 : Int)
 else
 bif x.1 != (3 : Int) then
 (F63 x.2.2.1).bind fun r1 =>
 bif r1 != (0 : Int) then
 bif r1 != (0 : Int) then
 some (10 : Int)
 else
 bif decide ((x.2.2.2.size : Int) > (65536 : Int)) then
 some (3 : Int)
 else
 some (0 : Int)
 else
 bif bif (!(bif (x.1 == (4 : Int)) then true else (x.1 == (5 : Int)))) then (!(zd x.2.2.2 (⟨#[]⟩ : BA))) else false then
 bif bif (!(bif (x.1 == (4 : Int)) then true else (x.1 == (5 : Int)))) then (!(zd x.2.2.2 (⟨#[]⟩ : BA))) else false then
 some (10 : Int)
 else
 bif decide ((x.2.2.2.size : Int) > (65536 : Int)) then
 some (3 : Int)
 else
 some (0 : Int)
 else
 bif x.1 == (4 : Int) then
 (F64 x.2.2.2).bind fun r2 =>
 bif !r2 then
 some (10 : Int)
 else
 bif decide ((x.2.2.2.size : Int) > (65536 : Int)) then
 some (3 : Int)
 else
 some (0 : Int)
 else
 bif decide ((x.2.2.2.size : Int) > (65536 : Int)) then
 some (3 : Int)
 else
 some (0 : Int)
 else
 bif bif (!(bif (x.1 == (4 : Int)) then true else (x.1 == (5 : Int)))) then (!(zd x.2.2.2 (⟨#[]⟩ : BA))) else false then
 bif bif (!(bif (x.1 == (4 : Int)) then true else (x.1 == (5 : Int)))) then (!(zd x.2.2.2 (⟨#[]⟩ : BA))) else false then
 some (10 : Int)
 else
 bif decide ((x.2.2.2.size : Int) > (65536 : Int)) then
 some (3 : Int)
 else
 some (0 : Int)
 else
 bif x.1 == (4 : Int) then
 (F64 x.2.2.2).bind fun r3 =>
 bif !r3 then
 some (10 : Int)
 else
 bif decide ((x.2.2.2.size : Int) > (65536 : Int)) then
 some (3 : Int)
 else
 some (0 : Int)
 else
 bif decide ((x.2.2.2.size : Int) > (65536 : Int)) then
 some (3 : Int)
 else
 some (0 : Int)
theorem f75.eq (n : Nat) (x : zc) : rK E75 C75 n 1 75 (zt [(true, tValue)] x) (zp [(false, .int .i64)]) = f75.g n x := by
 kernel_rfl
theorem f75.codes : CdO E75 C75 := zm (aC Tryz.func75 aN) (by kernel_rfl)
theorem f75.ok (h : Run F75 f75.g) (e63 : CO 63 rA) (e64 : CO 64 aT) : CO 75 (zj [(true, tValue)] [(false, .int .i64)] true F75) :=
 zi zu zv (zf e64 (zf e63 zk)) f75.codes (fun _ => Ll.1 rfl) (h.go f75.eq)
def rE : Con := zj [(true, tValue)] [(false, .int .i64)] true F75
def E37 : FuncId → Option Con := (zy 64 aT (zy 63 rA zU))
noncomputable def C37 : List (FuncId × Func) := [(37, Tryz.f37)]
def f37.g (n : Nat) (x : zc) : Option (Int) :=
 bif bif (decide (x.1 < (0 : Int))) then true else (decide (x.1 > (5 : Int))) then
 some (10 : Int)
 else
 bif bif (bif (bif (x.1 == (1 : Int)) then (x.2.1 != (0 : Int)) else false) then (x.2.1 != (1 : Int)) else false) then true else (bif (bif (x.1 != (1 : Int)) then (x.1 != (2 : Int)) else false) then (x.2.1 != (0 : Int)) else false) then
 some (10 : Int)
 else
 bif x.1 != (3 : Int) then
 (F63 x.2.2.1).bind fun r1 =>
 bif r1 != (0 : Int) then
 some (10 : Int)
 else
 bif bif (bif (x.1 != (4 : Int)) then (x.1 != (5 : Int)) else false) then (!(zd x.2.2.2 (⟨#[]⟩ : BA))) else false then
 some (10 : Int)
 else
 bif x.1 == (4 : Int) then
 (F64 x.2.2.2).bind fun r2 =>
 bif !r2 then
 some (10 : Int)
 else
 bif decide ((x.2.2.2.size : Int) > (65536 : Int)) then
 some (3 : Int)
 else
 some (0 : Int)
 else
 bif decide ((x.2.2.2.size : Int) > (65536 : Int)) then
 some (3 : Int)
 else
 some (0 : Int)
 else
 bif bif (bif (x.1 != (4 : Int)) then (x.1 != (5 : Int)) else false) then (!(zd x.2.2.2 (⟨#[]⟩ : BA))) else false then
 some (10 : Int)
 else
 bif x.1 == (4 : Int) then
 (F64 x.2.2.2).bind fun r3 =>
 bif !r3 then
 some (10 : Int)
 else
 bif decide ((x.2.2.2.size : Int) > (65536 : Int)) then
 some (3 : Int)
 else
 some (0 : Int)
 else
 bif decide ((x.2.2.2.size : Int) > (65536 : Int)) then
 some (3 : Int)
 else
 some (0 : Int)
theorem f37.eq (n : Nat) (x : zc) : rK E37 C37 n 1 37 (zt [(true, tValue)] x) (zp [(false, .int .i64)]) = f37.g n x := by
 kernel_rfl
theorem f37.codes : CdO E37 C37 := zm (aC Tryz.func37 aN) (by kernel_rfl)
theorem f37.ok (h : Run F37 f37.g) (e63 : CO 63 rA) (e64 : CO 64 aT) : CO 37 (zj [(true, tValue)] [(false, .int .i64)] true F37) :=
 zi zu zv (zf e64 (zf e63 zk)) f37.codes (fun _ => Ll.1 rfl) (h.go f37.eq)
def j8 : Con := zj [(true, tValue)] [(false, .int .i64)] true F37
def NY : FuncId → Option Con := (zy 163 pD zU)
noncomputable def NZ : List (FuncId × Func) := [(123, Tryz.f123), (119, Tryz.f119)]
def f123.g (n : Nat) (x : zc) : Option (zc) :=
 bif x.1 != (3 : Int) then
 some x
 else
 bif FloatKind.f64.format.order x.2.2.1 0 == some .eq then
 bif FloatKind.f64.format.order 0 0 != some .eq then
 (qQ (9221120237041090560 : Int)).bind fun r1 =>
 some (x.1, (x.2.1, (r1, x.2.2.2)))
 else
 some (x.1, (x.2.1, (0, x.2.2.2)))
 else
 bif FloatKind.f64.format.order x.2.2.1 x.2.2.1 != some .eq then
 (qQ (9221120237041090560 : Int)).bind fun r2 =>
 some (x.1, (x.2.1, (r2, x.2.2.2)))
 else
 some x
theorem f123.eq (n : Nat) (x : zc) : rK NY NZ n 2 123 (zt [(true, tValue)] x) (zp [(true, tValue)]) = f123.g n x := by
 kernel_rfl
theorem f123.codes : CdO NY NZ := zm (aC Tryz.func123 (aC Tryz.func119 aN)) (by kernel_rfl)
theorem f123.ok (h : Run R6 f123.g) (e163 : CO 163 pD) : CO 123 (zj [(true, tValue)] [(true, tValue)] true R6) :=
 zi zu zv (zf e163 zk) f123.codes (fun _ => Ll.1 rfl) (h.go f123.eq)
def cQ : Con := zj [(true, tValue)] [(true, tValue)] true R6
abbrev f169.A0 : Sig := [(true, tValue), (true, tValue)]
def Mq : FuncId → Option Con := (zy 63 rA zU)
noncomputable def MD : List (FuncId × Func) := [(169, Tryz.f169)]
def f169.g (n : Nat) (x : zc × zc) : Option (Bool) :=
 bif bif (x.1.1 == x.2.1) then (x.1.2.1 == x.2.2.1) else false then
 (F63 x.1.2.2.1).bind fun r1 =>
 (F63 x.2.2.2.1).bind fun r2 =>
 some (bif (r1 == r2) then (zd x.1.2.2.2 x.2.2.2.2) else false)
 else
 some false
theorem f169.eq (n : Nat) (x : zc × zc) : rK Mq MD n 1 169 (zt f169.A0 x) (zp [(false, .bool)]) = f169.g n x := by
 kernel_rfl
theorem f169.codes : CdO Mq MD := zm (aC Tryz.func169 aN) (by kernel_rfl)
theorem f169.ok (h : Run Qg f169.g) (e63 : CO 63 rA) : CO 169 (zj f169.A0 [(false, .bool)] true Qg) :=
 zi zu zv (zf e63 zk) f169.codes (fun _ => Ll.1 rfl) (h.go f169.eq)
def Yu : Con := zj f169.A0 [(false, .bool)] true Qg
abbrev f175.A0 : Sig := [(false, .int .i64), (false, .float .f64)]
def Mx : FuncId → Option Con := (zy 200 YA (zy 72 gd zU))
noncomputable def MQ : List (FuncId × Func) := [(175, Tryz.f175), (119, Tryz.f119), (191, Tryz.f191), (192, Tryz.f192), (201, Tryz.f201), (202, Tryz.f202), (212, Tryz.f212), (213, Tryz.f213)]
def f175.g (n : Nat) (x : Int × Nat) : Option (Int) :=
 bif bif (FloatKind.f64.format.order x.2 x.2 != some .eq) then true else (FloatKind.f64.format.order x.2 4890909195324358656 == some .gt || FloatKind.f64.format.order x.2 4890909195324358656 == some .eq) then
 some (-1 : Int)
 else
 bif FloatKind.f64.format.order x.2 14114281232179134464 == some .lt then
 some (1 : Int)
 else
 (R4 x.2).bind fun r1 =>
 (Pb .f64 .i64 r1).bind fun r2 =>
 (F72 (x.1, r2)).bind fun r3 =>
 bif r3 != (0 : Int) then
 some r3
 else
 VI (FloatKind.f64.format.sub x.2 r1) (fun r4 =>
 bif FloatKind.f64.format.order 0 0 != some .eq then
 bif FloatKind.f64.format.order r4 r4 != some .eq then
 some (0 : Int)
 else
 some (-1 : Int)
 else
 bif FloatKind.f64.format.order r4 r4 != some .eq then
 some (1 : Int)
 else
 bif FloatKind.f64.format.order 0 r4 == some .lt then
 some (-1 : Int)
 else
 bif FloatKind.f64.format.order 0 r4 == some .gt then
 some (1 : Int)
 else
 some (0 : Int))
 (bif FloatKind.f64.format.order 0 0 != some .eq then
 some (0 : Int)
 else
 some (1 : Int))
theorem f175.eq (n : Nat) (x : Int × Nat) : rK Mx MQ n 10 175 (zt f175.A0 x) (zp [(false, .int .i64)]) = f175.g n x := by
 kernel_rfl
theorem f175.codes : CdO Mx MQ := zm (aC Tryz.func175 (aC Tryz.func119 (aC Tryz.func191 (aC Tryz.func192 (aC Tryz.func201 (aC Tryz.func202 (aC Tryz.func212 (aC Tryz.func213 aN)))))))) (by kernel_rfl)
theorem f175.ok (h : Run j4 f175.g) (e72 : CO 72 gd) (e200 : CO 200 YA) : CO 175 (zj f175.A0 [(false, .int .i64)] true j4) :=
 zi zu zv (zf e200 (zf e72 zk)) f175.codes (fun _ => Ll.1 rfl) (h.go f175.eq)
def aA : Con := zj f175.A0 [(false, .int .i64)] true j4
abbrev f157.A0 : Sig := [(false, .int .i64), (false, .bool)]
abbrev f157.A1 : Sig := [(true, tValue), (true, tValue)]
def Ms : FuncId → Option Con := (zy 175 aA (zy 73 bQ (zy 72 gd zU)))
noncomputable def M7 : List (FuncId × Func) := [(157, Tryz.f157)]
def f157.g (n : Nat) (x : zc × zc) : Option (Int × Bool) :=
 bif x.1.1 == (2 : Int) then
 bif x.2.1 == (2 : Int) then
 (F72 (x.1.2.1, x.2.2.1)).bind fun r1 =>
 some (r1, true)
 else
 bif x.1.1 == (3 : Int) then
 bif x.2.1 == (3 : Int) then
 (F73 (x.1.2.2.1, x.2.2.2.1)).bind fun r2 =>
 some (r2, true)
 else
 bif x.1.1 == (2 : Int) then
 bif x.2.1 == (3 : Int) then
 (j4 (x.1.2.1, x.2.2.2.1)).bind fun r3 =>
 some (r3, true)
 else
 bif x.1.1 == (3 : Int) then
 bif x.2.1 == (2 : Int) then
 (j4 (x.2.2.1, x.1.2.2.1)).bind fun r4 =>
 some (IntKind.wrap .i64 (0 - r4), true)
 else
 some ((0 : Int), false)
 else
 some ((0 : Int), false)
 else
 bif x.1.1 == (3 : Int) then
 bif x.2.1 == (2 : Int) then
 (j4 (x.2.2.1, x.1.2.2.1)).bind fun r5 =>
 some (IntKind.wrap .i64 (0 - r5), true)
 else
 some ((0 : Int), false)
 else
 some ((0 : Int), false)
 else
 bif x.1.1 == (2 : Int) then
 bif x.2.1 == (3 : Int) then
 (j4 (x.1.2.1, x.2.2.2.1)).bind fun r6 =>
 some (r6, true)
 else
 bif x.1.1 == (3 : Int) then
 bif x.2.1 == (2 : Int) then
 (j4 (x.2.2.1, x.1.2.2.1)).bind fun r7 =>
 some (IntKind.wrap .i64 (0 - r7), true)
 else
 some ((0 : Int), false)
 else
 some ((0 : Int), false)
 else
 bif x.1.1 == (3 : Int) then
 bif x.2.1 == (2 : Int) then
 (j4 (x.2.2.1, x.1.2.2.1)).bind fun r8 =>
 some (IntKind.wrap .i64 (0 - r8), true)
 else
 some ((0 : Int), false)
 else
 some ((0 : Int), false)
 else
 bif x.1.1 == (3 : Int) then
 bif x.2.1 == (3 : Int) then
 (F73 (x.1.2.2.1, x.2.2.2.1)).bind fun r9 =>
 some (r9, true)
 else
 bif x.1.1 == (2 : Int) then
 bif x.2.1 == (3 : Int) then
 (j4 (x.1.2.1, x.2.2.2.1)).bind fun r10 =>
 some (r10, true)
 else
 bif x.1.1 == (3 : Int) then
 bif x.2.1 == (2 : Int) then
 (j4 (x.2.2.1, x.1.2.2.1)).bind fun r11 =>
 some (IntKind.wrap .i64 (0 - r11), true)
 else
 some ((0 : Int), false)
 else
 some ((0 : Int), false)
 else
 bif x.1.1 == (3 : Int) then
 bif x.2.1 == (2 : Int) then
 (j4 (x.2.2.1, x.1.2.2.1)).bind fun r12 =>
 some (IntKind.wrap .i64 (0 - r12), true)
 else
 some ((0 : Int), false)
 else
 some ((0 : Int), false)
 else
 bif x.1.1 == (2 : Int) then
 bif x.2.1 == (3 : Int) then
 (j4 (x.1.2.1, x.2.2.2.1)).bind fun r13 =>
 some (r13, true)
 else
 bif x.1.1 == (3 : Int) then
 bif x.2.1 == (2 : Int) then
 (j4 (x.2.2.1, x.1.2.2.1)).bind fun r14 =>
 some (IntKind.wrap .i64 (0 - r14), true)
 else
 some ((0 : Int), false)
 else
 some ((0 : Int), false)
 else
 bif x.1.1 == (3 : Int) then
 bif x.2.1 == (2 : Int) then
 (j4 (x.2.2.1, x.1.2.2.1)).bind fun r15 =>
 some (IntKind.wrap .i64 (0 - r15), true)
 else
 some ((0 : Int), false)
 else
 some ((0 : Int), false)
theorem f157.eq (n : Nat) (x : zc × zc) : rK Ms M7 n 1 157 (zt f157.A1 x) (zp f157.A0) = f157.g n x := by
 kernel_rfl
theorem f157.codes : CdO Ms M7 := zm (aC Tryz.func157 aN) (by kernel_rfl)
theorem f157.ok (h : Run Qx f157.g) (e72 : CO 72 gd) (e73 : CO 73 bQ) (e175 : CO 175 aA) : CO 157 (zj f157.A1 f157.A0 true Qx) :=
 zi zu zv (zf e175 (zf e73 (zf e72 zk))) f157.codes (fun _ => Ll.1 rfl) (h.go f157.eq)
def aV : Con := zj f157.A1 f157.A0 true Qx
def Mh : FuncId → Option Con := (zy 170 c6 zU)
noncomputable def ML : List (FuncId × Func) := [(138, Tryz.f138)]
def f138.g (n : Nat) (x : ByteArray) : Option (Bool) :=
 bif decide ((⟨#[32]⟩ : BA).size + x.size ≤ xk) then
 bif decide (((⟨#[32]⟩ : BA) ++ x).size + (⟨#[32]⟩ : BA).size ≤ xk) then
 (Q1 ((⟨#[32, 97, 110, 100, 32, 98, 111, 111, 108, 32, 98, 121, 116, 101, 115, 32, 99, 114, 101, 97, 116, 101, 32, 100, 101, 102, 97, 117, 108, 116, 32, 102, 97, 108, 115, 101, 32, 102, 108, 111, 97, 116, 32, 102, 111, 114, 101, 105, 103, 110, 32, 105, 110, 32, 105, 110, 100, 101, 120, 32, 105, 110, 116, 32, 105, 115, 32, 107, 101, 121, 32, 110, 111, 116, 32, 110, 117, 108, 108, 32, 111, 114, 32, 112, 114, 105, 109, 97, 114, 121, 32, 114, 101, 102, 101, 114, 101, 110, 99, 101, 115, 32, 116, 97, 98, 108, 101, 32, 116, 101, 120, 116, 32, 116, 114, 117, 101, 32, 117, 110, 105, 113, 117, 101, 32, 97, 98, 111, 114, 116, 32, 97, 115, 32, 97, 115, 99, 32, 97, 116, 32, 97, 118, 103, 32, 98, 101, 103, 105, 110, 32, 98, 101, 116, 119, 101, 101, 110, 32, 98, 121, 32, 99, 111, 109, 109, 105, 116, 32, 99, 111, 117, 110, 116, 32, 100, 101, 108, 101, 116, 101, 32, 100, 101, 115, 99, 32, 100, 114, 111, 112, 32, 102, 114, 111, 109, 32, 103, 114, 111, 117, 112, 32, 105, 110, 115, 101, 114, 116, 32, 105, 110, 116, 111, 32, 108, 105, 109, 105, 116, 32, 109, 97, 120, 32, 109, 105, 110, 32, 111, 102, 32, 111, 114, 100, 101, 114, 32, 114, 101, 108, 101, 97, 115, 101, 32, 114, 111, 108, 108, 98, 97, 99, 107, 32, 115, 97, 118, 101, 112, 111, 105, 110, 116, 32, 115, 101, 108, 101, 99, 116, 32, 115, 101, 116, 32, 115, 117, 109, 32, 116, 111, 32, 117, 112, 100, 97, 116, 101, 32, 118, 97, 108, 117, 101, 115, 32, 119, 104, 101, 114, 101, 32, 119, 105, 116, 104, 32]⟩ : BA), ((⟨#[32]⟩ : BA) ++ x) ++ (⟨#[32]⟩ : BA))).bind fun r1 =>
 some r1
 else
 (none)
 else
 (none)
theorem f138.eq (n : Nat) (x : ByteArray) : rK Mh ML n 1 138 (zt [(false, .str)] x) (zp [(false, .bool)]) = f138.g n x := by
 kernel_rfl
theorem f138.codes : CdO Mh ML := zm (aC Tryz.func138 aN) (by kernel_rfl)
theorem f138.ok (h : Run UZ f138.g) (e170 : CO 170 c6) : CO 138 (zj [(false, .str)] [(false, .bool)] true UZ) :=
 zi zu zv (zf e170 zk) f138.codes (fun _ => Ll.1 rfl) (h.go f138.eq)
def b8 : Con := zj [(false, .str)] [(false, .bool)] true UZ
def E86 : FuncId → Option Con := (zy 138 b8 zU)
noncomputable def C86 : List (FuncId × Func) := [(86, Tryz.f86), (137, Tryz.f137), (139, Tryz.f139)]
def f86.h1 (x : ByteArray) (r1 : Bool) (y2 : Int) : List AV × List Ob := ([vv [cT x]] ++ uN 21 ([vv [cI (x.size : Int)], vv [cI y2]] ++ uN 15 []), [])
def f86.L1 (n : Nat) (x : ByteArray) (r1 : Bool) (m2 : Nat) (y2 : Int) : Option (Bool) :=
 lK (ann 86 4) 0 E86 C86 n 3 86 Tryz.f86 [1, 1, 0, 1, 0, 0] [1, 1, 0, 1, 0] m2 (f86.h1 x r1 y2) (xa TT Tryz.f86 (zp [(false, .bool)]))
def f86.s1 (n : Nat) (x : ByteArray) (r1 : Bool) (S2 : Int → Option (Bool)) (y2 : Int) : Option (Bool) :=
 bif decide (y2 < (x.size : Int)) then
 bif decide (0 ≤ y2) && decide (y2 < (x.size : Int)) then
 bif !(bif (zY x y2 == (95 : Int)) then true else (bif (decide (zY x y2 ≥ (97 : Int))) then (decide (zY x y2 ≤ (122 : Int))) else false)) then
 bif decide (0 ≤ y2) && decide (y2 < (x.size : Int)) then
 bif !(bif (decide (zY x y2 ≥ (48 : Int))) then (decide (zY x y2 ≤ (57 : Int))) else false) then
 some false
 else
 S2 (IntKind.wrap .i64 (y2 + (1 : Int)))
 else
 (none)
 else
 S2 (IntKind.wrap .i64 (y2 + (1 : Int)))
 else
 (none)
 else
 some true
theorem f86.l1 (n : Nat) (x : ByteArray) (r1 : Bool) : ∀ (m : Nat) (y2 : Int), f86.L1 n x r1 m y2 = zF (f86.s1 n x r1) m y2 :=
 zw (fun _ => rfl) fun m y => by kernel_rfl
def f86.g (n : Nat) (x : ByteArray) : Option (Bool) :=
 bif bif (zd x (⟨#[]⟩ : BA)) then true else (decide ((x.size : Int) > (63 : Int))) then
 some false
 else
 bif decide (0 ≤ (0 : Int)) && decide ((0 : Int) < (x.size : Int)) then
 bif !(bif (zY x (0 : Int) == (95 : Int)) then true else (bif (decide (zY x (0 : Int) ≥ (97 : Int))) then (decide (zY x (0 : Int) ≤ (122 : Int))) else false)) then
 some false
 else
 (UZ x).bind fun r1 =>
 bif r1 then
 some false
 else
 zF (f86.s1 n x r1) n (0 : Int)
 else
 (none)
theorem f86.eq (n : Nat) (x : ByteArray) : rK E86 C86 n 3 86 (zt [(false, .str)] x) (zp [(false, .bool)]) = f86.g n x := by
 simp only [f86.g, ← f86.l1]
 kernel_rfl
theorem f86.codes : CdO E86 C86 := zm (aC Tryz.func86 (aC Tryz.func137 (aC Tryz.func139 aN))) (by kernel_rfl)
theorem f86.ok (h : Run F86 f86.g) (e138 : CO 138 b8) : CO 86 (zj [(false, .str)] [(false, .bool)] true F86) :=
 zi zu zv (zf e138 zk) f86.codes (fun _ => Ll.1 rfl) (h.go f86.eq)
def iG : Con := zj [(false, .str)] [(false, .bool)] true F86
abbrev f166.Z0 : Type := (List ByteArray) × ByteArray
abbrev f166.A1 : Sig := [(false, .sl .str), (false, .str)]
def Np : FuncId → Option Con := zU
noncomputable def NE : List (FuncId × Func) := [(166, Tryz.f166)]
def f166.h1 (x : f166.Z0) (y1 : Int) : List AV × List Ob := ([vv [.sc (.sl .str) x.1], vv [cT x.2]] ++ uN 3 ([vv [cI y1]] ++ uN 12 []), [])
def f166.L1 (n : Nat) (x : f166.Z0) (m1 : Nat) (y1 : Int) : Option (Bool) :=
 lK (ann 166 2) 0 Np NE n 1 166 Tryz.f166 [1, 0, 1, 0, 0] [1, 0, 1, 0] m1 (f166.h1 x y1) (xa TT Tryz.f166 (zp [(false, .bool)]))
def f166.s1 (n : Nat) (x : f166.Z0) (S1 : Int → Option (Bool)) (y1 : Int) : Option (Bool) :=
 bif decide (y1 < (x.1.length : Int)) then
 bif decide (0 ≤ y1) && decide (y1 < (x.1.length : Int)) then
 bif zd (x.1.getD y1.toNat (Ty.dflt .str)) x.2 then
 some true
 else
 S1 (IntKind.wrap .i64 (y1 + (1 : Int)))
 else
 (none)
 else
 some false
theorem f166.l1 (n : Nat) (x : f166.Z0) : ∀ (m : Nat) (y1 : Int), f166.L1 n x m y1 = zF (f166.s1 n x) m y1 :=
 zw (fun _ => rfl) fun m y => by kernel_rfl
def f166.g (n : Nat) (x : f166.Z0) : Option (Bool) :=
 zF (f166.s1 n x) n (0 : Int)
theorem f166.eq (n : Nat) (x : f166.Z0) : rK Np NE n 1 166 (zt f166.A1 x) (zp [(false, .bool)]) = f166.g n x := by
 simp only [f166.g, ← f166.l1]
 kernel_rfl
theorem f166.codes : CdO Np NE := zm (aC Tryz.func166 aN) (by kernel_rfl)
theorem f166.ok (h : Run R2 f166.g)  : CO 166 (zj f166.A1 [(false, .bool)] true R2) :=
 zi zu zv zk f166.codes (fun _ => Ll.1 rfl) (h.go f166.eq)
def bJ : Con := zj f166.A1 [(false, .bool)] true R2
def NX : FuncId → Option Con := zU
noncomputable def MX : List (FuncId × Func) := [(167, Tryz.f167)]
def f167.g (n : Nat) (x : Unit) : Option ((List ByteArray)) :=
 some (List.take 55 ([(⟨#[97, 110, 100]⟩ : BA), (⟨#[98, 111, 111, 108]⟩ : BA), (⟨#[98, 121, 116, 101, 115]⟩ : BA), (⟨#[99, 114, 101, 97, 116, 101]⟩ : BA), (⟨#[100, 101, 102, 97, 117, 108, 116]⟩ : BA), (⟨#[102, 97, 108, 115, 101]⟩ : BA), (⟨#[102, 108, 111, 97, 116]⟩ : BA), (⟨#[102, 111, 114, 101, 105, 103, 110]⟩ : BA), (⟨#[105, 110]⟩ : BA), (⟨#[105, 110, 100, 101, 120]⟩ : BA), (⟨#[105, 110, 116]⟩ : BA), (⟨#[105, 115]⟩ : BA), (⟨#[107, 101, 121]⟩ : BA), (⟨#[110, 111, 116]⟩ : BA), (⟨#[110, 117, 108, 108]⟩ : BA), (⟨#[111, 114]⟩ : BA), (⟨#[112, 114, 105, 109, 97, 114, 121]⟩ : BA), (⟨#[114, 101, 102, 101, 114, 101, 110, 99, 101, 115]⟩ : BA), (⟨#[116, 97, 98, 108, 101]⟩ : BA), (⟨#[116, 101, 120, 116]⟩ : BA), (⟨#[116, 114, 117, 101]⟩ : BA), (⟨#[117, 110, 105, 113, 117, 101]⟩ : BA), (⟨#[97, 98, 111, 114, 116]⟩ : BA), (⟨#[97, 115]⟩ : BA), (⟨#[97, 115, 99]⟩ : BA), (⟨#[97, 116]⟩ : BA), (⟨#[97, 118, 103]⟩ : BA), (⟨#[98, 101, 103, 105, 110]⟩ : BA), (⟨#[98, 101, 116, 119, 101, 101, 110]⟩ : BA), (⟨#[98, 121]⟩ : BA), (⟨#[99, 111, 109, 109, 105, 116]⟩ : BA), (⟨#[99, 111, 117, 110, 116]⟩ : BA), (⟨#[100, 101, 108, 101, 116, 101]⟩ : BA), (⟨#[100, 101, 115, 99]⟩ : BA), (⟨#[100, 114, 111, 112]⟩ : BA), (⟨#[102, 114, 111, 109]⟩ : BA), (⟨#[103, 114, 111, 117, 112]⟩ : BA), (⟨#[105, 110, 115, 101, 114, 116]⟩ : BA), (⟨#[105, 110, 116, 111]⟩ : BA), (⟨#[108, 105, 109, 105, 116]⟩ : BA), (⟨#[109, 97, 120]⟩ : BA), (⟨#[109, 105, 110]⟩ : BA), (⟨#[111, 102]⟩ : BA), (⟨#[111, 114, 100, 101, 114]⟩ : BA), (⟨#[114, 101, 108, 101, 97, 115, 101]⟩ : BA), (⟨#[114, 111, 108, 108, 98, 97, 99, 107]⟩ : BA), (⟨#[115, 97, 118, 101, 112, 111, 105, 110, 116]⟩ : BA), (⟨#[115, 101, 108, 101, 99, 116]⟩ : BA), (⟨#[115, 101, 116]⟩ : BA), (⟨#[115, 117, 109]⟩ : BA), (⟨#[116, 111]⟩ : BA), (⟨#[117, 112, 100, 97, 116, 101]⟩ : BA), (⟨#[118, 97, 108, 117, 101, 115]⟩ : BA), (⟨#[119, 104, 101, 114, 101]⟩ : BA), (⟨#[119, 105, 116, 104]⟩ : BA)]))
theorem f167.eq (n : Nat) (x : Unit) : rK NX MX n 1 167 (zt [] x) (zp [(false, .sl .str)]) = f167.g n x := by
 kernel_rfl
theorem f167.codes : CdO NX MX := zm (aC Tryz.func167 aN) (by kernel_rfl)
theorem f167.ok (h : Run PN f167.g)  : CO 167 (zj [] [(false, .sl .str)] false PN) :=
 zi zu zv zk f167.codes (fun h => by cases h) (h.go f167.eq)
def bO : Con := zj [] [(false, .sl .str)] false PN
def NQ : FuncId → Option Con := (zy 167 bO (zy 166 bJ zU))
noncomputable def OX : List (FuncId × Func) := [(125, Tryz.f125), (165, Tryz.f165), (168, Tryz.f168)]
def f125.h1 (x : ByteArray) (r1 : (List ByteArray)) (r2 : Bool) (y3 : Int) : List AV × List Ob := ([vv [cT x], .undef, .undef, vv [cI y3]] ++ uN 37 [], [])
def f125.L1 (n : Nat) (x : ByteArray) (r1 : (List ByteArray)) (r2 : Bool) (m3 : Nat) (y3 : Int) : Option (Bool) :=
 lK (ann 125 4) 0 NQ OX n 3 125 Tryz.f125 [1, 1, 0, 1, 0, 0] [1, 1, 0, 1, 0] m3 (f125.h1 x r1 r2 y3) (xa TT Tryz.f125 (zp [(false, .bool)]))
def f125.s1 (n : Nat) (x : ByteArray) (r1 : (List ByteArray)) (r2 : Bool) (S3 : Int → Option (Bool)) (y3 : Int) : Option (Bool) :=
 bif decide (y3 < (x.size : Int)) then
 bif decide (0 ≤ y3) && decide (y3 < (x.size : Int)) then
 bif !(bif (bif (decide (zY x y3 ≥ (97 : Int))) then (decide (zY x y3 ≤ (122 : Int))) else false) then true else (zY x y3 == (95 : Int))) then
 bif decide (0 ≤ y3) && decide (y3 < (x.size : Int)) then
 bif !(bif (decide (zY x y3 ≥ (48 : Int))) then (decide (zY x y3 ≤ (57 : Int))) else false) then
 some false
 else
 S3 (IntKind.wrap .i64 (y3 + (1 : Int)))
 else
 (none)
 else
 S3 (IntKind.wrap .i64 (y3 + (1 : Int)))
 else
 (none)
 else
 some true
theorem f125.l1 (n : Nat) (x : ByteArray) (r1 : (List ByteArray)) (r2 : Bool) : ∀ (m : Nat) (y3 : Int), f125.L1 n x r1 r2 m y3 = zF (f125.s1 n x r1 r2) m y3 :=
 zw (fun _ => rfl) fun m y => by kernel_rfl
def f125.g (n : Nat) (x : ByteArray) : Option (Bool) :=
 bif bif (decide ((x.size : Int) < (1 : Int))) then true else (decide ((x.size : Int) > (63 : Int))) then
 some false
 else
 bif decide (0 ≤ (0 : Int)) && decide ((0 : Int) < (x.size : Int)) then
 bif !(bif (bif (decide (zY x (0 : Int) ≥ (97 : Int))) then (decide (zY x (0 : Int) ≤ (122 : Int))) else false) then true else (zY x (0 : Int) == (95 : Int))) then
 some false
 else
 (PN ()).bind fun r1 =>
 (R2 (r1, x)).bind fun r2 =>
 bif r2 then
 some false
 else
 zF (f125.s1 n x r1 r2) n (0 : Int)
 else
 (none)
theorem f125.eq (n : Nat) (x : ByteArray) : rK NQ OX n 3 125 (zt [(false, .str)] x) (zp [(false, .bool)]) = f125.g n x := by
 simp only [f125.g, ← f125.l1]
 kernel_rfl
theorem f125.codes : CdO NQ OX := zm (aC Tryz.func125 (aC Tryz.func165 (aC Tryz.func168 aN))) (by kernel_rfl)
theorem f125.ok (h : Run VJ f125.g) (e166 : CO 166 bJ) (e167 : CO 167 bO) : CO 125 (zj [(false, .str)] [(false, .bool)] true VJ) :=
 zi zu zv (zf e167 (zf e166 zk)) f125.codes (fun _ => Ll.1 rfl) (h.go f125.eq)
def pf : Con := zj [(false, .str)] [(false, .bool)] true VJ
abbrev f42.Z0 : Type := (List Int) × Int
abbrev f42.A1 : Sig := [(false, .sl (.int .i64)), (false, .int .i64)]
def E42 : FuncId → Option Con := zU
noncomputable def C42 : List (FuncId × Func) := [(42, Tryz.f42)]
def f42.h1 (x : f42.Z0) (y1 : Int) : List AV × List Ob := ([vv [.sc (.sl (.int .i64)) x.1], vv [cI x.2]] ++ uN 5 ([vv [cI (x.1.length : Int)], vv [cI y1]] ++ uN 10 []), [])
def f42.L1 (n : Nat) (x : f42.Z0) (m1 : Nat) (y1 : Int) : Option (Int) :=
 lK (ann 42 2) 0 E42 C42 n 1 42 Tryz.f42 [1, 0, 1, 0, 0] [1, 0, 1, 0] m1 (f42.h1 x y1) (xa TT Tryz.f42 (zp [(false, .int .i64)]))
def f42.s1 (n : Nat) (x : f42.Z0) (S1 : Int → Option (Int)) (y1 : Int) : Option (Int) :=
 bif decide (y1 < (x.1.length : Int)) then
 bif decide (0 ≤ y1) && decide (y1 < (x.1.length : Int)) then
 bif x.2 == x.1.getD y1.toNat (Ty.dflt (.int .i64)) then
 some y1
 else
 S1 (IntKind.wrap .i64 (y1 + (1 : Int)))
 else
 (none)
 else
 some (-1 : Int)
theorem f42.l1 (n : Nat) (x : f42.Z0) : ∀ (m : Nat) (y1 : Int), f42.L1 n x m y1 = zF (f42.s1 n x) m y1 :=
 zw (fun _ => rfl) fun m y => by kernel_rfl
def f42.g (n : Nat) (x : f42.Z0) : Option (Int) :=
 zF (f42.s1 n x) n (0 : Int)
theorem f42.eq (n : Nat) (x : f42.Z0) : rK E42 C42 n 1 42 (zt f42.A1 x) (zp [(false, .int .i64)]) = f42.g n x := by
 simp only [f42.g, ← f42.l1]
 kernel_rfl
theorem f42.codes : CdO E42 C42 := zm (aC Tryz.func42 aN) (by kernel_rfl)
theorem f42.ok (h : Run F42 f42.g)  : CO 42 (zj f42.A1 [(false, .int .i64)] true F42) :=
 zi zu zv zk f42.codes (fun _ => Ll.1 rfl) (h.go f42.eq)
def SS : Con := zj f42.A1 [(false, .int .i64)] true F42
abbrev f16.A0 : Sig := [(false, .sl (.int .i64)), (false, .int .i64)]
def E16 : FuncId → Option Con := (zy 42 SS zU)
noncomputable def C16 : List (FuncId × Func) := [(16, Tryz.f16)]
def f16.g (n : Nat) (x : (List Int) × Int) : Option (Bool) :=
 (F42 x).bind fun r1 =>
 some (decide (r1 ≥ (0 : Int)))
theorem f16.eq (n : Nat) (x : (List Int) × Int) : rK E16 C16 n 1 16 (zt f16.A0 x) (zp [(false, .bool)]) = f16.g n x := by
 kernel_rfl
theorem f16.codes : CdO E16 C16 := zm (aC Tryz.func16 aN) (by kernel_rfl)
theorem f16.ok (h : Run F16 f16.g) (e42 : CO 42 SS) : CO 16 (zj f16.A0 [(false, .bool)] true F16) :=
 zi zu zv (zf e42 zk) f16.codes (fun _ => Ll.1 rfl) (h.go f16.eq)
def bU : Con := zj f16.A0 [(false, .bool)] true F16
abbrev f88.Z0 : Type := zg × (List Int)
abbrev f88.A1 : Sig := [(true, tTable), (false, .sl (.int .i64))]
def E88 : FuncId → Option Con := (zy 16 bU zU)
noncomputable def C88 : List (FuncId × Func) := [(88, Tryz.f88)]
def f88.h1 (x : f88.Z0) (y1 : Int) : List AV × List Ob := ([.undef, vv [.sc (.sl (.int .i64)) x.2], vv [.ptr 0 0]] ++ uN 12 ([vv [.sc (.sl (.int .i64)) x.2], vv [cI (x.2.length : Int)], vv [cI y1]] ++ uN 21 []), [.box [cT x.1.1, .sc (.sl tColumn) x.1.2.1, .sc (.sl (.int .i64)) x.1.2.2.1, .sc (.sl tIndex) x.1.2.2.2.1, .sc (.sl tRef) x.1.2.2.2.2]])
def f88.L1 (n : Nat) (x : f88.Z0) (m1 : Nat) (y1 : Int) : Option (Bool) :=
 lK (ann 88 4) 1 E88 C88 n 1 88 Tryz.f88 [1, 1, 0, 1, 0, 0] [1, 1, 0, 1, 0] m1 (f88.h1 x y1) (xa TT Tryz.f88 (zp [(false, .bool)]))
def f88.s1 (n : Nat) (x : f88.Z0) (S1 : Int → Option (Bool)) (y1 : Int) : Option (Bool) :=
 bif decide (y1 < (x.2.length : Int)) then
 bif decide (0 ≤ y1) && decide (y1 < (x.2.length : Int)) then
 bif bif (decide (x.2.getD y1.toNat (Ty.dflt (.int .i64)) < (0 : Int))) then true else (decide (x.2.getD y1.toNat (Ty.dflt (.int .i64)) ≥ (x.1.2.1.length : Int))) then
 some false
 else
 bif decide (0 ≤ y1) && decide (y1 ≤ (x.2.length : Int)) then
 (F16 (List.take y1.toNat x.2, x.2.getD y1.toNat (Ty.dflt (.int .i64)))).bind fun r2 =>
 bif r2 then
 some false
 else
 S1 (IntKind.wrap .i64 (y1 + (1 : Int)))
 else
 (none)
 else
 (none)
 else
 some true
theorem f88.l1 (n : Nat) (x : f88.Z0) : ∀ (m : Nat) (y1 : Int), f88.L1 n x m y1 = zF (f88.s1 n x) m y1 :=
 zw (fun _ => rfl) fun m y => by kernel_rfl
def f88.g (n : Nat) (x : f88.Z0) : Option (Bool) :=
 bif bif (decide ((x.2.length : Int) < (1 : Int))) then true else (decide ((x.2.length : Int) > (64 : Int))) then
 some false
 else
 zF (f88.s1 n x) n (0 : Int)
theorem f88.eq (n : Nat) (x : f88.Z0) : rK E88 C88 n 1 88 (zt f88.A1 x) (zp [(false, .bool)]) = f88.g n x := by
 simp only [f88.g, ← f88.l1]
 kernel_rfl
theorem f88.codes : CdO E88 C88 := zm (aC Tryz.func88 aN) (by kernel_rfl)
theorem f88.ok (h : Run F88 f88.g) (e16 : CO 16 bU) : CO 88 (zj f88.A1 [(false, .bool)] true F88) :=
 zi zu zv (zf e16 zk) f88.codes (fun _ => Ll.1 rfl) (h.go f88.eq)
def TE : Con := zj f88.A1 [(false, .bool)] true F88
abbrev f171a.Z0 : Type := (List zQ) × ByteArray
def UL : FuncId → Option Con := zU
noncomputable def Rl : List (FuncId × Func) := [(171, Tryz.f171), (224, Tryz.f224)]
def f171a.h1 (x : f171a.Z0) (y1 : Int) : List AV × List Ob := ([vv [.sc (.sl tColumn) x.1], vv [.fnr 224 [⟨.str, x.2⟩]]] ++ uN 5 ([vv [cI (x.1.length : Int)], vv [cI y1]] ++ uN 10 []), [])
def f171a.L1 (n : Nat) (x : f171a.Z0) (m1 : Nat) (y1 : Int) : Option (Int) :=
 lK (ann 171 2) 0 UL Rl n 2 171 Tryz.f171 [1, 0, 1, 0, 0] [1, 0, 1, 0] m1 (f171a.h1 x y1) (xa TT Tryz.f171 (zp [(false, .int .i64)]))
def f171a.s1 (n : Nat) (x : f171a.Z0) (S1 : Int → Option (Int)) (y1 : Int) : Option (Int) :=
 bif decide (y1 < (x.1.length : Int)) then
 bif decide (0 ≤ y1) && decide (y1 < (x.1.length : Int)) then
 bif zd (x.1.getD y1.toNat tColumn.dflt).1 x.2 then
 some y1
 else
 S1 (IntKind.wrap .i64 (y1 + (1 : Int)))
 else
 (none)
 else
 some (-1 : Int)
theorem f171a.l1 (n : Nat) (x : f171a.Z0) : ∀ (m : Nat) (y1 : Int), f171a.L1 n x m y1 = zF (f171a.s1 n x) m y1 :=
 zw (fun _ => rfl) fun m y => by kernel_rfl
def f171a.g (n : Nat) (x : f171a.Z0) : Option (Int) :=
 zF (f171a.s1 n x) n (0 : Int)
theorem f171a.eq (n : Nat) (x : f171a.Z0) : rK UL Rl n 2 171 (avL [.dat false (.sl tColumn), .clo 224 [(true, .str)]] x) (zp [(false, .int .i64)]) = f171a.g n x := by
 simp only [f171a.g, ← f171a.l1]
 kernel_rfl
theorem f171a.codes : CdO UL Rl := zm (aC Tryz.func171 (aC Tryz.func224 aN)) (by kernel_rfl)
theorem f171a.ok (h : Run eJ f171a.g)  : CO 171 (cw [(false, .int .i64)] (PmL [.dat false (.sl tColumn), .clo 224 [(true, .str)]]) (fun l H => yo H [.dat false (.sl tColumn), .clo 224 [(true, .str)]] l) eJ) :=
 yY zu zv zk f171a.codes (Ll.1 rfl) (h.go f171a.eq)
abbrev f171b.Z0 : Type := (List zQ) × zQ
def UG : FuncId → Option Con := zU
noncomputable def Rk : List (FuncId × Func) := [(171, Tryz.f171), (141, Tryz.f141)]
def f171b.h1 (x : f171b.Z0) (y1 : Int) : List AV × List Ob := ([vv [.sc (.sl tColumn) x.1], vv [.fnr 141 [⟨tColumn, x.2⟩]]] ++ uN 5 ([vv [cI (x.1.length : Int)], vv [cI y1]] ++ uN 10 []), [])
def f171b.L1 (n : Nat) (x : f171b.Z0) (m1 : Nat) (y1 : Int) : Option (Int) :=
 lK (ann 171 2) 0 UG Rk n 2 171 Tryz.f171 [1, 0, 1, 0, 0] [1, 0, 1, 0] m1 (f171b.h1 x y1) (xa TT Tryz.f171 (zp [(false, .int .i64)]))
def f171b.s1 (n : Nat) (x : f171b.Z0) (S1 : Int → Option (Int)) (y1 : Int) : Option (Int) :=
 bif decide (y1 < (x.1.length : Int)) then
 bif decide (0 ≤ y1) && decide (y1 < (x.1.length : Int)) then
 bif zd (x.1.getD y1.toNat tColumn.dflt).1 x.2.1 then
 some y1
 else
 S1 (IntKind.wrap .i64 (y1 + (1 : Int)))
 else
 (none)
 else
 some (-1 : Int)
theorem f171b.l1 (n : Nat) (x : f171b.Z0) : ∀ (m : Nat) (y1 : Int), f171b.L1 n x m y1 = zF (f171b.s1 n x) m y1 :=
 zw (fun _ => rfl) fun m y => by kernel_rfl
def f171b.g (n : Nat) (x : f171b.Z0) : Option (Int) :=
 zF (f171b.s1 n x) n (0 : Int)
theorem f171b.eq (n : Nat) (x : f171b.Z0) : rK UG Rk n 2 171 (avL [.dat false (.sl tColumn), .clo 141 [(true, tColumn)]] x) (zp [(false, .int .i64)]) = f171b.g n x := by
 simp only [f171b.g, ← f171b.l1]
 kernel_rfl
theorem f171b.codes : CdO UG Rk := zm (aC Tryz.func171 (aC Tryz.func141 aN)) (by kernel_rfl)
theorem f171b.ok (h : Run iT f171b.g)  : CO 171 (cw [(false, .int .i64)] (PmL [.dat false (.sl tColumn), .clo 141 [(true, tColumn)]]) (fun l H => yo H [.dat false (.sl tColumn), .clo 141 [(true, tColumn)]] l) iT) :=
 yY zu zv zk f171b.codes (Ll.1 rfl) (h.go f171b.eq)
def kM : Con := cw [(false, .int .i64)] ((PmL [.dat false (.sl tColumn), .clo 224 [(true, .str)]]) ⊕ (PmL [.dat false (.sl tColumn), .clo 141 [(true, tColumn)]])) (s6 224 (fun l H => yo H [.dat false (.sl tColumn), .clo 224 [(true, .str)]] l) (fun l H => yo H [.dat false (.sl tColumn), .clo 141 [(true, tColumn)]] l)) (orF eJ iT)
def N2 : FuncId → Option Con := (zy 171 kM zU)
noncomputable def M1 : List (FuncId × Func) := [(140, Tryz.f140), (141, Tryz.f141)]
def f140.g (n : Nat) (x : (List zQ) × zQ) : Option (Bool) :=
 (iT x).bind fun r1 =>
 some (decide (r1 ≥ (0 : Int)))
theorem f140.eq (n : Nat) (x : (List zQ) × zQ) : rK N2 M1 n 2 140 (avL [.dat false (.sl tColumn), .clo 141 [(true, tColumn)]] x) (zp [(false, .bool)]) = f140.g n x := by
 kernel_rfl
theorem f140.codes : CdO N2 M1 := zm (aC Tryz.func140 (aC Tryz.func141 aN)) (by kernel_rfl)
theorem f140.ok (h : Run R7 f140.g) (e171 : CO 171 kM) : CO 140 (sA [.dat false (.sl tColumn), .clo 141 [(true, tColumn)]] [(false, .bool)] R7) :=
 yY zu zv (zf e171 zk) f140.codes (Ll.1 rfl) (h.go f140.eq)
def aO : Con := sA [.dat false (.sl tColumn), .clo 141 [(true, tColumn)]] [(false, .bool)] R7
def Me : FuncId → Option Con := zU
noncomputable def Mz : List (FuncId × Func) := [(115, Tryz.f115)]
def f115.g (n : Nat) (x : Int) : Option (Bool) :=
 some (bif (x == (2 : Int)) then true else (x == (3 : Int)))
theorem f115.eq (n : Nat) (x : Int) : rK Me Mz n 1 115 (zt [(false, .int .i64)] x) (zp [(false, .bool)]) = f115.g n x := by
 kernel_rfl
theorem f115.codes : CdO Me Mz := zm (aC Tryz.func115 aN) (by kernel_rfl)
theorem f115.ok (h : Run d6 f115.g)  : CO 115 (zj [(false, .int .i64)] [(false, .bool)] true d6) :=
 zi zu zv zk f115.codes (fun _ => Ll.1 rfl) (h.go f115.eq)
def p9 : Con := zj [(false, .int .i64)] [(false, .bool)] true d6
def E41 : FuncId → Option Con := zU
noncomputable def C41 : List (FuncId × Func) := [(41, Tryz.f41)]
def f41.g (n : Nat) (x : Int) : Option (Bool) :=
 some (bif (x == (1 : Int)) then true else (x == (0 : Int)))
theorem f41.eq (n : Nat) (x : Int) : rK E41 C41 n 1 41 (zt [(false, .int .i64)] x) (zp [(false, .bool)]) = f41.g n x := by
 kernel_rfl
theorem f41.codes : CdO E41 C41 := zm (aC Tryz.func41 aN) (by kernel_rfl)
theorem f41.ok (h : Run F41 f41.g)  : CO 41 (zj [(false, .int .i64)] [(false, .bool)] true F41) :=
 zi zu zv zk f41.codes (fun _ => Ll.1 rfl) (h.go f41.eq)
def bt : Con := zj [(false, .int .i64)] [(false, .bool)] true F41
abbrev f114.A0 : Sig := [(false, .int .i64), (false, .int .i64)]
def M0 : FuncId → Option Con := (zy 115 p9 zU)
noncomputable def Ma : List (FuncId × Func) := [(114, Tryz.f114)]
def f114.g (n : Nat) (x : Int × Int) : Option (Bool) :=
 bif x.1 == x.2 then
 some true
 else
 (d6 x.1).bind fun r1 =>
 bif r1 then
 (d6 x.2).bind fun r2 =>
 some (bif (bif r2 then true else (x.1 == (0 : Int))) then true else (x.2 == (0 : Int)))
 else
 some (bif (x.1 == (0 : Int)) then true else (x.2 == (0 : Int)))
theorem f114.eq (n : Nat) (x : Int × Int) : rK M0 Ma n 1 114 (zt f114.A0 x) (zp [(false, .bool)]) = f114.g n x := by
 kernel_rfl
theorem f114.codes : CdO M0 Ma := zm (aC Tryz.func114 aN) (by kernel_rfl)
theorem f114.ok (h : Run Ub f114.g) (e115 : CO 115 p9) : CO 114 (zj f114.A0 [(false, .bool)] true Ub) :=
 zi zu zv (zf e115 zk) f114.codes (fun _ => Ll.1 rfl) (h.go f114.eq)
def pQ : Con := zj f114.A0 [(false, .bool)] true Ub
abbrev f142a.Z0 : Type := (List Int) × zg
def RD : FuncId → Option Con := zU
noncomputable def Ut : List (FuncId × Func) := [(142, Tryz.f142), (90, Tryz.f90)]
def f142a.h1 (x : f142a.Z0) (y1 : Int) : List AV × List Ob := ([vv [.sc (.sl (.int .i64)) x.1], vv [.fnr 90 [⟨tTable, x.2⟩]]] ++ uN 5 ([vv [cI (x.1.length : Int)], vv [cI y1]] ++ uN 10 []), [])
def f142a.L1 (n : Nat) (x : f142a.Z0) (m1 : Nat) (y1 : Int) : Option (Int) :=
 lK (ann 142 2) 0 RD Ut n 2 142 Tryz.f142 [1, 0, 1, 0, 0] [1, 0, 1, 0] m1 (f142a.h1 x y1) (xa TT Tryz.f142 (zp [(false, .int .i64)]))
def f142a.s1 (n : Nat) (x : f142a.Z0) (S1 : Int → Option (Int)) (y1 : Int) : Option (Int) :=
 bif decide (y1 < (x.1.length : Int)) then
 bif decide (0 ≤ y1) && decide (y1 < (x.1.length : Int)) then
 bif decide (0 ≤ x.1.getD y1.toNat (Ty.dflt (.int .i64))) && decide (x.1.getD y1.toNat (Ty.dflt (.int .i64)) < (x.2.2.1.length : Int)) then
 bif (x.2.2.1.getD ((x.1.getD y1.toNat (Ty.dflt (.int .i64))).toNat) tColumn.dflt).2.2.1 then
 some y1
 else
 S1 (IntKind.wrap .i64 (y1 + (1 : Int)))
 else
 (none)
 else
 (none)
 else
 some (-1 : Int)
theorem f142a.l1 (n : Nat) (x : f142a.Z0) : ∀ (m : Nat) (y1 : Int), f142a.L1 n x m y1 = zF (f142a.s1 n x) m y1 :=
 zw (fun _ => rfl) fun m y => by kernel_rfl
def f142a.g (n : Nat) (x : f142a.Z0) : Option (Int) :=
 zF (f142a.s1 n x) n (0 : Int)
theorem f142a.eq (n : Nat) (x : f142a.Z0) : rK RD Ut n 2 142 (avL [.dat false (.sl (.int .i64)), .clo 90 [(true, tTable)]] x) (zp [(false, .int .i64)]) = f142a.g n x := by
 simp only [f142a.g, ← f142a.l1]
 kernel_rfl
theorem f142a.codes : CdO RD Ut := zm (aC Tryz.func142 (aC Tryz.func90 aN)) (by kernel_rfl)
theorem f142a.ok (h : Run ik f142a.g)  : CO 142 (cw [(false, .int .i64)] (PmL [.dat false (.sl (.int .i64)), .clo 90 [(true, tTable)]]) (fun l H => yo H [.dat false (.sl (.int .i64)), .clo 90 [(true, tTable)]] l) ik) :=
 yY zu zv zk f142a.codes (Ll.1 rfl) (h.go f142a.eq)
abbrev f142b.Z0 : Type := (List Int) × (List Int)
abbrev f142b.A1 : Sig := [(true, .sl (.int .i64))]
def Sl : FuncId → Option Con := (zy 114 pQ zU)
noncomputable def Sa : List (FuncId × Func) := [(142, Tryz.f142), (113, Tryz.f113)]
def f142b.h1 (x : f142b.Z0) (y1 : Int) : List AV × List Ob := ([vv [.sc (.sl (.int .i64)) x.1], vv [.fnr 113 [⟨.sl (.int .i64), x.2⟩]]] ++ uN 5 ([vv [cI (x.1.length : Int)], vv [cI y1]] ++ uN 10 []), [])
def f142b.L1 (n : Nat) (x : f142b.Z0) (m1 : Nat) (y1 : Int) : Option (Int) :=
 lK (ann 142 2) 0 Sl Sa n 2 142 Tryz.f142 [1, 0, 1, 0, 0] [1, 0, 1, 0] m1 (f142b.h1 x y1) (xa TT Tryz.f142 (zp [(false, .int .i64)]))
def f142b.s1 (n : Nat) (x : f142b.Z0) (S1 : Int → Option (Int)) (y1 : Int) : Option (Int) :=
 bif decide (y1 < (x.1.length : Int)) then
 bif decide (0 ≤ y1) && decide (y1 < (x.1.length : Int)) then
 bif decide (0 ≤ (0 : Int)) && decide ((0 : Int) < (x.2.length : Int)) then
 (Ub (x.2.getD 0 (Ty.dflt (.int .i64)), x.1.getD y1.toNat (Ty.dflt (.int .i64)))).bind fun r2 =>
 bif !r2 then
 some y1
 else
 S1 (IntKind.wrap .i64 (y1 + (1 : Int)))
 else
 (none)
 else
 (none)
 else
 some (-1 : Int)
theorem f142b.l1 (n : Nat) (x : f142b.Z0) : ∀ (m : Nat) (y1 : Int), f142b.L1 n x m y1 = zF (f142b.s1 n x) m y1 :=
 zw (fun _ => rfl) fun m y => by kernel_rfl
def f142b.g (n : Nat) (x : f142b.Z0) : Option (Int) :=
 zF (f142b.s1 n x) n (0 : Int)
theorem f142b.eq (n : Nat) (x : f142b.Z0) : rK Sl Sa n 2 142 (avL [.dat false (.sl (.int .i64)), .clo 113 f142b.A1] x) (zp [(false, .int .i64)]) = f142b.g n x := by
 simp only [f142b.g, ← f142b.l1]
 kernel_rfl
theorem f142b.codes : CdO Sl Sa := zm (aC Tryz.func142 (aC Tryz.func113 aN)) (by kernel_rfl)
theorem f142b.ok (h : Run iX f142b.g) (e114 : CO 114 pQ) : CO 142 (cw [(false, .int .i64)] (PmL [.dat false (.sl (.int .i64)), .clo 113 f142b.A1]) (fun l H => yo H [.dat false (.sl (.int .i64)), .clo 113 f142b.A1] l) iX) :=
 yY zu zv (zf e114 zk) f142b.codes (Ll.1 rfl) (h.go f142b.eq)
def jO : Con := cw [(false, .int .i64)] ((PmL [.dat false (.sl (.int .i64)), .clo 90 [(true, tTable)]]) ⊕ (PmL [.dat false (.sl (.int .i64)), .clo 113 f142b.A1])) (s6 90 (fun l H => yo H [.dat false (.sl (.int .i64)), .clo 90 [(true, tTable)]] l) (fun l H => yo H [.dat false (.sl (.int .i64)), .clo 113 f142b.A1] l)) (orF ik iX)
def Mr : FuncId → Option Con := (zy 142 jO zU)
noncomputable def M5 : List (FuncId × Func) := [(89, Tryz.f89), (90, Tryz.f90)]
def f89a.g (n : Nat) (x : (List Int) × zg) : Option (Bool) :=
 (ik x).bind fun r1 =>
 some (decide (r1 ≥ (0 : Int)))
theorem f89a.eq (n : Nat) (x : (List Int) × zg) : rK Mr M5 n 2 89 (avL [.dat false (.sl (.int .i64)), .clo 90 [(true, tTable)]] x) (zp [(false, .bool)]) = f89a.g n x := by
 kernel_rfl
theorem f89a.codes : CdO Mr M5 := zm (aC Tryz.func89 (aC Tryz.func90 aN)) (by kernel_rfl)
theorem f89a.ok (h : Run Qd f89a.g) (e142 : CO 142 jO) : CO 89 (cw [(false, .bool)] (PmL [.dat false (.sl (.int .i64)), .clo 90 [(true, tTable)]]) (fun l H => yo H [.dat false (.sl (.int .i64)), .clo 90 [(true, tTable)]] l) Qd) :=
 yY zu zv (zf e142 zk) f89a.codes (Ll.1 rfl) (h.go f89a.eq)
abbrev f89b.A0 : Sig := [(true, .sl (.int .i64))]
def MU : FuncId → Option Con := (zy 142 jO (zy 114 pQ zU))
noncomputable def M8 : List (FuncId × Func) := [(89, Tryz.f89), (113, Tryz.f113)]
def f89b.g (n : Nat) (x : (List Int) × (List Int)) : Option (Bool) :=
 (iX x).bind fun r1 =>
 some (decide (r1 ≥ (0 : Int)))
theorem f89b.eq (n : Nat) (x : (List Int) × (List Int)) : rK MU M8 n 2 89 (avL [.dat false (.sl (.int .i64)), .clo 113 f89b.A0] x) (zp [(false, .bool)]) = f89b.g n x := by
 kernel_rfl
theorem f89b.codes : CdO MU M8 := zm (aC Tryz.func89 (aC Tryz.func113 aN)) (by kernel_rfl)
theorem f89b.ok (h : Run R5 f89b.g) (e114 : CO 114 pQ) (e142 : CO 142 jO) : CO 89 (cw [(false, .bool)] (PmL [.dat false (.sl (.int .i64)), .clo 113 f89b.A0]) (fun l H => yo H [.dat false (.sl (.int .i64)), .clo 113 f89b.A0] l) R5) :=
 yY zu zv (zf e142 (zf e114 zk)) f89b.codes (Ll.1 rfl) (h.go f89b.eq)
def ax : Con := cw [(false, .bool)] ((PmL [.dat false (.sl (.int .i64)), .clo 90 [(true, tTable)]]) ⊕ (PmL [.dat false (.sl (.int .i64)), .clo 113 f89b.A0])) (s6 90 (fun l H => yo H [.dat false (.sl (.int .i64)), .clo 90 [(true, tTable)]] l) (fun l H => yo H [.dat false (.sl (.int .i64)), .clo 113 f89b.A0] l)) (orF Qd R5)
abbrev f143.Z0 : Type := (List yn) × yn
def Nr : FuncId → Option Con := zU
noncomputable def O3 : List (FuncId × Func) := [(143, Tryz.f143), (92, Tryz.f92)]
def f143.h1 (x : f143.Z0) (y1 : Int) : List AV × List Ob := ([vv [.sc (.sl tIndex) x.1], vv [.fnr 92 [⟨tIndex, x.2⟩]]] ++ uN 5 ([vv [cI (x.1.length : Int)], vv [cI y1]] ++ uN 10 []), [])
def f143.L1 (n : Nat) (x : f143.Z0) (m1 : Nat) (y1 : Int) : Option (Int) :=
 lK (ann 143 2) 0 Nr O3 n 2 143 Tryz.f143 [1, 0, 1, 0, 0] [1, 0, 1, 0] m1 (f143.h1 x y1) (xa TT Tryz.f143 (zp [(false, .int .i64)]))
def f143.s1 (n : Nat) (x : f143.Z0) (S1 : Int → Option (Int)) (y1 : Int) : Option (Int) :=
 bif decide (y1 < (x.1.length : Int)) then
 bif decide (0 ≤ y1) && decide (y1 < (x.1.length : Int)) then
 bif zd (x.1.getD y1.toNat tIndex.dflt).1 x.2.1 then
 some y1
 else
 S1 (IntKind.wrap .i64 (y1 + (1 : Int)))
 else
 (none)
 else
 some (-1 : Int)
theorem f143.l1 (n : Nat) (x : f143.Z0) : ∀ (m : Nat) (y1 : Int), f143.L1 n x m y1 = zF (f143.s1 n x) m y1 :=
 zw (fun _ => rfl) fun m y => by kernel_rfl
def f143.g (n : Nat) (x : f143.Z0) : Option (Int) :=
 zF (f143.s1 n x) n (0 : Int)
theorem f143.eq (n : Nat) (x : f143.Z0) : rK Nr O3 n 2 143 (avL [.dat false (.sl tIndex), .clo 92 [(true, tIndex)]] x) (zp [(false, .int .i64)]) = f143.g n x := by
 simp only [f143.g, ← f143.l1]
 kernel_rfl
theorem f143.codes : CdO Nr O3 := zm (aC Tryz.func143 (aC Tryz.func92 aN)) (by kernel_rfl)
theorem f143.ok (h : Run TP f143.g)  : CO 143 (sA [.dat false (.sl tIndex), .clo 92 [(true, tIndex)]] [(false, .int .i64)] TP) :=
 yY zu zv zk f143.codes (Ll.1 rfl) (h.go f143.eq)
def a9 : Con := sA [.dat false (.sl tIndex), .clo 92 [(true, tIndex)]] [(false, .int .i64)] TP
def E91 : FuncId → Option Con := (zy 143 a9 zU)
noncomputable def C91 : List (FuncId × Func) := [(91, Tryz.f91), (92, Tryz.f92)]
def f91.g (n : Nat) (x : (List yn) × yn) : Option (Bool) :=
 (TP x).bind fun r1 =>
 some (decide (r1 ≥ (0 : Int)))
theorem f91.eq (n : Nat) (x : (List yn) × yn) : rK E91 C91 n 2 91 (avL [.dat false (.sl tIndex), .clo 92 [(true, tIndex)]] x) (zp [(false, .bool)]) = f91.g n x := by
 kernel_rfl
theorem f91.codes : CdO E91 C91 := zm (aC Tryz.func91 (aC Tryz.func92 aN)) (by kernel_rfl)
theorem f91.ok (h : Run F91 f91.g) (e143 : CO 143 a9) : CO 91 (sA [.dat false (.sl tIndex), .clo 92 [(true, tIndex)]] [(false, .bool)] F91) :=
 yY zu zv (zf e143 zk) f91.codes (Ll.1 rfl) (h.go f91.eq)
def Th : Con := sA [.dat false (.sl tIndex), .clo 92 [(true, tIndex)]] [(false, .bool)] F91
def E87 : FuncId → Option Con := (zy 140 aO (zy 86 iG (zy 75 rE zU)))
noncomputable def C87 : List (FuncId × Func) := [(87, Tryz.f87)]
def f87.h1 (x : zg) (y1 : Int) : List AV × List Ob := ([.undef, vv [.ptr 0 0]] ++ uN 5 ([vv [.sc (.sl tColumn) x.2.1], vv [cI (x.2.1.length : Int)], vv [cI y1]] ++ uN 43 []), [.box [cT x.1, .sc (.sl tColumn) x.2.1, .sc (.sl (.int .i64)) x.2.2.1, .sc (.sl tIndex) x.2.2.2.1, .sc (.sl tRef) x.2.2.2.2]])
def f87.L1 (n : Nat) (x : zg) (m1 : Nat) (y1 : Int) : Option (Int) :=
 lK (ann 87 2) 1 E87 C87 n 1 87 Tryz.f87 [1, 0, 1, 0, 0] [1, 0, 1, 0] m1 (f87.h1 x y1) (xa TT Tryz.f87 (zp [(false, .int .i64)]))
def f87.s1 (n : Nat) (x : zg) (S1 : Int → Option (Int)) (y1 : Int) : Option (Int) :=
 bif decide (y1 < (x.2.1.length : Int)) then
 bif decide (0 ≤ y1) && decide (y1 < (x.2.1.length : Int)) then
 bif decide (0 ≤ y1) && decide (y1 ≤ (x.2.1.length : Int)) then
 (R7 (List.take y1.toNat x.2.1, x.2.1.getD y1.toNat tColumn.dflt)).bind fun r2 =>
 (F86 (x.2.1.getD y1.toNat tColumn.dflt).1).bind fun r3 =>
 bif !r3 then
 some (30 : Int)
 else
 bif r2 then
 some (31 : Int)
 else
 bif bif (decide ((x.2.1.getD y1.toNat tColumn.dflt).2.1 < (1 : Int))) then true else (decide ((x.2.1.getD y1.toNat tColumn.dflt).2.1 > (5 : Int))) then
 bif bif (decide ((x.2.1.getD y1.toNat tColumn.dflt).2.1 < (1 : Int))) then true else (decide ((x.2.1.getD y1.toNat tColumn.dflt).2.1 > (5 : Int))) then
 some (32 : Int)
 else
 S1 (IntKind.wrap .i64 (y1 + (1 : Int)))
 else
 (F75 (x.2.1.getD y1.toNat tColumn.dflt).2.2.2).bind fun r4 =>
 bif r4 != (0 : Int) then
 bif r4 != (0 : Int) then
 some (32 : Int)
 else
 S1 (IntKind.wrap .i64 (y1 + (1 : Int)))
 else
 bif bif ((x.2.1.getD y1.toNat tColumn.dflt).2.2.2.1 != (0 : Int)) then ((x.2.1.getD y1.toNat tColumn.dflt).2.2.2.1 != (x.2.1.getD y1.toNat tColumn.dflt).2.1) else false then
 some (32 : Int)
 else
 S1 (IntKind.wrap .i64 (y1 + (1 : Int)))
 else
 (none)
 else
 (none)
 else
 some (0 : Int)
theorem f87.l1 (n : Nat) (x : zg) : ∀ (m : Nat) (y1 : Int), f87.L1 n x m y1 = zF (f87.s1 n x) m y1 :=
 zw (fun _ => rfl) fun m y => by kernel_rfl
def f87.g (n : Nat) (x : zg) : Option (Int) :=
 zF (f87.s1 n x) n (0 : Int)
theorem f87.eq (n : Nat) (x : zg) : rK E87 C87 n 1 87 (zt [(true, tTable)] x) (zp [(false, .int .i64)]) = f87.g n x := by
 simp only [f87.g, ← f87.l1]
 kernel_rfl
theorem f87.codes : CdO E87 C87 := zm (aC Tryz.func87 aN) (by kernel_rfl)
theorem f87.ok (h : Run F87 f87.g) (e75 : CO 75 rE) (e86 : CO 86 iG) (e140 : CO 140 aO) : CO 87 (zj [(true, tTable)] [(false, .int .i64)] true F87) :=
 zi zu zv (zf e140 (zf e86 (zf e75 zk))) f87.codes (fun _ => Ll.1 rfl) (h.go f87.eq)
def TB : Con := zj [(true, tTable)] [(false, .int .i64)] true F87
def E58 : FuncId → Option Con := (zy 91 Th (zy 89 ax (zy 88 TE (zy 87 TB (zy 86 iG zU)))))
noncomputable def C58 : List (FuncId × Func) := [(58, Tryz.f58)]
def f58.h1 (x : zg) (r1 : Bool) (r2 : Int) (r3 : Bool) (r4 : Bool) (y5 : Int) (y9 : Int) : List AV × List Ob := ([.undef, vv [.ptr 0 0]] ++ uN 80 ([vv [.sc (.sl tRef) x.2.2.2.2], vv [cI (x.2.2.2.2.length : Int)], vv [cI y9]] ++ uN 15 []), [.box [cT x.1, .sc (.sl tColumn) x.2.1, .sc (.sl (.int .i64)) x.2.2.1, .sc (.sl tIndex) x.2.2.2.1, .sc (.sl tRef) x.2.2.2.2]])
def f58.h2 (x : zg) (r1 : Bool) (r2 : Int) (r3 : Bool) (r4 : Bool) (y5 : Int) : List AV × List Ob := ([.undef, vv [.ptr 0 0]] ++ uN 52 ([vv [.sc (.sl tIndex) x.2.2.2.1], vv [cI (x.2.2.2.1.length : Int)], vv [cI y5]] ++ uN 43 []), [.box [cT x.1, .sc (.sl tColumn) x.2.1, .sc (.sl (.int .i64)) x.2.2.1, .sc (.sl tIndex) x.2.2.2.1, .sc (.sl tRef) x.2.2.2.2]])
def f58.L1 (n : Nat) (x : zg) (r1 : Bool) (r2 : Int) (r3 : Bool) (r4 : Bool) (y5 : Int) (m9 : Nat) (y9 : Int) : Option (Int) :=
 lK (ann 58 23) 1 E58 C58 n 1 58 Tryz.f58 [1, 1, 1, 1, 1, 1, 0, 1, 0, 0] [1, 1, 1, 1, 1, 1, 0, 1, 0] m9 (f58.h1 x r1 r2 r3 r4 y5 y9) (xa TT Tryz.f58 (zp [(false, .int .i64)]))
def f58.L2 (n : Nat) (x : zg) (r1 : Bool) (r2 : Int) (r3 : Bool) (r4 : Bool) (m5 : Nat) (y5 : Int) : Option (Int) :=
 lK (ann 58 12) 1 E58 C58 n 1 58 Tryz.f58 [1, 1, 1, 1, 1, 0, 1, 0, 0] [1, 1, 1, 1, 1, 0, 1, 0] m5 (f58.h2 x r1 r2 r3 r4 y5) (xa TT Tryz.f58 (zp [(false, .int .i64)]))
def f58.s1 (n : Nat) (x : zg) (r1 : Bool) (r2 : Int) (r3 : Bool) (r4 : Bool) (y5 : Int) (S9 : Int → Option (Int)) (y9 : Int) : Option (Int) :=
 bif decide (y9 < (x.2.2.2.2.length : Int)) then
 bif decide (0 ≤ y9) && decide (y9 < (x.2.2.2.2.length : Int)) then
 (F86 (x.2.2.2.2.getD y9.toNat tRef.dflt).2).bind fun r10 =>
 bif !r10 then
 some (30 : Int)
 else
 (F88 (x, (x.2.2.2.2.getD y9.toNat tRef.dflt).1)).bind fun r11 =>
 bif !r11 then
 some (33 : Int)
 else
 S9 (IntKind.wrap .i64 (y9 + (1 : Int)))
 else
 (none)
 else
 some (0 : Int)
theorem f58.l1 (n : Nat) (x : zg) (r1 : Bool) (r2 : Int) (r3 : Bool) (r4 : Bool) (y5 : Int) : ∀ (m : Nat) (y9 : Int), f58.L1 n x r1 r2 r3 r4 y5 m y9 = zF (f58.s1 n x r1 r2 r3 r4 y5) m y9 :=
 zw (fun _ => rfl) fun m y => by kernel_rfl
def f58.s2 (n : Nat) (x : zg) (r1 : Bool) (r2 : Int) (r3 : Bool) (r4 : Bool) (S5 : Int → Option (Int)) (y5 : Int) : Option (Int) :=
 bif decide (y5 < (x.2.2.2.1.length : Int)) then
 bif decide (0 ≤ y5) && decide (y5 < (x.2.2.2.1.length : Int)) then
 bif decide (0 ≤ y5) && decide (y5 ≤ (x.2.2.2.1.length : Int)) then
 (F91 (List.take y5.toNat x.2.2.2.1, x.2.2.2.1.getD y5.toNat tIndex.dflt)).bind fun r6 =>
 (F86 (x.2.2.2.1.getD y5.toNat tIndex.dflt).1).bind fun r7 =>
 bif !r7 then
 some (30 : Int)
 else
 bif r6 then
 some (31 : Int)
 else
 (F88 (x, (x.2.2.2.1.getD y5.toNat tIndex.dflt).2.1)).bind fun r8 =>
 bif !r8 then
 some (33 : Int)
 else
 S5 (IntKind.wrap .i64 (y5 + (1 : Int)))
 else
 (none)
 else
 (none)
 else
 zF (f58.s1 n x r1 r2 r3 r4 y5) n (0 : Int)
theorem f58.k2 (n : Nat) (x : zg) (r1 : Bool) (r2 : Int) (r3 : Bool) (r4 : Bool) (m : Nat) (y : Int) : f58.L2 n x r1 r2 r3 r4 (m + 1) y = f58.s2 n x r1 r2 r3 r4 (f58.L2 n x r1 r2 r3 r4 m) y := by
 simp only [f58.s2, ← f58.l1]
 kernel_rfl
theorem f58.l2 (n : Nat) (x : zg) (r1 : Bool) (r2 : Int) (r3 : Bool) (r4 : Bool) : ∀ (m : Nat) (y5 : Int), f58.L2 n x r1 r2 r3 r4 m y5 = zF (f58.s2 n x r1 r2 r3 r4) m y5 :=
 zw (L := f58.L2 n x r1 r2 r3 r4) (step := f58.s2 n x r1 r2 r3 r4) (fun _ => rfl) (f58.k2 n x r1 r2 r3 r4)
def f58.g (n : Nat) (x : zg) : Option (Int) :=
 (F86 x.1).bind fun r1 =>
 bif !r1 then
 some (30 : Int)
 else
 bif bif (bif (bif (decide ((x.2.1.length : Int) < (1 : Int))) then true else (decide ((x.2.1.length : Int) > (64 : Int)))) then true else (decide ((x.2.2.2.1.length : Int) > (16 : Int)))) then true else (decide ((x.2.2.2.2.length : Int) > (16 : Int))) then
 some (2 : Int)
 else
 (F87 x).bind fun r2 =>
 bif r2 != (0 : Int) then
 some r2
 else
 (F88 (x, x.2.2.1)).bind fun r3 =>
 bif !r3 then
 some (33 : Int)
 else
 (Qd (x.2.2.1, x)).bind fun r4 =>
 bif r4 then
 some (33 : Int)
 else
 zF (f58.s2 n x r1 r2 r3 r4) n (0 : Int)
theorem f58.eq (n : Nat) (x : zg) : rK E58 C58 n 1 58 (zt [(true, tTable)] x) (zp [(false, .int .i64)]) = f58.g n x := by
 simp only [f58.g, ← f58.l1, ← f58.l2]
 kernel_rfl
theorem f58.codes : CdO E58 C58 := zm (aC Tryz.func58 aN) (by kernel_rfl)
theorem f58.ok (h : Run F58 f58.g) (e86 : CO 86 iG) (e87 : CO 87 TB) (e88 : CO 88 TE) (e89 : CO 89 ax) (e91 : CO 91 Th) : CO 58 (zj [(true, tTable)] [(false, .int .i64)] true F58) :=
 zi zu zv (zf e91 (zf e89 (zf e88 (zf e87 (zf e86 zk))))) f58.codes (fun _ => Ll.1 rfl) (h.go f58.eq)
def gj : Con := zj [(true, tTable)] [(false, .int .i64)] true F58
abbrev f221.A0 : Sig := [(false, .int .i64), (false, .int .i64)]
abbrev f221.A1 : Sig := [(true, tTable), (false, .str)]
def Mj : FuncId → Option Con := (zy 171 kM zU)
noncomputable def MZ : List (FuncId × Func) := [(221, Tryz.f221)]
def f221.g (n : Nat) (x : zg × ByteArray) : Option (Int × Int) :=
 (eJ (x.1.2.1, x.2)).bind fun r1 =>
 bif decide (r1 < (0 : Int)) then
 some ((0 : Int), (5 : Int))
 else
 some (r1, (0 : Int))
theorem f221.eq (n : Nat) (x : zg × ByteArray) : rK Mj MZ n 1 221 (zt f221.A1 x) (zp f221.A0) = f221.g n x := by
 kernel_rfl
theorem f221.codes : CdO Mj MZ := zm (aC Tryz.func221 aN) (by kernel_rfl)
theorem f221.ok (h : Run Ox f221.g) (e171 : CO 171 kM) : CO 221 (zj f221.A1 f221.A0 true Ox) :=
 zi zu zv (zf e171 zk) f221.codes (fun _ => Ll.1 rfl) (h.go f221.eq)
def Yw : Con := zj f221.A1 f221.A0 true Ox
abbrev f27.Z0 : Type := Nat × Int × (List Int)
abbrev f27.A1 : Sig := [(false, .sl (.int .i64))]
def E27 : FuncId → Option Con := zU
noncomputable def C27 : List (FuncId × Func) := [(27, Tryz.f27)]
def f27.h1 (x : (List Int)) (y1 : f27.Z0) : List AV × List Ob := ([vv [.sc (.sl (.int .i64)) x], .undef, .undef, vv [.own 0 y1.1], vv [cI y1.2.1]] ++ uN 15 [], [.arr 3 (.int .i64) y1.2.2])
def f27.L1 (n : Nat) (x : (List Int)) (m1 : Nat) (y1 : f27.Z0) : Option ((List Int)) :=
 lK (ann 27 3) 1 E27 C27 n 1 27 Tryz.f27 [1, 1, 0, 1, 0, 0] [1, 1, 0, 1, 0] m1 (f27.h1 x y1) (xa TT Tryz.f27 (zp f27.A1))
def f27.s1 (n : Nat) (x : (List Int)) (S1 : (Nat × Int × (List Int)) → Option ((List Int))) (y1 : f27.Z0) : Option ((List Int)) :=
 bif decide (y1.2.1 < (x.length : Int)) then
 bif decide (0 ≤ y1.2.1) && decide (y1.2.1 < (x.length : Int)) then
 bif decide ((y1.1 + 1) * 8 ≤ zq) then
 S1 (y1.1 + 1, (IntKind.wrap .i64 (y1.2.1 + (1 : Int)), List.take y1.1 y1.2.2 ++ ([x.getD y1.2.1.toNat (Ty.dflt (.int .i64))])))
 else
 (none)
 else
 (none)
 else
 some (List.take y1.1 y1.2.2)
theorem f27.l1 (n : Nat) (x : (List Int)) : ∀ (m : Nat) (y1 : f27.Z0), f27.L1 n x m y1 = zF (f27.s1 n x) m y1 :=
 zw (fun _ => rfl) fun m y => by kernel_rfl
def f27.g (n : Nat) (x : (List Int)) : Option ((List Int)) :=
 zF (f27.s1 n x) n (0, ((0 : Int), []))
theorem f27.eq (n : Nat) (x : (List Int)) : rK E27 C27 n 1 27 (zt f27.A1 x) (zp f27.A1) = f27.g n x := by
 simp only [f27.g, ← f27.l1]
 kernel_rfl
theorem f27.codes : CdO E27 C27 := zm (aC Tryz.func27 aN) (by kernel_rfl)
theorem f27.ok (h : Run F27 f27.g)  : CO 27 (zj f27.A1 f27.A1 false F27) :=
 zi zu zv zk f27.codes (fun h => by cases h) (h.go f27.eq)
def Sp : Con := zj f27.A1 f27.A1 false F27
abbrev f7.Z0 : Type := Int × Nat × (List zQ)
abbrev f7.Z1 : Type := Int × Nat × (List yn)
abbrev f7.Z2 : Type := Int × Nat × (List ce)
def E7 : FuncId → Option Con := (zy 27 Sp zU)
noncomputable def C7 : List (FuncId × Func) := [(7, Tryz.f7)]
def f7.h1 (x : zg) (r1 : (List Int)) (y2 : f7.Z0) (y3 : f7.Z1) (y5 : f7.Z2) : List AV × List Ob := ([.undef, vv [.ptr 0 0], vv [.ptr 1 0], vv [.ptr 2 0], .undef, .undef, vv [cI y5.1]] ++ uN 82 [], [.box [cT x.1, .sc (.sl tColumn) x.2.1, .sc (.sl (.int .i64)) x.2.2.1, .sc (.sl tIndex) x.2.2.2.1, .sc (.sl tRef) x.2.2.2.2], .box [cT (⟨#[]⟩ : BA), .nils, .nils, .nils, .nils], .box [cT x.1, .own 3 y2.2.1, .sc (.sl (.int .i64)) r1, .own 4 y3.2.1, .own 5 y5.2.1], .arr 69 tColumn y2.2.2, .arr 71 tIndex y3.2.2, .arr 73 tRef y5.2.2])
def f7.h2 (x : zg) (r1 : (List Int)) (y2 : f7.Z0) (y3 : f7.Z1) : List AV × List Ob := ([.undef, vv [.ptr 0 0], vv [.ptr 1 0], vv [.ptr 2 0], .undef, vv [cI y3.1]] ++ uN 83 [], [.box [cT x.1, .sc (.sl tColumn) x.2.1, .sc (.sl (.int .i64)) x.2.2.1, .sc (.sl tIndex) x.2.2.2.1, .sc (.sl tRef) x.2.2.2.2], .box [cT (⟨#[]⟩ : BA), .nils, .nils, .nils, .nils], .box [cT x.1, .own 3 y2.2.1, .sc (.sl (.int .i64)) r1, .own 4 y3.2.1, .nils], .arr 69 tColumn y2.2.2, .arr 71 tIndex y3.2.2])
def f7.h3 (x : zg) (r1 : (List Int)) (y2 : f7.Z0) : List AV × List Ob := ([.undef, vv [.ptr 0 0], vv [.ptr 1 0], vv [.ptr 2 0], vv [cI y2.1]] ++ uN 84 [], [.box [cT x.1, .sc (.sl tColumn) x.2.1, .sc (.sl (.int .i64)) x.2.2.1, .sc (.sl tIndex) x.2.2.2.1, .sc (.sl tRef) x.2.2.2.2], .box [cT (⟨#[]⟩ : BA), .nils, .nils, .nils, .nils], .box [cT x.1, .own 3 y2.2.1, .sc (.sl (.int .i64)) r1, .nils, .nils], .arr 69 tColumn y2.2.2])
def f7.L1 (n : Nat) (x : zg) (r1 : (List Int)) (y2 : f7.Z0) (y3 : f7.Z1) (m5 : Nat) (y5 : f7.Z2) : Option (zg) :=
 lK (ann 7 11) 6 E7 C7 n 1 7 Tryz.f7 [1, 1, 1, 1, 0, 1, 0, 0] [1, 1, 1, 1, 0, 1, 0] m5 (f7.h1 x r1 y2 y3 y5) (xa TT Tryz.f7 (zp [(true, tTable)]))
def f7.L2 (n : Nat) (x : zg) (r1 : (List Int)) (y2 : f7.Z0) (m3 : Nat) (y3 : f7.Z1) : Option (zg) :=
 lK (ann 7 7) 5 E7 C7 n 1 7 Tryz.f7 [1, 1, 1, 0, 1, 0, 0] [1, 1, 1, 0, 1, 0] m3 (f7.h2 x r1 y2 y3) (xa TT Tryz.f7 (zp [(true, tTable)]))
def f7.L3 (n : Nat) (x : zg) (r1 : (List Int)) (m2 : Nat) (y2 : f7.Z0) : Option (zg) :=
 lK (ann 7 3) 4 E7 C7 n 1 7 Tryz.f7 [1, 1, 0, 1, 0, 0] [1, 1, 0, 1, 0] m2 (f7.h3 x r1 y2) (xa TT Tryz.f7 (zp [(true, tTable)]))
def f7.s1 (n : Nat) (x : zg) (r1 : (List Int)) (y2 : f7.Z0) (y3 : f7.Z1) (S5 : (Int × Nat × (List ce)) → Option (zg)) (y5 : f7.Z2) : Option (zg) :=
 bif decide (y5.1 < (x.2.2.2.2.length : Int)) then
 bif decide (0 ≤ y5.1) && decide (y5.1 < (x.2.2.2.2.length : Int)) then
 (F27 (x.2.2.2.2.getD y5.1.toNat tRef.dflt).1).bind fun r6 =>
 bif decide (0 ≤ y5.1) && decide (y5.1 < (x.2.2.2.2.length : Int)) then
 bif decide ((y5.2.1 + 1) * 40 ≤ zq) then
 S5 (IntKind.wrap .i64 (y5.1 + (1 : Int)), (y5.2.1 + 1, List.take y5.2.1 y5.2.2 ++ ([(r6, (x.2.2.2.2.getD y5.1.toNat tRef.dflt).2)])))
 else
 (none)
 else
 (none)
 else
 (none)
 else
 some (x.1, (List.take y2.2.1 y2.2.2, (r1, (List.take y3.2.1 y3.2.2, List.take y5.2.1 y5.2.2))))
theorem f7.l1 (n : Nat) (x : zg) (r1 : (List Int)) (y2 : f7.Z0) (y3 : f7.Z1) : ∀ (m : Nat) (y5 : f7.Z2), f7.L1 n x r1 y2 y3 m y5 = zF (f7.s1 n x r1 y2 y3) m y5 :=
 zw (fun _ => rfl) fun m y => by kernel_rfl
def f7.s2 (n : Nat) (x : zg) (r1 : (List Int)) (y2 : f7.Z0) (S3 : (Int × Nat × (List yn)) → Option (zg)) (y3 : f7.Z1) : Option (zg) :=
 bif decide (y3.1 < (x.2.2.2.1.length : Int)) then
 bif decide (0 ≤ y3.1) && decide (y3.1 < (x.2.2.2.1.length : Int)) then
 bif decide (0 ≤ y3.1) && decide (y3.1 < (x.2.2.2.1.length : Int)) then
 (F27 (x.2.2.2.1.getD y3.1.toNat tIndex.dflt).2.1).bind fun r4 =>
 bif decide (0 ≤ y3.1) && decide (y3.1 < (x.2.2.2.1.length : Int)) then
 bif decide ((y3.2.1 + 1) * 48 ≤ zq) then
 S3 (IntKind.wrap .i64 (y3.1 + (1 : Int)), (y3.2.1 + 1, List.take y3.2.1 y3.2.2 ++ ([((x.2.2.2.1.getD y3.1.toNat tIndex.dflt).1, (r4, (x.2.2.2.1.getD y3.1.toNat tIndex.dflt).2.2))])))
 else
 (none)
 else
 (none)
 else
 (none)
 else
 (none)
 else
 zF (f7.s1 n x r1 y2 y3) n ((0 : Int), (0, []))
theorem f7.k2 (n : Nat) (x : zg) (r1 : (List Int)) (y2 : f7.Z0) (m : Nat) (y : f7.Z1) : f7.L2 n x r1 y2 (m + 1) y = f7.s2 n x r1 y2 (f7.L2 n x r1 y2 m) y := by
 simp only [f7.s2, ← f7.l1]
 kernel_rfl
theorem f7.l2 (n : Nat) (x : zg) (r1 : (List Int)) (y2 : f7.Z0) : ∀ (m : Nat) (y3 : f7.Z1), f7.L2 n x r1 y2 m y3 = zF (f7.s2 n x r1 y2) m y3 :=
 zw (L := f7.L2 n x r1 y2) (step := f7.s2 n x r1 y2) (fun _ => rfl) (f7.k2 n x r1 y2)
def f7.s3 (n : Nat) (x : zg) (r1 : (List Int)) (S2 : (Int × Nat × (List zQ)) → Option (zg)) (y2 : f7.Z0) : Option (zg) :=
 bif decide (y2.1 < (x.2.1.length : Int)) then
 bif decide (0 ≤ y2.1) && decide (y2.1 < (x.2.1.length : Int)) then
 bif decide ((y2.2.1 + 1) * 72 ≤ zq) then
 S2 (IntKind.wrap .i64 (y2.1 + (1 : Int)), (y2.2.1 + 1, List.take y2.2.1 y2.2.2 ++ ([x.2.1.getD y2.1.toNat tColumn.dflt])))
 else
 (none)
 else
 (none)
 else
 zF (f7.s2 n x r1 y2) n ((0 : Int), (0, []))
theorem f7.k3 (n : Nat) (x : zg) (r1 : (List Int)) (m : Nat) (y : f7.Z0) : f7.L3 n x r1 (m + 1) y = f7.s3 n x r1 (f7.L3 n x r1 m) y := by
 simp only [f7.s3, ← f7.l1, ← f7.l2]
 kernel_rfl
theorem f7.l3 (n : Nat) (x : zg) (r1 : (List Int)) : ∀ (m : Nat) (y2 : f7.Z0), f7.L3 n x r1 m y2 = zF (f7.s3 n x r1) m y2 :=
 zw (L := f7.L3 n x r1) (step := f7.s3 n x r1) (fun _ => rfl) (f7.k3 n x r1)
def f7.g (n : Nat) (x : zg) : Option (zg) :=
 (F27 x.2.2.1).bind fun r1 =>
 zF (f7.s3 n x r1) n ((0 : Int), (0, []))
theorem f7.eq (n : Nat) (x : zg) : rK E7 C7 n 1 7 (zt [(true, tTable)] x) (zp [(true, tTable)]) = f7.g n x := by
 simp only [f7.g, ← f7.l1, ← f7.l2, ← f7.l3]
 kernel_rfl
theorem f7.codes : CdO E7 C7 := zm (aC Tryz.func7 aN) (by kernel_rfl)
theorem f7.ok (h : Run F7 f7.g) (e27 : CO 27 Sp) : CO 7 (zj [(true, tTable)] [(true, tTable)] false F7) :=
 zi zu zv (zf e27 zk) f7.codes (fun h => by cases h) (h.go f7.eq)
def OL : Con := zj [(true, tTable)] [(true, tTable)] false F7
abbrev f127.Z0 : Type := zg × (List Int)
abbrev f127.A1 : Sig := [(true, tTable), (false, .sl (.int .i64))]
def ZS : FuncId → Option Con := zU
noncomputable def Rs : List (FuncId × Func) := [(127, Tryz.f127)]
def f127.h1 (x : f127.Z0) (y1 : Int) (y2 : Int) : List AV × List Ob := ([.undef, vv [.sc (.sl (.int .i64)) x.2], vv [.ptr 0 0], .undef, .undef, vv [cI y1], vv [cI y2]] ++ uN 20 ([vv [.sc (.sl (.int .i64)) x.2], vv [cI y1], vv [.elr (.int .i64) (x.2.getD y1.toNat (Ty.dflt (.int .i64))) 0], vv [cI (x.2.getD y1.toNat (Ty.dflt (.int .i64)))], vv [.ptr 0 1], vv [.sc (.sl tColumn) x.1.2.1], vv [cI (x.1.2.1.length : Int)], vv [cB (decide (x.2.getD y1.toNat (Ty.dflt (.int .i64)) ≥ (x.1.2.1.length : Int)))]] ++ uN 15 []), [.box [cT x.1.1, .sc (.sl tColumn) x.1.2.1, .sc (.sl (.int .i64)) x.1.2.2.1, .sc (.sl tIndex) x.1.2.2.2.1, .sc (.sl tRef) x.1.2.2.2.2]])
def f127.h2 (x : f127.Z0) (y1 : Int) : List AV × List Ob := ([.undef, vv [.sc (.sl (.int .i64)) x.2], vv [.ptr 0 0], .undef, .undef, vv [cI y1]] ++ uN 44 [], [.box [cT x.1.1, .sc (.sl tColumn) x.1.2.1, .sc (.sl (.int .i64)) x.1.2.2.1, .sc (.sl tIndex) x.1.2.2.2.1, .sc (.sl tRef) x.1.2.2.2.2]])
def f127.L1 (n : Nat) (x : f127.Z0) (y1 : Int) (m1 : Nat) (m2 : Nat) (y2 : Int) : Option (Bool) :=
 wo (ann 127 9).keep 1 (fun fr H k => z0 TT 0 ZS (yi TT ZS n ann (yk Rs) 1) n (ann 127) (t5 [1, 1, 0, 1, 0, 0, 1, 0, 0, 1, 1, 0, 0] (zZ Tryz.f127)) fr H k) m2 (f127.h1 x y1 y2).1 (f127.h1 x y1 y2).2 (oT TT 0 ZS (yi TT ZS n ann (yk Rs) 1) n (ann 127) [1, 0, 0, 1, 1, 0] (t5 [1, 1, 0, 1, 0, 0] (zZ Tryz.f127)) (aQ (ann 127 4).keep 1 (fun fr H k => z0 TT 0 ZS (yi TT ZS n ann (yk Rs) 1) n (ann 127) (t5 [1, 1, 0, 1, 0, 0] (zZ Tryz.f127)) fr H k) m1 (oT TT 0 ZS (yi TT ZS n ann (yk Rs) 1) n (ann 127) [1, 1, 0, 1, 0] (zZ Tryz.f127) (xa TT Tryz.f127 (zp [(false, .bool)])))))
def f127.L2 (n : Nat) (x : f127.Z0) (m1 : Nat) (y1 : Int) : Option (Bool) :=
 lK (ann 127 4) 1 ZS Rs n 1 127 Tryz.f127 [1, 1, 0, 1, 0, 0] [1, 1, 0, 1, 0] m1 (f127.h2 x y1) (xa TT Tryz.f127 (zp [(false, .bool)]))
def f127.s1 (n : Nat) (x : f127.Z0) (y1 : Int) (S1 : Int → Option (Bool)) (S2 : Int → Option (Bool)) (y2 : Int) : Option (Bool) :=
 bif decide (y2 < y1) then
 bif decide (0 ≤ y2) && decide (y2 < (x.2.length : Int)) then
 bif decide (0 ≤ y1) && decide (y1 < (x.2.length : Int)) then
 bif x.2.getD y2.toNat (Ty.dflt (.int .i64)) == x.2.getD y1.toNat (Ty.dflt (.int .i64)) then
 some false
 else
 S2 (IntKind.wrap .i64 (y2 + (1 : Int)))
 else
 (none)
 else
 (none)
 else
 S1 (IntKind.wrap .i64 (y1 + (1 : Int)))
theorem f127.k1 (n : Nat) (x : f127.Z0) (y1 : Int) (m1 : Nat) (m : Nat) (y : Int) : f127.L1 n x y1 m1 (m + 1) y = f127.s1 n x y1 (f127.L2 n x m1) (f127.L1 n x y1 m1 m) y := by
 simp only [f127.s1, ]
 kernel_rfl
theorem f127.l1 (n : Nat) (x : f127.Z0) (y1 : Int) (m1 : Nat) : ∀ (m : Nat) (y2 : Int), f127.L1 n x y1 m1 m y2 = zF (f127.s1 n x y1 (f127.L2 n x m1)) m y2 :=
 zw (L := f127.L1 n x y1 m1) (step := f127.s1 n x y1 (f127.L2 n x m1)) (fun _ => rfl) (f127.k1 n x y1 m1)
def f127.s2 (n : Nat) (x : f127.Z0) (S1 : Int → Option (Bool)) (y1 : Int) : Option (Bool) :=
 bif decide (y1 < (x.2.length : Int)) then
 bif decide (0 ≤ y1) && decide (y1 < (x.2.length : Int)) then
 bif decide (x.2.getD y1.toNat (Ty.dflt (.int .i64)) < (0 : Int)) then
 some false
 else
 bif decide (0 ≤ y1) && decide (y1 < (x.2.length : Int)) then
 bif decide (x.2.getD y1.toNat (Ty.dflt (.int .i64)) ≥ (x.1.2.1.length : Int)) then
 some false
 else
 zF (f127.s1 n x y1 S1) n (0 : Int)
 else
 (none)
 else
 (none)
 else
 some true
theorem f127.k2 (n : Nat) (x : f127.Z0) (m : Nat) (y : Int) : f127.L2 n x (m + 1) y = f127.s2 n x (f127.L2 n x m) y := by
 simp only [f127.s2, ← f127.l1]
 kernel_rfl
theorem f127.l2 (n : Nat) (x : f127.Z0) : ∀ (m : Nat) (y1 : Int), f127.L2 n x m y1 = zF (f127.s2 n x) m y1 :=
 zw (L := f127.L2 n x) (step := f127.s2 n x) (fun _ => rfl) (f127.k2 n x)
def f127.g (n : Nat) (x : f127.Z0) : Option (Bool) :=
 bif bif (decide ((x.2.length : Int) < (1 : Int))) then true else (decide ((x.2.length : Int) > (64 : Int))) then
 some false
 else
 zF (f127.s2 n x) n (0 : Int)
theorem f127.eq (n : Nat) (x : f127.Z0) : rK ZS Rs n 1 127 (zt f127.A1 x) (zp [(false, .bool)]) = f127.g n x := by
 simp only [f127.g, ← f127.l1, ← f127.l2]
 kernel_rfl
theorem f127.codes : CdO ZS Rs := zm (aC Tryz.func127 aN) (by kernel_rfl)
theorem f127.ok (h : Run VX f127.g)  : CO 127 (zj f127.A1 [(false, .bool)] true VX) :=
 zi zu zv zk f127.codes (fun _ => Ll.1 rfl) (h.go f127.eq)
def l7 : Con := zj f127.A1 [(false, .bool)] true VX
def cF : FuncId → Option Con := (zy 125 pf (zy 37 j8 zU))
noncomputable def UM : List (FuncId × Func) := [(126, Tryz.f126)]
def f126.h1 (x : zg) (y1 : Int) (r2 : Bool) (y3 : Int) : List AV × List Ob := ([.undef, vv [.ptr 0 0], .undef, vv [cI y1], vv [.ptr 1 0], vv [cI y3]] ++ uN 58 [], [.box [cT x.1, .sc (.sl tColumn) x.2.1, .sc (.sl (.int .i64)) x.2.2.1, .sc (.sl tIndex) x.2.2.2.1, .sc (.sl tRef) x.2.2.2.2], .box [cT (x.2.1.getD y1.toNat tColumn.dflt).1, cI (x.2.1.getD y1.toNat tColumn.dflt).2.1, cB (x.2.1.getD y1.toNat tColumn.dflt).2.2.1, cI (x.2.1.getD y1.toNat tColumn.dflt).2.2.2.1, cI (x.2.1.getD y1.toNat tColumn.dflt).2.2.2.2.1, .sc (.float .f64) (x.2.1.getD y1.toNat tColumn.dflt).2.2.2.2.2.1, cT (x.2.1.getD y1.toNat tColumn.dflt).2.2.2.2.2.2]])
def f126.h2 (x : zg) (y1 : Int) : List AV × List Ob := ([.undef, vv [.ptr 0 0], .undef, vv [cI y1]] ++ uN 60 [], [.box [cT x.1, .sc (.sl tColumn) x.2.1, .sc (.sl (.int .i64)) x.2.2.1, .sc (.sl tIndex) x.2.2.2.1, .sc (.sl tRef) x.2.2.2.2]])
def f126.L1 (n : Nat) (x : zg) (y1 : Int) (r2 : Bool) (m1 : Nat) (m3 : Nat) (y3 : Int) : Option (Int) :=
 wo (ann 126 8).keep 2 (fun fr H k => z0 TT 0 cF (yi TT cF n ann (yk UM) 1) n (ann 126) (t5 [1, 0, 1, 0, 0, 1, 0, 0, 1, 1, 0, 1, 0, 0] (zZ Tryz.f126)) fr H k) m3 (f126.h1 x y1 r2 y3).1 (f126.h1 x y1 r2 y3).2 (oT TT 0 cF (yi TT cF n ann (yk UM) 1) n (ann 126) [1, 0, 0, 1, 1, 0, 1, 0] (t5 [1, 0, 1, 0, 0] (zZ Tryz.f126)) (aQ (ann 126 2).keep 1 (fun fr H k => z0 TT 0 cF (yi TT cF n ann (yk UM) 1) n (ann 126) (t5 [1, 0, 1, 0, 0] (zZ Tryz.f126)) fr H k) m1 (oT TT 0 cF (yi TT cF n ann (yk UM) 1) n (ann 126) [1, 0, 1, 0] (zZ Tryz.f126) (xa TT Tryz.f126 (zp [(false, .int .i64)])))))
def f126.L2 (n : Nat) (x : zg) (m1 : Nat) (y1 : Int) : Option (Int) :=
 lK (ann 126 2) 1 cF UM n 1 126 Tryz.f126 [1, 0, 1, 0, 0] [1, 0, 1, 0] m1 (f126.h2 x y1) (xa TT Tryz.f126 (zp [(false, .int .i64)]))
def f126.s1 (n : Nat) (x : zg) (y1 : Int) (r2 : Bool) (S1 : Int → Option (Int)) (S3 : Int → Option (Int)) (y3 : Int) : Option (Int) :=
 bif decide (y3 < y1) then
 bif decide (0 ≤ y3) && decide (y3 < (x.2.1.length : Int)) then
 bif zd (x.2.1.getD y3.toNat tColumn.dflt).1 (x.2.1.getD y1.toNat tColumn.dflt).1 then
 some (31 : Int)
 else
 S3 (IntKind.wrap .i64 (y3 + (1 : Int)))
 else
 (none)
 else
 bif bif (decide ((x.2.1.getD y1.toNat tColumn.dflt).2.1 < (1 : Int))) then true else (decide ((x.2.1.getD y1.toNat tColumn.dflt).2.1 > (5 : Int))) then
 some (32 : Int)
 else
 (F37 (x.2.1.getD y1.toNat tColumn.dflt).2.2.2).bind fun r4 =>
 bif bif (r4 != (0 : Int)) then true else (bif ((x.2.1.getD y1.toNat tColumn.dflt).2.2.2.1 != (x.2.1.getD y1.toNat tColumn.dflt).2.1) then ((x.2.1.getD y1.toNat tColumn.dflt).2.2.2.1 != (0 : Int)) else false) then
 some (32 : Int)
 else
 S1 (IntKind.wrap .i64 (y1 + (1 : Int)))
theorem f126.k1 (n : Nat) (x : zg) (y1 : Int) (r2 : Bool) (m1 : Nat) (m : Nat) (y : Int) : f126.L1 n x y1 r2 m1 (m + 1) y = f126.s1 n x y1 r2 (f126.L2 n x m1) (f126.L1 n x y1 r2 m1 m) y := by
 simp only [f126.s1, ]
 kernel_rfl
theorem f126.l1 (n : Nat) (x : zg) (y1 : Int) (r2 : Bool) (m1 : Nat) : ∀ (m : Nat) (y3 : Int), f126.L1 n x y1 r2 m1 m y3 = zF (f126.s1 n x y1 r2 (f126.L2 n x m1)) m y3 :=
 zw (L := f126.L1 n x y1 r2 m1) (step := f126.s1 n x y1 r2 (f126.L2 n x m1)) (fun _ => rfl) (f126.k1 n x y1 r2 m1)
def f126.s2 (n : Nat) (x : zg) (S1 : Int → Option (Int)) (y1 : Int) : Option (Int) :=
 bif decide (y1 < (x.2.1.length : Int)) then
 bif decide (0 ≤ y1) && decide (y1 < (x.2.1.length : Int)) then
 (VJ (x.2.1.getD y1.toNat tColumn.dflt).1).bind fun r2 =>
 bif !r2 then
 some (30 : Int)
 else
 zF (f126.s1 n x y1 r2 S1) n (0 : Int)
 else
 (none)
 else
 some (0 : Int)
theorem f126.k2 (n : Nat) (x : zg) (m : Nat) (y : Int) : f126.L2 n x (m + 1) y = f126.s2 n x (f126.L2 n x m) y := by
 simp only [f126.s2, ← f126.l1]
 kernel_rfl
theorem f126.l2 (n : Nat) (x : zg) : ∀ (m : Nat) (y1 : Int), f126.L2 n x m y1 = zF (f126.s2 n x) m y1 :=
 zw (L := f126.L2 n x) (step := f126.s2 n x) (fun _ => rfl) (f126.k2 n x)
def f126.g (n : Nat) (x : zg) : Option (Int) :=
 zF (f126.s2 n x) n (0 : Int)
theorem f126.eq (n : Nat) (x : zg) : rK cF UM n 1 126 (zt [(true, tTable)] x) (zp [(false, .int .i64)]) = f126.g n x := by
 simp only [f126.g, ← f126.l1, ← f126.l2]
 kernel_rfl
theorem f126.codes : CdO cF UM := zm (aC Tryz.func126 aN) (by kernel_rfl)
theorem f126.ok (h : Run R9 f126.g) (e37 : CO 37 j8) (e125 : CO 125 pf) : CO 126 (zj [(true, tTable)] [(false, .int .i64)] true R9) :=
 zi zu zv (zf e125 (zf e37 zk)) f126.codes (fun _ => Ll.1 rfl) (h.go f126.eq)
def ZD : Con := zj [(true, tTable)] [(false, .int .i64)] true R9
def bI : FuncId → Option Con := (zy 127 l7 (zy 125 pf zU))
noncomputable def Uy : List (FuncId × Func) := [(128, Tryz.f128)]
def f128.h1 (x : zg) (y1 : Int) (r2 : Bool) (y3 : Int) : List AV × List Ob := ([.undef, vv [.ptr 0 0], .undef, vv [cI y1], vv [.ptr 1 0], vv [cI y3]] ++ uN 35 [], [.box [cT x.1, .sc (.sl tColumn) x.2.1, .sc (.sl (.int .i64)) x.2.2.1, .sc (.sl tIndex) x.2.2.2.1, .sc (.sl tRef) x.2.2.2.2], .box [cT (x.2.2.2.1.getD y1.toNat tIndex.dflt).1, .sc (.sl (.int .i64)) (x.2.2.2.1.getD y1.toNat tIndex.dflt).2.1, cB (x.2.2.2.1.getD y1.toNat tIndex.dflt).2.2]])
def f128.h2 (x : zg) (y1 : Int) : List AV × List Ob := ([.undef, vv [.ptr 0 0], .undef, vv [cI y1]] ++ uN 37 [], [.box [cT x.1, .sc (.sl tColumn) x.2.1, .sc (.sl (.int .i64)) x.2.2.1, .sc (.sl tIndex) x.2.2.2.1, .sc (.sl tRef) x.2.2.2.2]])
def f128.L1 (n : Nat) (x : zg) (y1 : Int) (r2 : Bool) (m1 : Nat) (m3 : Nat) (y3 : Int) : Option (Int) :=
 wo (ann 128 8).keep 2 (fun fr H k => z0 TT 0 bI (yi TT bI n ann (yk Uy) 1) n (ann 128) (t5 [1, 0, 1, 0, 0, 1, 0, 0, 1, 1, 0, 1, 0, 0] (zZ Tryz.f128)) fr H k) m3 (f128.h1 x y1 r2 y3).1 (f128.h1 x y1 r2 y3).2 (oT TT 0 bI (yi TT bI n ann (yk Uy) 1) n (ann 128) [1, 0, 0, 1, 1, 0, 1, 0] (t5 [1, 0, 1, 0, 0] (zZ Tryz.f128)) (aQ (ann 128 2).keep 1 (fun fr H k => z0 TT 0 bI (yi TT bI n ann (yk Uy) 1) n (ann 128) (t5 [1, 0, 1, 0, 0] (zZ Tryz.f128)) fr H k) m1 (oT TT 0 bI (yi TT bI n ann (yk Uy) 1) n (ann 128) [1, 0, 1, 0] (zZ Tryz.f128) (xa TT Tryz.f128 (zp [(false, .int .i64)])))))
def f128.L2 (n : Nat) (x : zg) (m1 : Nat) (y1 : Int) : Option (Int) :=
 lK (ann 128 2) 1 bI Uy n 1 128 Tryz.f128 [1, 0, 1, 0, 0] [1, 0, 1, 0] m1 (f128.h2 x y1) (xa TT Tryz.f128 (zp [(false, .int .i64)]))
def f128.s1 (n : Nat) (x : zg) (y1 : Int) (r2 : Bool) (S1 : Int → Option (Int)) (S3 : Int → Option (Int)) (y3 : Int) : Option (Int) :=
 bif decide (y3 < y1) then
 bif decide (0 ≤ y3) && decide (y3 < (x.2.2.2.1.length : Int)) then
 bif zd (x.2.2.2.1.getD y3.toNat tIndex.dflt).1 (x.2.2.2.1.getD y1.toNat tIndex.dflt).1 then
 some (31 : Int)
 else
 S3 (IntKind.wrap .i64 (y3 + (1 : Int)))
 else
 (none)
 else
 (VX (x, (x.2.2.2.1.getD y1.toNat tIndex.dflt).2.1)).bind fun r4 =>
 bif !r4 then
 some (33 : Int)
 else
 S1 (IntKind.wrap .i64 (y1 + (1 : Int)))
theorem f128.k1 (n : Nat) (x : zg) (y1 : Int) (r2 : Bool) (m1 : Nat) (m : Nat) (y : Int) : f128.L1 n x y1 r2 m1 (m + 1) y = f128.s1 n x y1 r2 (f128.L2 n x m1) (f128.L1 n x y1 r2 m1 m) y := by
 simp only [f128.s1, ]
 kernel_rfl
theorem f128.l1 (n : Nat) (x : zg) (y1 : Int) (r2 : Bool) (m1 : Nat) : ∀ (m : Nat) (y3 : Int), f128.L1 n x y1 r2 m1 m y3 = zF (f128.s1 n x y1 r2 (f128.L2 n x m1)) m y3 :=
 zw (L := f128.L1 n x y1 r2 m1) (step := f128.s1 n x y1 r2 (f128.L2 n x m1)) (fun _ => rfl) (f128.k1 n x y1 r2 m1)
def f128.s2 (n : Nat) (x : zg) (S1 : Int → Option (Int)) (y1 : Int) : Option (Int) :=
 bif decide (y1 < (x.2.2.2.1.length : Int)) then
 bif decide (0 ≤ y1) && decide (y1 < (x.2.2.2.1.length : Int)) then
 (VJ (x.2.2.2.1.getD y1.toNat tIndex.dflt).1).bind fun r2 =>
 bif !r2 then
 some (30 : Int)
 else
 zF (f128.s1 n x y1 r2 S1) n (0 : Int)
 else
 (none)
 else
 some (0 : Int)
theorem f128.k2 (n : Nat) (x : zg) (m : Nat) (y : Int) : f128.L2 n x (m + 1) y = f128.s2 n x (f128.L2 n x m) y := by
 simp only [f128.s2, ← f128.l1]
 kernel_rfl
theorem f128.l2 (n : Nat) (x : zg) : ∀ (m : Nat) (y1 : Int), f128.L2 n x m y1 = zF (f128.s2 n x) m y1 :=
 zw (L := f128.L2 n x) (step := f128.s2 n x) (fun _ => rfl) (f128.k2 n x)
def f128.g (n : Nat) (x : zg) : Option (Int) :=
 zF (f128.s2 n x) n (0 : Int)
theorem f128.eq (n : Nat) (x : zg) : rK bI Uy n 1 128 (zt [(true, tTable)] x) (zp [(false, .int .i64)]) = f128.g n x := by
 simp only [f128.g, ← f128.l1, ← f128.l2]
 kernel_rfl
theorem f128.codes : CdO bI Uy := zm (aC Tryz.func128 aN) (by kernel_rfl)
theorem f128.ok (h : Run RV f128.g) (e125 : CO 125 pf) (e127 : CO 127 l7) : CO 128 (zj [(true, tTable)] [(false, .int .i64)] true RV) :=
 zi zu zv (zf e127 (zf e125 zk)) f128.codes (fun _ => Ll.1 rfl) (h.go f128.eq)
def bk : Con := zj [(true, tTable)] [(false, .int .i64)] true RV
def E77 : FuncId → Option Con := (zy 128 bk (zy 127 l7 (zy 126 ZD (zy 125 pf zU))))
noncomputable def C77 : List (FuncId × Func) := [(77, Tryz.f77)]
def f77.h1 (x : zg) (r1 : Bool) (r2 : Int) (r3 : Bool) (y4 : Int) (r5 : Int) (y6 : Int) : List AV × List Ob := ([.undef, vv [.ptr 0 0]] ++ uN 4 ([vv [cI y6]] ++ uN 82 []), [.box [cT x.1, .sc (.sl tColumn) x.2.1, .sc (.sl (.int .i64)) x.2.2.1, .sc (.sl tIndex) x.2.2.2.1, .sc (.sl tRef) x.2.2.2.2]])
def f77.h2 (x : zg) (r1 : Bool) (r2 : Int) (r3 : Bool) (y4 : Int) : List AV × List Ob := ([.undef, vv [.ptr 0 0], .undef, .undef, vv [cI y4]] ++ uN 84 [], [.box [cT x.1, .sc (.sl tColumn) x.2.1, .sc (.sl (.int .i64)) x.2.2.1, .sc (.sl tIndex) x.2.2.2.1, .sc (.sl tRef) x.2.2.2.2]])
def f77.L1 (n : Nat) (x : zg) (r1 : Bool) (r2 : Int) (r3 : Bool) (y4 : Int) (r5 : Int) (m6 : Nat) (y6 : Int) : Option (Int) :=
 lK (ann 77 19) 1 E77 C77 n 1 77 Tryz.f77 [1, 1, 1, 1, 1, 1, 1, 0, 1, 0, 0] [1, 1, 1, 1, 1, 1, 1, 0, 1, 0] m6 (f77.h1 x r1 r2 r3 y4 r5 y6) (xa TT Tryz.f77 (zp [(false, .int .i64)]))
def f77.L2 (n : Nat) (x : zg) (r1 : Bool) (r2 : Int) (r3 : Bool) (m4 : Nat) (y4 : Int) : Option (Int) :=
 lK (ann 77 11) 1 E77 C77 n 1 77 Tryz.f77 [1, 1, 1, 1, 1, 0, 1, 0, 0] [1, 1, 1, 1, 1, 0, 1, 0] m4 (f77.h2 x r1 r2 r3 y4) (xa TT Tryz.f77 (zp [(false, .int .i64)]))
def f77.s1 (n : Nat) (x : zg) (r1 : Bool) (r2 : Int) (r3 : Bool) (y4 : Int) (r5 : Int) (S6 : Int → Option (Int)) (y6 : Int) : Option (Int) :=
 bif decide (y6 < (x.2.2.2.2.length : Int)) then
 bif decide (0 ≤ y6) && decide (y6 < (x.2.2.2.2.length : Int)) then
 (VJ (x.2.2.2.2.getD y6.toNat tRef.dflt).2).bind fun r7 =>
 bif !r7 then
 some (30 : Int)
 else
 bif decide (0 ≤ y6) && decide (y6 < (x.2.2.2.2.length : Int)) then
 (VX (x, (x.2.2.2.2.getD y6.toNat tRef.dflt).1)).bind fun r8 =>
 bif !r8 then
 some (33 : Int)
 else
 S6 (IntKind.wrap .i64 (y6 + (1 : Int)))
 else
 (none)
 else
 (none)
 else
 some (0 : Int)
theorem f77.l1 (n : Nat) (x : zg) (r1 : Bool) (r2 : Int) (r3 : Bool) (y4 : Int) (r5 : Int) : ∀ (m : Nat) (y6 : Int), f77.L1 n x r1 r2 r3 y4 r5 m y6 = zF (f77.s1 n x r1 r2 r3 y4 r5) m y6 :=
 zw (fun _ => rfl) fun m y => by kernel_rfl
def f77.s2 (n : Nat) (x : zg) (r1 : Bool) (r2 : Int) (r3 : Bool) (S4 : Int → Option (Int)) (y4 : Int) : Option (Int) :=
 bif decide (y4 < (x.2.2.1.length : Int)) then
 bif decide (0 ≤ y4) && decide (y4 < (x.2.2.1.length : Int)) then
 bif decide (0 ≤ x.2.2.1.getD y4.toNat (Ty.dflt (.int .i64))) && decide (x.2.2.1.getD y4.toNat (Ty.dflt (.int .i64)) < (x.2.1.length : Int)) then
 bif (x.2.1.getD ((x.2.2.1.getD y4.toNat (Ty.dflt (.int .i64))).toNat) tColumn.dflt).2.2.1 then
 some (33 : Int)
 else
 S4 (IntKind.wrap .i64 (y4 + (1 : Int)))
 else
 (none)
 else
 (none)
 else
 (RV x).bind fun r5 =>
 bif r5 != (0 : Int) then
 some r5
 else
 zF (f77.s1 n x r1 r2 r3 y4 r5) n (0 : Int)
theorem f77.k2 (n : Nat) (x : zg) (r1 : Bool) (r2 : Int) (r3 : Bool) (m : Nat) (y : Int) : f77.L2 n x r1 r2 r3 (m + 1) y = f77.s2 n x r1 r2 r3 (f77.L2 n x r1 r2 r3 m) y := by
 simp only [f77.s2, ← f77.l1]
 kernel_rfl
theorem f77.l2 (n : Nat) (x : zg) (r1 : Bool) (r2 : Int) (r3 : Bool) : ∀ (m : Nat) (y4 : Int), f77.L2 n x r1 r2 r3 m y4 = zF (f77.s2 n x r1 r2 r3) m y4 :=
 zw (L := f77.L2 n x r1 r2 r3) (step := f77.s2 n x r1 r2 r3) (fun _ => rfl) (f77.k2 n x r1 r2 r3)
def f77.g (n : Nat) (x : zg) : Option (Int) :=
 (VJ x.1).bind fun r1 =>
 bif !r1 then
 some (30 : Int)
 else
 bif bif (bif (bif (decide ((x.2.1.length : Int) < (1 : Int))) then true else (decide ((x.2.1.length : Int) > (64 : Int)))) then true else (decide ((x.2.2.2.1.length : Int) > (16 : Int)))) then true else (decide ((x.2.2.2.2.length : Int) > (16 : Int))) then
 some (2 : Int)
 else
 (R9 x).bind fun r2 =>
 bif r2 != (0 : Int) then
 some r2
 else
 (VX (x, x.2.2.1)).bind fun r3 =>
 bif !r3 then
 some (33 : Int)
 else
 zF (f77.s2 n x r1 r2 r3) n (0 : Int)
theorem f77.eq (n : Nat) (x : zg) : rK E77 C77 n 1 77 (zt [(true, tTable)] x) (zp [(false, .int .i64)]) = f77.g n x := by
 simp only [f77.g, ← f77.l1, ← f77.l2]
 kernel_rfl
theorem f77.codes : CdO E77 C77 := zm (aC Tryz.func77 aN) (by kernel_rfl)
theorem f77.ok (h : Run F77 f77.g) (e125 : CO 125 pf) (e126 : CO 126 ZD) (e127 : CO 127 l7) (e128 : CO 128 bk) : CO 77 (zj [(true, tTable)] [(false, .int .i64)] true F77) :=
 zi zu zv (zf e128 (zf e127 (zf e126 (zf e125 zk)))) f77.codes (fun _ => Ll.1 rfl) (h.go f77.eq)
def Sm : Con := zj [(true, tTable)] [(false, .int .i64)] true F77
abbrev f61.Z0 : Type := zg × (List zc)
abbrev f61.A1 : Sig := [(true, tTable), (false, .sl tValue)]
def E61 : FuncId → Option Con := (zy 75 rE (zy 58 gj zU))
noncomputable def C61 : List (FuncId × Func) := [(61, Tryz.f61)]
def f61.h1 (x : f61.Z0) (r1 : Int) (y2 : Int) : List AV × List Ob := ([.undef, vv [.sc (.sl tValue) x.2]] ++ uN 20 ([vv [.sc (.sl tColumn) x.1.2.1], vv [cI (x.1.2.1.length : Int)], vv [cI y2]] ++ uN 39 []), [.box [cT x.1.1, .sc (.sl tColumn) x.1.2.1, .sc (.sl (.int .i64)) x.1.2.2.1, .sc (.sl tIndex) x.1.2.2.2.1, .sc (.sl tRef) x.1.2.2.2.2]])
def f61.L1 (n : Nat) (x : f61.Z0) (r1 : Int) (m2 : Nat) (y2 : Int) : Option (Int) :=
 lK (ann 61 7) 1 E61 C61 n 1 61 Tryz.f61 [1, 1, 1, 0, 1, 0, 0] [1, 1, 1, 0, 1, 0] m2 (f61.h1 x r1 y2) (xa TT Tryz.f61 (zp [(false, .int .i64)]))
def f61.s1 (n : Nat) (x : f61.Z0) (r1 : Int) (S2 : Int → Option (Int)) (y2 : Int) : Option (Int) :=
 bif decide (y2 < (x.1.2.1.length : Int)) then
 bif decide (0 ≤ y2) && decide (y2 < (x.1.2.1.length : Int)) then
 bif decide (0 ≤ y2) && decide (y2 < (x.2.length : Int)) then
 (F75 (x.2.getD y2.toNat tValue.dflt)).bind fun r3 =>
 bif r3 != (0 : Int) then
 some r3
 else
 bif decide (0 ≤ y2) && decide (y2 < (x.2.length : Int)) then
 bif bif ((x.2.getD y2.toNat tValue.dflt).1 == (0 : Int)) then (!(x.1.2.1.getD y2.toNat tColumn.dflt).2.2.1) else false then
 some (35 : Int)
 else
 bif !((x.2.getD y2.toNat tValue.dflt).1 == (0 : Int)) then
 bif decide (0 ≤ y2) && decide (y2 < (x.2.length : Int)) then
 bif (x.2.getD y2.toNat tValue.dflt).1 != (x.1.2.1.getD y2.toNat tColumn.dflt).2.1 then
 some (32 : Int)
 else
 S2 (IntKind.wrap .i64 (y2 + (1 : Int)))
 else
 (none)
 else
 S2 (IntKind.wrap .i64 (y2 + (1 : Int)))
 else
 (none)
 else
 (none)
 else
 (none)
 else
 some (0 : Int)
theorem f61.l1 (n : Nat) (x : f61.Z0) (r1 : Int) : ∀ (m : Nat) (y2 : Int), f61.L1 n x r1 m y2 = zF (f61.s1 n x r1) m y2 :=
 zw (fun _ => rfl) fun m y => by kernel_rfl
def f61.g (n : Nat) (x : f61.Z0) : Option (Int) :=
 (F58 x.1).bind fun r1 =>
 bif r1 != (0 : Int) then
 some r1
 else
 bif (x.2.length : Int) != (x.1.2.1.length : Int) then
 some (1 : Int)
 else
 zF (f61.s1 n x r1) n (0 : Int)
theorem f61.eq (n : Nat) (x : f61.Z0) : rK E61 C61 n 1 61 (zt f61.A1 x) (zp [(false, .int .i64)]) = f61.g n x := by
 simp only [f61.g, ← f61.l1]
 kernel_rfl
theorem f61.codes : CdO E61 C61 := zm (aC Tryz.func61 aN) (by kernel_rfl)
theorem f61.ok (h : Run F61 f61.g) (e58 : CO 58 gj) (e75 : CO 75 rE) : CO 61 (zj f61.A1 [(false, .int .i64)] true F61) :=
 zi zu zv (zf e75 (zf e58 zk)) f61.codes (fun _ => Ll.1 rfl) (h.go f61.eq)
def RF : Con := zj f61.A1 [(false, .int .i64)] true F61
abbrev f54.Z0 : Type := Nat × Int × (List zc)
abbrev f54.Y1 : Type := (List zc × Unit) × Unit
def E54 : FuncId → Option Con := zU
noncomputable def C54 : List (FuncId × Func) := [(54, Tryz.f54)]
def f54.h1 (x : (List zc)) (y1 : f54.Z0) : List AV × List Ob := ([vv [.sc (.sl tValue) x], .undef, .undef, vv [.own 0 y1.1], vv [cI y1.2.1]] ++ uN 15 [], [.arr 30 tValue y1.2.2])
def f54.L1 (n : Nat) (x : (List zc)) (m1 : Nat) (y1 : f54.Z0) : Option f54.Y1 :=
 lK (ann 54 3) 1 E54 C54 n 1 54 Tryz.f54 [1, 1, 0, 1, 0, 0] [1, 1, 0, 1, 0] m1 (f54.h1 x y1) (xa TT Tryz.f54 (tD [(false, [.own 30 tValue])]))
def f54.s1 (n : Nat) (x : (List zc)) (S1 : (Nat × Int × (List zc)) → Option f54.Y1) (y1 : f54.Z0) : Option f54.Y1 :=
 bif decide (y1.2.1 < (x.length : Int)) then
 bif decide (0 ≤ y1.2.1) && decide (y1.2.1 < (x.length : Int)) then
 bif decide ((y1.1 + 1) * 40 ≤ zq) then
 S1 (y1.1 + 1, (IntKind.wrap .i64 (y1.2.1 + (1 : Int)), List.take y1.1 y1.2.2 ++ ([x.getD y1.2.1.toNat tValue.dflt])))
 else
 (none)
 else
 (none)
 else
 some ((List.take y1.1 y1.2.2, ()), ())
theorem f54.l1 (n : Nat) (x : (List zc)) : ∀ (m : Nat) (y1 : f54.Z0), f54.L1 n x m y1 = zF (f54.s1 n x) m y1 :=
 zw (fun _ => rfl) fun m y => by kernel_rfl
def f54.g (n : Nat) (x : (List zc)) : Option f54.Y1 :=
 zF (f54.s1 n x) n (0, ((0 : Int), []))
theorem f54.eq (n : Nat) (x : (List zc)) : rK E54 C54 n 1 54 (zt [(false, .sl tValue)] x) (tD [(false, [.own 30 tValue])]) = f54.g n x := by
 simp only [f54.g, ← f54.l1]
 kernel_rfl
theorem f54.codes : CdO E54 C54 := zm (aC Tryz.func54 aN) (by kernel_rfl)
theorem f54.ok (h : Run F54 f54.g)  : CO 54 (vD [(false, .sl tValue)] [(false, [.own 30 tValue])] F54) :=
 cO zu zv zk f54.codes (h.go f54.eq)
def Ra : Con := vD [(false, .sl tValue)] [(false, [.own 30 tValue])] F54
end
end Go.Proofs.YtefddghdaimklaaGreatDoor.AI
