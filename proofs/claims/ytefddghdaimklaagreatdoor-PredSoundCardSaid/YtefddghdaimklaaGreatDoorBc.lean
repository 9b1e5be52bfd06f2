/- A part of the proof. -/
import Derived.Test.YtefddghdaimklaaGreatDoorBb
set_option linter.unusedVariables false
set_option linter.unusedSimpArgs false
set_option maxRecDepth 100000
namespace Go.Proofs.YtefddghdaimklaaGreatDoor.AI
open Go
noncomputable section
set_option maxRecDepth 100000
abbrev BA : Type := ByteArray
abbrev uN (n : Nat) (l : List AV) : List AV := List.replicate n .undef ++ l
abbrev vv (l : List C) : AV := .val false l
abbrev cI (n : Int) : C := .sc (.int .i64) n
abbrev cT (s : ByteArray) : C := .sc .str s
abbrev cB (b : Bool) : C := .sc .bool b
abbrev Run {X Y : Type} (F : X → Option Y) (g : Nat → X → Option Y) : Prop := ∀ a b, F a = some b → ∃ n, g n a = some b
theorem Run.go {X Y : Type} {F : X → Option Y} {g r : Nat → X → Option Y} (h : Run F g) (e : ∀ n a, r n a = g n a) : Run F r := fun a b hF => (h a b hF).imp fun n hn => (e n a).trans hn
abbrev CO (f : FuncId) (c : Con) : Prop := ConOk Tryz.prog f c
abbrev CdO (E : FuncId → Option Con) (C : List (FuncId × Func)) : Prop := xc Tryz.prog E ann (xW C)
abbrev rK {R : Type} (E : FuncId → Option Con) (C : List (FuncId × Func)) (n d f : Nat) (a : List AV) (k : AV → List Ob → Option R) : Option R := iR TT E n ann (xW C) d f a [] k
abbrev lK {R : Type} (an : Ann) (h : Nat) (E : FuncId → Option Con) (C : List (FuncId × Func)) (n d f : Nat) (fn : Func) (p q : List Nat) (m : Nat) (x : List AV × List Ob) (e : Ex → List AV → List Ob → Option R) : Option R :=
 tv an.keep h (fun fr H k => ye TT 0 E (xH TT E n ann (xW C) d) n (ann f) (j1 p (xw fn)) fr H k) m x.1 x.2 (cp TT 0 E (xH TT E n ann (xW C) d) n (ann f) q (xw fn) e)
theorem aN : ∀ p ∈ ([] : List (FuncId × Func)), Tryz.prog.funcs[p.1]? = some p.2 := fun p h => by cases h
theorem aC {f : FuncId} {fn : Func} {l : List (FuncId × Func)} (h : Tryz.prog.funcs[f]? = some fn) (hl : ∀ p ∈ l, Tryz.prog.funcs[p.1]? = some p.2) : ∀ p ∈ (f, fn) :: l, Tryz.prog.funcs[p.1]? = some p.2 := fun p hp => by
 rcases NM.1 hp with rfl | hp
 ·exact h
 ·exact hl p hp
def YG : Con := zk [(false, .str), (false, .str)] [(false, .bool)] true QE
def oB : Con := zk [(false, .float .f64)] [(false, .int .u64)] true F63
def bY : Con := zk [(false, .str)] [(false, .bool)] true F64
def Up : Con := zk [(false, .str), (false, .str)] [(false, .int .i64)] true F74
def oc : Con := zk [(false, .int .u64)] [(false, .float .f64)] true qN
def ad : Con := zk [(false, .float .f64)] [(false, .float .f64)] true Rb
def SQ : Con := zk [(false, .str), (false, .int .u8)] [(false, .int .i64)] true F93
abbrev f71.A0 : Sig := [(false, .int .i64), (false, .int .i64)]
def E71 : FuncId → Option Con := yc
noncomputable def C71 : List (FuncId × Func) := [(71, Tryz.f71), (117, Tryz.f117)]
def f71.g (n : Nat) (x : Int × Int) : Option (Int) :=
 bif x.1 != x.1 then
 bif x.2 != x.2 then
 some (0 : Int)
 else
 some (-1 : Int)
 else
 bif x.2 != x.2 then
 some (1 : Int)
 else
 bif decide (x.1 < x.2) then
 some (-1 : Int)
 else
 bif decide (x.1 > x.2) then
 some (1 : Int)
 else
 some (0 : Int)
theorem f71.eq (n : Nat) (x : Int × Int) : rK E71 C71 n 2 71 (zu f71.A0 x) (zq [(false, .int .i64)]) = f71.g n x := by
 kernel_rfl
theorem f71.codes : CdO E71 C71 := zm (aC Tryz.func71 (aC Tryz.func117 aN)) (by kernel_rfl)
theorem f71.ok (h : Run F71 f71.g)  : CO 71 (zk f71.A0 [(false, .int .i64)] true F71) :=
 zn zE zD zj f71.codes (fun _ => Nw.1 rfl) (h.go f71.eq)
def T4 : Con := zk f71.A0 [(false, .int .i64)] true F71
abbrev f72.A0 : Sig := [(false, .int .i64), (false, .int .i64)]
def E72 : FuncId → Option Con := yc
noncomputable def C72 : List (FuncId × Func) := [(72, Tryz.f72), (118, Tryz.f118)]
def f72.g (n : Nat) (x : Int × Int) : Option (Int) :=
 bif x.1 != x.1 then
 bif x.2 != x.2 then
 some (0 : Int)
 else
 some (-1 : Int)
 else
 bif x.2 != x.2 then
 some (1 : Int)
 else
 bif decide (x.1 < x.2) then
 some (-1 : Int)
 else
 bif decide (x.1 > x.2) then
 some (1 : Int)
 else
 some (0 : Int)
theorem f72.eq (n : Nat) (x : Int × Int) : rK E72 C72 n 2 72 (zu f72.A0 x) (zq [(false, .int .i64)]) = f72.g n x := by
 kernel_rfl
theorem f72.codes : CdO E72 C72 := zm (aC Tryz.func72 (aC Tryz.func118 aN)) (by kernel_rfl)
theorem f72.ok (h : Run F72 f72.g)  : CO 72 (zk f72.A0 [(false, .int .i64)] true F72) :=
 zn zE zD zj f72.codes (fun _ => Nw.1 rfl) (h.go f72.eq)
def iN : Con := zk f72.A0 [(false, .int .i64)] true F72
abbrev f73.A0 : Sig := [(false, .float .f64), (false, .float .f64)]
def E73 : FuncId → Option Con := yc
noncomputable def C73 : List (FuncId × Func) := [(73, Tryz.f73), (119, Tryz.f119)]
def f73.g (n : Nat) (x : Nat × Nat) : Option (Int) :=
 bif FloatKind.f64.format.order x.1 x.1 != some .eq then
 bif FloatKind.f64.format.order x.2 x.2 != some .eq then
 some (0 : Int)
 else
 bif FloatKind.f64.format.order x.1 x.1 != some .eq then
 some (1 : Int)
 else
 bif FloatKind.f64.format.order x.2 x.2 != some .eq then
 bif FloatKind.f64.format.order x.2 x.2 != some .eq then
 some (-1 : Int)
 else
 bif FloatKind.f64.format.order x.1 x.2 == some .gt then
 some (1 : Int)
 else
 some (0 : Int)
 else
 bif FloatKind.f64.format.order x.1 x.2 == some .lt then
 some (-1 : Int)
 else
 bif FloatKind.f64.format.order x.1 x.2 == some .gt then
 some (1 : Int)
 else
 some (0 : Int)
 else
 bif FloatKind.f64.format.order x.1 x.1 != some .eq then
 some (1 : Int)
 else
 bif FloatKind.f64.format.order x.2 x.2 != some .eq then
 bif FloatKind.f64.format.order x.2 x.2 != some .eq then
 some (-1 : Int)
 else
 bif FloatKind.f64.format.order x.1 x.2 == some .gt then
 some (1 : Int)
 else
 some (0 : Int)
 else
 bif FloatKind.f64.format.order x.1 x.2 == some .lt then
 some (-1 : Int)
 else
 bif FloatKind.f64.format.order x.1 x.2 == some .gt then
 some (1 : Int)
 else
 some (0 : Int)
theorem f73.eq (n : Nat) (x : Nat × Nat) : rK E73 C73 n 2 73 (zu f73.A0 x) (zq [(false, .int .i64)]) = f73.g n x := by
 kernel_rfl
theorem f73.codes : CdO E73 C73 := zm (aC Tryz.func73 (aC Tryz.func119 aN)) (by kernel_rfl)
theorem f73.ok (h : Run F73 f73.g)  : CO 73 (zk f73.A0 [(false, .int .i64)] true F73) :=
 zn zE zD zj f73.codes (fun _ => Nw.1 rfl) (h.go f73.eq)
def Yg : Con := zk f73.A0 [(false, .int .i64)] true F73
abbrev f45.A0 : Sig := [(true, tValue), (true, tValue)]
def E45 : FuncId → Option Con := (zN 74 Up (zN 73 Yg (zN 72 iN (zN 71 T4 yc))))
noncomputable def C45 : List (FuncId × Func) := [(45, Tryz.f45)]
def f45.g (n : Nat) (x : zc × zc) : Option (Int) :=
 (F71 (x.1.1, x.2.1)).bind fun r1 =>
 bif r1 != (0 : Int) then
 some r1
 else
 bif x.1.1 == (1 : Int) then
 bif x.1.1 == (1 : Int) then
 (F72 (x.1.2.1, x.2.2.1)).bind fun r2 =>
 some r2
 else
 bif x.1.1 == (3 : Int) then
 (F73 (x.1.2.2.1, x.2.2.2.1)).bind fun r3 =>
 some r3
 else
 bif x.1.1 == (4 : Int) then
 bif x.1.1 == (4 : Int) then
 (F74 (x.1.2.2.2, x.2.2.2.2)).bind fun r4 =>
 some r4
 else
 some (0 : Int)
 else
 bif x.1.1 == (5 : Int) then
 (F74 (x.1.2.2.2, x.2.2.2.2)).bind fun r5 =>
 some r5
 else
 some (0 : Int)
 else
 bif x.1.1 == (2 : Int) then
 (F72 (x.1.2.1, x.2.2.1)).bind fun r6 =>
 some r6
 else
 bif x.1.1 == (3 : Int) then
 (F73 (x.1.2.2.1, x.2.2.2.1)).bind fun r7 =>
 some r7
 else
 bif x.1.1 == (4 : Int) then
 bif x.1.1 == (4 : Int) then
 (F74 (x.1.2.2.2, x.2.2.2.2)).bind fun r8 =>
 some r8
 else
 some (0 : Int)
 else
 bif x.1.1 == (5 : Int) then
 (F74 (x.1.2.2.2, x.2.2.2.2)).bind fun r9 =>
 some r9
 else
 some (0 : Int)
theorem f45.eq (n : Nat) (x : zc × zc) : rK E45 C45 n 1 45 (zu f45.A0 x) (zq [(false, .int .i64)]) = f45.g n x := by
 kernel_rfl
theorem f45.codes : CdO E45 C45 := zm (aC Tryz.func45 aN) (by kernel_rfl)
theorem f45.ok (h : Run F45 f45.g) (e71 : CO 71 T4) (e72 : CO 72 iN) (e73 : CO 73 Yg) (e74 : CO 74 Up) : CO 45 (zk f45.A0 [(false, .int .i64)] true F45) :=
 zn zE zD (zf e74 (zf e73 (zf e72 (zf e71 zj)))) f45.codes (fun _ => Nw.1 rfl) (h.go f45.eq)
def ZC : Con := zk f45.A0 [(false, .int .i64)] true F45
def E75 : FuncId → Option Con := (zN 64 bY (zN 63 oB yc))
noncomputable def C75 : List (FuncId × Func) := [(75, Tryz.f75)]
def f75.g (n : Nat) (x : zc) : Option (Int) :=
 bif bif (decide (x.1 < (0 : Int))) then true else (decide (x.1 > (5 : Int))) then
 bif bif (decide (x.1 < (0 : Int))) then true else (decide (x.1 > (5 : Int))) then
 some (10 : Int)
 else
 bif decide ((x.2.2.2.size : Int) > (65536 : Int)) then
 some (3 : Int)
 else
 some (0 : Int)
 else
 bif bif (bif (x.1 == (1 : Int)) then (x.2.1 != (0 : Int)) else false) then (x.2.1 != (1 : Int)) else false then
 bif bif (bif (x.1 == (1 : Int)) then (x.2.1 != (0 : Int)) else false) then (x.2.1 != (1 : Int)) else false then
 some (10 : Int)
 else
 bif decide ((x.2.2.2.size : Int) > (65536 : Int)) then
 some (3 : Int)
 else
 some (0 : Int)
 else
 bif bif (bif (x.1 != (1 : Int)) then (x.1 != (2 : Int)) else false) then (x.2.1 != (0 : Int)) else false then
 bif bif (bif (x.1 != (1 : Int)) then (x.1 != (2 : Int)) else false) then (x.2.1 != (0 : Int)) else false then
 some (10 : Int)
 else
 bif decide ((x.2.2.2.size : Int) > (65536 : Int)) then
 some (3 : Int)
 else
 some (0 : Int)
 else
 bif x.1 != (3 : Int) then
 (F63 x.2.2.1).bind fun r1 =>
 bif r1 != (0 : Int) then
 bif r1 != (0 : Int) then
 some (10 : Int)
 else
 bif decide ((x.2.2.2.size : Int) > (65536 : Int)) then
 some (3 : Int)
 else
 some (0 : Int)
 else
 bif bif (!(bif (x.1 == (4 : Int)) then true else (x.1 == (5 : Int)))) then (!(zd x.2.2.2 (⟨#[]⟩ : BA))) else false then
 bif bif (!(bif (x.1 == (4 : Int)) then true else (x.1 == (5 : Int)))) then (!(zd x.2.2.2 (⟨#[]⟩ : BA))) else false then
 some (10 : Int)
 else
 bif decide ((x.2.2.2.size : Int) > (65536 : Int)) then
 some (3 : Int)
 else
 some (0 : Int)
 else
 bif x.1 == (4 : Int) then
 (F64 x.2.2.2).bind fun r2 =>
 bif !r2 then
 some (10 : Int)
 else
 bif decide ((x.2.2.2.size : Int) > (65536 : Int)) then
 some (3 : Int)
 else
 some (0 : Int)
 else
 bif decide ((x.2.2.2.size : Int) > (65536 : Int)) then
 some (3 : Int)
 else
 some (0 : Int)
 else
 bif bif (!(bif (x.1 == (4 : Int)) then true else (x.1 == (5 : Int)))) then (!(zd x.2.2.2 (⟨#[]⟩ : BA))) else false then
 bif bif (!(bif (x.1 == (4 : Int)) then true else (x.1 == (5 : Int)))) then (!(zd x.2.2.2 (⟨#[]⟩ : BA))) else false then
 some (10 : Int)
 else
 bif decide ((x.2.2.2.size : Int) > (65536 : Int)) then
 some (3 : Int)
 else
 some (0 : Int)
 else
 bif x.1 == (4 : Int) then
 (F64 x.2.2.2).bind fun r3 =>
 bif !r3 then
 some (10 : Int)
 else
 bif decide ((x.2.2.2.size : Int) > (65536 : Int)) then
 some (3 : Int)
 else
 some (0 : Int)
 else
 bif decide ((x.2.2.2.size : Int) > (65536 : Int)) then
 some (3 : Int)
 else
 some (0 : Int)
theorem f75.eq (n : Nat) (x : zc) : rK E75 C75 n 1 75 (zu [(true, tValue)] x) (zq [(false, .int .i64)]) = f75.g n x := by
 kernel_rfl
theorem f75.codes : CdO E75 C75 := zm (aC Tryz.func75 aN) (by kernel_rfl)
theorem f75.ok (h : Run F75 f75.g) (e63 : CO 63 oB) (e64 : CO 64 bY) : CO 75 (zk [(true, tValue)] [(false, .int .i64)] true F75) :=
 zn zE zD (zf e64 (zf e63 zj)) f75.codes (fun _ => Nw.1 rfl) (h.go f75.eq)
def rX : Con := zk [(true, tValue)] [(false, .int .i64)] true F75
def E37 : FuncId → Option Con := (zN 64 bY (zN 63 oB yc))
noncomputable def C37 : List (FuncId × Func) := [(37, Tryz.f37)]
def f37.g (n : Nat) (x : zc) : Option (Int) :=
 bif bif (decide (x.1 < (0 : Int))) then true else (decide (x.1 > (5 : Int))) then
 some (10 : Int)
 else
 bif bif (bif (bif (x.1 == (1 : Int)) then (x.2.1 != (0 : Int)) else false) then (x.2.1 != (1 : Int)) else false) then true else (bif (bif (x.1 != (1 : Int)) then (x.1 != (2 : Int)) else false) then (x.2.1 != (0 : Int)) else false) then
 some (10 : Int)
 else
 bif x.1 != (3 : Int) then
 (F63 x.2.2.1).bind fun r1 =>
 bif r1 != (0 : Int) then
 some (10 : Int)
 else
 bif bif (bif (x.1 != (4 : Int)) then (x.1 != (5 : Int)) else false) then (!(zd x.2.2.2 (⟨#[]⟩ : BA))) else false then
 some (10 : Int)
 else
 bif x.1 == (4 : Int) then
 (F64 x.2.2.2).bind fun r2 =>
 bif !r2 then
 some (10 : Int)
 else
 bif decide ((x.2.2.2.size : Int) > (65536 : Int)) then
 some (3 : Int)
 else
 some (0 : Int)
 else
 bif decide ((x.2.2.2.size : Int) > (65536 : Int)) then
 some (3 : Int)
 else
 some (0 : Int)
 else
 bif bif (bif (x.1 != (4 : Int)) then (x.1 != (5 : Int)) else false) then (!(zd x.2.2.2 (⟨#[]⟩ : BA))) else false then
 some (10 : Int)
 else
 bif x.1 == (4 : Int) then
 (F64 x.2.2.2).bind fun r3 =>
 bif !r3 then
 some (10 : Int)
 else
 bif decide ((x.2.2.2.size : Int) > (65536 : Int)) then
 some (3 : Int)
 else
 some (0 : Int)
 else
 bif decide ((x.2.2.2.size : Int) > (65536 : Int)) then
 some (3 : Int)
 else
 some (0 : Int)
theorem f37.eq (n : Nat) (x : zc) : rK E37 C37 n 1 37 (zu [(true, tValue)] x) (zq [(false, .int .i64)]) = f37.g n x := by
 kernel_rfl
theorem f37.codes : CdO E37 C37 := zm (aC Tryz.func37 aN) (by kernel_rfl)
theorem f37.ok (h : Run F37 f37.g) (e63 : CO 63 oB) (e64 : CO 64 bY) : CO 37 (zk [(true, tValue)] [(false, .int .i64)] true F37) :=
 zn zE zD (zf e64 (zf e63 zj)) f37.codes (fun _ => Nw.1 rfl) (h.go f37.eq)
def Tt : Con := zk [(true, tValue)] [(false, .int .i64)] true F37
def OB : FuncId → Option Con := (zN 163 oc yc)
noncomputable def OX : List (FuncId × Func) := [(123, Tryz.f123), (119, Tryz.f119)]
def f123.g (n : Nat) (x : zc) : Option (zc) :=
 bif x.1 != (3 : Int) then
 some x
 else
 bif FloatKind.f64.format.order x.2.2.1 0 == some .eq then
 bif FloatKind.f64.format.order 0 0 != some .eq then
 (qN (9221120237041090560 : Int)).bind fun r1 =>
 some (x.1, (x.2.1, (r1, x.2.2.2)))
 else
 some (x.1, (x.2.1, (0, x.2.2.2)))
 else
 bif FloatKind.f64.format.order x.2.2.1 x.2.2.1 != some .eq then
 (qN (9221120237041090560 : Int)).bind fun r2 =>
 some (x.1, (x.2.1, (r2, x.2.2.2)))
 else
 some x
theorem f123.eq (n : Nat) (x : zc) : rK OB OX n 2 123 (zu [(true, tValue)] x) (zq [(true, tValue)]) = f123.g n x := by
 kernel_rfl
theorem f123.codes : CdO OB OX := zm (aC Tryz.func123 (aC Tryz.func119 aN)) (by kernel_rfl)
theorem f123.ok (h : Run Rf f123.g) (e163 : CO 163 oc) : CO 123 (zk [(true, tValue)] [(true, tValue)] true Rf) :=
 zn zE zD (zf e163 zj) f123.codes (fun _ => Nw.1 rfl) (h.go f123.eq)
def Zg : Con := zk [(true, tValue)] [(true, tValue)] true Rf
abbrev f175.A0 : Sig := [(false, .int .i64), (false, .float .f64)]
def Ou : FuncId → Option Con := (zN 200 ad (zN 72 iN yc))
noncomputable def Oz : List (FuncId × Func) := [(175, Tryz.f175), (119, Tryz.f119), (191, Tryz.f191), (192, Tryz.f192), (201, Tryz.f201), (202, Tryz.f202), (212, Tryz.f212), (213, Tryz.f213)]
def f175.g (n : Nat) (x : Int × Nat) : Option (Int) :=
 bif bif (FloatKind.f64.format.order x.2 x.2 != some .eq) then true else (FloatKind.f64.format.order x.2 4890909195324358656 == some .gt || FloatKind.f64.format.order x.2 4890909195324358656 == some .eq) then
 some (-1 : Int)
 else
 bif FloatKind.f64.format.order x.2 14114281232179134464 == some .lt then
 some (1 : Int)
 else
 (Rb x.2).bind fun r1 =>
 (QZ .f64 .i64 r1).bind fun r2 =>
 (F72 (x.1, r2)).bind fun r3 =>
 bif r3 != (0 : Int) then
 some r3
 else
 VF (FloatKind.f64.format.sub x.2 r1) (fun r4 =>
 bif FloatKind.f64.format.order 0 0 != some .eq then
 bif FloatKind.f64.format.order r4 r4 != some .eq then
 some (0 : Int)
 else
 some (-1 : Int)
 else
 bif FloatKind.f64.format.order r4 r4 != some .eq then
 some (1 : Int)
 else
 bif FloatKind.f64.format.order 0 r4 == some .lt then
 some (-1 : Int)
 else
 bif FloatKind.f64.format.order 0 r4 == some .gt then
 some (1 : Int)
 else
 some (0 : Int))
 (bif FloatKind.f64.format.order 0 0 != some .eq then
 some (0 : Int)
 else
 some (1 : Int))
theorem f175.eq (n : Nat) (x : Int × Nat) : rK Ou Oz n 10 175 (zu f175.A0 x) (zq [(false, .int .i64)]) = f175.g n x := by
 kernel_rfl
theorem f175.codes : CdO Ou Oz := zm (aC Tryz.func175 (aC Tryz.func119 (aC Tryz.func191 (aC Tryz.func192 (aC Tryz.func201 (aC Tryz.func202 (aC Tryz.func212 (aC Tryz.func213 aN)))))))) (by kernel_rfl)
theorem f175.ok (h : Run jX f175.g) (e72 : CO 72 iN) (e200 : CO 200 ad) : CO 175 (zk f175.A0 [(false, .int .i64)] true jX) :=
 zn zE zD (zf e200 (zf e72 zj)) f175.codes (fun _ => Nw.1 rfl) (h.go f175.eq)
def Zt : Con := zk f175.A0 [(false, .int .i64)] true jX
abbrev f157.A0 : Sig := [(false, .int .i64), (false, .bool)]
abbrev f157.A1 : Sig := [(true, tValue), (true, tValue)]
def OO : FuncId → Option Con := (zN 175 Zt (zN 73 Yg (zN 72 iN yc)))
noncomputable def Nm : List (FuncId × Func) := [(157, Tryz.f157)]
def f157.g (n : Nat) (x : zc × zc) : Option (Int × Bool) :=
 bif x.1.1 == (2 : Int) then
 bif x.2.1 == (2 : Int) then
 (F72 (x.1.2.1, x.2.2.1)).bind fun r1 =>
 some (r1, true)
 else
 bif x.1.1 == (3 : Int) then
 bif x.2.1 == (3 : Int) then
 (F73 (x.1.2.2.1, x.2.2.2.1)).bind fun r2 =>
 some (r2, true)
 else
 bif x.1.1 == (2 : Int) then
 bif x.2.1 == (3 : Int) then
 (jX (x.1.2.1, x.2.2.2.1)).bind fun r3 =>
 some (r3, true)
 else
 bif x.1.1 == (3 : Int) then
 bif x.2.1 == (2 : Int) then
 (jX (x.2.2.1, x.1.2.2.1)).bind fun r4 =>
 some (IntKind.wrap .i64 (0 - r4), true)
 else
 some ((0 : Int), false)
 else
 some ((0 : Int), false)
 else
 bif x.1.1 == (3 : Int) then
 bif x.2.1 == (2 : Int) then
 (jX (x.2.2.1, x.1.2.2.1)).bind fun r5 =>
 some (IntKind.wrap .i64 (0 - r5), true)
 else
 some ((0 : Int), false)
 else
 some ((0 : Int), false)
 else
 bif x.1.1 == (2 : Int) then
 bif x.2.1 == (3 : Int) then
 (jX (x.1.2.1, x.2.2.2.1)).bind fun r6 =>
 some (r6, true)
 else
 bif x.1.1 == (3 : Int) then
 bif x.2.1 == (2 : Int) then
 (jX (x.2.2.1, x.1.2.2.1)).bind fun r7 =>
 some (IntKind.wrap .i64 (0 - r7), true)
 else
 some ((0 : Int), false)
 else
 some ((0 : Int), false)
 else
 bif x.1.1 == (3 : Int) then
 bif x.2.1 == (2 : Int) then
 (jX (x.2.2.1, x.1.2.2.1)).bind fun r8 =>
 some (IntKind.wrap .i64 (0 - r8), true)
 else
 some ((0 : Int), false)
 else
 some ((0 : Int), false)
 else
 bif x.1.1 == (3 : Int) then
 bif x.2.1 == (3 : Int) then
 (F73 (x.1.2.2.1, x.2.2.2.1)).bind fun r9 =>
 some (r9, true)
 else
 bif x.1.1 == (2 : Int) then
 bif x.2.1 == (3 : Int) then
 (jX (x.1.2.1, x.2.2.2.1)).bind fun r10 =>
 some (r10, true)
 else
 bif x.1.1 == (3 : Int) then
 bif x.2.1 == (2 : Int) then
 (jX (x.2.2.1, x.1.2.2.1)).bind fun r11 =>
 some (IntKind.wrap .i64 (0 - r11), true)
 else
 some ((0 : Int), false)
 else
 some ((0 : Int), false)
 else
 bif x.1.1 == (3 : Int) then
 bif x.2.1 == (2 : Int) then
 (jX (x.2.2.1, x.1.2.2.1)).bind fun r12 =>
 some (IntKind.wrap .i64 (0 - r12), true)
 else
 some ((0 : Int), false)
 else
 some ((0 : Int), false)
 else
 bif x.1.1 == (2 : Int) then
 bif x.2.1 == (3 : Int) then
 (jX (x.1.2.1, x.2.2.2.1)).bind fun r13 =>
 some (r13, true)
 else
 bif x.1.1 == (3 : Int) then
 bif x.2.1 == (2 : Int) then
 (jX (x.2.2.1, x.1.2.2.1)).bind fun r14 =>
 some (IntKind.wrap .i64 (0 - r14), true)
 else
 some ((0 : Int), false)
 else
 some ((0 : Int), false)
 else
 bif x.1.1 == (3 : Int) then
 bif x.2.1 == (2 : Int) then
 (jX (x.2.2.1, x.1.2.2.1)).bind fun r15 =>
 some (IntKind.wrap .i64 (0 - r15), true)
 else
 some ((0 : Int), false)
 else
 some ((0 : Int), false)
theorem f157.eq (n : Nat) (x : zc × zc) : rK OO Nm n 1 157 (zu f157.A1 x) (zq f157.A0) = f157.g n x := by
 kernel_rfl
theorem f157.codes : CdO OO Nm := zm (aC Tryz.func157 aN) (by kernel_rfl)
theorem f157.ok (h : Run Qr f157.g) (e72 : CO 72 iN) (e73 : CO 73 Yg) (e175 : CO 175 Zt) : CO 157 (zk f157.A1 f157.A0 true Qr) :=
 zn zE zD (zf e175 (zf e73 (zf e72 zj))) f157.codes (fun _ => Nw.1 rfl) (h.go f157.eq)
def aZ : Con := zk f157.A1 f157.A0 true Qr
def OJ : FuncId → Option Con := (zN 170 YG yc)
noncomputable def Nd : List (FuncId × Func) := [(138, Tryz.f138)]
def f138.g (n : Nat) (x : ByteArray) : Option (Bool) :=
 bif decide ((⟨#[32]⟩ : BA).size + x.size ≤ y8) then
 bif decide (((⟨#[32]⟩ : BA) ++ x).size + (⟨#[32]⟩ : BA).size ≤ y8) then
 (QE ((⟨#[32, 97, 110, 100, 32, 98, 111, 111, 108, 32, 98, 121, 116, 101, 115, 32, 99, 114, 101, 97, 116, 101, 32, 100, 101, 102, 97, 117, 108, 116, 32, 102, 97, 108, 115, 101, 32, 102, 108, 111, 97, 116, 32, 102, 111, 114, 101, 105, 103, 110, 32, 105, 110, 32, 105, 110, 100, 101, 120, 32, 105, 110, 116, 32, 105, 115, 32, 107, 101, 121, 32, 110, 111, 116, 32, 110, 117, 108, 108, 32, 111, 114, 32, 112, 114, 105, 109, 97, 114, 121, 32, 114, 101, 102, 101, 114, 101, 110, 99, 101, 115, 32, 116, 97, 98, 108, 101, 32, 116, 101, 120, 116, 32, 116, 114, 117, 101, 32, 117, 110, 105, 113, 117, 101, 32, 97, 98, 111, 114, 116, 32, 97, 115, 32, 97, 115, 99, 32, 97, 116, 32, 97, 118, 103, 32, 98, 101, 103, 105, 110, 32, 98, 101, 116, 119, 101, 101, 110, 32, 98, 121, 32, 99, 111, 109, 109, 105, 116, 32, 99, 111, 117, 110, 116, 32, 100, 101, 108, 101, 116, 101, 32, 100, 101, 115, 99, 32, 100, 114, 111, 112, 32, 102, 114, 111, 109, 32, 103, 114, 111, 117, 112, 32, 105, 110, 115, 101, 114, 116, 32, 105, 110, 116, 111, 32, 108, 105, 109, 105, 116, 32, 109, 97, 120, 32, 109, 105, 110, 32, 111, 102, 32, 111, 114, 100, 101, 114, 32, 114, 101, 108, 101, 97, 115, 101, 32, 114, 111, 108, 108, 98, 97, 99, 107, 32, 115, 97, 118, 101, 112, 111, 105, 110, 116, 32, 115, 101, 108, 101, 99, 116, 32, 115, 101, 116, 32, 115, 117, 109, 32, 116, 111, 32, 117, 112, 100, 97, 116, 101, 32, 118, 97, 108, 117, 101, 115, 32, 119, 104, 101, 114, 101, 32, 119, 105, 116, 104, 32]⟩ : BA), ((⟨#[32]⟩ : BA) ++ x) ++ (⟨#[32]⟩ : BA))).bind fun r1 =>
 some r1
 else
 (none)
 else
 (none)
theorem f138.eq (n : Nat) (x : ByteArray) : rK OJ Nd n 1 138 (zu [(false, .str)] x) (zq [(false, .bool)]) = f138.g n x := by
 kernel_rfl
theorem f138.codes : CdO OJ Nd := zm (aC Tryz.func138 aN) (by kernel_rfl)
theorem f138.ok (h : Run SL f138.g) (e170 : CO 170 YG) : CO 138 (zk [(false, .str)] [(false, .bool)] true SL) :=
 zn zE zD (zf e170 zj) f138.codes (fun _ => Nw.1 rfl) (h.go f138.eq)
def Yi : Con := zk [(false, .str)] [(false, .bool)] true SL
def E86 : FuncId → Option Con := (zN 138 Yi yc)
noncomputable def C86 : List (FuncId × Func) := [(86, Tryz.f86), (137, Tryz.f137), (139, Tryz.f139)]
def f86.h1 (x : ByteArray) (r1 : Bool) (y2 : Int) : List AV × List Ob := ([vv [cT x]] ++ uN 21 ([vv [cI (x.size : Int)], vv [cI y2]] ++ uN 15 []), [])
def f86.L1 (n : Nat) (x : ByteArray) (r1 : Bool) (m2 : Nat) (y2 : Int) : Option (Bool) :=
 lK (ann 86 4) 0 E86 C86 n 3 86 Tryz.f86 [1, 1, 0, 1, 0, 0] [1, 1, 0, 1, 0] m2 (f86.h1 x r1 y2) (un TT Tryz.f86 (zq [(false, .bool)]))
def f86.s1 (n : Nat) (x : ByteArray) (r1 : Bool) (S2 : Int → Option (Bool)) (y2 : Int) : Option (Bool) :=
 bif decide (y2 < (x.size : Int)) then
 bif decide (0 ≤ y2) && decide (y2 < (x.size : Int)) then
 bif !(bif (z7 x y2 == (95 : Int)) then true else (bif (decide (z7 x y2 ≥ (97 : Int))) then (decide (z7 x y2 ≤ (122 : Int))) else false)) then
 bif decide (0 ≤ y2) && decide (y2 < (x.size : Int)) then
 bif !(bif (decide (z7 x y2 ≥ (48 : Int))) then (decide (z7 x y2 ≤ (57 : Int))) else false) then
 some false
 else
 S2 (IntKind.wrap .i64 (y2 + (1 : Int)))
 else
 (none)
 else
 S2 (IntKind.wrap .i64 (y2 + (1 : Int)))
 else
 (none)
 else
 some true
theorem f86.l1 (n : Nat) (x : ByteArray) (r1 : Bool) : ∀ (m : Nat) (y2 : Int), f86.L1 n x r1 m y2 = zY (f86.s1 n x r1) m y2 :=
 zM (fun _ => rfl) fun m y => by kernel_rfl
def f86.g (n : Nat) (x : ByteArray) : Option (Bool) :=
 bif bif (zd x (⟨#[]⟩ : BA)) then true else (decide ((x.size : Int) > (63 : Int))) then
 some false
 else
 bif decide (0 ≤ (0 : Int)) && decide ((0 : Int) < (x.size : Int)) then
 bif !(bif (z7 x (0 : Int) == (95 : Int)) then true else (bif (decide (z7 x (0 : Int) ≥ (97 : Int))) then (decide (z7 x (0 : Int) ≤ (122 : Int))) else false)) then
 some false
 else
 (SL x).bind fun r1 =>
 bif r1 then
 some false
 else
 zY (f86.s1 n x r1) n (0 : Int)
 else
 (none)
theorem f86.eq (n : Nat) (x : ByteArray) : rK E86 C86 n 3 86 (zu [(false, .str)] x) (zq [(false, .bool)]) = f86.g n x := by
 simp only [f86.g, ← f86.l1]
 kernel_rfl
theorem f86.codes : CdO E86 C86 := zm (aC Tryz.func86 (aC Tryz.func137 (aC Tryz.func139 aN))) (by kernel_rfl)
theorem f86.ok (h : Run F86 f86.g) (e138 : CO 138 Yi) : CO 86 (zk [(false, .str)] [(false, .bool)] true F86) :=
 zn zE zD (zf e138 zj) f86.codes (fun _ => Nw.1 rfl) (h.go f86.eq)
def iF : Con := zk [(false, .str)] [(false, .bool)] true F86
abbrev f42.Z0 : Type := (List Int) × Int
abbrev f42.A1 : Sig := [(false, .sl (.int .i64)), (false, .int .i64)]
def E42 : FuncId → Option Con := yc
noncomputable def C42 : List (FuncId × Func) := [(42, Tryz.f42)]
def f42.h1 (x : f42.Z0) (y1 : Int) : List AV × List Ob := ([vv [.sc (.sl (.int .i64)) x.1], vv [cI x.2]] ++ uN 5 ([vv [cI (x.1.length : Int)], vv [cI y1]] ++ uN 10 []), [])
def f42.L1 (n : Nat) (x : f42.Z0) (m1 : Nat) (y1 : Int) : Option (Int) :=
 lK (ann 42 2) 0 E42 C42 n 1 42 Tryz.f42 [1, 0, 1, 0, 0] [1, 0, 1, 0] m1 (f42.h1 x y1) (un TT Tryz.f42 (zq [(false, .int .i64)]))
def f42.s1 (n : Nat) (x : f42.Z0) (S1 : Int → Option (Int)) (y1 : Int) : Option (Int) :=
 bif decide (y1 < (x.1.length : Int)) then
 bif decide (0 ≤ y1) && decide (y1 < (x.1.length : Int)) then
 bif x.2 == x.1.getD y1.toNat (Ty.dflt (.int .i64)) then
 some y1
 else
 S1 (IntKind.wrap .i64 (y1 + (1 : Int)))
 else
 (none)
 else
 some (-1 : Int)
theorem f42.l1 (n : Nat) (x : f42.Z0) : ∀ (m : Nat) (y1 : Int), f42.L1 n x m y1 = zY (f42.s1 n x) m y1 :=
 zM (fun _ => rfl) fun m y => by kernel_rfl
def f42.g (n : Nat) (x : f42.Z0) : Option (Int) :=
 zY (f42.s1 n x) n (0 : Int)
theorem f42.eq (n : Nat) (x : f42.Z0) : rK E42 C42 n 1 42 (zu f42.A1 x) (zq [(false, .int .i64)]) = f42.g n x := by
 simp only [f42.g, ← f42.l1]
 kernel_rfl
theorem f42.codes : CdO E42 C42 := zm (aC Tryz.func42 aN) (by kernel_rfl)
theorem f42.ok (h : Run F42 f42.g)  : CO 42 (zk f42.A1 [(false, .int .i64)] true F42) :=
 zn zE zD zj f42.codes (fun _ => Nw.1 rfl) (h.go f42.eq)
def V5 : Con := zk f42.A1 [(false, .int .i64)] true F42
abbrev f16.A0 : Sig := [(false, .sl (.int .i64)), (false, .int .i64)]
def E16 : FuncId → Option Con := (zN 42 V5 yc)
noncomputable def C16 : List (FuncId × Func) := [(16, Tryz.f16)]
def f16.g (n : Nat) (x : (List Int) × Int) : Option (Bool) :=
 (F42 x).bind fun r1 =>
 some (decide (r1 ≥ (0 : Int)))
theorem f16.eq (n : Nat) (x : (List Int) × Int) : rK E16 C16 n 1 16 (zu f16.A0 x) (zq [(false, .bool)]) = f16.g n x := by
 kernel_rfl
theorem f16.codes : CdO E16 C16 := zm (aC Tryz.func16 aN) (by kernel_rfl)
theorem f16.ok (h : Run F16 f16.g) (e42 : CO 42 V5) : CO 16 (zk f16.A0 [(false, .bool)] true F16) :=
 zn zE zD (zf e42 zj) f16.codes (fun _ => Nw.1 rfl) (h.go f16.eq)
def Yu : Con := zk f16.A0 [(false, .bool)] true F16
abbrev f88.Z0 : Type := zi × (List Int)
abbrev f88.A1 : Sig := [(true, tTable), (false, .sl (.int .i64))]
def E88 : FuncId → Option Con := (zN 16 Yu yc)
noncomputable def C88 : List (FuncId × Func) := [(88, Tryz.f88)]
def f88.h1 (x : f88.Z0) (y1 : Int) : List AV × List Ob := ([.undef, vv [.sc (.sl (.int .i64)) x.2], vv [.ptr 0 0]] ++ uN 12 ([vv [.sc (.sl (.int .i64)) x.2], vv [cI (x.2.length : Int)], vv [cI y1]] ++ uN 21 []), [.box [cT x.1.1, .sc (.sl tColumn) x.1.2.1, .sc (.sl (.int .i64)) x.1.2.2.1, .sc (.sl tIndex) x.1.2.2.2.1, .sc (.sl tRef) x.1.2.2.2.2]])
def f88.L1 (n : Nat) (x : f88.Z0) (m1 : Nat) (y1 : Int) : Option (Bool) :=
 lK (ann 88 4) 1 E88 C88 n 1 88 Tryz.f88 [1, 1, 0, 1, 0, 0] [1, 1, 0, 1, 0] m1 (f88.h1 x y1) (un TT Tryz.f88 (zq [(false, .bool)]))
def f88.s1 (n : Nat) (x : f88.Z0) (S1 : Int → Option (Bool)) (y1 : Int) : Option (Bool) :=
 bif decide (y1 < (x.2.length : Int)) then
 bif decide (0 ≤ y1) && decide (y1 < (x.2.length : Int)) then
 bif bif (decide (x.2.getD y1.toNat (Ty.dflt (.int .i64)) < (0 : Int))) then true else (decide (x.2.getD y1.toNat (Ty.dflt (.int .i64)) ≥ (x.1.2.1.length : Int))) then
 some false
 else
 bif decide (0 ≤ y1) && decide (y1 ≤ (x.2.length : Int)) then
 (F16 (List.take y1.toNat x.2, x.2.getD y1.toNat (Ty.dflt (.int .i64)))).bind fun r2 =>
 bif r2 then
 some false
 else
 S1 (IntKind.wrap .i64 (y1 + (1 : Int)))
 else
 (none)
 else
 (none)
 else
 some true
theorem f88.l1 (n : Nat) (x : f88.Z0) : ∀ (m : Nat) (y1 : Int), f88.L1 n x m y1 = zY (f88.s1 n x) m y1 :=
 zM (fun _ => rfl) fun m y => by kernel_rfl
def f88.g (n : Nat) (x : f88.Z0) : Option (Bool) :=
 bif bif (decide ((x.2.length : Int) < (1 : Int))) then true else (decide ((x.2.length : Int) > (64 : Int))) then
 some false
 else
 zY (f88.s1 n x) n (0 : Int)
theorem f88.eq (n : Nat) (x : f88.Z0) : rK E88 C88 n 1 88 (zu f88.A1 x) (zq [(false, .bool)]) = f88.g n x := by
 simp only [f88.g, ← f88.l1]
 kernel_rfl
theorem f88.codes : CdO E88 C88 := zm (aC Tryz.func88 aN) (by kernel_rfl)
theorem f88.ok (h : Run F88 f88.g) (e16 : CO 16 Yu) : CO 88 (zk f88.A1 [(false, .bool)] true F88) :=
 zn zE zD (zf e16 zj) f88.codes (fun _ => Nw.1 rfl) (h.go f88.eq)
def U7 : Con := zk f88.A1 [(false, .bool)] true F88
abbrev f171a.Z0 : Type := (List zR) × ByteArray
def TE : FuncId → Option Con := yc
noncomputable def TQ : List (FuncId × Func) := [(171, Tryz.f171), (224, Tryz.f224)]
def f171a.h1 (x : f171a.Z0) (y1 : Int) : List AV × List Ob := ([vv [.sc (.sl tColumn) x.1], vv [.fnr 224 [⟨.str, x.2⟩]]] ++ uN 5 ([vv [cI (x.1.length : Int)], vv [cI y1]] ++ uN 10 []), [])
def f171a.L1 (n : Nat) (x : f171a.Z0) (m1 : Nat) (y1 : Int) : Option (Int) :=
 lK (ann 171 2) 0 TE TQ n 2 171 Tryz.f171 [1, 0, 1, 0, 0] [1, 0, 1, 0] m1 (f171a.h1 x y1) (un TT Tryz.f171 (zq [(false, .int .i64)]))
def f171a.s1 (n : Nat) (x : f171a.Z0) (S1 : Int → Option (Int)) (y1 : Int) : Option (Int) :=
 bif decide (y1 < (x.1.length : Int)) then
 bif decide (0 ≤ y1) && decide (y1 < (x.1.length : Int)) then
 bif zd (x.1.getD y1.toNat tColumn.dflt).1 x.2 then
 some y1
 else
 S1 (IntKind.wrap .i64 (y1 + (1 : Int)))
 else
 (none)
 else
 some (-1 : Int)
theorem f171a.l1 (n : Nat) (x : f171a.Z0) : ∀ (m : Nat) (y1 : Int), f171a.L1 n x m y1 = zY (f171a.s1 n x) m y1 :=
 zM (fun _ => rfl) fun m y => by kernel_rfl
def f171a.g (n : Nat) (x : f171a.Z0) : Option (Int) :=
 zY (f171a.s1 n x) n (0 : Int)
theorem f171a.eq (n : Nat) (x : f171a.Z0) : rK TE TQ n 2 171 (avL [.dat false (.sl tColumn), .clo 224 [(true, .str)]] x) (zq [(false, .int .i64)]) = f171a.g n x := by
 simp only [f171a.g, ← f171a.l1]
 kernel_rfl
theorem f171a.codes : CdO TE TQ := zm (aC Tryz.func171 (aC Tryz.func224 aN)) (by kernel_rfl)
theorem f171a.ok (h : Run d3 f171a.g)  : CO 171 (ck [(false, .int .i64)] (PmL [.dat false (.sl tColumn), .clo 224 [(true, .str)]]) (fun l H => yj H [.dat false (.sl tColumn), .clo 224 [(true, .str)]] l) d3) :=
 yQ zE zD zj f171a.codes (Nw.1 rfl) (h.go f171a.eq)
abbrev f171b.Z0 : Type := (List zR) × zR
def TX : FuncId → Option Con := yc
noncomputable def SP : List (FuncId × Func) := [(171, Tryz.f171), (141, Tryz.f141)]
def f171b.h1 (x : f171b.Z0) (y1 : Int) : List AV × List Ob := ([vv [.sc (.sl tColumn) x.1], vv [.fnr 141 [⟨tColumn, x.2⟩]]] ++ uN 5 ([vv [cI (x.1.length : Int)], vv [cI y1]] ++ uN 10 []), [])
def f171b.L1 (n : Nat) (x : f171b.Z0) (m1 : Nat) (y1 : Int) : Option (Int) :=
 lK (ann 171 2) 0 TX SP n 2 171 Tryz.f171 [1, 0, 1, 0, 0] [1, 0, 1, 0] m1 (f171b.h1 x y1) (un TT Tryz.f171 (zq [(false, .int .i64)]))
def f171b.s1 (n : Nat) (x : f171b.Z0) (S1 : Int → Option (Int)) (y1 : Int) : Option (Int) :=
 bif decide (y1 < (x.1.length : Int)) then
 bif decide (0 ≤ y1) && decide (y1 < (x.1.length : Int)) then
 bif zd (x.1.getD y1.toNat tColumn.dflt).1 x.2.1 then
 some y1
 else
 S1 (IntKind.wrap .i64 (y1 + (1 : Int)))
 else
 (none)
 else
 some (-1 : Int)
theorem f171b.l1 (n : Nat) (x : f171b.Z0) : ∀ (m : Nat) (y1 : Int), f171b.L1 n x m y1 = zY (f171b.s1 n x) m y1 :=
 zM (fun _ => rfl) fun m y => by kernel_rfl
def f171b.g (n : Nat) (x : f171b.Z0) : Option (Int) :=
 zY (f171b.s1 n x) n (0 : Int)
theorem f171b.eq (n : Nat) (x : f171b.Z0) : rK TX SP n 2 171 (avL [.dat false (.sl tColumn), .clo 141 [(true, tColumn)]] x) (zq [(false, .int .i64)]) = f171b.g n x := by
 simp only [f171b.g, ← f171b.l1]
 kernel_rfl
theorem f171b.codes : CdO TX SP := zm (aC Tryz.func171 (aC Tryz.func141 aN)) (by kernel_rfl)
theorem f171b.ok (h : Run iE f171b.g)  : CO 171 (ck [(false, .int .i64)] (PmL [.dat false (.sl tColumn), .clo 141 [(true, tColumn)]]) (fun l H => yj H [.dat false (.sl tColumn), .clo 141 [(true, tColumn)]] l) iE) :=
 yQ zE zD zj f171b.codes (Nw.1 rfl) (h.go f171b.eq)
def lY : Con := ck [(false, .int .i64)] ((PmL [.dat false (.sl tColumn), .clo 224 [(true, .str)]]) ⊕ (PmL [.dat false (.sl tColumn), .clo 141 [(true, tColumn)]])) (tZ 224 (fun l H => yj H [.dat false (.sl tColumn), .clo 224 [(true, .str)]] l) (fun l H => yj H [.dat false (.sl tColumn), .clo 141 [(true, tColumn)]] l)) (orF d3 iE)
def O4 : FuncId → Option Con := (zN 171 lY yc)
noncomputable def OG : List (FuncId × Func) := [(140, Tryz.f140), (141, Tryz.f141)]
def f140.g (n : Nat) (x : (List zR) × zR) : Option (Bool) :=
 (iE x).bind fun r1 =>
 some (decide (r1 ≥ (0 : Int)))
theorem f140.eq (n : Nat) (x : (List zR) × zR) : rK O4 OG n 2 140 (avL [.dat false (.sl tColumn), .clo 141 [(true, tColumn)]] x) (zq [(false, .bool)]) = f140.g n x := by
 kernel_rfl
theorem f140.codes : CdO O4 OG := zm (aC Tryz.func140 (aC Tryz.func141 aN)) (by kernel_rfl)
theorem f140.ok (h : Run SY f140.g) (e171 : CO 171 lY) : CO 140 (sd [.dat false (.sl tColumn), .clo 141 [(true, tColumn)]] [(false, .bool)] SY) :=
 yQ zE zD (zf e171 zj) f140.codes (Nw.1 rfl) (h.go f140.eq)
def Z6 : Con := sd [.dat false (.sl tColumn), .clo 141 [(true, tColumn)]] [(false, .bool)] SY
def Oy : FuncId → Option Con := yc
noncomputable def Ot : List (FuncId × Func) := [(115, Tryz.f115)]
def f115.g (n : Nat) (x : Int) : Option (Bool) :=
 some (bif (x == (2 : Int)) then true else (x == (3 : Int)))
theorem f115.eq (n : Nat) (x : Int) : rK Oy Ot n 1 115 (zu [(false, .int .i64)] x) (zq [(false, .bool)]) = f115.g n x := by
 kernel_rfl
theorem f115.codes : CdO Oy Ot := zm (aC Tryz.func115 aN) (by kernel_rfl)
theorem f115.ok (h : Run eO f115.g)  : CO 115 (zk [(false, .int .i64)] [(false, .bool)] true eO) :=
 zn zE zD zj f115.codes (fun _ => Nw.1 rfl) (h.go f115.eq)
def px : Con := zk [(false, .int .i64)] [(false, .bool)] true eO
def E41 : FuncId → Option Con := yc
noncomputable def C41 : List (FuncId × Func) := [(41, Tryz.f41)]
def f41.g (n : Nat) (x : Int) : Option (Bool) :=
 some (bif (x == (1 : Int)) then true else (x == (0 : Int)))
theorem f41.eq (n : Nat) (x : Int) : rK E41 C41 n 1 41 (zu [(false, .int .i64)] x) (zq [(false, .bool)]) = f41.g n x := by
 kernel_rfl
theorem f41.codes : CdO E41 C41 := zm (aC Tryz.func41 aN) (by kernel_rfl)
theorem f41.ok (h : Run F41 f41.g)  : CO 41 (zk [(false, .int .i64)] [(false, .bool)] true F41) :=
 zn zE zD zj f41.codes (fun _ => Nw.1 rfl) (h.go f41.eq)
def ZN : Con := zk [(false, .int .i64)] [(false, .bool)] true F41
abbrev f114.A0 : Sig := [(false, .int .i64), (false, .int .i64)]
def Ni : FuncId → Option Con := (zN 115 px yc)
noncomputable def OW : List (FuncId × Func) := [(114, Tryz.f114)]
def f114.g (n : Nat) (x : Int × Int) : Option (Bool) :=
 bif x.1 == x.2 then
 some true
 else
 (eO x.1).bind fun r1 =>
 bif r1 then
 (eO x.2).bind fun r2 =>
 some (bif (bif r2 then true else (x.1 == (0 : Int))) then true else (x.2 == (0 : Int)))
 else
 some (bif (x.1 == (0 : Int)) then true else (x.2 == (0 : Int)))
theorem f114.eq (n : Nat) (x : Int × Int) : rK Ni OW n 1 114 (zu f114.A0 x) (zq [(false, .bool)]) = f114.g n x := by
 kernel_rfl
theorem f114.codes : CdO Ni OW := zm (aC Tryz.func114 aN) (by kernel_rfl)
theorem f114.ok (h : Run VA f114.g) (e115 : CO 115 px) : CO 114 (zk f114.A0 [(false, .bool)] true VA) :=
 zn zE zD (zf e115 zj) f114.codes (fun _ => Nw.1 rfl) (h.go f114.eq)
def pS : Con := zk f114.A0 [(false, .bool)] true VA
abbrev f142a.Z0 : Type := (List Int) × zi
def UI : FuncId → Option Con := yc
noncomputable def T0 : List (FuncId × Func) := [(142, Tryz.f142), (90, Tryz.f90)]
def f142a.h1 (x : f142a.Z0) (y1 : Int) : List AV × List Ob := ([vv [.sc (.sl (.int .i64)) x.1], vv [.fnr 90 [⟨tTable, x.2⟩]]] ++ uN 5 ([vv [cI (x.1.length : Int)], vv [cI y1]] ++ uN 10 []), [])
def f142a.L1 (n : Nat) (x : f142a.Z0) (m1 : Nat) (y1 : Int) : Option (Int) :=
 lK (ann 142 2) 0 UI T0 n 2 142 Tryz.f142 [1, 0, 1, 0, 0] [1, 0, 1, 0] m1 (f142a.h1 x y1) (un TT Tryz.f142 (zq [(false, .int .i64)]))
def f142a.s1 (n : Nat) (x : f142a.Z0) (S1 : Int → Option (Int)) (y1 : Int) : Option (Int) :=
 bif decide (y1 < (x.1.length : Int)) then
 bif decide (0 ≤ y1) && decide (y1 < (x.1.length : Int)) then
 bif decide (0 ≤ x.1.getD y1.toNat (Ty.dflt (.int .i64))) && decide (x.1.getD y1.toNat (Ty.dflt (.int .i64)) < (x.2.2.1.length : Int)) then
 bif (x.2.2.1.getD ((x.1.getD y1.toNat (Ty.dflt (.int .i64))).toNat) tColumn.dflt).2.2.1 then
 some y1
 else
 S1 (IntKind.wrap .i64 (y1 + (1 : Int)))
 else
 (none)
 else
 (none)
 else
 some (-1 : Int)
theorem f142a.l1 (n : Nat) (x : f142a.Z0) : ∀ (m : Nat) (y1 : Int), f142a.L1 n x m y1 = zY (f142a.s1 n x) m y1 :=
 zM (fun _ => rfl) fun m y => by kernel_rfl
def f142a.g (n : Nat) (x : f142a.Z0) : Option (Int) :=
 zY (f142a.s1 n x) n (0 : Int)
theorem f142a.eq (n : Nat) (x : f142a.Z0) : rK UI T0 n 2 142 (avL [.dat false (.sl (.int .i64)), .clo 90 [(true, tTable)]] x) (zq [(false, .int .i64)]) = f142a.g n x := by
 simp only [f142a.g, ← f142a.l1]
 kernel_rfl
theorem f142a.codes : CdO UI T0 := zm (aC Tryz.func142 (aC Tryz.func90 aN)) (by kernel_rfl)
theorem f142a.ok (h : Run j8 f142a.g)  : CO 142 (ck [(false, .int .i64)] (PmL [.dat false (.sl (.int .i64)), .clo 90 [(true, tTable)]]) (fun l H => yj H [.dat false (.sl (.int .i64)), .clo 90 [(true, tTable)]] l) j8) :=
 yQ zE zD zj f142a.codes (Nw.1 rfl) (h.go f142a.eq)
abbrev f142b.Z0 : Type := (List Int) × (List Int)
abbrev f142b.A1 : Sig := [(true, .sl (.int .i64))]
def Tr : FuncId → Option Con := (zN 114 pS yc)
noncomputable def UR : List (FuncId × Func) := [(142, Tryz.f142), (113, Tryz.f113)]
def f142b.h1 (x : f142b.Z0) (y1 : Int) : List AV × List Ob := ([vv [.sc (.sl (.int .i64)) x.1], vv [.fnr 113 [⟨.sl (.int .i64), x.2⟩]]] ++ uN 5 ([vv [cI (x.1.length : Int)], vv [cI y1]] ++ uN 10 []), [])
def f142b.L1 (n : Nat) (x : f142b.Z0) (m1 : Nat) (y1 : Int) : Option (Int) :=
 lK (ann 142 2) 0 Tr UR n 2 142 Tryz.f142 [1, 0, 1, 0, 0] [1, 0, 1, 0] m1 (f142b.h1 x y1) (un TT Tryz.f142 (zq [(false, .int .i64)]))
def f142b.s1 (n : Nat) (x : f142b.Z0) (S1 : Int → Option (Int)) (y1 : Int) : Option (Int) :=
 bif decide (y1 < (x.1.length : Int)) then
 bif decide (0 ≤ y1) && decide (y1 < (x.1.length : Int)) then
 bif decide (0 ≤ (0 : Int)) && decide ((0 : Int) < (x.2.length : Int)) then
 (VA (x.2.getD 0 (Ty.dflt (.int .i64)), x.1.getD y1.toNat (Ty.dflt (.int .i64)))).bind fun r2 =>
 bif !r2 then
 some y1
 else
 S1 (IntKind.wrap .i64 (y1 + (1 : Int)))
 else
 (none)
 else
 (none)
 else
 some (-1 : Int)
theorem f142b.l1 (n : Nat) (x : f142b.Z0) : ∀ (m : Nat) (y1 : Int), f142b.L1 n x m y1 = zY (f142b.s1 n x) m y1 :=
 zM (fun _ => rfl) fun m y => by kernel_rfl
def f142b.g (n : Nat) (x : f142b.Z0) : Option (Int) :=
 zY (f142b.s1 n x) n (0 : Int)
theorem f142b.eq (n : Nat) (x : f142b.Z0) : rK Tr UR n 2 142 (avL [.dat false (.sl (.int .i64)), .clo 113 f142b.A1] x) (zq [(false, .int .i64)]) = f142b.g n x := by
 simp only [f142b.g, ← f142b.l1]
 kernel_rfl
theorem f142b.codes : CdO Tr UR := zm (aC Tryz.func142 (aC Tryz.func113 aN)) (by kernel_rfl)
theorem f142b.ok (h : Run gd f142b.g) (e114 : CO 114 pS) : CO 142 (ck [(false, .int .i64)] (PmL [.dat false (.sl (.int .i64)), .clo 113 f142b.A1]) (fun l H => yj H [.dat false (.sl (.int .i64)), .clo 113 f142b.A1] l) gd) :=
 yQ zE zD (zf e114 zj) f142b.codes (Nw.1 rfl) (h.go f142b.eq)
def kV : Con := ck [(false, .int .i64)] ((PmL [.dat false (.sl (.int .i64)), .clo 90 [(true, tTable)]]) ⊕ (PmL [.dat false (.sl (.int .i64)), .clo 113 f142b.A1])) (tZ 90 (fun l H => yj H [.dat false (.sl (.int .i64)), .clo 90 [(true, tTable)]] l) (fun l H => yj H [.dat false (.sl (.int .i64)), .clo 113 f142b.A1] l)) (orF j8 gd)
def O6 : FuncId → Option Con := (zN 142 kV yc)
noncomputable def OL : List (FuncId × Func) := [(89, Tryz.f89), (90, Tryz.f90)]
def f89a.g (n : Nat) (x : (List Int) × zi) : Option (Bool) :=
 (j8 x).bind fun r1 =>
 some (decide (r1 ≥ (0 : Int)))
theorem f89a.eq (n : Nat) (x : (List Int) × zi) : rK O6 OL n 2 89 (avL [.dat false (.sl (.int .i64)), .clo 90 [(true, tTable)]] x) (zq [(false, .bool)]) = f89a.g n x := by
 kernel_rfl
theorem f89a.codes : CdO O6 OL := zm (aC Tryz.func89 (aC Tryz.func90 aN)) (by kernel_rfl)
theorem f89a.ok (h : Run Rg f89a.g) (e142 : CO 142 kV) : CO 89 (ck [(false, .bool)] (PmL [.dat false (.sl (.int .i64)), .clo 90 [(true, tTable)]]) (fun l H => yj H [.dat false (.sl (.int .i64)), .clo 90 [(true, tTable)]] l) Rg) :=
 yQ zE zD (zf e142 zj) f89a.codes (Nw.1 rfl) (h.go f89a.eq)
abbrev f89b.A0 : Sig := [(true, .sl (.int .i64))]
def OT : FuncId → Option Con := (zN 142 kV (zN 114 pS yc))
noncomputable def OU : List (FuncId × Func) := [(89, Tryz.f89), (113, Tryz.f113)]
def f89b.g (n : Nat) (x : (List Int) × (List Int)) : Option (Bool) :=
 (gd x).bind fun r1 =>
 some (decide (r1 ≥ (0 : Int)))
theorem f89b.eq (n : Nat) (x : (List Int) × (List Int)) : rK OT OU n 2 89 (avL [.dat false (.sl (.int .i64)), .clo 113 f89b.A0] x) (zq [(false, .bool)]) = f89b.g n x := by
 kernel_rfl
theorem f89b.codes : CdO OT OU := zm (aC Tryz.func89 (aC Tryz.func113 aN)) (by kernel_rfl)
theorem f89b.ok (h : Run SZ f89b.g) (e114 : CO 114 pS) (e142 : CO 142 kV) : CO 89 (ck [(false, .bool)] (PmL [.dat false (.sl (.int .i64)), .clo 113 f89b.A0]) (fun l H => yj H [.dat false (.sl (.int .i64)), .clo 113 f89b.A0] l) SZ) :=
 yQ zE zD (zf e142 (zf e114 zj)) f89b.codes (Nw.1 rfl) (h.go f89b.eq)
def cY : Con := ck [(false, .bool)] ((PmL [.dat false (.sl (.int .i64)), .clo 90 [(true, tTable)]]) ⊕ (PmL [.dat false (.sl (.int .i64)), .clo 113 f89b.A0])) (tZ 90 (fun l H => yj H [.dat false (.sl (.int .i64)), .clo 90 [(true, tTable)]] l) (fun l H => yj H [.dat false (.sl (.int .i64)), .clo 113 f89b.A0] l)) (orF Rg SZ)
abbrev f143.Z0 : Type := (List yC) × yC
def Po : FuncId → Option Con := yc
noncomputable def Pn : List (FuncId × Func) := [(143, Tryz.f143), (92, Tryz.f92)]
def f143.h1 (x : f143.Z0) (y1 : Int) : List AV × List Ob := ([vv [.sc (.sl tIndex) x.1], vv [.fnr 92 [⟨tIndex, x.2⟩]]] ++ uN 5 ([vv [cI (x.1.length : Int)], vv [cI y1]] ++ uN 10 []), [])
def f143.L1 (n : Nat) (x : f143.Z0) (m1 : Nat) (y1 : Int) : Option (Int) :=
 lK (ann 143 2) 0 Po Pn n 2 143 Tryz.f143 [1, 0, 1, 0, 0] [1, 0, 1, 0] m1 (f143.h1 x y1) (un TT Tryz.f143 (zq [(false, .int .i64)]))
def f143.s1 (n : Nat) (x : f143.Z0) (S1 : Int → Option (Int)) (y1 : Int) : Option (Int) :=
 bif decide (y1 < (x.1.length : Int)) then
 bif decide (0 ≤ y1) && decide (y1 < (x.1.length : Int)) then
 bif zd (x.1.getD y1.toNat tIndex.dflt).1 x.2.1 then
 some y1
 else
 S1 (IntKind.wrap .i64 (y1 + (1 : Int)))
 else
 (none)
 else
 some (-1 : Int)
theorem f143.l1 (n : Nat) (x : f143.Z0) : ∀ (m : Nat) (y1 : Int), f143.L1 n x m y1 = zY (f143.s1 n x) m y1 :=
 zM (fun _ => rfl) fun m y => by kernel_rfl
def f143.g (n : Nat) (x : f143.Z0) : Option (Int) :=
 zY (f143.s1 n x) n (0 : Int)
theorem f143.eq (n : Nat) (x : f143.Z0) : rK Po Pn n 2 143 (avL [.dat false (.sl tIndex), .clo 92 [(true, tIndex)]] x) (zq [(false, .int .i64)]) = f143.g n x := by
 simp only [f143.g, ← f143.l1]
 kernel_rfl
theorem f143.codes : CdO Po Pn := zm (aC Tryz.func143 (aC Tryz.func92 aN)) (by kernel_rfl)
theorem f143.ok (h : Run Ur f143.g)  : CO 143 (sd [.dat false (.sl tIndex), .clo 92 [(true, tIndex)]] [(false, .int .i64)] Ur) :=
 yQ zE zD zj f143.codes (Nw.1 rfl) (h.go f143.eq)
def aB : Con := sd [.dat false (.sl tIndex), .clo 92 [(true, tIndex)]] [(false, .int .i64)] Ur
def E91 : FuncId → Option Con := (zN 143 aB yc)
noncomputable def C91 : List (FuncId × Func) := [(91, Tryz.f91), (92, Tryz.f92)]
def f91.g (n : Nat) (x : (List yC) × yC) : Option (Bool) :=
 (Ur x).bind fun r1 =>
 some (decide (r1 ≥ (0 : Int)))
theorem f91.eq (n : Nat) (x : (List yC) × yC) : rK E91 C91 n 2 91 (avL [.dat false (.sl tIndex), .clo 92 [(true, tIndex)]] x) (zq [(false, .bool)]) = f91.g n x := by
 kernel_rfl
theorem f91.codes : CdO E91 C91 := zm (aC Tryz.func91 (aC Tryz.func92 aN)) (by kernel_rfl)
theorem f91.ok (h : Run F91 f91.g) (e143 : CO 143 aB) : CO 91 (sd [.dat false (.sl tIndex), .clo 92 [(true, tIndex)]] [(false, .bool)] F91) :=
 yQ zE zD (zf e143 zj) f91.codes (Nw.1 rfl) (h.go f91.eq)
def U5 : Con := sd [.dat false (.sl tIndex), .clo 92 [(true, tIndex)]] [(false, .bool)] F91
def E87 : FuncId → Option Con := (zN 140 Z6 (zN 86 iF (zN 75 rX yc)))
noncomputable def C87 : List (FuncId × Func) := [(87, Tryz.f87)]
def f87.h1 (x : zi) (y1 : Int) : List AV × List Ob := ([.undef, vv [.ptr 0 0]] ++ uN 5 ([vv [.sc (.sl tColumn) x.2.1], vv [cI (x.2.1.length : Int)], vv [cI y1]] ++ uN 43 []), [.box [cT x.1, .sc (.sl tColumn) x.2.1, .sc (.sl (.int .i64)) x.2.2.1, .sc (.sl tIndex) x.2.2.2.1, .sc (.sl tRef) x.2.2.2.2]])
def f87.L1 (n : Nat) (x : zi) (m1 : Nat) (y1 : Int) : Option (Int) :=
 lK (ann 87 2) 1 E87 C87 n 1 87 Tryz.f87 [1, 0, 1, 0, 0] [1, 0, 1, 0] m1 (f87.h1 x y1) (un TT Tryz.f87 (zq [(false, .int .i64)]))
def f87.s1 (n : Nat) (x : zi) (S1 : Int → Option (Int)) (y1 : Int) : Option (Int) :=
 bif decide (y1 < (x.2.1.length : Int)) then
 bif decide (0 ≤ y1) && decide (y1 < (x.2.1.length : Int)) then
 bif decide (0 ≤ y1) && decide (y1 ≤ (x.2.1.length : Int)) then
 (SY (List.take y1.toNat x.2.1, x.2.1.getD y1.toNat tColumn.dflt)).bind fun r2 =>
 (F86 (x.2.1.getD y1.toNat tColumn.dflt).1).bind fun r3 =>
 bif !r3 then
 some (30 : Int)
 else
 bif r2 then
 some (31 : Int)
 else
 bif bif (decide ((x.2.1.getD y1.toNat tColumn.dflt).2.1 < (1 : Int))) then true else (decide ((x.2.1.getD y1.toNat tColumn.dflt).2.1 > (5 : Int))) then
 bif bif (decide ((x.2.1.getD y1.toNat tColumn.dflt).2.1 < (1 : Int))) then true else (decide ((x.2.1.getD y1.toNat tColumn.dflt).2.1 > (5 : Int))) then
 some (32 : Int)
 else
 S1 (IntKind.wrap .i64 (y1 + (1 : Int)))
 else
 (F75 (x.2.1.getD y1.toNat tColumn.dflt).2.2.2).bind fun r4 =>
 bif r4 != (0 : Int) then
 bif r4 != (0 : Int) then
 some (32 : Int)
 else
 S1 (IntKind.wrap .i64 (y1 + (1 : Int)))
 else
 bif bif ((x.2.1.getD y1.toNat tColumn.dflt).2.2.2.1 != (0 : Int)) then ((x.2.1.getD y1.toNat tColumn.dflt).2.2.2.1 != (x.2.1.getD y1.toNat tColumn.dflt).2.1) else false then
 some (32 : Int)
 else
 S1 (IntKind.wrap .i64 (y1 + (1 : Int)))
 else
 (none)
 else
 (none)
 else
 some (0 : Int)
theorem f87.l1 (n : Nat) (x : zi) : ∀ (m : Nat) (y1 : Int), f87.L1 n x m y1 = zY (f87.s1 n x) m y1 :=
 zM (fun _ => rfl) fun m y => by kernel_rfl
def f87.g (n : Nat) (x : zi) : Option (Int) :=
 zY (f87.s1 n x) n (0 : Int)
theorem f87.eq (n : Nat) (x : zi) : rK E87 C87 n 1 87 (zu [(true, tTable)] x) (zq [(false, .int .i64)]) = f87.g n x := by
 simp only [f87.g, ← f87.l1]
 kernel_rfl
theorem f87.codes : CdO E87 C87 := zm (aC Tryz.func87 aN) (by kernel_rfl)
theorem f87.ok (h : Run F87 f87.g) (e75 : CO 75 rX) (e86 : CO 86 iF) (e140 : CO 140 Z6) : CO 87 (zk [(true, tTable)] [(false, .int .i64)] true F87) :=
 zn zE zD (zf e140 (zf e86 (zf e75 zj))) f87.codes (fun _ => Nw.1 rfl) (h.go f87.eq)
def SS : Con := zk [(true, tTable)] [(false, .int .i64)] true F87
def E58 : FuncId → Option Con := (zN 91 U5 (zN 89 cY (zN 88 U7 (zN 87 SS (zN 86 iF yc)))))
noncomputable def C58 : List (FuncId × Func) := [(58, Tryz.f58)]
def f58.h1 (x : zi) (r1 : Bool) (r2 : Int) (r3 : Bool) (r4 : Bool) (y5 : Int) (y9 : Int) : List AV × List Ob := ([.undef, vv [.ptr 0 0]] ++ uN 80 ([vv [.sc (.sl tRef) x.2.2.2.2], vv [cI (x.2.2.2.2.length : Int)], vv [cI y9]] ++ uN 15 []), [.box [cT x.1, .sc (.sl tColumn) x.2.1, .sc (.sl (.int .i64)) x.2.2.1, .sc (.sl tIndex) x.2.2.2.1, .sc (.sl tRef) x.2.2.2.2]])
def f58.h2 (x : zi) (r1 : Bool) (r2 : Int) (r3 : Bool) (r4 : Bool) (y5 : Int) : List AV × List Ob := ([.undef, vv [.ptr 0 0]] ++ uN 52 ([vv [.sc (.sl tIndex) x.2.2.2.1], vv [cI (x.2.2.2.1.length : Int)], vv [cI y5]] ++ uN 43 []), [.box [cT x.1, .sc (.sl tColumn) x.2.1, .sc (.sl (.int .i64)) x.2.2.1, .sc (.sl tIndex) x.2.2.2.1, .sc (.sl tRef) x.2.2.2.2]])
def f58.L1 (n : Nat) (x : zi) (r1 : Bool) (r2 : Int) (r3 : Bool) (r4 : Bool) (y5 : Int) (m9 : Nat) (y9 : Int) : Option (Int) :=
 lK (ann 58 23) 1 E58 C58 n 1 58 Tryz.f58 [1, 1, 1, 1, 1, 1, 0, 1, 0, 0] [1, 1, 1, 1, 1, 1, 0, 1, 0] m9 (f58.h1 x r1 r2 r3 r4 y5 y9) (un TT Tryz.f58 (zq [(false, .int .i64)]))
def f58.L2 (n : Nat) (x : zi) (r1 : Bool) (r2 : Int) (r3 : Bool) (r4 : Bool) (m5 : Nat) (y5 : Int) : Option (Int) :=
 lK (ann 58 12) 1 E58 C58 n 1 58 Tryz.f58 [1, 1, 1, 1, 1, 0, 1, 0, 0] [1, 1, 1, 1, 1, 0, 1, 0] m5 (f58.h2 x r1 r2 r3 r4 y5) (un TT Tryz.f58 (zq [(false, .int .i64)]))
def f58.s1 (n : Nat) (x : zi) (r1 : Bool) (r2 : Int) (r3 : Bool) (r4 : Bool) (y5 : Int) (S9 : Int → Option (Int)) (y9 : Int) : Option (Int) :=
 bif decide (y9 < (x.2.2.2.2.length : Int)) then
 bif decide (0 ≤ y9) && decide (y9 < (x.2.2.2.2.length : Int)) then
 (F86 (x.2.2.2.2.getD y9.toNat tRef.dflt).2).bind fun r10 =>
 bif !r10 then
 some (30 : Int)
 else
 (F88 (x, (x.2.2.2.2.getD y9.toNat tRef.dflt).1)).bind fun r11 =>
 bif !r11 then
 some (33 : Int)
 else
 S9 (IntKind.wrap .i64 (y9 + (1 : Int)))
 else
 (none)
 else
 some (0 : Int)
theorem f58.l1 (n : Nat) (x : zi) (r1 : Bool) (r2 : Int) (r3 : Bool) (r4 : Bool) (y5 : Int) : ∀ (m : Nat) (y9 : Int), f58.L1 n x r1 r2 r3 r4 y5 m y9 = zY (f58.s1 n x r1 r2 r3 r4 y5) m y9 :=
 zM (fun _ => rfl) fun m y => by kernel_rfl
def f58.s2 (n : Nat) (x : zi) (r1 : Bool) (r2 : Int) (r3 : Bool) (r4 : Bool) (S5 : Int → Option (Int)) (y5 : Int) : Option (Int) :=
 bif decide (y5 < (x.2.2.2.1.length : Int)) then
 bif decide (0 ≤ y5) && decide (y5 < (x.2.2.2.1.length : Int)) then
 bif decide (0 ≤ y5) && decide (y5 ≤ (x.2.2.2.1.length : Int)) then
 (F91 (List.take y5.toNat x.2.2.2.1, x.2.2.2.1.getD y5.toNat tIndex.dflt)).bind fun r6 =>
 (F86 (x.2.2.2.1.getD y5.toNat tIndex.dflt).1).bind fun r7 =>
 bif !r7 then
 some (30 : Int)
 else
 bif r6 then
 some (31 : Int)
 else
 (F88 (x, (x.2.2.2.1.getD y5.toNat tIndex.dflt).2.1)).bind fun r8 =>
 bif !r8 then
 some (33 : Int)
 else
 S5 (IntKind.wrap .i64 (y5 + (1 : Int)))
 else
 (none)
 else
 (none)
 else
 zY (f58.s1 n x r1 r2 r3 r4 y5) n (0 : Int)
theorem f58.k2 (n : Nat) (x : zi) (r1 : Bool) (r2 : Int) (r3 : Bool) (r4 : Bool) (m : Nat) (y : Int) : f58.L2 n x r1 r2 r3 r4 (m + 1) y = f58.s2 n x r1 r2 r3 r4 (f58.L2 n x r1 r2 r3 r4 m) y := by
 simp only [f58.s2, ← f58.l1]
 kernel_rfl
theorem f58.l2 (n : Nat) (x : zi) (r1 : Bool) (r2 : Int) (r3 : Bool) (r4 : Bool) : ∀ (m : Nat) (y5 : Int), f58.L2 n x r1 r2 r3 r4 m y5 = zY (f58.s2 n x r1 r2 r3 r4) m y5 :=
 zM (L := f58.L2 n x r1 r2 r3 r4) (step := f58.s2 n x r1 r2 r3 r4) (fun _ => rfl) (f58.k2 n x r1 r2 r3 r4)
def f58.g (n : Nat) (x : zi) : Option (Int) :=
 (F86 x.1).bind fun r1 =>
 bif !r1 then
 some (30 : Int)
 else
 bif bif (bif (bif (decide ((x.2.1.length : Int) < (1 : Int))) then true else (decide ((x.2.1.length : Int) > (64 : Int)))) then true else (decide ((x.2.2.2.1.length : Int) > (16 : Int)))) then true else (decide ((x.2.2.2.2.length : Int) > (16 : Int))) then
 some (2 : Int)
 else
 (F87 x).bind fun r2 =>
 bif r2 != (0 : Int) then
 some r2
 else
 (F88 (x, x.2.2.1)).bind fun r3 =>
 bif !r3 then
 some (33 : Int)
 else
 (Rg (x.2.2.1, x)).bind fun r4 =>
 bif r4 then
 some (33 : Int)
 else
 zY (f58.s2 n x r1 r2 r3 r4) n (0 : Int)
theorem f58.eq (n : Nat) (x : zi) : rK E58 C58 n 1 58 (zu [(true, tTable)] x) (zq [(false, .int .i64)]) = f58.g n x := by
 simp only [f58.g, ← f58.l1, ← f58.l2]
 kernel_rfl
theorem f58.codes : CdO E58 C58 := zm (aC Tryz.func58 aN) (by kernel_rfl)
theorem f58.ok (h : Run F58 f58.g) (e86 : CO 86 iF) (e87 : CO 87 SS) (e88 : CO 88 U7) (e89 : CO 89 cY) (e91 : CO 91 U5) : CO 58 (zk [(true, tTable)] [(false, .int .i64)] true F58) :=
 zn zE zD (zf e91 (zf e89 (zf e88 (zf e87 (zf e86 zj))))) f58.codes (fun _ => Nw.1 rfl) (h.go f58.eq)
def iP : Con := zk [(true, tTable)] [(false, .int .i64)] true F58
abbrev f221.A0 : Sig := [(false, .int .i64), (false, .int .i64)]
abbrev f221.A1 : Sig := [(true, tTable), (false, .str)]
def OI : FuncId → Option Con := (zN 171 lY yc)
noncomputable def Nc : List (FuncId × Func) := [(221, Tryz.f221)]
def f221.g (n : Nat) (x : zi × ByteArray) : Option (Int × Int) :=
 (d3 (x.1.2.1, x.2)).bind fun r1 =>
 bif decide (r1 < (0 : Int)) then
 some ((0 : Int), (5 : Int))
 else
 some (r1, (0 : Int))
theorem f221.eq (n : Nat) (x : zi × ByteArray) : rK OI Nc n 1 221 (zu f221.A1 x) (zq f221.A0) = f221.g n x := by
 kernel_rfl
theorem f221.codes : CdO OI Nc := zm (aC Tryz.func221 aN) (by kernel_rfl)
theorem f221.ok (h : Run Q8 f221.g) (e171 : CO 171 lY) : CO 221 (zk f221.A1 f221.A0 true Q8) :=
 zn zE zD (zf e171 zj) f221.codes (fun _ => Nw.1 rfl) (h.go f221.eq)
def aU : Con := zk f221.A1 f221.A0 true Q8
abbrev f61.Z0 : Type := zi × (List zc)
abbrev f61.A1 : Sig := [(true, tTable), (false, .sl tValue)]
def E61 : FuncId → Option Con := (zN 75 rX (zN 58 iP yc))
noncomputable def C61 : List (FuncId × Func) := [(61, Tryz.f61)]
def f61.h1 (x : f61.Z0) (r1 : Int) (y2 : Int) : List AV × List Ob := ([.undef, vv [.sc (.sl tValue) x.2]] ++ uN 20 ([vv [.sc (.sl tColumn) x.1.2.1], vv [cI (x.1.2.1.length : Int)], vv [cI y2]] ++ uN 39 []), [.box [cT x.1.1, .sc (.sl tColumn) x.1.2.1, .sc (.sl (.int .i64)) x.1.2.2.1, .sc (.sl tIndex) x.1.2.2.2.1, .sc (.sl tRef) x.1.2.2.2.2]])
def f61.L1 (n : Nat) (x : f61.Z0) (r1 : Int) (m2 : Nat) (y2 : Int) : Option (Int) :=
 lK (ann 61 7) 1 E61 C61 n 1 61 Tryz.f61 [1, 1, 1, 0, 1, 0, 0] [1, 1, 1, 0, 1, 0] m2 (f61.h1 x r1 y2) (un TT Tryz.f61 (zq [(false, .int .i64)]))
def f61.s1 (n : Nat) (x : f61.Z0) (r1 : Int) (S2 : Int → Option (Int)) (y2 : Int) : Option (Int) :=
 bif decide (y2 < (x.1.2.1.length : Int)) then
 bif decide (0 ≤ y2) && decide (y2 < (x.1.2.1.length : Int)) then
 bif decide (0 ≤ y2) && decide (y2 < (x.2.length : Int)) then
 (F75 (x.2.getD y2.toNat tValue.dflt)).bind fun r3 =>
 bif r3 != (0 : Int) then
 some r3
 else
 bif decide (0 ≤ y2) && decide (y2 < (x.2.length : Int)) then
 bif bif ((x.2.getD y2.toNat tValue.dflt).1 == (0 : Int)) then (!(x.1.2.1.getD y2.toNat tColumn.dflt).2.2.1) else false then
 some (35 : Int)
 else
 bif !((x.2.getD y2.toNat tValue.dflt).1 == (0 : Int)) then
 bif decide (0 ≤ y2) && decide (y2 < (x.2.length : Int)) then
 bif (x.2.getD y2.toNat tValue.dflt).1 != (x.1.2.1.getD y2.toNat tColumn.dflt).2.1 then
 some (32 : Int)
 else
 S2 (IntKind.wrap .i64 (y2 + (1 : Int)))
 else
 (none)
 else
 S2 (IntKind.wrap .i64 (y2 + (1 : Int)))
 else
 (none)
 else
 (none)
 else
 (none)
 else
 some (0 : Int)
theorem f61.l1 (n : Nat) (x : f61.Z0) (r1 : Int) : ∀ (m : Nat) (y2 : Int), f61.L1 n x r1 m y2 = zY (f61.s1 n x r1) m y2 :=
 zM (fun _ => rfl) fun m y => by kernel_rfl
def f61.g (n : Nat) (x : f61.Z0) : Option (Int) :=
 (F58 x.1).bind fun r1 =>
 bif r1 != (0 : Int) then
 some r1
 else
 bif (x.2.length : Int) != (x.1.2.1.length : Int) then
 some (1 : Int)
 else
 zY (f61.s1 n x r1) n (0 : Int)
theorem f61.eq (n : Nat) (x : f61.Z0) : rK E61 C61 n 1 61 (zu f61.A1 x) (zq [(false, .int .i64)]) = f61.g n x := by
 simp only [f61.g, ← f61.l1]
 kernel_rfl
theorem f61.codes : CdO E61 C61 := zm (aC Tryz.func61 aN) (by kernel_rfl)
theorem f61.ok (h : Run F61 f61.g) (e58 : CO 58 iP) (e75 : CO 75 rX) : CO 61 (zk f61.A1 [(false, .int .i64)] true F61) :=
 zn zE zD (zf e75 (zf e58 zj)) f61.codes (fun _ => Nw.1 rfl) (h.go f61.eq)
def TM : Con := zk f61.A1 [(false, .int .i64)] true F61
end
end Go.Proofs.YtefddghdaimklaaGreatDoor.AI
