/- A part of the proof. -/
import Derived.Test.YtefddghdaimklaaGreatDoorBv
set_option linter.unusedVariables false
set_option linter.unusedSimpArgs false
set_option linter.unusedSectionVars false
set_option maxRecDepth 100000
namespace Go.Proofs.YtefddghdaimklaaGreatDoor.AI
open Go
noncomputable section
set_option maxRecDepth 100000
abbrev f108.A0 : Sig := [(false, .str), (true, tValue), (true, tValue)]
abbrev f108.A1 : Sig := [(true, tValue), (false, .int .i64)]
def Ov : FuncId → Option Con := (zN 163 oc (zN 159 ZH (zN 156 js yc)))
noncomputable def OC : List (FuncId × Func) := [(108, Tryz.f108), (119, Tryz.f119), (123, Tryz.f123), (155, Tryz.f155), (158, Tryz.f158), (176, Tryz.f176), (177, Tryz.f177), (178, Tryz.f178), (179, Tryz.f179), (180, Tryz.f180), (181, Tryz.f181), (182, Tryz.f182), (183, Tryz.f183), (184, Tryz.f184)]
def f108.g (n : Nat) (x : ByteArray × zc × zc) : Option (zc × Int) :=
 bif zd x.1 (⟨#[43]⟩ : BA) then
 bif bif (x.2.1.1 == (2 : Int)) then (x.2.2.1 == (2 : Int)) else false then
 bif (decide (IntKind.wrap .i64 (x.2.1.2.1 + x.2.2.2.1) > x.2.1.2.1)) == (decide (x.2.2.2.1 > (0 : Int))) then
 (kQ (IntKind.wrap .i64 (x.2.1.2.1 + x.2.2.2.1))).bind fun r1 =>
 some (r1, (0 : Int))
 else
 some (zeroV, (152 : Int))
 else
 (nI x.2.1).bind fun r2 =>
 (nI x.2.2).bind fun r3 =>
 VF (FloatKind.f64.format.add r2 r3) (fun r4 =>
 bif FloatKind.f64.format.order r4 r4 != some .eq then
 bif FloatKind.f64.format.order r4 0 == some .eq then
 bif FloatKind.f64.format.order 0 0 != some .eq then
 (qN (9221120237041090560 : Int)).bind fun r5 =>
 some (((3 : Int), ((0 : Int), (r5, (⟨#[]⟩ : BA)))), (0 : Int))
 else
 some (((3 : Int), ((0 : Int), (0, (⟨#[]⟩ : BA)))), (0 : Int))
 else
 bif FloatKind.f64.format.order r4 r4 != some .eq then
 (qN (9221120237041090560 : Int)).bind fun r6 =>
 some (((3 : Int), ((0 : Int), (r6, (⟨#[]⟩ : BA)))), (0 : Int))
 else
 some (((3 : Int), ((0 : Int), (r4, (⟨#[]⟩ : BA)))), (0 : Int))
 else
 some (((3 : Int), ((0 : Int), (r4, (⟨#[]⟩ : BA)))), (0 : Int)))
 ((qN (9221120237041090560 : Int)).bind fun r7 =>
 some (((3 : Int), ((0 : Int), (r7, (⟨#[]⟩ : BA)))), (0 : Int)))
 else
 bif zd x.1 (⟨#[45]⟩ : BA) then
 bif bif (x.2.1.1 == (2 : Int)) then (x.2.2.1 == (2 : Int)) else false then
 bif (decide (IntKind.wrap .i64 (x.2.1.2.1 - x.2.2.2.1) < x.2.1.2.1)) == (decide (x.2.2.2.1 > (0 : Int))) then
 (kQ (IntKind.wrap .i64 (x.2.1.2.1 - x.2.2.2.1))).bind fun r8 =>
 some (r8, (0 : Int))
 else
 some (zeroV, (152 : Int))
 else
 (nI x.2.1).bind fun r9 =>
 (nI x.2.2).bind fun r10 =>
 VF (FloatKind.f64.format.sub r9 r10) (fun r11 =>
 bif FloatKind.f64.format.order r11 r11 != some .eq then
 bif FloatKind.f64.format.order r11 0 == some .eq then
 bif FloatKind.f64.format.order 0 0 != some .eq then
 (qN (9221120237041090560 : Int)).bind fun r12 =>
 some (((3 : Int), ((0 : Int), (r12, (⟨#[]⟩ : BA)))), (0 : Int))
 else
 some (((3 : Int), ((0 : Int), (0, (⟨#[]⟩ : BA)))), (0 : Int))
 else
 bif FloatKind.f64.format.order r11 r11 != some .eq then
 (qN (9221120237041090560 : Int)).bind fun r13 =>
 some (((3 : Int), ((0 : Int), (r13, (⟨#[]⟩ : BA)))), (0 : Int))
 else
 some (((3 : Int), ((0 : Int), (r11, (⟨#[]⟩ : BA)))), (0 : Int))
 else
 some (((3 : Int), ((0 : Int), (r11, (⟨#[]⟩ : BA)))), (0 : Int)))
 ((qN (9221120237041090560 : Int)).bind fun r14 =>
 some (((3 : Int), ((0 : Int), (r14, (⟨#[]⟩ : BA)))), (0 : Int)))
 else
 bif zd x.1 (⟨#[42]⟩ : BA) then
 bif bif (x.2.1.1 == (2 : Int)) then (x.2.2.1 == (2 : Int)) else false then
 bif bif (x.2.1.2.1 == (0 : Int)) then true else (x.2.2.2.1 == (0 : Int)) then
 (kQ (0 : Int)).bind fun r15 =>
 some (r15, (0 : Int))
 else
 bif x.2.2.2.1 == (0 : Int) then
 (none)
 else
 bif bif (bif (IntKind.wrap .i64 (Int.tdiv (IntKind.wrap .i64 (x.2.1.2.1 * x.2.2.2.1)) x.2.2.2.1) != x.2.1.2.1) then true else (bif (x.2.1.2.1 == (-9223372036854775808 : Int)) then (x.2.2.2.1 == (-1 : Int)) else false)) then true else (bif (x.2.2.2.1 == (-9223372036854775808 : Int)) then (x.2.1.2.1 == (-1 : Int)) else false) then
 some (zeroV, (152 : Int))
 else
 (kQ (IntKind.wrap .i64 (x.2.1.2.1 * x.2.2.2.1))).bind fun r16 =>
 some (r16, (0 : Int))
 else
 (nI x.2.1).bind fun r17 =>
 (nI x.2.2).bind fun r18 =>
 VF (FloatKind.f64.format.mul r17 r18) (fun r19 =>
 bif FloatKind.f64.format.order r19 r19 != some .eq then
 bif FloatKind.f64.format.order r19 0 == some .eq then
 bif FloatKind.f64.format.order 0 0 != some .eq then
 (qN (9221120237041090560 : Int)).bind fun r20 =>
 some (((3 : Int), ((0 : Int), (r20, (⟨#[]⟩ : BA)))), (0 : Int))
 else
 some (((3 : Int), ((0 : Int), (0, (⟨#[]⟩ : BA)))), (0 : Int))
 else
 bif FloatKind.f64.format.order r19 r19 != some .eq then
 (qN (9221120237041090560 : Int)).bind fun r21 =>
 some (((3 : Int), ((0 : Int), (r21, (⟨#[]⟩ : BA)))), (0 : Int))
 else
 some (((3 : Int), ((0 : Int), (r19, (⟨#[]⟩ : BA)))), (0 : Int))
 else
 some (((3 : Int), ((0 : Int), (r19, (⟨#[]⟩ : BA)))), (0 : Int)))
 ((qN (9221120237041090560 : Int)).bind fun r22 =>
 some (((3 : Int), ((0 : Int), (r22, (⟨#[]⟩ : BA)))), (0 : Int)))
 else
 bif zd x.1 (⟨#[47]⟩ : BA) then
 bif bif (x.2.1.1 == (2 : Int)) then (x.2.2.1 == (2 : Int)) else false then
 bif x.2.2.2.1 == (0 : Int) then
 some (zeroV, (153 : Int))
 else
 bif bif (x.2.1.2.1 == (-9223372036854775808 : Int)) then (x.2.2.2.1 == (-1 : Int)) else false then
 some (zeroV, (152 : Int))
 else
 bif x.2.2.2.1 == (0 : Int) then
 (none)
 else
 (kQ (IntKind.wrap .i64 (Int.tdiv x.2.1.2.1 x.2.2.2.1))).bind fun r23 =>
 some (r23, (0 : Int))
 else
 (nI x.2.1).bind fun r24 =>
 (nI x.2.2).bind fun r25 =>
 VF (FloatKind.f64.format.div r24 r25) (fun r26 =>
 bif FloatKind.f64.format.order r26 r26 != some .eq then
 bif FloatKind.f64.format.order r26 0 == some .eq then
 bif FloatKind.f64.format.order 0 0 != some .eq then
 (qN (9221120237041090560 : Int)).bind fun r27 =>
 some (((3 : Int), ((0 : Int), (r27, (⟨#[]⟩ : BA)))), (0 : Int))
 else
 some (((3 : Int), ((0 : Int), (0, (⟨#[]⟩ : BA)))), (0 : Int))
 else
 bif FloatKind.f64.format.order r26 r26 != some .eq then
 (qN (9221120237041090560 : Int)).bind fun r28 =>
 some (((3 : Int), ((0 : Int), (r28, (⟨#[]⟩ : BA)))), (0 : Int))
 else
 some (((3 : Int), ((0 : Int), (r26, (⟨#[]⟩ : BA)))), (0 : Int))
 else
 some (((3 : Int), ((0 : Int), (r26, (⟨#[]⟩ : BA)))), (0 : Int)))
 ((qN (9221120237041090560 : Int)).bind fun r29 =>
 some (((3 : Int), ((0 : Int), (r29, (⟨#[]⟩ : BA)))), (0 : Int)))
 else
 bif zd x.1 (⟨#[37]⟩ : BA) then
 bif bif (x.2.1.1 == (2 : Int)) then (x.2.2.1 == (2 : Int)) else false then
 bif x.2.2.2.1 == (0 : Int) then
 some (zeroV, (153 : Int))
 else
 bif x.2.2.2.1 == (-1 : Int) then
 (kQ (0 : Int)).bind fun r30 =>
 some (r30, (0 : Int))
 else
 bif x.2.2.2.1 == (0 : Int) then
 (none)
 else
 (kQ (Int.tmod x.2.1.2.1 x.2.2.2.1)).bind fun r31 =>
 some (r31, (0 : Int))
 else
 (nI x.2.1).bind fun r32 =>
 (nI x.2.2).bind fun r33 =>
 none
 else
 bif bif (x.2.1.1 == (2 : Int)) then (x.2.2.1 == (2 : Int)) else false then
 (none)
 else
 (nI x.2.1).bind fun r34 =>
 (nI x.2.2).bind fun r35 =>
 none
theorem f108.eq (n : Nat) (x : ByteArray × zc × zc) : rK Ov OC n 14 108 (zu f108.A0 x) (zq f108.A1) = f108.g n x := by
 kernel_rfl
theorem f108.codes : CdO Ov OC := zm (aC Tryz.func108 (aC Tryz.func119 (aC Tryz.func123 (aC Tryz.func155 (aC Tryz.func158 (aC Tryz.func176 (aC Tryz.func177 (aC Tryz.func178 (aC Tryz.func179 (aC Tryz.func180 (aC Tryz.func181 (aC Tryz.func182 (aC Tryz.func183 (aC Tryz.func184 aN)))))))))))))) (by kernel_rfl)
theorem f108.ok (h : Run Re f108.g) (e156 : CO 156 js) (e159 : CO 159 ZH) (e163 : CO 163 oc) : CO 108 (zk f108.A0 f108.A1 true Re) :=
 zn zE zD (zf e163 (zf e159 (zf e156 zj))) f108.codes (fun _ => Nw.1 rfl) (h.go f108.eq)
def Z8 : Con := zk f108.A0 f108.A1 true Re
abbrev f106.A0 : Sig := [(false, .str), (false, .int .i64)]
def OY : FuncId → Option Con := yc
noncomputable def ON : List (FuncId × Func) := [(106, Tryz.f106)]
def f106.g (n : Nat) (x : ByteArray × Int) : Option (Bool) :=
 bif zd x.1 (⟨#[61]⟩ : BA) then
 some (x.2 == (0 : Int))
 else
 bif zd x.1 (⟨#[60, 62]⟩ : BA) then
 some (x.2 != (0 : Int))
 else
 bif zd x.1 (⟨#[60]⟩ : BA) then
 some (decide (x.2 < (0 : Int)))
 else
 bif zd x.1 (⟨#[60, 61]⟩ : BA) then
 some (decide (x.2 ≤ (0 : Int)))
 else
 bif zd x.1 (⟨#[62]⟩ : BA) then
 some (decide (x.2 > (0 : Int)))
 else
 some (decide (x.2 ≥ (0 : Int)))
theorem f106.eq (n : Nat) (x : ByteArray × Int) : rK OY ON n 1 106 (zu f106.A0 x) (zq [(false, .bool)]) = f106.g n x := by
 kernel_rfl
theorem f106.codes : CdO OY ON := zm (aC Tryz.func106 aN) (by kernel_rfl)
theorem f106.ok (h : Run Rz f106.g)  : CO 106 (zk f106.A0 [(false, .bool)] true Rz) :=
 zn zE zD zj f106.codes (fun _ => Nw.1 rfl) (h.go f106.eq)
def cP : Con := zk f106.A0 [(false, .bool)] true Rz
abbrev f107.A0 : Sig := [(true, tValue), (true, tValue)]
def Ok : FuncId → Option Con := (zN 157 aZ (zN 45 ZC yc))
noncomputable def O8 : List (FuncId × Func) := [(107, Tryz.f107)]
def f107.g (n : Nat) (x : zc × zc) : Option (Int) :=
 (Qr x).bind fun r1 =>
 bif r1.2 then
 some r1.1
 else
 (F45 x).bind fun r2 =>
 some r2
theorem f107.eq (n : Nat) (x : zc × zc) : rK Ok O8 n 1 107 (zu f107.A0 x) (zq [(false, .int .i64)]) = f107.g n x := by
 kernel_rfl
theorem f107.codes : CdO Ok O8 := zm (aC Tryz.func107 aN) (by kernel_rfl)
theorem f107.ok (h : Run SO f107.g) (e45 : CO 45 ZC) (e157 : CO 157 aZ) : CO 107 (zk f107.A0 [(false, .int .i64)] true SO) :=
 zn zE zD (zf e157 (zf e45 zj)) f107.codes (fun _ => Nw.1 rfl) (h.go f107.eq)
def ZM : Con := zk f107.A0 [(false, .int .i64)] true SO
abbrev f102.A0 : Sig := [(true, tValue), (false, .int .i64)]
abbrev f102.A1 : Sig := [(false, .str), (true, tValue)]
def Nk : FuncId → Option Con := (zN 163 oc (zN 156 js (zN 154 kh (zN 105 kT (zN 103 kr yc)))))
noncomputable def Om : List (FuncId × Func) := [(102, Tryz.f102), (119, Tryz.f119), (123, Tryz.f123), (155, Tryz.f155)]
def f102.g (n : Nat) (x : ByteArray × zc) : Option (zc × Int) :=
 bif zd x.1 (⟨#[105, 115, 32, 110, 117, 108, 108]⟩ : BA) then
 (lX x.2).bind fun r1 =>
 (cj r1).bind fun r2 =>
 some (r2, (0 : Int))
 else
 bif zd x.1 (⟨#[105, 115, 32, 110, 111, 116, 32, 110, 117, 108, 108]⟩ : BA) then
 (lX x.2).bind fun r3 =>
 (cj (!r3)).bind fun r4 =>
 some (r4, (0 : Int))
 else
 (lX x.2).bind fun r5 =>
 bif r5 then
 some (zeroV, (0 : Int))
 else
 bif zd x.1 (⟨#[110, 111, 116]⟩ : BA) then
 (Vo x.2).bind fun r6 =>
 (cj r6).bind fun r7 =>
 some (r7, (0 : Int))
 else
 bif x.2.1 == (3 : Int) then
 bif FloatKind.f64.format.order (Op.negFloat .f64 x.2.2.2.1) (Op.negFloat .f64 x.2.2.2.1) != some .eq then
 bif FloatKind.f64.format.order (Op.negFloat .f64 x.2.2.2.1) 0 == some .eq then
 bif FloatKind.f64.format.order 0 0 != some .eq then
 (qN (9221120237041090560 : Int)).bind fun r8 =>
 some (((3 : Int), ((0 : Int), (r8, (⟨#[]⟩ : BA)))), (0 : Int))
 else
 some (((3 : Int), ((0 : Int), (0, (⟨#[]⟩ : BA)))), (0 : Int))
 else
 bif FloatKind.f64.format.order (Op.negFloat .f64 x.2.2.2.1) (Op.negFloat .f64 x.2.2.2.1) != some .eq then
 (qN (9221120237041090560 : Int)).bind fun r9 =>
 some (((3 : Int), ((0 : Int), (r9, (⟨#[]⟩ : BA)))), (0 : Int))
 else
 some (((3 : Int), ((0 : Int), (Op.negFloat .f64 x.2.2.2.1, (⟨#[]⟩ : BA)))), (0 : Int))
 else
 some (((3 : Int), ((0 : Int), (Op.negFloat .f64 x.2.2.2.1, (⟨#[]⟩ : BA)))), (0 : Int))
 else
 bif x.2.2.1 == (-9223372036854775808 : Int) then
 some (zeroV, (152 : Int))
 else
 (kQ (IntKind.wrap .i64 (0 - x.2.2.1))).bind fun r10 =>
 some (r10, (0 : Int))
theorem f102.eq (n : Nat) (x : ByteArray × zc) : rK Nk Om n 4 102 (zu f102.A1 x) (zq f102.A0) = f102.g n x := by
 kernel_rfl
theorem f102.codes : CdO Nk Om := zm (aC Tryz.func102 (aC Tryz.func119 (aC Tryz.func123 (aC Tryz.func155 aN)))) (by kernel_rfl)
theorem f102.ok (h : Run S7 f102.g) (e103 : CO 103 kr) (e105 : CO 105 kT) (e154 : CO 154 kh) (e156 : CO 156 js) (e163 : CO 163 oc) : CO 102 (zk f102.A1 f102.A0 true S7) :=
 zn zE zD (zf e163 (zf e156 (zf e154 (zf e105 (zf e103 zj))))) f102.codes (fun _ => Nw.1 rfl) (h.go f102.eq)
def aQ : Con := zk f102.A1 f102.A0 true S7
abbrev f62.Z0 : Type := zg × (List zc)
abbrev f62.Y1 : Type := zc × Int
abbrev f62.A2 : Sig := [(true, tExpr), (false, .sl tValue)]
abbrev f62.A3 : Sig := [(true, tValue), (false, .int .i64)]
class Rec62 where
 F : (zg × (List zc)) → Option f62.Y1
section
variable [Rec62]
def VR : Con := zk f62.A2 f62.A3 true Rec62.F
def E62 : FuncId → Option Con := (zN 154 kh (zN 108 Z8 (zN 107 ZM (zN 106 cP (zN 105 kT (zN 104 tX (zN 103 kr (zN 102 aQ (zN 62 VR (zN 36 bo yc))))))))))
noncomputable def C62 : List (FuncId × Func) := [(62, Tryz.f62), (100, Tryz.f100), (101, Tryz.f101)]
def f62.h1 (x : f62.Z0) (r1 : zc × Int) (r2 : Bool) (y3 : Bool × Int) : List AV × List Ob := ([.undef, vv [.sc (.sl tValue) x.2], .undef, .undef, vv [.ptr 3 0], .undef, vv [.ptr 4 0], .undef, vv [cB y3.1]] ++ uN 21 ([vv [.sc (.sl tExpr) (List.drop 1 x.1.kids)], vv [cI ((List.drop 1 x.1.kids).length : Int)], vv [cI y3.2]] ++ uN 31 []), [.box [cI x.1.lab.1, cT x.1.lab.2.1, cI x.1.lab.2.2.1, cI x.1.lab.2.2.2.1, cI x.1.lab.2.2.2.2.1, .sc (.float .f64) x.1.lab.2.2.2.2.2.1, cT x.1.lab.2.2.2.2.2.2, .sc (.sl tExpr) x.1.kids], .box [cI (0 : Int), cI (0 : Int), .sc (.float .f64) 0, cT (⟨#[]⟩ : BA)], .box [cI x.1.lab.1, cT x.1.lab.2.1, cI x.1.lab.2.2.1, cI x.1.lab.2.2.2.1, cI x.1.lab.2.2.2.2.1, .sc (.float .f64) x.1.lab.2.2.2.2.2.1, cT x.1.lab.2.2.2.2.2.2, .sc (.sl tExpr) x.1.kids], .box [cI (0 : Int), cI (0 : Int), .sc (.float .f64) 0, cT (⟨#[]⟩ : BA)], .box [cI r1.1.1, cI r1.1.2.1, .sc (.float .f64) r1.1.2.2.1, cT r1.1.2.2.2]])
def f62.L1 (n : Nat) (x : f62.Z0) (r1 : zc × Int) (r2 : Bool) (m3 : Nat) (y3 : Bool × Int) : Option f62.Y1 :=
 tv (ann 100 6).keep 5 (fun fr H k => ye TT 2 E62 (xH TT E62 n ann (xW C62) 2) n (ann 100) (j1 [1, 1, 1, 1, 0, 1, 0, 0] (xw Tryz.f100)) fr H k) m3 (f62.h1 x r1 r2 y3).1 (f62.h1 x r1 r2 y3).2 (cp TT 2 E62 (xH TT E62 n ann (xW C62) 2) n (ann 100) [1, 1, 1, 1, 0, 1, 0] (xw Tryz.f100) (un TT Tryz.f100 (PO TT 0 E62 (xH TT E62 n ann (xW C62) 3) false (ann 62 6).plain (PL (j1 [1, 0, 0, 1, 1, 1, 1, 1, 0, 0] (xw Tryz.f62))) 2 ⟨[.val true [.sc (.int .i64) x.1.lab.1, .sc .str x.1.lab.2.1, .sc (.int .i64) x.1.lab.2.2.1, .sc (.int .i64) x.1.lab.2.2.2.1, .sc (.int .i64) x.1.lab.2.2.2.2.1, .sc (.float .f64) x.1.lab.2.2.2.2.2.1, .sc .str x.1.lab.2.2.2.2.2.2, .sc (.sl tExpr) x.1.kids], .val false [.sc (.sl tValue) x.2], .val false [.ptr 0 0], .undef, .val false [.ptr 1 0], .val false [.sc (.int .i64) (0 : Int)], .undef, .undef, .undef, .val false [.sc .bool (x.1.lab.1 == (1 : Int))], .val false [.ptr 0 0], .val false [.sc (.int .i64) x.1.lab.1], .val false [.sc .bool (x.1.lab.1 == (1 : Int))], .undef, .undef, .val false [.sc .bool (x.1.lab.1 == (2 : Int))], .val false [.ptr 0 0], .val false [.sc (.int .i64) x.1.lab.1], .val false [.sc .bool (x.1.lab.1 == (2 : Int))], .undef, .undef, .undef, .undef, .undef, .val false [.sc .bool (x.1.lab.1 == (5 : Int))], .val false [.ptr 0 0], .val false [.sc (.int .i64) x.1.lab.1], .val false [.sc .bool (x.1.lab.1 == (5 : Int))], .val true [.sc (.int .i64) x.1.lab.1, .sc .str x.1.lab.2.1, .sc (.int .i64) x.1.lab.2.2.1, .sc (.int .i64) x.1.lab.2.2.2.1, .sc (.int .i64) x.1.lab.2.2.2.2.1, .sc (.float .f64) x.1.lab.2.2.2.2.2.1, .sc .str x.1.lab.2.2.2.2.2.2, .sc (.sl tExpr) x.1.kids], .val false [.sc (.sl tValue) x.2]] ++ List.replicate 80 .undef, [], []⟩ (fun g H => sealK 0 (ann 62 6).plain (R6 g) H fun fr H => (cp TT 0 E62 (xH TT E62 n ann (xW C62) 3) n (ann 62) [1, 0, 0, 1, 1, 1, 1, 1, 0, 0] (xw Tryz.f62) (un TT Tryz.f62 (zq f62.A3))) .normal fr H))))
def f62.s1 (n : Nat) (x : f62.Z0) (r1 : zc × Int) (r2 : Bool) (S3 : (Bool × Int) → Option f62.Y1) (y3 : Bool × Int) : Option f62.Y1 :=
 bif decide (y3.2 < ((List.drop 1 x.1.kids).length : Int)) then
 bif decide (0 ≤ y3.2) && decide (y3.2 < ((List.drop 1 x.1.kids).length : Int)) then
 (Rec62.F ((Rose.node (((List.drop 1 x.1.kids).getD y3.2.toNat tExpr.dflt).lab) (((List.drop 1 x.1.kids).getD y3.2.toNat tExpr.dflt).kids)), x.2)).bind fun r4 =>
 bif r4.2 != (0 : Int) then
 some (zeroV, r4.2)
 else
 (lX r1.1).bind fun r5 =>
 bif r5 then
 S3 (true, IntKind.wrap .i64 (y3.2 + (1 : Int)))
 else
 (lX r4.1).bind fun r6 =>
 bif r6 then
 S3 (true, IntKind.wrap .i64 (y3.2 + (1 : Int)))
 else
 (SO (r1.1, r4.1)).bind fun r7 =>
 bif r7 == (0 : Int) then
 (cj true).bind fun r8 =>
 some (r8, (0 : Int))
 else
 S3 (y3.1, IntKind.wrap .i64 (y3.2 + (1 : Int)))
 else
 (none)
 else
 bif y3.1 then
 some (zeroV, (0 : Int))
 else
 (cj false).bind fun r9 =>
 some (r9, (0 : Int))
theorem f62.l1 (n : Nat) (x : f62.Z0) (r1 : zc × Int) (r2 : Bool) : ∀ (m : Nat) (y3 : Bool × Int), f62.L1 n x r1 r2 m y3 = zY (f62.s1 n x r1 r2) m y3 :=
 zM (fun _ => rfl) fun m y => by kernel_rfl
def f62.g (n : Nat) (x : f62.Z0) : Option f62.Y1 :=
 bif x.1.lab.1 == (1 : Int) then
 some (x.1.lab.2.2.2, (0 : Int))
 else
 bif x.1.lab.1 == (2 : Int) then
 bif decide (0 ≤ x.1.lab.2.2.1) && decide (x.1.lab.2.2.1 < (x.2.length : Int)) then
 some (x.2.getD x.1.lab.2.2.1.toNat tValue.dflt, (0 : Int))
 else
 (none)
 else
 bif x.1.lab.1 == (5 : Int) then
 bif decide (0 ≤ (0 : Int)) && decide ((0 : Int) < (x.1.kids.length : Int)) then
 (Rec62.F ((Rose.node ((x.1.kids.getD 0 tExpr.dflt).lab) ((x.1.kids.getD 0 tExpr.dflt).kids)), x.2)).bind fun r1 =>
 bif r1.2 != (0 : Int) then
 some (zeroV, r1.2)
 else
 (lX r1.1).bind fun r2 =>
 bif decide (0 ≤ (1 : Int)) && decide ((1 : Int) ≤ (x.1.kids.length : Int)) then
 zY (f62.s1 n x r1 r2) n (r2, (0 : Int))
 else
 (none)
 else
 (none)
 else
 bif bif (zd x.1.lab.2.1 (⟨#[97, 110, 100]⟩ : BA)) then true else (zd x.1.lab.2.1 (⟨#[111, 114]⟩ : BA)) then
 bif zd x.1.lab.2.1 (⟨#[111, 114]⟩ : BA) then
 bif decide (0 ≤ (0 : Int)) && decide ((0 : Int) < (x.1.kids.length : Int)) then
 (Rec62.F ((Rose.node ((x.1.kids.getD 0 tExpr.dflt).lab) ((x.1.kids.getD 0 tExpr.dflt).kids)), x.2)).bind fun r10 =>
 bif r10.2 != (0 : Int) then
 some r10
 else
 (F36 r10.1).bind fun r11 =>
 bif r11 then
 some r10
 else
 bif decide (0 ≤ (1 : Int)) && decide ((1 : Int) < (x.1.kids.length : Int)) then
 (Rec62.F ((Rose.node ((x.1.kids.getD 1 tExpr.dflt).lab) ((x.1.kids.getD 1 tExpr.dflt).kids)), x.2)).bind fun r12 =>
 bif r12.2 != (0 : Int) then
 some r12
 else
 (F36 r12.1).bind fun r13 =>
 bif r13 then
 some r12
 else
 (lX r10.1).bind fun r14 =>
 bif !r14 then
 some r12
 else
 some (zeroV, (0 : Int))
 else
 (none)
 else
 (none)
 else
 bif decide (0 ≤ (0 : Int)) && decide ((0 : Int) < (x.1.kids.length : Int)) then
 (Rec62.F ((Rose.node ((x.1.kids.getD 0 tExpr.dflt).lab) ((x.1.kids.getD 0 tExpr.dflt).kids)), x.2)).bind fun r15 =>
 bif r15.2 != (0 : Int) then
 some r15
 else
 (Vo r15.1).bind fun r16 =>
 bif r16 then
 some r15
 else
 bif decide (0 ≤ (1 : Int)) && decide ((1 : Int) < (x.1.kids.length : Int)) then
 (Rec62.F ((Rose.node ((x.1.kids.getD 1 tExpr.dflt).lab) ((x.1.kids.getD 1 tExpr.dflt).kids)), x.2)).bind fun r17 =>
 bif r17.2 != (0 : Int) then
 some r17
 else
 (Vo r17.1).bind fun r18 =>
 bif r18 then
 some r17
 else
 (lX r15.1).bind fun r19 =>
 bif !r19 then
 some r17
 else
 some (zeroV, (0 : Int))
 else
 (none)
 else
 (none)
 else
 bif decide (0 ≤ (0 : Int)) && decide ((0 : Int) < (x.1.kids.length : Int)) then
 (Rec62.F ((Rose.node ((x.1.kids.getD 0 tExpr.dflt).lab) ((x.1.kids.getD 0 tExpr.dflt).kids)), x.2)).bind fun r20 =>
 bif r20.2 != (0 : Int) then
 some (zeroV, r20.2)
 else
 bif x.1.lab.1 == (3 : Int) then
 (S7 (x.1.lab.2.1, r20.1)).bind fun r21 =>
 some r21
 else
 bif decide (0 ≤ (1 : Int)) && decide ((1 : Int) < (x.1.kids.length : Int)) then
 (Rec62.F ((Rose.node ((x.1.kids.getD 1 tExpr.dflt).lab) ((x.1.kids.getD 1 tExpr.dflt).kids)), x.2)).bind fun r22 =>
 bif r22.2 != (0 : Int) then
 some (zeroV, r22.2)
 else
 (lX r20.1).bind fun r23 =>
 bif r23 then
 some (zeroV, (0 : Int))
 else
 (lX r22.1).bind fun r24 =>
 bif r24 then
 some (zeroV, (0 : Int))
 else
 (cn (cpL, x.1.lab.2.1)).bind fun r25 =>
 bif r25 then
 (SO (r20.1, r22.1)).bind fun r26 =>
 (Rz (x.1.lab.2.1, r26)).bind fun r27 =>
 (cj r27).bind fun r28 =>
 some (r28, (0 : Int))
 else
 (Re (x.1.lab.2.1, (r20.1, r22.1))).bind fun r29 =>
 some r29
 else
 (none)
 else
 (none)
theorem f62.eq (n : Nat) (x : f62.Z0) : rK E62 C62 n 3 62 (zu f62.A2 x) (zq f62.A3) = f62.g n x := by
 simp only [f62.g, ← f62.l1]
 kernel_rfl
theorem f62.codes : CdO E62 C62 := zm (aC Tryz.func62 (aC Tryz.func100 (aC Tryz.func101 aN))) (by kernel_rfl)
theorem f62.ok (G : (zg × (List zc)) → Option f62.Y1) (h : Run G f62.g) (e36 : CO 36 bo) (e62 : CO 62 VR) (e102 : CO 102 aQ) (e103 : CO 103 kr) (e104 : CO 104 tX) (e105 : CO 105 kT) (e106 : CO 106 cP) (e107 : CO 107 ZM) (e108 : CO 108 Z8) (e154 : CO 154 kh) : CO 62 (zk f62.A2 f62.A3 true G) :=
 zn zE zD (zf e154 (zf e108 (zf e107 (zf e106 (zf e105 (zf e104 (zf e103 (zf e102 (zf e62 (zf e36 zj)))))))))) f62.codes (fun _ => Nw.1 rfl) (h.go f62.eq)
end
def Tn : Con := zk f62.A2 f62.A3 true F62
abbrev f35.A0 : Sig := [(true, tTable), (true, tExpr), (false, .sl tValue)]
abbrev f35.A1 : Sig := [(true, tValue), (false, .int .i64)]
def E35 : FuncId → Option Con := (zN 62 Tn (zN 61 TM (zN 40 iw yc)))
noncomputable def C35 : List (FuncId × Func) := [(35, Tryz.f35)]
def f35.g (n : Nat) (x : zi × zg × (List zc)) : Option (zc × Int) :=
 (F40 (x.1, (Rose.node x.2.1.lab x.2.1.kids))).bind fun r1 =>
 bif r1.2 != (0 : Int) then
 some (zeroV, r1.2)
 else
 (F61 (x.1, x.2.2)).bind fun r2 =>
 bif r2 != (0 : Int) then
 some (zeroV, r2)
 else
 (F62 ((Rose.node x.2.1.lab x.2.1.kids), x.2.2)).bind fun r3 =>
 bif r3.2 != (0 : Int) then
 some (zeroV, r3.2)
 else
 some (r3.1, (0 : Int))
theorem f35.eq (n : Nat) (x : zi × zg × (List zc)) : rK E35 C35 n 1 35 (zu f35.A0 x) (zq f35.A1) = f35.g n x := by
 kernel_rfl
theorem f35.codes : CdO E35 C35 := zm (aC Tryz.func35 aN) (by kernel_rfl)
theorem f35.ok (h : Run F35 f35.g) (e40 : CO 40 iw) (e61 : CO 61 TM) (e62 : CO 62 Tn) : CO 35 (zk f35.A0 f35.A1 true F35) :=
 zn zE zD (zf e62 (zf e61 (zf e40 zj))) f35.codes (fun _ => Nw.1 rfl) (h.go f35.eq)
def Ug : Con := zk f35.A0 f35.A1 true F35
abbrev f15.A0 : Sig := [(true, tTable), (true, tExpr)]
def E15 : FuncId → Option Con := (zN 41 ZN (zN 40 iw yc))
noncomputable def C15 : List (FuncId × Func) := [(15, Tryz.f15)]
def f15.g (n : Nat) (x : zi × zg) : Option (Int) :=
 (F40 (x.1, (Rose.node x.2.lab x.2.kids))).bind fun r1 =>
 bif r1.2 == (0 : Int) then
 (F41 r1.1).bind fun r2 =>
 bif !r2 then
 some (151 : Int)
 else
 some r1.2
 else
 some r1.2
theorem f15.eq (n : Nat) (x : zi × zg) : rK E15 C15 n 1 15 (zu f15.A0 x) (zq [(false, .int .i64)]) = f15.g n x := by
 kernel_rfl
theorem f15.codes : CdO E15 C15 := zm (aC Tryz.func15 aN) (by kernel_rfl)
theorem f15.ok (h : Run F15 f15.g) (e40 : CO 40 iw) (e41 : CO 41 ZN) : CO 15 (zk f15.A0 [(false, .int .i64)] true F15) :=
 zn zE zD (zf e41 (zf e40 zj)) f15.codes (fun _ => Nw.1 rfl) (h.go f15.eq)
def Zj : Con := zk f15.A0 [(false, .int .i64)] true F15
abbrev f11.A0 : Sig := [(true, tTable), (true, tExpr), (false, .sl tValue)]
abbrev f11.A1 : Sig := [(false, .bool), (false, .int .i64)]
def E11 : FuncId → Option Con := (zN 36 bo (zN 35 Ug (zN 15 Zj yc)))
noncomputable def C11 : List (FuncId × Func) := [(11, Tryz.f11)]
def f11.g (n : Nat) (x : zi × zg × (List zc)) : Option (Bool × Int) :=
 (F15 (x.1, (Rose.node x.2.1.lab x.2.1.kids))).bind fun r1 =>
 bif r1 != (0 : Int) then
 some (false, r1)
 else
 (F35 (x.1, ((Rose.node x.2.1.lab x.2.1.kids), x.2.2))).bind fun r2 =>
 (F36 r2.1).bind fun r3 =>
 some (r3, r2.2)
theorem f11.eq (n : Nat) (x : zi × zg × (List zc)) : rK E11 C11 n 1 11 (zu f11.A0 x) (zq f11.A1) = f11.g n x := by
 kernel_rfl
theorem f11.codes : CdO E11 C11 := zm (aC Tryz.func11 aN) (by kernel_rfl)
theorem f11.ok (h : Run F11 f11.g) (e15 : CO 15 Zj) (e35 : CO 35 Ug) (e36 : CO 36 bo) : CO 11 (zk f11.A0 f11.A1 true F11) :=
 zn zE zD (zf e36 (zf e35 (zf e15 zj))) f11.codes (fun _ => Nw.1 rfl) (h.go f11.eq)
def aa : Con := zk f11.A0 f11.A1 true F11
end
end Go.Proofs.YtefddghdaimklaaGreatDoor.AI
