/- A part of the proof. -/
import Derived.Test.YtefddghdaimklaaGreatDoorBy
set_option linter.unusedVariables false
set_option linter.unusedSimpArgs false
set_option linter.unusedSectionVars false
set_option maxRecDepth 100000
namespace Go.Proofs.YtefddghdaimklaaGreatDoor.AI
open Go
noncomputable section
set_option maxRecDepth 100000
abbrev f43.Z0 : Type := Nat × Int × (List (Int × (ByteArray × zc)))
abbrev f43.Z1 : Type := (List (List (Int × (ByteArray × zc))))
abbrev f43.Y2 : Type := (List (Int × (ByteArray × zc)))
abbrev f43.A3 : Sig := [(false, .sl (.sl (.pair (.int .i64) (.pair .str tValue))))]
abbrev f43.A4 : Sig := [(false, .sl (.pair (.int .i64) (.pair .str tValue)))]
def E43 : FuncId → Option Con := zU
noncomputable def C43 : List (FuncId × Func) := [(43, Tryz.f43), (70, Tryz.f70)]
def f43.h1 (x : f43.Z1) (y1 : Int × Int) (y2 : f43.Z0) : List AV × List Ob := (uN 6 ([vv [.own 0 y2.1]] ++ uN 18 ([vv [.sc (.sl (.sl (.pair (.int .i64) (.pair .str tValue)))) x], vv [cI (x.length : Int)], vv [cI y2.2.1]] ++ uN 8 [])), [.arr 58 (.pair (.int .i64) (.pair .str tValue)) y2.2.2])
def f43.h2 (x : f43.Z1) (y1 : Int × Int) (y3 : f43.Z0) : List AV × List Ob := (uN 6 ([vv [.own 0 y3.1]] ++ uN 18 ([vv [.sc (.sl (.sl (.pair (.int .i64) (.pair .str tValue)))) x], vv [cI (x.length : Int)], vv [cI y3.2.1]] ++ uN 8 [])), [.arr 58 (.pair (.int .i64) (.pair .str tValue)) y3.2.2])
def f43.h3 (x : f43.Z1) (y1 : Int × Int) : List AV × List Ob := ([vv [.sc (.sl (.sl (.pair (.int .i64) (.pair .str tValue)))) x], .undef, .undef, vv [cI y1.1]] ++ uN 5 ([vv [.sc (.sl (.sl (.pair (.int .i64) (.pair .str tValue)))) x], vv [cI (x.length : Int)], vv [cI y1.2]] ++ uN 24 []), [])
def f43.L1 (n : Nat) (x : f43.Z1) (y1 : Int × Int) (m2 : Nat) (y2 : f43.Z0) : Option f43.Y2 :=
 lK (ann 43 11) 1 E43 C43 n 2 43 Tryz.f43 [1, 1, 1, 1, 0, 1, 0, 0] [1, 1, 1, 1, 0, 1, 0] m2 (f43.h1 x y1 y2) (xa TT Tryz.f43 (zp f43.A4))
def f43.L2 (n : Nat) (x : f43.Z1) (y1 : Int × Int) (m3 : Nat) (y3 : f43.Z0) : Option f43.Y2 :=
 lK (ann 43 11) 1 E43 C43 n 2 43 Tryz.f43 [1, 1, 1, 1, 0, 1, 0, 0] [1, 1, 1, 1, 0, 1, 0] m3 (f43.h2 x y1 y3) (xa TT Tryz.f43 (zp f43.A4))
def f43.L3 (n : Nat) (x : f43.Z1) (m1 : Nat) (y1 : Int × Int) : Option f43.Y2 :=
 lK (ann 43 3) 0 E43 C43 n 2 43 Tryz.f43 [1, 1, 0, 1, 0, 0] [1, 1, 0, 1, 0] m1 (f43.h3 x y1) (xa TT Tryz.f43 (zp f43.A4))
def f43.s1 (n : Nat) (x : f43.Z1) (y1 : Int × Int) (S2 : (Nat × Int × (List (Int × (ByteArray × zc)))) → Option f43.Y2) (y2 : f43.Z0) : Option f43.Y2 :=
 bif decide (y2.2.1 < (x.length : Int)) then
 bif decide (0 ≤ y2.2.1) && decide (y2.2.1 < (x.length : Int)) then
 bif decide ((y2.1 + ((x.getD y2.2.1.toNat (Ty.dflt (.sl (.pair (.int .i64) (.pair .str tValue))))).length)) * 64 ≤ zq) then
 S2 (y2.1 + ((x.getD y2.2.1.toNat (Ty.dflt (.sl (.pair (.int .i64) (.pair .str tValue))))).length), (IntKind.wrap .i64 (y2.2.1 + (1 : Int)), List.take y2.1 y2.2.2 ++ (x.getD y2.2.1.toNat (Ty.dflt (.sl (.pair (.int .i64) (.pair .str tValue)))))))
 else
 (none)
 else
 (none)
 else
 some (List.take y2.1 y2.2.2)
theorem f43.l1 (n : Nat) (x : f43.Z1) (y1 : Int × Int) : ∀ (m : Nat) (y2 : f43.Z0), f43.L1 n x y1 m y2 = zF (f43.s1 n x y1) m y2 :=
 zw (fun _ => rfl) fun m y => by kernel_rfl
def f43.s2 (n : Nat) (x : f43.Z1) (y1 : Int × Int) (S3 : (Nat × Int × (List (Int × (ByteArray × zc)))) → Option f43.Y2) (y3 : f43.Z0) : Option f43.Y2 :=
 bif decide (y3.2.1 < (x.length : Int)) then
 bif decide (0 ≤ y3.2.1) && decide (y3.2.1 < (x.length : Int)) then
 bif decide ((y3.1 + ((x.getD y3.2.1.toNat (Ty.dflt (.sl (.pair (.int .i64) (.pair .str tValue))))).length)) * 64 ≤ zq) then
 S3 (y3.1 + ((x.getD y3.2.1.toNat (Ty.dflt (.sl (.pair (.int .i64) (.pair .str tValue))))).length), (IntKind.wrap .i64 (y3.2.1 + (1 : Int)), List.take y3.1 y3.2.2 ++ (x.getD y3.2.1.toNat (Ty.dflt (.sl (.pair (.int .i64) (.pair .str tValue)))))))
 else
 (none)
 else
 (none)
 else
 some (List.take y3.1 y3.2.2)
theorem f43.l2 (n : Nat) (x : f43.Z1) (y1 : Int × Int) : ∀ (m : Nat) (y3 : f43.Z0), f43.L2 n x y1 m y3 = zF (f43.s2 n x y1) m y3 :=
 zw (fun _ => rfl) fun m y => by kernel_rfl
def f43.s3 (n : Nat) (x : f43.Z1) (S1 : (Int × Int) → Option f43.Y2) (y1 : Int × Int) : Option f43.Y2 :=
 bif decide (y1.2 < (x.length : Int)) then
 bif decide (0 ≤ y1.2) && decide (y1.2 < (x.length : Int)) then
 bif decide (IntKind.wrap .i64 (y1.1 + ((x.getD y1.2.toNat (Ty.dflt (.sl (.pair (.int .i64) (.pair .str tValue))))).length : Int)) < (0 : Int)) then
 (none)
 else
 S1 (IntKind.wrap .i64 (y1.1 + ((x.getD y1.2.toNat (Ty.dflt (.sl (.pair (.int .i64) (.pair .str tValue))))).length : Int)), IntKind.wrap .i64 (y1.2 + (1 : Int)))
 else
 (none)
 else
 bif decide (y1.1 < (0 : Int)) then
 (none)
 else
 bif decide (IntKind.wrap .i64 (y1.1 - (0 : Int)) > (0 : Int)) then
 bif decide ((0 : Int) = 0) then
 bif (decide (0 < IntKind.wrap .i64 (y1.1 - (0 : Int))) && decide (0 < 6)) && (decide ((IntKind.wrap .i64 (y1.1 - (0 : Int))).toNat * 64 ≤ zq) && decide (0 < 64)) then
 bif decide (0 ≤ (0 : Int)) && decide ((0 : Int) ≤ (((IntKind.wrap .i64 (y1.1 - (0 : Int))).toNat : Nat) : Int)) then
 zF (f43.s1 n x y1) n (0, ((0 : Int), List.replicate ((IntKind.wrap .i64 (y1.1 - (0 : Int))).toNat) (Ty.dflt (.pair (.int .i64) (.pair .str tValue)))))
 else
 (none)
 else
 (none)
 else
 (none)
 else
 zF (f43.s2 n x y1) n (0, ((0 : Int), []))
theorem f43.k3 (n : Nat) (x : f43.Z1) (m : Nat) (y : Int × Int) : f43.L3 n x (m + 1) y = f43.s3 n x (f43.L3 n x m) y := by
 simp only [f43.s3, ← f43.l1, ← f43.l2]
 kernel_rfl
theorem f43.l3 (n : Nat) (x : f43.Z1) : ∀ (m : Nat) (y1 : Int × Int), f43.L3 n x m y1 = zF (f43.s3 n x) m y1 :=
 zw (L := f43.L3 n x) (step := f43.s3 n x) (fun _ => rfl) (f43.k3 n x)
def f43.g (n : Nat) (x : f43.Z1) : Option f43.Y2 :=
 zF (f43.s3 n x) n ((0 : Int), (0 : Int))
theorem f43.eq (n : Nat) (x : f43.Z1) : j2 TT E43 n ann (yk C43) 2 43 (zt f43.A3 x) [] (zp f43.A4) = f43.g n x := by
 simp only [f43.g, ← f43.l1, ← f43.l2, ← f43.l3]
 kernel_rfl
theorem f43.codes : CdO E43 C43 := zm (aC Tryz.func43 (aC Tryz.func70 aN)) (by kernel_rfl)
theorem f43.ok (h : Run F43 f43.g)  : CO 43 (zj f43.A3 f43.A4 false F43) :=
 zi zu zv zk f43.codes (fun h => by cases h) (h.go f43.eq)
def TU : Con := zj f43.A3 f43.A4 false F43
abbrev f17.Y0 : Type := (List (Int × (ByteArray × zc)))
abbrev f17.A1 : Sig := [(false, .sl (.pair (.int .i64) (.pair .str tValue)))]
abbrev f17.A2 : Sig := [(true, tTable), (true, tExpr)]
class Rec17 where
 F : (zg × zn) → Option f17.Y0
section
variable [Rec17]
def Ud : Con := zj f17.A2 f17.A1 false Rec17.F
def f17.alts : Nat → Option Alt := fun r => match r with
 | 6 => some (.node 10 11 (.leaf [0, 1, 2, 3, 4, 5, 6, 7, 8, 9, 10, 11, 12, 13, 14]) (.leaf [0, 1, 2, 3, 4, 5, 6, 7, 8, 9, 11, 10, 12, 13, 14]))
 | _ => none
def E17 : FuncId → Option Con := (zy 44 cN (zy 43 TU (zy 17 Ud zU)))
noncomputable def C17 : List (FuncId × Func) := []
def f17.g (n : Nat) (x : zg × zn) : Option f17.Y0 :=
 bif bif (x.2.lab.1 == (4 : Int)) then (zd x.2.lab.2.1 (⟨#[97, 110, 100]⟩ : BA)) else false then
 bif decide (0 ≤ (0 : Int)) && decide ((0 : Int) < (x.2.kids.length : Int)) then
 (Rec17.F (x.1, (Rose.node ((x.2.kids.getD 0 tExpr.dflt).lab) ((x.2.kids.getD 0 tExpr.dflt).kids)))).bind fun r1 =>
 bif decide (0 ≤ (1 : Int)) && decide ((1 : Int) < (x.2.kids.length : Int)) then
 (Rec17.F (x.1, (Rose.node ((x.2.kids.getD 1 tExpr.dflt).lab) ((x.2.kids.getD 1 tExpr.dflt).kids)))).bind fun r2 =>
 (F43 (List.take 2 ([r1, r2]))).bind fun r3 =>
 some r3
 else
 (none)
 else
 (none)
 else
 (F44 (cpL, x.2.lab.2.1)).bind fun r4 =>
 bif bif (bif (x.2.lab.1 != (4 : Int)) then true else (decide (r4 < (0 : Int)))) then true else (zd x.2.lab.2.1 (⟨#[60, 62]⟩ : BA)) then
 some ([])
 else
 bif decide (0 ≤ (0 : Int)) && decide ((0 : Int) < (x.2.kids.length : Int)) then
 bif decide (0 ≤ (1 : Int)) && decide ((1 : Int) < (x.2.kids.length : Int)) then
 bif ((x.2.kids.getD 0 tExpr.dflt).lab).1 == (1 : Int) then
 bif decide (0 ≤ r4) && decide (r4 < (tnL.length : Int)) then
 bif bif (((x.2.kids.getD 1 tExpr.dflt).lab).1 != (2 : Int)) then true else (((x.2.kids.getD 0 tExpr.dflt).lab).1 != (1 : Int)) then
 some ([])
 else
 bif decide (0 ≤ ((x.2.kids.getD 1 tExpr.dflt).lab).2.2.1) && decide (((x.2.kids.getD 1 tExpr.dflt).lab).2.2.1 < (x.1.2.1.length : Int)) then
 bif ((x.2.kids.getD 0 tExpr.dflt).lab).2.2.2.1 != (x.1.2.1.getD (((x.2.kids.getD 1 tExpr.dflt).lab).2.2.1.toNat) tColumn.dflt).2.1 then
 some ([])
 else
 some (List.take 1 ([(((x.2.kids.getD 1 tExpr.dflt).lab).2.2.1, (tnL.getD r4.toNat (Ty.dflt .str), ((x.2.kids.getD 0 tExpr.dflt).lab).2.2.2))]))
 else
 (none)
 else
 (none)
 else
 bif bif (((x.2.kids.getD 0 tExpr.dflt).lab).1 != (2 : Int)) then true else (((x.2.kids.getD 1 tExpr.dflt).lab).1 != (1 : Int)) then
 some ([])
 else
 bif decide (0 ≤ ((x.2.kids.getD 0 tExpr.dflt).lab).2.2.1) && decide (((x.2.kids.getD 0 tExpr.dflt).lab).2.2.1 < (x.1.2.1.length : Int)) then
 bif ((x.2.kids.getD 1 tExpr.dflt).lab).2.2.2.1 != (x.1.2.1.getD (((x.2.kids.getD 0 tExpr.dflt).lab).2.2.1.toNat) tColumn.dflt).2.1 then
 some ([])
 else
 some (List.take 1 ([(((x.2.kids.getD 0 tExpr.dflt).lab).2.2.1, (x.2.lab.2.1, ((x.2.kids.getD 1 tExpr.dflt).lab).2.2.2))]))
 else
 (none)
 else
 (none)
 else
 (none)
theorem f17.a0_0 (n : Nat) (x : zg × zn) : xm TT 0 E17 (yi TT E17 n ann (yk C17) 1) n ann f17.alts 17 Tryz.f17 [false] (zt f17.A2 x) [] (zp f17.A1) = f17.g n x := by kernel_rfl
theorem f17.a0_1 (n : Nat) (x : zg × zn) : xm TT 0 E17 (yi TT E17 n ann (yk C17) 1) n ann f17.alts 17 Tryz.f17 [true] (zt f17.A2 x) [] (zp f17.A1) = f17.g n x := by kernel_rfl
theorem f17.a0 (b0 : Bool) (n : Nat) (x : zg × zn) : xm TT 0 E17 (yi TT E17 n ann (yk C17) 1) n ann f17.alts 17 Tryz.f17 [b0] (zt f17.A2 x) [] (zp f17.A1) = f17.g n x := match b0 with
 | false => f17.a0_0 n x
 | true => f17.a0_1 n x
theorem f17.eq (b0 : Bool) (n : Nat) (x : zg × zn) : xm TT 0 E17 (yi TT E17 n ann (yk C17) 1) n ann f17.alts 17 Tryz.f17 [b0] (zt f17.A2 x) [] (zp f17.A1) = f17.g n x := by
 exact f17.a0 b0 n x
theorem f17.codes : CdO E17 C17 := zm (by intro p hp; simp only [C17, LD, List.not_mem_nil, or_false] at hp; done) (by kernel_rfl)
theorem f17.codeS : CodeTOk Tryz.prog E17 ann f17.alts 17 Tryz.f17 := ⟨Tryz.func17, by kernel_rfl, by kernel_rfl⟩
theorem f17.ok (G : (zg × zn) → Option f17.Y0) (h : Run G f17.g) (e17 : CO 17 Ud) (e43 : CO 43 TU) (e44 : CO 44 cN) : CO 17 (zj f17.A2 f17.A1 false G) :=
 ou zu zv (zf e44 (zf e43 (zf e17 zk))) f17.codes 1 f17.codeS (fun h => by cases h) fun X Y hF => (h X Y hF).imp fun n hn => PA fun b0 => (f17.eq b0 n X).trans hn
end
def UU : Con := zj f17.A2 f17.A1 false F17
def E51 : FuncId → Option Con := zU
noncomputable def C51 : List (FuncId × Func) := [(51, Tryz.f51)]
def f51.g (n : Nat) (x : ByteArray) : Option (ByteArray) :=
 bif zd x (⟨#[60]⟩ : BA) then
 some (⟨#[62]⟩ : BA)
 else
 bif zd x (⟨#[60, 61]⟩ : BA) then
 some (⟨#[62, 61]⟩ : BA)
 else
 bif zd x (⟨#[62]⟩ : BA) then
 some (⟨#[60]⟩ : BA)
 else
 bif zd x (⟨#[62, 61]⟩ : BA) then
 some (⟨#[60, 61]⟩ : BA)
 else
 some x
theorem f51.eq (n : Nat) (x : ByteArray) : rK E51 C51 n 1 51 (zt [(false, .str)] x) (zp [(false, .str)]) = f51.g n x := by
 kernel_rfl
theorem f51.codes : CdO E51 C51 := zm (aC Tryz.func51 aN) (by kernel_rfl)
theorem f51.ok (h : Run F51 f51.g)  : CO 51 (zj [(false, .str)] [(false, .str)] true F51) :=
 zi zu zv zk f51.codes (fun _ => Ll.1 rfl) (h.go f51.eq)
def Tz : Con := zj [(false, .str)] [(false, .str)] true F51
abbrev f29.Z0 : Type := (List (Int × (ByteArray × zc)) × Unit) × Unit
abbrev f29.Z1 : Type := Nat × Int × (List (Int × (ByteArray × zc)))
abbrev f29.Z2 : Type := zg × zn
abbrev f29.Y3 : Type := (List (Int × (ByteArray × zc)) × Unit) × Unit
abbrev f29.A4 : Sig := [(true, tTable), (true, tExpr)]
class Rec29 where
 F : (zg × zn) → Option f29.Y3
section
variable [Rec29]
def Ue : Con := vD f29.A4 [(false, [.own 77 (.pair (.int .i64) (.pair .str tValue))])] Rec29.F
def f29.alts : Nat → Option Alt := fun r => match r with
 | 13 => some (.node 10 11 (.leaf [0, 1, 2, 3, 4, 5, 6, 7, 8, 9, 10, 11, 12, 13, 14]) (.leaf [0, 1, 2, 3, 4, 5, 6, 7, 8, 9, 11, 10, 12, 13, 14]))
 | _ => none
def E29 : FuncId → Option Con := (zy 51 Tz (zy 50 aF (zy 29 Ue zU)))
noncomputable def C29 : List (FuncId × Func) := []
def f29.h1 (x : f29.Z2) (r1 : f29.Z0) (r2 : f29.Z0) (y3 : f29.Z1) : List AV × List Ob := (uN 5 ([vv [.own 2 y3.1], vv [.own 3 r2.1.1.length], vv [cI y3.2.1]] ++ uN 89 []), [.box [cT x.1.1, .sc (.sl tColumn) x.1.2.1, .sc (.sl (.int .i64)) x.1.2.2.1, .sc (.sl tIndex) x.1.2.2.2.1, .sc (.sl tRef) x.1.2.2.2.2], .box [cI x.2.lab.1, cT x.2.lab.2.1, cI x.2.lab.2.2.1, cI x.2.lab.2.2.2.1, cI x.2.lab.2.2.2.2.1, .sc (.float .f64) x.2.lab.2.2.2.2.2.1, cT x.2.lab.2.2.2.2.2.2, .sc (.sl tExpr) x.2.kids], .arr 77 (.pair (.int .i64) (.pair .str tValue)) y3.2.2, .arr 77 (.pair (.int .i64) (.pair .str tValue)) r2.1.1])
def f29.L1 (b0 : Bool) (n : Nat) (x : f29.Z2) (r1 : f29.Z0) (r2 : f29.Z0) (m3 : Nat) (y3 : f29.Z1) : Option f29.Y3 :=
 wo (ann 29 7).keep 4 (fun fr H k => z0 TT 0 E29 (yi TT E29 n ann (yk C29) 1) n (ann 29) (t5 [1, 1, 0, 1, 0, 1, 1, 0, 1, 0, 0] (zZ Tryz.f29)) fr H k) m3 (f29.h1 x r1 r2 y3).1 (f29.h1 x r1 r2 y3).2 (kh TT 0 E29 (yi TT E29 n ann (yk C29) 1) n (ann 29) f29.alts [b0] [1, 1, 0, 1, 0, 1, 1, 0, 1, 0] (zZ Tryz.f29) (NP (xa TT Tryz.f29 (tD [(false, [.own 77 (.pair (.int .i64) (.pair .str tValue))])]))))
def f29.s1 (n : Nat) (x : f29.Z2) (r1 : f29.Z0) (r2 : f29.Z0) (S3 : (Nat × Int × (List (Int × (ByteArray × zc)))) → Option f29.Y3) (y3 : f29.Z1) : Option f29.Y3 :=
 bif decide (y3.2.1 < ((r2.1.1.length : Nat) : Int)) then
 bif decide (0 ≤ y3.2.1) && decide (y3.2.1 < ((r2.1.1.length : Nat) : Int)) then
 bif decide ((y3.1 + 1) * 64 ≤ zq) then
 S3 (y3.1 + 1, (IntKind.wrap .i64 (y3.2.1 + (1 : Int)), List.take y3.1 y3.2.2 ++ ([r2.1.1.getD y3.2.1.toNat (Ty.dflt (.pair (.int .i64) (.pair .str tValue)))])))
 else
 (none)
 else
 (none)
 else
 some ((List.take y3.1 y3.2.2, ()), ())
theorem f29.a1_0 (n : Nat) (x : f29.Z2) (r1 : f29.Z0) (r2 : f29.Z0) (m : Nat) (y : f29.Z1) : f29.L1 false n x r1 r2 (m + 1) y = f29.s1 n x r1 r2 (f29.L1 false n x r1 r2 m) y := by kernel_rfl
theorem f29.a1_1 (n : Nat) (x : f29.Z2) (r1 : f29.Z0) (r2 : f29.Z0) (m : Nat) (y : f29.Z1) : f29.L1 true n x r1 r2 (m + 1) y = f29.s1 n x r1 r2 (f29.L1 true n x r1 r2 m) y := by kernel_rfl
theorem f29.a1 (b0 : Bool) (n : Nat) (x : f29.Z2) (r1 : f29.Z0) (r2 : f29.Z0) (m : Nat) (y : f29.Z1) : f29.L1 b0 n x r1 r2 (m + 1) y = f29.s1 n x r1 r2 (f29.L1 b0 n x r1 r2 m) y := match b0 with
 | false => f29.a1_0 n x r1 r2 m y
 | true => f29.a1_1 n x r1 r2 m y
theorem f29.k1 (b0 : Bool) (n : Nat) (x : f29.Z2) (r1 : f29.Z0) (r2 : f29.Z0) (m : Nat) (y : f29.Z1) : f29.L1 b0 n x r1 r2 (m + 1) y = f29.s1 n x r1 r2 (f29.L1 b0 n x r1 r2 m) y := by exact f29.a1 b0 n x r1 r2 m y
theorem f29.l1 (b0 : Bool) (n : Nat) (x : f29.Z2) (r1 : f29.Z0) (r2 : f29.Z0) : ∀ (m : Nat) (y3 : f29.Z1), f29.L1 b0 n x r1 r2 m y3 = zF (f29.s1 n x r1 r2) m y3 :=
 zw (L := f29.L1 b0 n x r1 r2) (step := f29.s1 n x r1 r2) (fun _ => rfl) (f29.k1 b0 n x r1 r2)
def f29.g (n : Nat) (x : f29.Z2) : Option f29.Y3 :=
 bif x.2.lab.1 != (4 : Int) then
 some (([], ()), ())
 else
 bif zd x.2.lab.2.1 (⟨#[97, 110, 100]⟩ : BA) then
 bif decide (0 ≤ (0 : Int)) && decide ((0 : Int) < (x.2.kids.length : Int)) then
 (Rec29.F (x.1, (Rose.node ((x.2.kids.getD 0 tExpr.dflt).lab) ((x.2.kids.getD 0 tExpr.dflt).kids)))).bind fun r1 =>
 bif decide (0 ≤ (1 : Int)) && decide ((1 : Int) < (x.2.kids.length : Int)) then
 (Rec29.F (x.1, (Rose.node ((x.2.kids.getD 1 tExpr.dflt).lab) ((x.2.kids.getD 1 tExpr.dflt).kids)))).bind fun r2 =>
 zF (f29.s1 n x r1 r2) n (r1.1.1.length, ((0 : Int), r1.1.1))
 else
 (none)
 else
 (none)
 else
 (F50 x.2.lab.2.1).bind fun r4 =>
 bif bif (!r4) then true else (zd x.2.lab.2.1 (⟨#[60, 62]⟩ : BA)) then
 some (([], ()), ())
 else
 bif decide (0 ≤ (0 : Int)) && decide ((0 : Int) < (x.2.kids.length : Int)) then
 bif decide (0 ≤ (1 : Int)) && decide ((1 : Int) < (x.2.kids.length : Int)) then
 bif ((x.2.kids.getD 0 tExpr.dflt).lab).1 == (1 : Int) then
 (F51 x.2.lab.2.1).bind fun r5 =>
 bif bif (((x.2.kids.getD 1 tExpr.dflt).lab).1 != (2 : Int)) then true else (((x.2.kids.getD 0 tExpr.dflt).lab).1 != (1 : Int)) then
 some (([], ()), ())
 else
 bif decide (0 ≤ ((x.2.kids.getD 1 tExpr.dflt).lab).2.2.1) && decide (((x.2.kids.getD 1 tExpr.dflt).lab).2.2.1 < (x.1.2.1.length : Int)) then
 bif ((x.2.kids.getD 0 tExpr.dflt).lab).2.2.2.1 != (x.1.2.1.getD (((x.2.kids.getD 1 tExpr.dflt).lab).2.2.1.toNat) tColumn.dflt).2.1 then
 some (([], ()), ())
 else
 some ((List.take 1 ([(((x.2.kids.getD 1 tExpr.dflt).lab).2.2.1, (r5, ((x.2.kids.getD 0 tExpr.dflt).lab).2.2.2))]), ()), ())
 else
 (none)
 else
 bif bif (((x.2.kids.getD 0 tExpr.dflt).lab).1 != (2 : Int)) then true else (((x.2.kids.getD 1 tExpr.dflt).lab).1 != (1 : Int)) then
 some (([], ()), ())
 else
 bif decide (0 ≤ ((x.2.kids.getD 0 tExpr.dflt).lab).2.2.1) && decide (((x.2.kids.getD 0 tExpr.dflt).lab).2.2.1 < (x.1.2.1.length : Int)) then
 bif ((x.2.kids.getD 1 tExpr.dflt).lab).2.2.2.1 != (x.1.2.1.getD (((x.2.kids.getD 0 tExpr.dflt).lab).2.2.1.toNat) tColumn.dflt).2.1 then
 some (([], ()), ())
 else
 some ((List.take 1 ([(((x.2.kids.getD 0 tExpr.dflt).lab).2.2.1, (x.2.lab.2.1, ((x.2.kids.getD 1 tExpr.dflt).lab).2.2.2))]), ()), ())
 else
 (none)
 else
 (none)
 else
 (none)
def f29.q (b0 : Bool) (n : Nat) (x : f29.Z2) : Option f29.Y3 :=
 bif x.2.lab.1 != (4 : Int) then
 some (([], ()), ())
 else
 bif zd x.2.lab.2.1 (⟨#[97, 110, 100]⟩ : BA) then
 bif decide (0 ≤ (0 : Int)) && decide ((0 : Int) < (x.2.kids.length : Int)) then
 (Rec29.F (x.1, (Rose.node ((x.2.kids.getD 0 tExpr.dflt).lab) ((x.2.kids.getD 0 tExpr.dflt).kids)))).bind fun r1 =>
 bif decide (0 ≤ (1 : Int)) && decide ((1 : Int) < (x.2.kids.length : Int)) then
 (Rec29.F (x.1, (Rose.node ((x.2.kids.getD 1 tExpr.dflt).lab) ((x.2.kids.getD 1 tExpr.dflt).kids)))).bind fun r2 =>
 f29.L1 b0 n x r1 r2 n (r1.1.1.length, ((0 : Int), r1.1.1))
 else
 (none)
 else
 (none)
 else
 (F50 x.2.lab.2.1).bind fun r4 =>
 bif bif (!r4) then true else (zd x.2.lab.2.1 (⟨#[60, 62]⟩ : BA)) then
 some (([], ()), ())
 else
 bif decide (0 ≤ (0 : Int)) && decide ((0 : Int) < (x.2.kids.length : Int)) then
 bif decide (0 ≤ (1 : Int)) && decide ((1 : Int) < (x.2.kids.length : Int)) then
 bif ((x.2.kids.getD 0 tExpr.dflt).lab).1 == (1 : Int) then
 (F51 x.2.lab.2.1).bind fun r5 =>
 bif bif (((x.2.kids.getD 1 tExpr.dflt).lab).1 != (2 : Int)) then true else (((x.2.kids.getD 0 tExpr.dflt).lab).1 != (1 : Int)) then
 some (([], ()), ())
 else
 bif decide (0 ≤ ((x.2.kids.getD 1 tExpr.dflt).lab).2.2.1) && decide (((x.2.kids.getD 1 tExpr.dflt).lab).2.2.1 < (x.1.2.1.length : Int)) then
 bif ((x.2.kids.getD 0 tExpr.dflt).lab).2.2.2.1 != (x.1.2.1.getD (((x.2.kids.getD 1 tExpr.dflt).lab).2.2.1.toNat) tColumn.dflt).2.1 then
 some (([], ()), ())
 else
 some ((List.take 1 ([(((x.2.kids.getD 1 tExpr.dflt).lab).2.2.1, (r5, ((x.2.kids.getD 0 tExpr.dflt).lab).2.2.2))]), ()), ())
 else
 (none)
 else
 bif bif (((x.2.kids.getD 0 tExpr.dflt).lab).1 != (2 : Int)) then true else (((x.2.kids.getD 1 tExpr.dflt).lab).1 != (1 : Int)) then
 some (([], ()), ())
 else
 bif decide (0 ≤ ((x.2.kids.getD 0 tExpr.dflt).lab).2.2.1) && decide (((x.2.kids.getD 0 tExpr.dflt).lab).2.2.1 < (x.1.2.1.length : Int)) then
 bif ((x.2.kids.getD 1 tExpr.dflt).lab).2.2.2.1 != (x.1.2.1.getD (((x.2.kids.getD 0 tExpr.dflt).lab).2.2.1.toNat) tColumn.dflt).2.1 then
 some (([], ()), ())
 else
 some ((List.take 1 ([(((x.2.kids.getD 0 tExpr.dflt).lab).2.2.1, (x.2.lab.2.1, ((x.2.kids.getD 1 tExpr.dflt).lab).2.2.2))]), ()), ())
 else
 (none)
 else
 (none)
 else
 (none)
theorem f29.a0_0 (n : Nat) (x : f29.Z2) : xm TT 0 E29 (yi TT E29 n ann (yk C29) 1) n ann f29.alts 29 Tryz.f29 [false] (zt f29.A4 x) [] (tD [(false, [.own 77 (.pair (.int .i64) (.pair .str tValue))])]) = f29.q false n x := by kernel_rfl
theorem f29.a0_1 (n : Nat) (x : f29.Z2) : xm TT 0 E29 (yi TT E29 n ann (yk C29) 1) n ann f29.alts 29 Tryz.f29 [true] (zt f29.A4 x) [] (tD [(false, [.own 77 (.pair (.int .i64) (.pair .str tValue))])]) = f29.q true n x := by kernel_rfl
theorem f29.a0 (b0 : Bool) (n : Nat) (x : f29.Z2) : xm TT 0 E29 (yi TT E29 n ann (yk C29) 1) n ann f29.alts 29 Tryz.f29 [b0] (zt f29.A4 x) [] (tD [(false, [.own 77 (.pair (.int .i64) (.pair .str tValue))])]) = f29.q b0 n x := match b0 with
 | false => f29.a0_0 n x
 | true => f29.a0_1 n x
theorem f29.eq (b0 : Bool) (n : Nat) (x : f29.Z2) : xm TT 0 E29 (yi TT E29 n ann (yk C29) 1) n ann f29.alts 29 Tryz.f29 [b0] (zt f29.A4 x) [] (tD [(false, [.own 77 (.pair (.int .i64) (.pair .str tValue))])]) = f29.g n x :=
 Eq.trans (f29.a0 b0 n x) (by simp only [f29.q, f29.g, f29.l1])
theorem f29.codes : CdO E29 C29 := zm (by intro p hp; simp only [C29, LD, List.not_mem_nil, or_false] at hp; done) (by kernel_rfl)
theorem f29.codeS : CodeTOk Tryz.prog E29 ann f29.alts 29 Tryz.f29 := ⟨Tryz.func29, by kernel_rfl, by kernel_rfl⟩
theorem f29.ok (G : (zg × zn) → Option f29.Y3) (h : Run G f29.g) (e29 : CO 29 Ue) (e50 : CO 50 aF) (e51 : CO 51 Tz) : CO 29 (vD f29.A4 [(false, [.own 77 (.pair (.int .i64) (.pair .str tValue))])] G) :=
 dQ zu zv (zf e51 (zf e50 (zf e29 zk))) f29.codes 1 f29.codeS fun X Y hF => (h X Y hF).imp fun n hn => PA fun b0 => (f29.eq b0 n X).trans hn
end
def TM : Con := vD f29.A4 [(false, [.own 77 (.pair (.int .i64) (.pair .str tValue))])] F29
def E25 : FuncId → Option Con := zU
noncomputable def C25 : List (FuncId × Func) := [(25, Tryz.f25)]
def f25.g (n : Nat) (x : Bool × (List zc)) : Option ((List zc × Unit) × Unit) :=
 bif x.1 then
 some (([], ()), ())
 else
 bif decide ((0 + x.2.length) * 40 ≤ zq) then
 some ((List.take (0 + x.2.length) (List.take 0 ([]) ++ x.2), ()), ())
 else
 (none)
theorem f25.eq (n : Nat) (x : Bool × (List zc)) : j2 TT E25 n ann (yk C25) 1 25 [.val false [.scn x.1 tValue x.2]] [] (tD [(false, [.own 30 tValue])]) = f25.g n x := by
 kernel_rfl
theorem f25.codes : CdO E25 C25 := zm (aC Tryz.func25 aN) (by kernel_rfl)
theorem f25.ok (h : ∀ X Y, F25 X = some Y → ∀ z, (z = true → X = []) → ∃ n, f25.g n (z, X) = some Y)  : CO 25 (vD [(false, .sl tValue)] [(false, [.own 30 tValue])] F25) :=
 dH zu zv zk f25.codes fun X Y hF z hz => (h X Y hF z hz).imp fun n hn => (f25.eq n (z, X)).trans hn
def SZ : Con := vD [(false, .sl tValue)] [(false, [.own 30 tValue])] F25
abbrev f18.Z0 : Type := (List (Int × (ByteArray × zc))) × Int
def E18 : FuncId → Option Con := zU
noncomputable def C18 : List (FuncId × Func) := [(18, Tryz.f18), (19, Tryz.f19)]
def f18.h1 (x : f18.Z0) (y1 : Int) : List AV × List Ob := ([vv [.sc (.sl (.pair (.int .i64) (.pair .str tValue))) x.1], vv [.fnr 19 [⟨.int .i64, x.2⟩]]] ++ uN 5 ([vv [cI (x.1.length : Int)], vv [cI y1]] ++ uN 10 []), [])
def f18.L1 (n : Nat) (x : f18.Z0) (m1 : Nat) (y1 : Int) : Option (Int) :=
 lK (ann 18 2) 0 E18 C18 n 2 18 Tryz.f18 [1, 0, 1, 0, 0] [1, 0, 1, 0] m1 (f18.h1 x y1) (xa TT Tryz.f18 (zp [(false, .int .i64)]))
def f18.s1 (n : Nat) (x : f18.Z0) (S1 : Int → Option (Int)) (y1 : Int) : Option (Int) :=
 bif decide (y1 < (x.1.length : Int)) then
 bif decide (0 ≤ y1) && decide (y1 < (x.1.length : Int)) then
 bif bif ((x.1.getD y1.toNat (Ty.dflt (.pair (.int .i64) (.pair .str tValue)))).1 == x.2) then (zd (x.1.getD y1.toNat (Ty.dflt (.pair (.int .i64) (.pair .str tValue)))).2.1 (⟨#[61]⟩ : BA)) else false then
 some y1
 else
 S1 (IntKind.wrap .i64 (y1 + (1 : Int)))
 else
 (none)
 else
 some (-1 : Int)
theorem f18.l1 (n : Nat) (x : f18.Z0) : ∀ (m : Nat) (y1 : Int), f18.L1 n x m y1 = zF (f18.s1 n x) m y1 :=
 zw (fun _ => rfl) fun m y => by kernel_rfl
def f18.g (n : Nat) (x : f18.Z0) : Option (Int) :=
 zF (f18.s1 n x) n (0 : Int)
theorem f18.eq (n : Nat) (x : f18.Z0) : rK E18 C18 n 2 18 (avL [.dat false (.sl (.pair (.int .i64) (.pair .str tValue))), .clo 19 [(true, .int .i64)]] x) (zp [(false, .int .i64)]) = f18.g n x := by
 simp only [f18.g, ← f18.l1]
 kernel_rfl
theorem f18.codes : CdO E18 C18 := zm (aC Tryz.func18 (aC Tryz.func19 aN)) (by kernel_rfl)
theorem f18.ok (h : Run F18 f18.g)  : CO 18 (sA [.dat false (.sl (.pair (.int .i64) (.pair .str tValue))), .clo 19 [(true, .int .i64)]] [(false, .int .i64)] F18) :=
 yY zu zv zk f18.codes (Ll.1 rfl) (h.go f18.eq)
def T7 : Con := sA [.dat false (.sl (.pair (.int .i64) (.pair .str tValue))), .clo 19 [(true, .int .i64)]] [(false, .int .i64)] F18
abbrev f20.Z0 : Type := (List (Int × (ByteArray × zc))) × Int × ByteArray × ByteArray × Int
abbrev f20.Z1 : Type := Bool × Int × Int × ByteArray × Int × Int × Nat × ByteArray
abbrev f20.Y2 : Type := (Int × (ByteArray × zc)) × Bool
abbrev f20.A3 : Sig := [(false, .sl (.pair (.int .i64) (.pair .str tValue))), (false, .int .i64), (false, .str), (false, .str), (false, .int .i64)]
abbrev f20.A4 : Sig := [(true, .pair (.int .i64) (.pair .str tValue)), (false, .bool)]
def E20 : FuncId → Option Con := (zy 45 ba zU)
noncomputable def C20 : List (FuncId × Func) := [(20, Tryz.f20)]
def f20.h1 (x : f20.Z0) (y1 : f20.Z1) : List AV × List Ob := ([.undef, vv [cI x.2.1], vv [cT x.2.2.1], vv [cT x.2.2.2.1], vv [cI x.2.2.2.2]] ++ uN 5 ([vv [.ptr 0 0], .undef, vv [.ptr 1 0], vv [cB y1.1]] ++ uN 3 ([vv [.sc (.sl (.pair (.int .i64) (.pair .str tValue))) x.1], vv [cI (x.1.length : Int)], vv [cI y1.2.1]] ++ uN 46 [])), [.box [cI (0 : Int), cT (⟨#[]⟩ : BA), cI (0 : Int), cI (0 : Int), .sc (.float .f64) 0, cT (⟨#[]⟩ : BA)], .box [cI y1.2.2.1, cT y1.2.2.2.1, cI y1.2.2.2.2.1, cI y1.2.2.2.2.2.1, .sc (.float .f64) y1.2.2.2.2.2.2.1, cT y1.2.2.2.2.2.2.2]])
def f20.L1 (n : Nat) (x : f20.Z0) (m1 : Nat) (y1 : f20.Z1) : Option f20.Y2 :=
 lK (ann 20 4) 2 E20 C20 n 1 20 Tryz.f20 [1, 1, 1, 0, 1, 0, 0] [1, 1, 1, 0, 1, 0] m1 (f20.h1 x y1) (xa TT Tryz.f20 (zp f20.A4))
def f20.s1 (n : Nat) (x : f20.Z0) (S1 : (Bool × Int × Int × ByteArray × Int × Int × Nat × ByteArray) → Option f20.Y2) (y1 : f20.Z1) : Option f20.Y2 :=
 bif decide (y1.2.1 < (x.1.length : Int)) then
 bif decide (0 ≤ y1.2.1) && decide (y1.2.1 < (x.1.length : Int)) then
 bif bif ((x.1.getD y1.2.1.toNat (Ty.dflt (.pair (.int .i64) (.pair .str tValue)))).1 != x.2.1) then true else (bif (!(zd (x.1.getD y1.2.1.toNat (Ty.dflt (.pair (.int .i64) (.pair .str tValue)))).2.1 x.2.2.1)) then (!(zd (x.1.getD y1.2.1.toNat (Ty.dflt (.pair (.int .i64) (.pair .str tValue)))).2.1 x.2.2.2.1)) else false) then
 S1 (y1.1, (IntKind.wrap .i64 (y1.2.1 + (1 : Int)), y1.2.2))
 else
 (F45 ((x.1.getD y1.2.1.toNat (Ty.dflt (.pair (.int .i64) (.pair .str tValue)))).2.2, y1.2.2.2.2)).bind fun r2 =>
 bif bif (bif (!y1.1) then true else (decide (IntKind.wrap .i64 (x.2.2.2.2 * r2) < (0 : Int)))) then true else (bif (IntKind.wrap .i64 (x.2.2.2.2 * r2) == (0 : Int)) then (zd (x.1.getD y1.2.1.toNat (Ty.dflt (.pair (.int .i64) (.pair .str tValue)))).2.1 x.2.2.1) else false) then
 S1 (true, (IntKind.wrap .i64 (y1.2.1 + (1 : Int)), x.1.getD y1.2.1.toNat (Ty.dflt (.pair (.int .i64) (.pair .str tValue)))))
 else
 S1 (y1.1, (IntKind.wrap .i64 (y1.2.1 + (1 : Int)), y1.2.2))
 else
 (none)
 else
 some (y1.2.2, y1.1)
theorem f20.l1 (n : Nat) (x : f20.Z0) : ∀ (m : Nat) (y1 : f20.Z1), f20.L1 n x m y1 = zF (f20.s1 n x) m y1 :=
 zw (fun _ => rfl) fun m y => by kernel_rfl
def f20.g (n : Nat) (x : f20.Z0) : Option f20.Y2 :=
 zF (f20.s1 n x) n (false, ((0 : Int), ((0 : Int), ((⟨#[]⟩ : BA), ((0 : Int), ((0 : Int), (0, (⟨#[]⟩ : BA))))))))
theorem f20.eq (n : Nat) (x : f20.Z0) : rK E20 C20 n 1 20 (zt f20.A3 x) (zp f20.A4) = f20.g n x := by
 simp only [f20.g, ← f20.l1]
 kernel_rfl
theorem f20.codes : CdO E20 C20 := zm (aC Tryz.func20 aN) (by kernel_rfl)
theorem f20.ok (h : Run F20 f20.g) (e45 : CO 45 ba) : CO 20 (zj f20.A3 f20.A4 true F20) :=
 zi zu zv (zf e45 zk) f20.codes (fun _ => Ll.1 rfl) (h.go f20.eq)
def RT : Con := zj f20.A3 f20.A4 true F20
abbrev f6.Z0 : Type := (List (Int × (ByteArray × zc)))
abbrev f6.Z1 : Type := zg × zn × (List Int)
abbrev f6.Z2 : Type := Nat × Int × (List zc)
abbrev f6.Y3 : Type := (ByteArray × (ByteArray × Bool)) × Int
abbrev f6.A4 : Sig := [(true, .pair .str (.pair .str .bool)), (false, .int .i64)]
abbrev f6.A5 : Sig := [(true, tTable), (true, tExpr), (false, .sl (.int .i64))]
def f6.alts : Nat → Option Alt := fun r => match r with
 | 30 => some (.node 2 5 (.leaf [0, 1, 2, 3, 4, 5, 6, 7, 8, 9, 10, 11, 12, 13]) (.leaf [0, 1, 3, 4, 5, 2, 6, 7, 8, 9, 10, 11, 12, 13]))
 | 32 => some (.node 2 4 (.leaf [0, 1, 2, 3, 4, 5, 6, 7, 8, 9]) (.leaf [0, 1, 3, 4, 2, 5, 6, 7, 8, 9]))
 | 34 => some (.node 2 5 (.leaf [0, 1, 2, 3, 4, 5, 6, 7, 8, 9, 10, 11, 12, 13]) (.leaf [0, 1, 3, 4, 5, 2, 6, 7, 8, 9, 10, 11, 12, 13]))
 | _ => none
def E6 : FuncId → Option Con := (zy 26 Rm (zy 25 SZ (zy 24 SE (zy 23 SM (zy 21 iJ (zy 20 RT (zy 18 T7 (zy 17 UU (zy 16 bU (zy 15 YK zU))))))))))
noncomputable def C6 : List (FuncId × Func) := [(22, Tryz.f22)]
def f6.h1 (x : f6.Z1) (r1 : Int) (y2 : Int) (r4 : f6.Z0) (y5 : f6.Z2) : List AV × List Ob := ([.undef, .undef, vv [.sc (.sl (.int .i64)) x.2.2]] ++ uN 3 ([vv [.ptr 2 0]] ++ uN 4 ([vv [.sc (.sl (.pair (.int .i64) (.pair .str tValue))) r4], vv [.own 3 y5.1]] ++ uN 55 ([vv [.sc (.sl (.int .i64)) x.2.2], vv [cI (x.2.2.length : Int)], vv [cI y5.2.1]] ++ uN 94 []))), [.box [cT x.1.1, .sc (.sl tColumn) x.1.2.1, .sc (.sl (.int .i64)) x.1.2.2.1, .sc (.sl tIndex) x.1.2.2.2.1, .sc (.sl tRef) x.1.2.2.2.2], .box [cI x.2.1.lab.1, cT x.2.1.lab.2.1, cI x.2.1.lab.2.2.1, cI x.2.1.lab.2.2.2.1, cI x.2.1.lab.2.2.2.2.1, .sc (.float .f64) x.2.1.lab.2.2.2.2.2.1, cT x.2.1.lab.2.2.2.2.2.2, .sc (.sl tExpr) x.2.1.kids], .box [cT (⟨#[]⟩ : BA), cT (⟨#[]⟩ : BA), cB false], .arr 30 tValue y5.2.2])
def f6.h2 (x : f6.Z1) (r1 : Int) (y2 : Int) : List AV × List Ob := ([.undef, .undef, vv [.sc (.sl (.int .i64)) x.2.2], vv [.ptr 0 0], vv [.ptr 1 0], .undef, vv [.ptr 2 0]] ++ uN 33 ([vv [.sc (.sl (.int .i64)) x.2.2], vv [cI (x.2.2.length : Int)], vv [cI y2]] ++ uN 122 []), [.box [cT x.1.1, .sc (.sl tColumn) x.1.2.1, .sc (.sl (.int .i64)) x.1.2.2.1, .sc (.sl tIndex) x.1.2.2.2.1, .sc (.sl tRef) x.1.2.2.2.2], .box [cI x.2.1.lab.1, cT x.2.1.lab.2.1, cI x.2.1.lab.2.2.1, cI x.2.1.lab.2.2.2.1, cI x.2.1.lab.2.2.2.2.1, .sc (.float .f64) x.2.1.lab.2.2.2.2.2.1, cT x.2.1.lab.2.2.2.2.2.2, .sc (.sl tExpr) x.2.1.kids], .box [cT (⟨#[]⟩ : BA), cT (⟨#[]⟩ : BA), cB false]])
def f6.L1 (b0 b1 : Bool) (n : Nat) (x : f6.Z1) (r1 : Int) (y2 : Int) (r4 : f6.Z0) (m5 : Nat) (y5 : f6.Z2) : Option f6.Y3 :=
 wo (ann 6 15).keep 4 (fun fr H k => z0 TT 0 E6 (yi TT E6 n ann (yk C6) 2) n (ann 6) (t5 [1, 1, 1, 1, 1, 1, 0, 1, 0, 0] (zZ Tryz.f6)) fr H k) m5 (f6.h1 x r1 y2 r4 y5).1 (f6.h1 x r1 y2 r4 y5).2 (kh TT 0 E6 (yi TT E6 n ann (yk C6) 2) n (ann 6) f6.alts [b0, b1] [1, 1, 1, 1, 1, 1, 0, 1, 0] (zZ Tryz.f6) (NP (xa TT Tryz.f6 (zp f6.A4))))
def f6.L2 (b0 b1 : Bool) (n : Nat) (x : f6.Z1) (r1 : Int) (m2 : Nat) (y2 : Int) : Option f6.Y3 :=
 wo (ann 6 7).keep 3 (fun fr H k => z0 TT 0 E6 (yi TT E6 n ann (yk C6) 2) n (ann 6) (t5 [1, 1, 1, 0, 1, 0, 0] (zZ Tryz.f6)) fr H k) m2 (f6.h2 x r1 y2).1 (f6.h2 x r1 y2).2 (kh TT 0 E6 (yi TT E6 n ann (yk C6) 2) n (ann 6) f6.alts [b0, b1] [1, 1, 1, 0, 1, 0] (zZ Tryz.f6) (NP (xa TT Tryz.f6 (zp f6.A4))))
def f6.s1 (n : Nat) (x : f6.Z1) (r1 : Int) (y2 : Int) (r4 : f6.Z0) (S5 : (Nat × Int × (List zc)) → Option f6.Y3) (y5 : f6.Z2) : Option f6.Y3 :=
 bif decide (y5.2.1 < (x.2.2.length : Int)) then
 bif decide (0 ≤ y5.2.1) && decide (y5.2.1 < (x.2.2.length : Int)) then
 (F18 (r4, x.2.2.getD y5.2.1.toNat (Ty.dflt (.int .i64)))).bind fun r6 =>
 bif decide (r6 < (0 : Int)) then
 bif decide (((y5.1 : Nat) : Int) < (x.2.2.length : Int)) then
 bif decide (0 ≤ ((y5.1 : Nat) : Int)) && decide (((y5.1 : Nat) : Int) < (x.2.2.length : Int)) then
 (F20 (r4, (x.2.2.getD (((y5.1 : Nat) : Int).toNat) (Ty.dflt (.int .i64)), ((⟨#[62]⟩ : BA), ((⟨#[62, 61]⟩ : BA), (-1 : Int)))))).bind fun r7 =>
 bif decide (0 ≤ ((y5.1 : Nat) : Int)) && decide (((y5.1 : Nat) : Int) < (x.2.2.length : Int)) then
 (F20 (r4, (x.2.2.getD (((y5.1 : Nat) : Int).toNat) (Ty.dflt (.int .i64)), ((⟨#[60]⟩ : BA), ((⟨#[60, 61]⟩ : BA), (1 : Int)))))).bind fun r8 =>
 (F21 (List.take y5.1 y5.2.2)).bind fun r9 =>
 bif r7.2 then
 (F25 (List.take y5.1 y5.2.2)).bind fun r10 =>
 bif decide ((r10.1.1.length + 1) * 40 ≤ zq) then
 (F24 (List.take (r10.1.1.length + 1) (List.take r10.1.1.length r10.1.1 ++ ([r7.1.2.2])), zd r7.1.2.1 (⟨#[62, 61]⟩ : BA))).bind fun r11 =>
 (F23 (r9.1, r11.1)).bind fun r12 =>
 bif r11.2 != (0 : Int) then
 bif r8.2 then
 (F25 (List.take y5.1 y5.2.2)).bind fun r13 =>
 bif decide ((r13.1.1.length + 1) * 40 ≤ zq) then
 (F26 (List.take (r13.1.1.length + 1) (List.take r13.1.1.length r13.1.1 ++ ([r8.1.2.2])), zd r8.1.2.1 (⟨#[60, 61]⟩ : BA))).bind fun r14 =>
 (F23 (r12, r14.1)).bind fun r15 =>
 bif r14.2 != (0 : Int) then
 bif r14.2 != (0 : Int) then
 some (((⟨#[]⟩ : BA), ((⟨#[]⟩ : BA), true)), (0 : Int))
 else
 some (r15, (0 : Int))
 else
 bif r11.2 != (0 : Int) then
 some (((⟨#[]⟩ : BA), ((⟨#[]⟩ : BA), true)), (0 : Int))
 else
 some (r15, (0 : Int))
 else
 (none)
 else
 bif r11.2 != (0 : Int) then
 some (((⟨#[]⟩ : BA), ((⟨#[]⟩ : BA), true)), (0 : Int))
 else
 some (r12, (0 : Int))
 else
 bif r8.2 then
 (F25 (List.take y5.1 y5.2.2)).bind fun r16 =>
 bif decide ((r16.1.1.length + 1) * 40 ≤ zq) then
 (F26 (List.take (r16.1.1.length + 1) (List.take r16.1.1.length r16.1.1 ++ ([r8.1.2.2])), zd r8.1.2.1 (⟨#[60, 61]⟩ : BA))).bind fun r17 =>
 (F23 (r12, r17.1)).bind fun r18 =>
 bif r17.2 != (0 : Int) then
 bif r17.2 != (0 : Int) then
 some (((⟨#[]⟩ : BA), ((⟨#[]⟩ : BA), true)), (0 : Int))
 else
 some (r18, (0 : Int))
 else
 bif r9.2 != (0 : Int) then
 some (((⟨#[]⟩ : BA), ((⟨#[]⟩ : BA), true)), (0 : Int))
 else
 some (r18, (0 : Int))
 else
 (none)
 else
 bif r9.2 != (0 : Int) then
 some (((⟨#[]⟩ : BA), ((⟨#[]⟩ : BA), true)), (0 : Int))
 else
 some (r12, (0 : Int))
 else
 (none)
 else
 bif r8.2 then
 (F25 (List.take y5.1 y5.2.2)).bind fun r19 =>
 bif decide ((r19.1.1.length + 1) * 40 ≤ zq) then
 (F24 (List.take (r19.1.1.length + 1) (List.take r19.1.1.length r19.1.1 ++ ([zeroV])), false)).bind fun r20 =>
 (F23 (r9.1, r20.1)).bind fun r21 =>
 bif r20.2 != (0 : Int) then
 bif r8.2 then
 (F25 (List.take y5.1 y5.2.2)).bind fun r22 =>
 bif decide ((r22.1.1.length + 1) * 40 ≤ zq) then
 (F26 (List.take (r22.1.1.length + 1) (List.take r22.1.1.length r22.1.1 ++ ([r8.1.2.2])), zd r8.1.2.1 (⟨#[60, 61]⟩ : BA))).bind fun r23 =>
 (F23 (r21, r23.1)).bind fun r24 =>
 bif r23.2 != (0 : Int) then
 bif r23.2 != (0 : Int) then
 some (((⟨#[]⟩ : BA), ((⟨#[]⟩ : BA), true)), (0 : Int))
 else
 some (r24, (0 : Int))
 else
 bif r20.2 != (0 : Int) then
 some (((⟨#[]⟩ : BA), ((⟨#[]⟩ : BA), true)), (0 : Int))
 else
 some (r24, (0 : Int))
 else
 (none)
 else
 bif r20.2 != (0 : Int) then
 some (((⟨#[]⟩ : BA), ((⟨#[]⟩ : BA), true)), (0 : Int))
 else
 some (r21, (0 : Int))
 else
 bif r8.2 then
 (F25 (List.take y5.1 y5.2.2)).bind fun r25 =>
 bif decide ((r25.1.1.length + 1) * 40 ≤ zq) then
 (F26 (List.take (r25.1.1.length + 1) (List.take r25.1.1.length r25.1.1 ++ ([r8.1.2.2])), zd r8.1.2.1 (⟨#[60, 61]⟩ : BA))).bind fun r26 =>
 (F23 (r21, r26.1)).bind fun r27 =>
 bif r26.2 != (0 : Int) then
 bif r26.2 != (0 : Int) then
 some (((⟨#[]⟩ : BA), ((⟨#[]⟩ : BA), true)), (0 : Int))
 else
 some (r27, (0 : Int))
 else
 bif r9.2 != (0 : Int) then
 some (((⟨#[]⟩ : BA), ((⟨#[]⟩ : BA), true)), (0 : Int))
 else
 some (r27, (0 : Int))
 else
 (none)
 else
 bif r9.2 != (0 : Int) then
 some (((⟨#[]⟩ : BA), ((⟨#[]⟩ : BA), true)), (0 : Int))
 else
 some (r21, (0 : Int))
 else
 (none)
 else
 bif r8.2 then
 (F25 (List.take y5.1 y5.2.2)).bind fun r28 =>
 bif decide ((r28.1.1.length + 1) * 40 ≤ zq) then
 (F26 (List.take (r28.1.1.length + 1) (List.take r28.1.1.length r28.1.1 ++ ([r8.1.2.2])), zd r8.1.2.1 (⟨#[60, 61]⟩ : BA))).bind fun r29 =>
 (F23 (r9.1, r29.1)).bind fun r30 =>
 bif r29.2 != (0 : Int) then
 bif r29.2 != (0 : Int) then
 some (((⟨#[]⟩ : BA), ((⟨#[]⟩ : BA), true)), (0 : Int))
 else
 some (r30, (0 : Int))
 else
 bif r9.2 != (0 : Int) then
 some (((⟨#[]⟩ : BA), ((⟨#[]⟩ : BA), true)), (0 : Int))
 else
 some (r30, (0 : Int))
 else
 (none)
 else
 bif r9.2 != (0 : Int) then
 some (((⟨#[]⟩ : BA), ((⟨#[]⟩ : BA), true)), (0 : Int))
 else
 some (r9.1, (0 : Int))
 else
 (none)
 else
 (none)
 else
 (F21 (List.take y5.1 y5.2.2)).bind fun r31 =>
 bif r31.2 != (0 : Int) then
 some (((⟨#[]⟩ : BA), ((⟨#[]⟩ : BA), true)), (0 : Int))
 else
 some (r31.1, (0 : Int))
 else
 bif decide (0 ≤ r6) && decide (r6 < (r4.length : Int)) then
 bif decide ((y5.1 + 1) * 40 ≤ zq) then
 S5 (y5.1 + 1, (IntKind.wrap .i64 (y5.2.1 + (1 : Int)), List.take y5.1 y5.2.2 ++ ([(r4.getD r6.toNat (Ty.dflt (.pair (.int .i64) (.pair .str tValue)))).2.2])))
 else
 (none)
 else
 (none)
 else
 (none)
 else
 bif decide (((y5.1 : Nat) : Int) < (x.2.2.length : Int)) then
 bif decide (0 ≤ ((y5.1 : Nat) : Int)) && decide (((y5.1 : Nat) : Int) < (x.2.2.length : Int)) then
 (F20 (r4, (x.2.2.getD (((y5.1 : Nat) : Int).toNat) (Ty.dflt (.int .i64)), ((⟨#[62]⟩ : BA), ((⟨#[62, 61]⟩ : BA), (-1 : Int)))))).bind fun r32 =>
 bif decide (0 ≤ ((y5.1 : Nat) : Int)) && decide (((y5.1 : Nat) : Int) < (x.2.2.length : Int)) then
 (F20 (r4, (x.2.2.getD (((y5.1 : Nat) : Int).toNat) (Ty.dflt (.int .i64)), ((⟨#[60]⟩ : BA), ((⟨#[60, 61]⟩ : BA), (1 : Int)))))).bind fun r33 =>
 (F21 (List.take y5.1 y5.2.2)).bind fun r34 =>
 bif r32.2 then
 (F25 (List.take y5.1 y5.2.2)).bind fun r35 =>
 bif decide ((r35.1.1.length + 1) * 40 ≤ zq) then
 (F24 (List.take (r35.1.1.length + 1) (List.take r35.1.1.length r35.1.1 ++ ([r32.1.2.2])), zd r32.1.2.1 (⟨#[62, 61]⟩ : BA))).bind fun r36 =>
 (F23 (r34.1, r36.1)).bind fun r37 =>
 bif r36.2 != (0 : Int) then
 bif r33.2 then
 (F25 (List.take y5.1 y5.2.2)).bind fun r38 =>
 bif decide ((r38.1.1.length + 1) * 40 ≤ zq) then
 (F26 (List.take (r38.1.1.length + 1) (List.take r38.1.1.length r38.1.1 ++ ([r33.1.2.2])), zd r33.1.2.1 (⟨#[60, 61]⟩ : BA))).bind fun r39 =>
 (F23 (r37, r39.1)).bind fun r40 =>
 bif r39.2 != (0 : Int) then
 bif r39.2 != (0 : Int) then
 some (((⟨#[]⟩ : BA), ((⟨#[]⟩ : BA), true)), (0 : Int))
 else
 some (r40, (0 : Int))
 else
 bif r36.2 != (0 : Int) then
 some (((⟨#[]⟩ : BA), ((⟨#[]⟩ : BA), true)), (0 : Int))
 else
 some (r40, (0 : Int))
 else
 (none)
 else
 bif r36.2 != (0 : Int) then
 some (((⟨#[]⟩ : BA), ((⟨#[]⟩ : BA), true)), (0 : Int))
 else
 some (r37, (0 : Int))
 else
 bif r33.2 then
 (F25 (List.take y5.1 y5.2.2)).bind fun r41 =>
 bif decide ((r41.1.1.length + 1) * 40 ≤ zq) then
 (F26 (List.take (r41.1.1.length + 1) (List.take r41.1.1.length r41.1.1 ++ ([r33.1.2.2])), zd r33.1.2.1 (⟨#[60, 61]⟩ : BA))).bind fun r42 =>
 (F23 (r37, r42.1)).bind fun r43 =>
 bif r42.2 != (0 : Int) then
 bif r42.2 != (0 : Int) then
 some (((⟨#[]⟩ : BA), ((⟨#[]⟩ : BA), true)), (0 : Int))
 else
 some (r43, (0 : Int))
 else
 bif r34.2 != (0 : Int) then
 some (((⟨#[]⟩ : BA), ((⟨#[]⟩ : BA), true)), (0 : Int))
 else
 some (r43, (0 : Int))
 else
 (none)
 else
 bif r34.2 != (0 : Int) then
 some (((⟨#[]⟩ : BA), ((⟨#[]⟩ : BA), true)), (0 : Int))
 else
 some (r37, (0 : Int))
 else
 (none)
 else
 bif r33.2 then
 (F25 (List.take y5.1 y5.2.2)).bind fun r44 =>
 bif decide ((r44.1.1.length + 1) * 40 ≤ zq) then
 (F24 (List.take (r44.1.1.length + 1) (List.take r44.1.1.length r44.1.1 ++ ([zeroV])), false)).bind fun r45 =>
 (F23 (r34.1, r45.1)).bind fun r46 =>
 bif r45.2 != (0 : Int) then
 bif r33.2 then
 (F25 (List.take y5.1 y5.2.2)).bind fun r47 =>
 bif decide ((r47.1.1.length + 1) * 40 ≤ zq) then
 (F26 (List.take (r47.1.1.length + 1) (List.take r47.1.1.length r47.1.1 ++ ([r33.1.2.2])), zd r33.1.2.1 (⟨#[60, 61]⟩ : BA))).bind fun r48 =>
 (F23 (r46, r48.1)).bind fun r49 =>
 bif r48.2 != (0 : Int) then
 bif r48.2 != (0 : Int) then
 some (((⟨#[]⟩ : BA), ((⟨#[]⟩ : BA), true)), (0 : Int))
 else
 some (r49, (0 : Int))
 else
 bif r45.2 != (0 : Int) then
 some (((⟨#[]⟩ : BA), ((⟨#[]⟩ : BA), true)), (0 : Int))
 else
 some (r49, (0 : Int))
 else
 (none)
 else
 bif r45.2 != (0 : Int) then
 some (((⟨#[]⟩ : BA), ((⟨#[]⟩ : BA), true)), (0 : Int))
 else
 some (r46, (0 : Int))
 else
 bif r33.2 then
 (F25 (List.take y5.1 y5.2.2)).bind fun r50 =>
 bif decide ((r50.1.1.length + 1) * 40 ≤ zq) then
 (F26 (List.take (r50.1.1.length + 1) (List.take r50.1.1.length r50.1.1 ++ ([r33.1.2.2])), zd r33.1.2.1 (⟨#[60, 61]⟩ : BA))).bind fun r51 =>
 (F23 (r46, r51.1)).bind fun r52 =>
 bif r51.2 != (0 : Int) then
 bif r51.2 != (0 : Int) then
 some (((⟨#[]⟩ : BA), ((⟨#[]⟩ : BA), true)), (0 : Int))
 else
 some (r52, (0 : Int))
 else
 bif r34.2 != (0 : Int) then
 some (((⟨#[]⟩ : BA), ((⟨#[]⟩ : BA), true)), (0 : Int))
 else
 some (r52, (0 : Int))
 else
 (none)
 else
 bif r34.2 != (0 : Int) then
 some (((⟨#[]⟩ : BA), ((⟨#[]⟩ : BA), true)), (0 : Int))
 else
 some (r46, (0 : Int))
 else
 (none)
 else
 bif r33.2 then
 (F25 (List.take y5.1 y5.2.2)).bind fun r53 =>
 bif decide ((r53.1.1.length + 1) * 40 ≤ zq) then
 (F26 (List.take (r53.1.1.length + 1) (List.take r53.1.1.length r53.1.1 ++ ([r33.1.2.2])), zd r33.1.2.1 (⟨#[60, 61]⟩ : BA))).bind fun r54 =>
 (F23 (r34.1, r54.1)).bind fun r55 =>
 bif r54.2 != (0 : Int) then
 bif r54.2 != (0 : Int) then
 some (((⟨#[]⟩ : BA), ((⟨#[]⟩ : BA), true)), (0 : Int))
 else
 some (r55, (0 : Int))
 else
 bif r34.2 != (0 : Int) then
 some (((⟨#[]⟩ : BA), ((⟨#[]⟩ : BA), true)), (0 : Int))
 else
 some (r55, (0 : Int))
 else
 (none)
 else
 bif r34.2 != (0 : Int) then
 some (((⟨#[]⟩ : BA), ((⟨#[]⟩ : BA), true)), (0 : Int))
 else
 some (r34.1, (0 : Int))
 else
 (none)
 else
 (none)
 else
 (F21 (List.take y5.1 y5.2.2)).bind fun r56 =>
 bif r56.2 != (0 : Int) then
 some (((⟨#[]⟩ : BA), ((⟨#[]⟩ : BA), true)), (0 : Int))
 else
 some (r56.1, (0 : Int))
theorem f6.a1_0 (n : Nat) (x : f6.Z1) (r1 : Int) (y2 : Int) (r4 : f6.Z0) (m : Nat) (y : f6.Z2) : f6.L1 false false n x r1 y2 r4 (m + 1) y = f6.s1 n x r1 y2 r4 (f6.L1 false false n x r1 y2 r4 m) y := by kernel_rfl
theorem f6.a1_1 (n : Nat) (x : f6.Z1) (r1 : Int) (y2 : Int) (r4 : f6.Z0) (m : Nat) (y : f6.Z2) : f6.L1 true false n x r1 y2 r4 (m + 1) y = f6.s1 n x r1 y2 r4 (f6.L1 true false n x r1 y2 r4 m) y := by kernel_rfl
theorem f6.a1_2 (n : Nat) (x : f6.Z1) (r1 : Int) (y2 : Int) (r4 : f6.Z0) (m : Nat) (y : f6.Z2) : f6.L1 false true n x r1 y2 r4 (m + 1) y = f6.s1 n x r1 y2 r4 (f6.L1 false true n x r1 y2 r4 m) y := by kernel_rfl
theorem f6.a1_3 (n : Nat) (x : f6.Z1) (r1 : Int) (y2 : Int) (r4 : f6.Z0) (m : Nat) (y : f6.Z2) : f6.L1 true true n x r1 y2 r4 (m + 1) y = f6.s1 n x r1 y2 r4 (f6.L1 true true n x r1 y2 r4 m) y := by kernel_rfl
theorem f6.a1 (b0 b1 : Bool) (n : Nat) (x : f6.Z1) (r1 : Int) (y2 : Int) (r4 : f6.Z0) (m : Nat) (y : f6.Z2) : f6.L1 b0 b1 n x r1 y2 r4 (m + 1) y = f6.s1 n x r1 y2 r4 (f6.L1 b0 b1 n x r1 y2 r4 m) y := match b0, b1 with
 | false, false => f6.a1_0 n x r1 y2 r4 m y
 | true, false => f6.a1_1 n x r1 y2 r4 m y
 | false, true => f6.a1_2 n x r1 y2 r4 m y
 | true, true => f6.a1_3 n x r1 y2 r4 m y
theorem f6.k1 (b0 b1 : Bool) (n : Nat) (x : f6.Z1) (r1 : Int) (y2 : Int) (r4 : f6.Z0) (m : Nat) (y : f6.Z2) : f6.L1 b0 b1 n x r1 y2 r4 (m + 1) y = f6.s1 n x r1 y2 r4 (f6.L1 b0 b1 n x r1 y2 r4 m) y := by exact f6.a1 b0 b1 n x r1 y2 r4 m y
theorem f6.l1 (b0 b1 : Bool) (n : Nat) (x : f6.Z1) (r1 : Int) (y2 : Int) (r4 : f6.Z0) : ∀ (m : Nat) (y5 : f6.Z2), f6.L1 b0 b1 n x r1 y2 r4 m y5 = zF (f6.s1 n x r1 y2 r4) m y5 :=
 zw (L := f6.L1 b0 b1 n x r1 y2 r4) (step := f6.s1 n x r1 y2 r4) (fun _ => rfl) (f6.k1 b0 b1 n x r1 y2 r4)
def f6.s2 (n : Nat) (x : f6.Z1) (r1 : Int) (S2 : Int → Option f6.Y3) (y2 : Int) : Option f6.Y3 :=
 bif decide (y2 < (x.2.2.length : Int)) then
 bif decide (0 ≤ y2) && decide (y2 < (x.2.2.length : Int)) then
 bif bif (decide (x.2.2.getD y2.toNat (Ty.dflt (.int .i64)) < (0 : Int))) then true else (decide (x.2.2.getD y2.toNat (Ty.dflt (.int .i64)) ≥ (x.1.2.1.length : Int))) then
 some (((⟨#[]⟩ : BA), ((⟨#[]⟩ : BA), false)), (1 : Int))
 else
 bif decide (0 ≤ y2) && decide (y2 ≤ (x.2.2.length : Int)) then
 (F16 (List.take y2.toNat x.2.2, x.2.2.getD y2.toNat (Ty.dflt (.int .i64)))).bind fun r3 =>
 bif r3 then
 some (((⟨#[]⟩ : BA), ((⟨#[]⟩ : BA), false)), (1 : Int))
 else
 S2 (IntKind.wrap .i64 (y2 + (1 : Int)))
 else
 (none)
 else
 (none)
 else
 (F17 (x.1, (Rose.node x.2.1.lab x.2.1.kids))).bind fun r4 =>
 zF (f6.s1 n x r1 y2 r4) n (0, ((0 : Int), []))
def f6.r2 (b0 b1 : Bool) (n : Nat) (x : f6.Z1) (r1 : Int) (m2 : Nat) (S2 : Int → Option f6.Y3) (y2 : Int) : Option f6.Y3 :=
 bif decide (y2 < (x.2.2.length : Int)) then
 bif decide (0 ≤ y2) && decide (y2 < (x.2.2.length : Int)) then
 bif bif (decide (x.2.2.getD y2.toNat (Ty.dflt (.int .i64)) < (0 : Int))) then true else (decide (x.2.2.getD y2.toNat (Ty.dflt (.int .i64)) ≥ (x.1.2.1.length : Int))) then
 some (((⟨#[]⟩ : BA), ((⟨#[]⟩ : BA), false)), (1 : Int))
 else
 bif decide (0 ≤ y2) && decide (y2 ≤ (x.2.2.length : Int)) then
 (F16 (List.take y2.toNat x.2.2, x.2.2.getD y2.toNat (Ty.dflt (.int .i64)))).bind fun r3 =>
 bif r3 then
 some (((⟨#[]⟩ : BA), ((⟨#[]⟩ : BA), false)), (1 : Int))
 else
 S2 (IntKind.wrap .i64 (y2 + (1 : Int)))
 else
 (none)
 else
 (none)
 else
 (F17 (x.1, (Rose.node x.2.1.lab x.2.1.kids))).bind fun r4 =>
 f6.L1 b0 b1 n x r1 y2 r4 n (0, ((0 : Int), []))
theorem f6.a2_0 (n : Nat) (x : f6.Z1) (r1 : Int) (m : Nat) (y : Int) : f6.L2 false false n x r1 (m + 1) y = f6.r2 false false n x r1 m (f6.L2 false false n x r1 m) y := by kernel_rfl
theorem f6.a2_1 (n : Nat) (x : f6.Z1) (r1 : Int) (m : Nat) (y : Int) : f6.L2 true false n x r1 (m + 1) y = f6.r2 true false n x r1 m (f6.L2 true false n x r1 m) y := by kernel_rfl
theorem f6.a2_2 (n : Nat) (x : f6.Z1) (r1 : Int) (m : Nat) (y : Int) : f6.L2 false true n x r1 (m + 1) y = f6.r2 false true n x r1 m (f6.L2 false true n x r1 m) y := by kernel_rfl
theorem f6.a2_3 (n : Nat) (x : f6.Z1) (r1 : Int) (m : Nat) (y : Int) : f6.L2 true true n x r1 (m + 1) y = f6.r2 true true n x r1 m (f6.L2 true true n x r1 m) y := by kernel_rfl
theorem f6.a2 (b0 b1 : Bool) (n : Nat) (x : f6.Z1) (r1 : Int) (m : Nat) (y : Int) : f6.L2 b0 b1 n x r1 (m + 1) y = f6.r2 b0 b1 n x r1 m (f6.L2 b0 b1 n x r1 m) y := match b0, b1 with
 | false, false => f6.a2_0 n x r1 m y
 | true, false => f6.a2_1 n x r1 m y
 | false, true => f6.a2_2 n x r1 m y
 | true, true => f6.a2_3 n x r1 m y
theorem f6.k2 (b0 b1 : Bool) (n : Nat) (x : f6.Z1) (r1 : Int) (m : Nat) (y : Int) : f6.L2 b0 b1 n x r1 (m + 1) y = f6.s2 n x r1 (f6.L2 b0 b1 n x r1 m) y := by
 have h : f6.L2 b0 b1 n x r1 (m + 1) y = f6.r2 b0 b1 n x r1 m (f6.L2 b0 b1 n x r1 m) y := f6.a2 b0 b1 n x r1 m y
 rw [h]
 simp only [f6.r2, f6.s2, f6.l1]
theorem f6.l2 (b0 b1 : Bool) (n : Nat) (x : f6.Z1) (r1 : Int) : ∀ (m : Nat) (y2 : Int), f6.L2 b0 b1 n x r1 m y2 = zF (f6.s2 n x r1) m y2 :=
 zw (L := f6.L2 b0 b1 n x r1) (step := f6.s2 n x r1) (fun _ => rfl) (f6.k2 b0 b1 n x r1)
def f6.g (n : Nat) (x : f6.Z1) : Option f6.Y3 :=
 (F15 (x.1, (Rose.node x.2.1.lab x.2.1.kids))).bind fun r1 =>
 bif r1 != (0 : Int) then
 some (((⟨#[]⟩ : BA), ((⟨#[]⟩ : BA), false)), r1)
 else
 bif bif (decide ((x.2.2.length : Int) < (1 : Int))) then true else (decide ((x.2.2.length : Int) > (64 : Int))) then
 some (((⟨#[]⟩ : BA), ((⟨#[]⟩ : BA), false)), (1 : Int))
 else
 zF (f6.s2 n x r1) n (0 : Int)
def f6.q (b0 b1 : Bool) (n : Nat) (x : f6.Z1) : Option f6.Y3 :=
 (F15 (x.1, (Rose.node x.2.1.lab x.2.1.kids))).bind fun r1 =>
 bif r1 != (0 : Int) then
 some (((⟨#[]⟩ : BA), ((⟨#[]⟩ : BA), false)), r1)
 else
 bif bif (decide ((x.2.2.length : Int) < (1 : Int))) then true else (decide ((x.2.2.length : Int) > (64 : Int))) then
 some (((⟨#[]⟩ : BA), ((⟨#[]⟩ : BA), false)), (1 : Int))
 else
 (f6.L2 b0 b1 n x r1 n (0 : Int))
theorem f6.a0_0 (n : Nat) (x : f6.Z1) : xm TT 0 E6 (yi TT E6 n ann (yk C6) 2) n ann f6.alts 6 Tryz.f6 [false, false] (zt f6.A5 x) [] (zp f6.A4) = f6.q false false n x := by kernel_rfl
theorem f6.a0_1 (n : Nat) (x : f6.Z1) : xm TT 0 E6 (yi TT E6 n ann (yk C6) 2) n ann f6.alts 6 Tryz.f6 [true, false] (zt f6.A5 x) [] (zp f6.A4) = f6.q true false n x := by kernel_rfl
theorem f6.a0_2 (n : Nat) (x : f6.Z1) : xm TT 0 E6 (yi TT E6 n ann (yk C6) 2) n ann f6.alts 6 Tryz.f6 [false, true] (zt f6.A5 x) [] (zp f6.A4) = f6.q false true n x := by kernel_rfl
theorem f6.a0_3 (n : Nat) (x : f6.Z1) : xm TT 0 E6 (yi TT E6 n ann (yk C6) 2) n ann f6.alts 6 Tryz.f6 [true, true] (zt f6.A5 x) [] (zp f6.A4) = f6.q true true n x := by kernel_rfl
theorem f6.a0 (b0 b1 : Bool) (n : Nat) (x : f6.Z1) : xm TT 0 E6 (yi TT E6 n ann (yk C6) 2) n ann f6.alts 6 Tryz.f6 [b0, b1] (zt f6.A5 x) [] (zp f6.A4) = f6.q b0 b1 n x := match b0, b1 with
 | false, false => f6.a0_0 n x
 | true, false => f6.a0_1 n x
 | false, true => f6.a0_2 n x
 | true, true => f6.a0_3 n x
theorem f6.eq (b0 b1 : Bool) (n : Nat) (x : f6.Z1) : xm TT 0 E6 (yi TT E6 n ann (yk C6) 2) n ann f6.alts 6 Tryz.f6 [b0, b1] (zt f6.A5 x) [] (zp f6.A4) = f6.g n x :=
 Eq.trans (f6.a0 b0 b1 n x) (by simp only [f6.q, f6.g, f6.l1, f6.l2])
theorem f6.codes : CdO E6 C6 := zm (aC Tryz.func22 aN) (by kernel_rfl)
theorem f6.codeS : CodeTOk Tryz.prog E6 ann f6.alts 6 Tryz.f6 := ⟨Tryz.func6, by kernel_rfl, by kernel_rfl⟩
theorem f6.ok (h : Run F6 f6.g) (e15 : CO 15 YK) (e16 : CO 16 bU) (e17 : CO 17 UU) (e18 : CO 18 T7) (e20 : CO 20 RT) (e21 : CO 21 iJ) (e23 : CO 23 SM) (e24 : CO 24 SE) (e25 : CO 25 SZ) (e26 : CO 26 Rm) : CO 6 (zj f6.A5 f6.A4 true F6) :=
 ou zu zv (zf e26 (zf e25 (zf e24 (zf e23 (zf e21 (zf e20 (zf e18 (zf e17 (zf e16 (zf e15 zk)))))))))) f6.codes 2 f6.codeS (fun _ => Ll.1 rfl) fun X Y hF => (h X Y hF).imp fun n hn => Nz fun b0 b1 => (f6.eq b0 b1 n X).trans hn
def NM : Con := zj f6.A5 f6.A4 true F6
abbrev f30.Z0 : Type := Bool × Int × Int × ByteArray × Int × Int × Nat × ByteArray
abbrev f30.Z1 : Type := (List (Int × (ByteArray × zc))) × Int × Bool
abbrev f30.Y2 : Type := (Int × (ByteArray × zc)) × Bool
abbrev f30.A3 : Sig := [(false, .sl (.pair (.int .i64) (.pair .str tValue))), (false, .int .i64), (false, .bool)]
abbrev f30.A4 : Sig := [(true, .pair (.int .i64) (.pair .str tValue)), (false, .bool)]
def E30 : FuncId → Option Con := (zy 52 SG zU)
noncomputable def C30 : List (FuncId × Func) := [(30, Tryz.f30)]
def f30.h1 (x : f30.Z1) (y1 : f30.Z0) : List AV × List Ob := ([vv [.sc (.sl (.pair (.int .i64) (.pair .str tValue))) x.1], vv [cI x.2.1], vv [cB x.2.2]] ++ uN 3 ([vv [.ptr 0 0], .undef, vv [.ptr 1 0], vv [cB y1.1], vv [cI y1.2.1]] ++ uN 78 []), [.box [cI (0 : Int), cT (⟨#[]⟩ : BA), cI (0 : Int), cI (0 : Int), .sc (.float .f64) 0, cT (⟨#[]⟩ : BA)], .box [cI y1.2.2.1, cT y1.2.2.2.1, cI y1.2.2.2.2.1, cI y1.2.2.2.2.2.1, .sc (.float .f64) y1.2.2.2.2.2.2.1, cT y1.2.2.2.2.2.2.2]])
def f30.L1 (n : Nat) (x : f30.Z1) (m1 : Nat) (y1 : f30.Z0) : Option f30.Y2 :=
 lK (ann 30 3) 2 E30 C30 n 1 30 Tryz.f30 [1, 1, 0, 1, 0, 0] [1, 1, 0, 1, 0] m1 (f30.h1 x y1) (xa TT Tryz.f30 (zp f30.A4))
def f30.s1 (n : Nat) (x : f30.Z1) (S1 : (Bool × Int × Int × ByteArray × Int × Int × Nat × ByteArray) → Option f30.Y2) (y1 : f30.Z0) : Option f30.Y2 :=
 bif decide (y1.2.1 < (x.1.length : Int)) then
 bif decide (0 ≤ y1.2.1) && decide (y1.2.1 < (x.1.length : Int)) then
 bif bif (bif ((x.1.getD y1.2.1.toNat (Ty.dflt (.pair (.int .i64) (.pair .str tValue)))).1 != x.2.1) then true else (bif x.2.2 then (!(bif (zd (x.1.getD y1.2.1.toNat (Ty.dflt (.pair (.int .i64) (.pair .str tValue)))).2.1 (⟨#[62]⟩ : BA)) then true else (zd (x.1.getD y1.2.1.toNat (Ty.dflt (.pair (.int .i64) (.pair .str tValue)))).2.1 (⟨#[62, 61]⟩ : BA)))) else false)) then true else (bif (!x.2.2) then (!(bif (zd (x.1.getD y1.2.1.toNat (Ty.dflt (.pair (.int .i64) (.pair .str tValue)))).2.1 (⟨#[60]⟩ : BA)) then true else (zd (x.1.getD y1.2.1.toNat (Ty.dflt (.pair (.int .i64) (.pair .str tValue)))).2.1 (⟨#[60, 61]⟩ : BA)))) else false) then
 S1 (y1.1, (IntKind.wrap .i64 (y1.2.1 + (1 : Int)), y1.2.2))
 else
 (F52 ((x.1.getD y1.2.1.toNat (Ty.dflt (.pair (.int .i64) (.pair .str tValue)))).2.2, y1.2.2.2.2)).bind fun r2 =>
 bif !x.2.2 then
 bif bif (bif (!y1.1) then true else (decide (IntKind.wrap .i64 ((0 : Int) - r2) > (0 : Int)))) then true else (bif (IntKind.wrap .i64 ((0 : Int) - r2) == (0 : Int)) then (((x.1.getD y1.2.1.toNat (Ty.dflt (.pair (.int .i64) (.pair .str tValue)))).2.1.size : Int) == (1 : Int)) else false) then
 S1 (true, (IntKind.wrap .i64 (y1.2.1 + (1 : Int)), x.1.getD y1.2.1.toNat (Ty.dflt (.pair (.int .i64) (.pair .str tValue)))))
 else
 S1 (y1.1, (IntKind.wrap .i64 (y1.2.1 + (1 : Int)), y1.2.2))
 else
 bif bif (bif (!y1.1) then true else (decide (r2 > (0 : Int)))) then true else (bif (r2 == (0 : Int)) then (((x.1.getD y1.2.1.toNat (Ty.dflt (.pair (.int .i64) (.pair .str tValue)))).2.1.size : Int) == (1 : Int)) else false) then
 S1 (true, (IntKind.wrap .i64 (y1.2.1 + (1 : Int)), x.1.getD y1.2.1.toNat (Ty.dflt (.pair (.int .i64) (.pair .str tValue)))))
 else
 S1 (y1.1, (IntKind.wrap .i64 (y1.2.1 + (1 : Int)), y1.2.2))
 else
 (none)
 else
 some (y1.2.2, y1.1)
theorem f30.l1 (n : Nat) (x : f30.Z1) : ∀ (m : Nat) (y1 : f30.Z0), f30.L1 n x m y1 = zF (f30.s1 n x) m y1 :=
 zw (fun _ => rfl) fun m y => by kernel_rfl
def f30.g (n : Nat) (x : f30.Z1) : Option f30.Y2 :=
 zF (f30.s1 n x) n (false, ((0 : Int), ((0 : Int), ((⟨#[]⟩ : BA), ((0 : Int), ((0 : Int), (0, (⟨#[]⟩ : BA))))))))
theorem f30.eq (n : Nat) (x : f30.Z1) : rK E30 C30 n 1 30 (zt f30.A3 x) (zp f30.A4) = f30.g n x := by
 simp only [f30.g, ← f30.l1]
 kernel_rfl
theorem f30.codes : CdO E30 C30 := zm (aC Tryz.func30 aN) (by kernel_rfl)
theorem f30.ok (h : Run F30 f30.g) (e52 : CO 52 SG) : CO 30 (zj f30.A3 f30.A4 true F30) :=
 zi zu zv (zf e52 zk) f30.codes (fun _ => Ll.1 rfl) (h.go f30.eq)
def T4 : Con := zj f30.A3 f30.A4 true F30
abbrev f31.Z0 : Type := (List zc) × (Int × (ByteArray × zc)) × (Int × (ByteArray × zc)) × Bool × Bool
abbrev f31.A1 : Sig := [(false, .sl tValue), (true, .pair (.int .i64) (.pair .str tValue)), (true, .pair (.int .i64) (.pair .str tValue)), (false, .bool), (false, .bool)]
abbrev f31.A2 : Sig := [(true, .pair .str (.pair .str .bool)), (false, .int .i64)]
def E31 : FuncId → Option Con := (zy 57 UA (zy 56 Td (zy 55 Tq (zy 54 Ra (zy 53 ir zU)))))
noncomputable def C31 : List (FuncId × Func) := [(31, Tryz.f31)]
def f31.g (n : Nat) (x : f31.Z0) : Option ((ByteArray × (ByteArray × Bool)) × Int) :=
 (F53 x.1).bind fun r1 =>
 bif r1.2 != (0 : Int) then
 some r1
 else
 (F54 x.1).bind fun r2 =>
 bif decide ((r2.1.1.length + 1) * 40 ≤ zq) then
 bif x.2.2.2.1 then
 bif decide (0 ≤ (x.1.length : Int)) && decide ((x.1.length : Int) < ((r2.1.1.length + 1 : Nat) : Int)) then
 bif bif x.2.2.2.1 then true else x.2.2.2.2 then
 (F55 (List.take (r2.1.1.length + 1) (List.set (List.take r2.1.1.length r2.1.1 ++ ([((0 : Int), ((0 : Int), (0, (⟨#[]⟩ : BA))))])) ((x.1.length : Int).toNat) x.2.1.2.2), bif x.2.2.2.1 then (zd x.2.1.2.1 (⟨#[62, 61]⟩ : BA)) else false)).bind fun r3 =>
 bif r3.2 != (0 : Int) then
 some (r1.1, r3.2)
 else
 (F56 (r1.1, r3.1)).bind fun r4 =>
 bif x.2.2.2.2 then
 bif decide (0 ≤ (x.1.length : Int)) && decide ((x.1.length : Int) < ((r2.1.1.length + 1 : Nat) : Int)) then
 (F57 (List.take (r2.1.1.length + 1) (List.set (List.set (List.take r2.1.1.length r2.1.1 ++ ([((0 : Int), ((0 : Int), (0, (⟨#[]⟩ : BA))))])) ((x.1.length : Int).toNat) x.2.1.2.2) ((x.1.length : Int).toNat) x.2.2.1.2.2), zd x.2.2.1.2.1 (⟨#[60, 61]⟩ : BA))).bind fun r5 =>
 bif r5.2 != (0 : Int) then
 some (r4, r5.2)
 else
 (F56 (r4, r5.1)).bind fun r6 =>
 some (r6, (0 : Int))
 else
 (none)
 else
 some (r4, (0 : Int))
 else
 bif x.2.2.2.2 then
 bif decide (0 ≤ (x.1.length : Int)) && decide ((x.1.length : Int) < ((r2.1.1.length + 1 : Nat) : Int)) then
 (F57 (List.take (r2.1.1.length + 1) (List.set (List.set (List.take r2.1.1.length r2.1.1 ++ ([((0 : Int), ((0 : Int), (0, (⟨#[]⟩ : BA))))])) ((x.1.length : Int).toNat) x.2.1.2.2) ((x.1.length : Int).toNat) x.2.2.1.2.2), zd x.2.2.1.2.1 (⟨#[60, 61]⟩ : BA))).bind fun r7 =>
 bif r7.2 != (0 : Int) then
 some (r1.1, r7.2)
 else
 (F56 (r1.1, r7.1)).bind fun r8 =>
 some (r8, (0 : Int))
 else
 (none)
 else
 some (r1.1, (0 : Int))
 else
 (none)
 else
 bif bif x.2.2.2.1 then true else x.2.2.2.2 then
 (F55 (List.take (r2.1.1.length + 1) (List.take r2.1.1.length r2.1.1 ++ ([((0 : Int), ((0 : Int), (0, (⟨#[]⟩ : BA))))])), bif x.2.2.2.1 then (zd x.2.1.2.1 (⟨#[62, 61]⟩ : BA)) else false)).bind fun r9 =>
 bif r9.2 != (0 : Int) then
 some (r1.1, r9.2)
 else
 (F56 (r1.1, r9.1)).bind fun r10 =>
 bif x.2.2.2.2 then
 bif decide (0 ≤ (x.1.length : Int)) && decide ((x.1.length : Int) < ((r2.1.1.length + 1 : Nat) : Int)) then
 (F57 (List.take (r2.1.1.length + 1) (List.set (List.take r2.1.1.length r2.1.1 ++ ([((0 : Int), ((0 : Int), (0, (⟨#[]⟩ : BA))))])) ((x.1.length : Int).toNat) x.2.2.1.2.2), zd x.2.2.1.2.1 (⟨#[60, 61]⟩ : BA))).bind fun r11 =>
 bif r11.2 != (0 : Int) then
 some (r10, r11.2)
 else
 (F56 (r10, r11.1)).bind fun r12 =>
 some (r12, (0 : Int))
 else
 (none)
 else
 some (r10, (0 : Int))
 else
 bif x.2.2.2.2 then
 bif decide (0 ≤ (x.1.length : Int)) && decide ((x.1.length : Int) < ((r2.1.1.length + 1 : Nat) : Int)) then
 (F57 (List.take (r2.1.1.length + 1) (List.set (List.take r2.1.1.length r2.1.1 ++ ([((0 : Int), ((0 : Int), (0, (⟨#[]⟩ : BA))))])) ((x.1.length : Int).toNat) x.2.2.1.2.2), zd x.2.2.1.2.1 (⟨#[60, 61]⟩ : BA))).bind fun r13 =>
 bif r13.2 != (0 : Int) then
 some (r1.1, r13.2)
 else
 (F56 (r1.1, r13.1)).bind fun r14 =>
 some (r14, (0 : Int))
 else
 (none)
 else
 some (r1.1, (0 : Int))
 else
 (none)
theorem f31.eq (n : Nat) (x : f31.Z0) : rK E31 C31 n 1 31 (zt f31.A1 x) (zp f31.A2) = f31.g n x := by
 kernel_rfl
theorem f31.codes : CdO E31 C31 := zm (aC Tryz.func31 aN) (by kernel_rfl)
theorem f31.ok (h : Run F31 f31.g) (e53 : CO 53 ir) (e54 : CO 54 Ra) (e55 : CO 55 Tq) (e56 : CO 56 Td) (e57 : CO 57 UA) : CO 31 (zj f31.A1 f31.A2 true F31) :=
 zi zu zv (zf e57 (zf e56 (zf e55 (zf e54 (zf e53 zk))))) f31.codes (fun _ => Ll.1 rfl) (h.go f31.eq)
def U6 : Con := zj f31.A1 f31.A2 true F31
abbrev f9.Z0 : Type := (List (Int × (ByteArray × zc)) × Unit) × Unit
abbrev f9.Z1 : Type := Nat × Bool × Int × (List zc)
abbrev f9.Z2 : Type := zg × zn × (List Int)
abbrev f9.Z3 : Type := Nat × Int × (List zc)
abbrev f9.Y4 : Type := (ByteArray × (ByteArray × Bool)) × Int
abbrev f9.A5 : Sig := [(true, .pair .str (.pair .str .bool)), (false, .int .i64)]
abbrev f9.A6 : Sig := [(true, tTable), (true, tExpr), (false, .sl (.int .i64))]
def E9 : FuncId → Option Con := (zy 31 U6 (zy 30 T4 (zy 29 TM (zy 28 RL zU))))
noncomputable def C9 : List (FuncId × Func) := [(9, Tryz.f9)]
def f9.h1 (x : f9.Z2) (r1 : Int) (y2 : Int) (y3 : Int) : List AV × List Ob := ([.undef, .undef, vv [.sc (.sl (.int .i64)) x.2.2], vv [.ptr 0 0], vv [.ptr 1 0], .undef, vv [.ptr 2 0], .undef, .undef, vv [cI y2], vv [cI y3]] ++ uN 39 ([vv [.sc (.sl (.int .i64)) x.2.2], vv [cI y2], vv [.elr (.int .i64) (x.2.2.getD y2.toNat (Ty.dflt (.int .i64))) 0], vv [cI (x.2.2.getD y2.toNat (Ty.dflt (.int .i64)))], vv [.ptr 0 1], vv [.sc (.sl tColumn) x.1.2.1], vv [cI (x.1.2.1.length : Int)], vv [cB (decide (x.2.2.getD y2.toNat (Ty.dflt (.int .i64)) ≥ (x.1.2.1.length : Int)))]] ++ uN 98 []), [.box [cT x.1.1, .sc (.sl tColumn) x.1.2.1, .sc (.sl (.int .i64)) x.1.2.2.1, .sc (.sl tIndex) x.1.2.2.2.1, .sc (.sl tRef) x.1.2.2.2.2], .box [cI x.2.1.lab.1, cT x.2.1.lab.2.1, cI x.2.1.lab.2.2.1, cI x.2.1.lab.2.2.2.1, cI x.2.1.lab.2.2.2.2.1, .sc (.float .f64) x.2.1.lab.2.2.2.2.2.1, cT x.2.1.lab.2.2.2.2.2.2, .sc (.sl tExpr) x.2.1.kids], .box [cT (⟨#[]⟩ : BA), cT (⟨#[]⟩ : BA), cB false]])
def f9.h2 (x : f9.Z2) (r1 : Int) (y2 : Int) (r4 : f9.Z0) (y5 : f9.Z3) (y6 : f9.Z1) : List AV × List Ob := ([.undef, .undef, vv [.sc (.sl (.int .i64)) x.2.2]] ++ uN 3 ([vv [.ptr 2 0]] ++ uN 4 ([vv [.own 3 r4.1.1.length], vv [.own 4 y6.1], vv [.ptr 5 0], vv [.ptr 6 0], vv [cB false], vv [cB false], vv [cI y5.2.1], vv [cB y6.2.1], vv [cI y6.2.2.1]] ++ uN 136 [])), [.box [cT x.1.1, .sc (.sl tColumn) x.1.2.1, .sc (.sl (.int .i64)) x.1.2.2.1, .sc (.sl tIndex) x.1.2.2.2.1, .sc (.sl tRef) x.1.2.2.2.2], .box [cI x.2.1.lab.1, cT x.2.1.lab.2.1, cI x.2.1.lab.2.2.1, cI x.2.1.lab.2.2.2.1, cI x.2.1.lab.2.2.2.2.1, .sc (.float .f64) x.2.1.lab.2.2.2.2.2.1, cT x.2.1.lab.2.2.2.2.2.2, .sc (.sl tExpr) x.2.1.kids], .box [cT (⟨#[]⟩ : BA), cT (⟨#[]⟩ : BA), cB false], .arr 77 (.pair (.int .i64) (.pair .str tValue)) r4.1.1, .arr 30 tValue y6.2.2.2, .box [cI (0 : Int), cT (⟨#[]⟩ : BA), cI (0 : Int), cI (0 : Int), .sc (.float .f64) 0, cT (⟨#[]⟩ : BA)], .box [cI (0 : Int), cT (⟨#[]⟩ : BA), cI (0 : Int), cI (0 : Int), .sc (.float .f64) 0, cT (⟨#[]⟩ : BA)]])
def f9.h3 (x : f9.Z2) (r1 : Int) (y2 : Int) (r4 : f9.Z0) (y5 : f9.Z3) : List AV × List Ob := ([.undef, .undef, vv [.sc (.sl (.int .i64)) x.2.2]] ++ uN 3 ([vv [.ptr 2 0]] ++ uN 4 ([vv [.own 3 r4.1.1.length], vv [.own 4 y5.1], vv [.ptr 5 0], vv [.ptr 6 0], vv [cB false], vv [cB false], vv [cI y5.2.1]] ++ uN 138 [])), [.box [cT x.1.1, .sc (.sl tColumn) x.1.2.1, .sc (.sl (.int .i64)) x.1.2.2.1, .sc (.sl tIndex) x.1.2.2.2.1, .sc (.sl tRef) x.1.2.2.2.2], .box [cI x.2.1.lab.1, cT x.2.1.lab.2.1, cI x.2.1.lab.2.2.1, cI x.2.1.lab.2.2.2.1, cI x.2.1.lab.2.2.2.2.1, .sc (.float .f64) x.2.1.lab.2.2.2.2.2.1, cT x.2.1.lab.2.2.2.2.2.2, .sc (.sl tExpr) x.2.1.kids], .box [cT (⟨#[]⟩ : BA), cT (⟨#[]⟩ : BA), cB false], .arr 77 (.pair (.int .i64) (.pair .str tValue)) r4.1.1, .arr 30 tValue y5.2.2, .box [cI (0 : Int), cT (⟨#[]⟩ : BA), cI (0 : Int), cI (0 : Int), .sc (.float .f64) 0, cT (⟨#[]⟩ : BA)], .box [cI (0 : Int), cT (⟨#[]⟩ : BA), cI (0 : Int), cI (0 : Int), .sc (.float .f64) 0, cT (⟨#[]⟩ : BA)]])
def f9.h4 (x : f9.Z2) (r1 : Int) (y2 : Int) : List AV × List Ob := ([.undef, .undef, vv [.sc (.sl (.int .i64)) x.2.2], vv [.ptr 0 0], vv [.ptr 1 0], .undef, vv [.ptr 2 0], .undef, .undef, vv [cI y2]] ++ uN 146 [], [.box [cT x.1.1, .sc (.sl tColumn) x.1.2.1, .sc (.sl (.int .i64)) x.1.2.2.1, .sc (.sl tIndex) x.1.2.2.2.1, .sc (.sl tRef) x.1.2.2.2.2], .box [cI x.2.1.lab.1, cT x.2.1.lab.2.1, cI x.2.1.lab.2.2.1, cI x.2.1.lab.2.2.2.1, cI x.2.1.lab.2.2.2.2.1, .sc (.float .f64) x.2.1.lab.2.2.2.2.2.1, cT x.2.1.lab.2.2.2.2.2.2, .sc (.sl tExpr) x.2.1.kids], .box [cT (⟨#[]⟩ : BA), cT (⟨#[]⟩ : BA), cB false]])
def f9.L1 (n : Nat) (x : f9.Z2) (r1 : Int) (y2 : Int) (m2 : Nat) (m3 : Nat) (y3 : Int) : Option f9.Y4 :=
 wo (ann 9 12).keep 3 (fun fr H k => z0 TT 0 E9 (yi TT E9 n ann (yk C9) 1) n (ann 9) (t5 [1, 1, 1, 0, 1, 0, 0, 1, 0, 0, 1, 1, 0, 0] (zZ Tryz.f9)) fr H k) m3 (f9.h1 x r1 y2 y3).1 (f9.h1 x r1 y2 y3).2 (oT TT 0 E9 (yi TT E9 n ann (yk C9) 1) n (ann 9) [1, 0, 0, 1, 1, 0] (t5 [1, 1, 1, 0, 1, 0, 0] (zZ Tryz.f9)) (aQ (ann 9 7).keep 3 (fun fr H k => z0 TT 0 E9 (yi TT E9 n ann (yk C9) 1) n (ann 9) (t5 [1, 1, 1, 0, 1, 0, 0] (zZ Tryz.f9)) fr H k) m2 (oT TT 0 E9 (yi TT E9 n ann (yk C9) 1) n (ann 9) [1, 1, 1, 0, 1, 0] (zZ Tryz.f9) (xa TT Tryz.f9 (zp f9.A5)))))
def f9.L2 (n : Nat) (x : f9.Z2) (r1 : Int) (y2 : Int) (r4 : f9.Z0) (y5 : f9.Z3) (m5 : Nat) (m6 : Nat) (y6 : f9.Z1) : Option f9.Y4 :=
 wo (ann 9 24).keep 7 (fun fr H k => z0 TT 0 E9 (yi TT E9 n ann (yk C9) 1) n (ann 9) (t5 [1, 1, 1, 1, 1, 1, 1, 0, 1, 0, 0, 1, 0, 0, 1, 0, 1, 0, 0] (zZ Tryz.f9)) fr H k) m6 (f9.h2 x r1 y2 r4 y5 y6).1 (f9.h2 x r1 y2 r4 y5 y6).2 (oT TT 0 E9 (yi TT E9 n ann (yk C9) 1) n (ann 9) [1, 0, 0, 1, 0, 1, 0] (t5 [1, 1, 1, 1, 1, 1, 1, 0, 1, 0, 0] (zZ Tryz.f9)) (aQ (ann 9 20).keep 7 (fun fr H k => z0 TT 0 E9 (yi TT E9 n ann (yk C9) 1) n (ann 9) (t5 [1, 1, 1, 1, 1, 1, 1, 0, 1, 0, 0] (zZ Tryz.f9)) fr H k) m5 (oT TT 0 E9 (yi TT E9 n ann (yk C9) 1) n (ann 9) [1, 1, 1, 1, 1, 1, 1, 0, 1, 0] (zZ Tryz.f9) (xa TT Tryz.f9 (zp f9.A5)))))
def f9.L3 (n : Nat) (x : f9.Z2) (r1 : Int) (y2 : Int) (r4 : f9.Z0) (m5 : Nat) (y5 : f9.Z3) : Option f9.Y4 :=
 lK (ann 9 20) 7 E9 C9 n 1 9 Tryz.f9 [1, 1, 1, 1, 1, 1, 1, 0, 1, 0, 0] [1, 1, 1, 1, 1, 1, 1, 0, 1, 0] m5 (f9.h3 x r1 y2 r4 y5) (xa TT Tryz.f9 (zp f9.A5))
def f9.L4 (n : Nat) (x : f9.Z2) (r1 : Int) (m2 : Nat) (y2 : Int) : Option f9.Y4 :=
 lK (ann 9 7) 3 E9 C9 n 1 9 Tryz.f9 [1, 1, 1, 0, 1, 0, 0] [1, 1, 1, 0, 1, 0] m2 (f9.h4 x r1 y2) (xa TT Tryz.f9 (zp f9.A5))
def f9.s1 (n : Nat) (x : f9.Z2) (r1 : Int) (y2 : Int) (S2 : Int → Option f9.Y4) (S3 : Int → Option f9.Y4) (y3 : Int) : Option f9.Y4 :=
 bif decide (y3 < y2) then
 bif decide (0 ≤ y3) && decide (y3 < (x.2.2.length : Int)) then
 bif decide (0 ≤ y2) && decide (y2 < (x.2.2.length : Int)) then
 bif x.2.2.getD y3.toNat (Ty.dflt (.int .i64)) == x.2.2.getD y2.toNat (Ty.dflt (.int .i64)) then
 some (((⟨#[]⟩ : BA), ((⟨#[]⟩ : BA), false)), (1 : Int))
 else
 S3 (IntKind.wrap .i64 (y3 + (1 : Int)))
 else
 (none)
 else
 (none)
 else
 S2 (IntKind.wrap .i64 (y2 + (1 : Int)))
theorem f9.k1 (n : Nat) (x : f9.Z2) (r1 : Int) (y2 : Int) (m2 : Nat) (m : Nat) (y : Int) : f9.L1 n x r1 y2 m2 (m + 1) y = f9.s1 n x r1 y2 (f9.L4 n x r1 m2) (f9.L1 n x r1 y2 m2 m) y := by
 simp only [f9.s1, ]
 kernel_rfl
theorem f9.l1 (n : Nat) (x : f9.Z2) (r1 : Int) (y2 : Int) (m2 : Nat) : ∀ (m : Nat) (y3 : Int), f9.L1 n x r1 y2 m2 m y3 = zF (f9.s1 n x r1 y2 (f9.L4 n x r1 m2)) m y3 :=
 zw (L := f9.L1 n x r1 y2 m2) (step := f9.s1 n x r1 y2 (f9.L4 n x r1 m2)) (fun _ => rfl) (f9.k1 n x r1 y2 m2)
def f9.s2 (n : Nat) (x : f9.Z2) (r1 : Int) (y2 : Int) (r4 : f9.Z0) (y5 : f9.Z3) (S5 : (Nat × Int × (List zc)) → Option f9.Y4) (S6 : (Nat × Bool × Int × (List zc)) → Option f9.Y4) (y6 : f9.Z1) : Option f9.Y4 :=
 bif bif (decide (y6.2.2.1 < ((r4.1.1.length : Nat) : Int))) then (!y6.2.1) else false then
 bif decide (0 ≤ y6.2.2.1) && decide (y6.2.2.1 < ((r4.1.1.length : Nat) : Int)) then
 bif decide (0 ≤ y5.2.1) && decide (y5.2.1 < (x.2.2.length : Int)) then
 bif (r4.1.1.getD y6.2.2.1.toNat (Ty.dflt (.pair (.int .i64) (.pair .str tValue)))).1 == x.2.2.getD y5.2.1.toNat (Ty.dflt (.int .i64)) then
 bif decide (0 ≤ y6.2.2.1) && decide (y6.2.2.1 < ((r4.1.1.length : Nat) : Int)) then
 bif zd (r4.1.1.getD y6.2.2.1.toNat (Ty.dflt (.pair (.int .i64) (.pair .str tValue)))).2.1 (⟨#[61]⟩ : BA) then
 bif decide (0 ≤ y6.2.2.1) && decide (y6.2.2.1 < ((r4.1.1.length : Nat) : Int)) then
 bif decide ((y6.1 + 1) * 40 ≤ zq) then
 S6 (y6.1 + 1, (true, (IntKind.wrap .i64 (y6.2.2.1 + (1 : Int)), List.take y6.1 y6.2.2.2 ++ ([(r4.1.1.getD y6.2.2.1.toNat (Ty.dflt (.pair (.int .i64) (.pair .str tValue)))).2.2]))))
 else
 (none)
 else
 (none)
 else
 S6 (y6.1, (y6.2.1, (IntKind.wrap .i64 (y6.2.2.1 + (1 : Int)), y6.2.2.2)))
 else
 (none)
 else
 S6 (y6.1, (y6.2.1, (IntKind.wrap .i64 (y6.2.2.1 + (1 : Int)), y6.2.2.2)))
 else
 (none)
 else
 (none)
 else
 bif !y6.2.1 then
 bif decide (0 ≤ y5.2.1) && decide (y5.2.1 < (x.2.2.length : Int)) then
 (F30 (List.take r4.1.1.length r4.1.1, (x.2.2.getD y5.2.1.toNat (Ty.dflt (.int .i64)), true))).bind fun r7 =>
 bif decide (0 ≤ y5.2.1) && decide (y5.2.1 < (x.2.2.length : Int)) then
 (F30 (List.take r4.1.1.length r4.1.1, (x.2.2.getD y5.2.1.toNat (Ty.dflt (.int .i64)), false))).bind fun r8 =>
 (F31 (List.take y6.1 y6.2.2.2, (r7.1, (r8.1, (r7.2, r8.2))))).bind fun r9 =>
 bif r9.2 != (0 : Int) then
 some (((⟨#[]⟩ : BA), ((⟨#[]⟩ : BA), true)), (0 : Int))
 else
 some (r9.1, (0 : Int))
 else
 (none)
 else
 (none)
 else
 S5 (y6.1, (IntKind.wrap .i64 (y5.2.1 + (1 : Int)), y6.2.2.2))
theorem f9.k2 (n : Nat) (x : f9.Z2) (r1 : Int) (y2 : Int) (r4 : f9.Z0) (y5 : f9.Z3) (m5 : Nat) (m : Nat) (y : f9.Z1) : f9.L2 n x r1 y2 r4 y5 m5 (m + 1) y = f9.s2 n x r1 y2 r4 y5 (f9.L3 n x r1 y2 r4 m5) (f9.L2 n x r1 y2 r4 y5 m5 m) y := by
 simp only [f9.s2, ← f9.l1]
 kernel_rfl
theorem f9.l2 (n : Nat) (x : f9.Z2) (r1 : Int) (y2 : Int) (r4 : f9.Z0) (y5 : f9.Z3) (m5 : Nat) : ∀ (m : Nat) (y6 : f9.Z1), f9.L2 n x r1 y2 r4 y5 m5 m y6 = zF (f9.s2 n x r1 y2 r4 y5 (f9.L3 n x r1 y2 r4 m5)) m y6 :=
 zw (L := f9.L2 n x r1 y2 r4 y5 m5) (step := f9.s2 n x r1 y2 r4 y5 (f9.L3 n x r1 y2 r4 m5)) (fun _ => rfl) (f9.k2 n x r1 y2 r4 y5 m5)
def f9.s3 (n : Nat) (x : f9.Z2) (r1 : Int) (y2 : Int) (r4 : f9.Z0) (S5 : (Nat × Int × (List zc)) → Option f9.Y4) (y5 : f9.Z3) : Option f9.Y4 :=
 bif decide (y5.2.1 < (x.2.2.length : Int)) then
 zF (f9.s2 n x r1 y2 r4 y5 S5) n (y5.1, (false, ((0 : Int), y5.2.2)))
 else
 (F31 (List.take y5.1 y5.2.2, (((0 : Int), ((⟨#[]⟩ : BA), ((0 : Int), ((0 : Int), (0, (⟨#[]⟩ : BA)))))), (((0 : Int), ((⟨#[]⟩ : BA), ((0 : Int), ((0 : Int), (0, (⟨#[]⟩ : BA)))))), (false, false))))).bind fun r10 =>
 bif r10.2 != (0 : Int) then
 some (((⟨#[]⟩ : BA), ((⟨#[]⟩ : BA), true)), (0 : Int))
 else
 some (r10.1, (0 : Int))
theorem f9.k3 (n : Nat) (x : f9.Z2) (r1 : Int) (y2 : Int) (r4 : f9.Z0) (m : Nat) (y : f9.Z3) : f9.L3 n x r1 y2 r4 (m + 1) y = f9.s3 n x r1 y2 r4 (f9.L3 n x r1 y2 r4 m) y := by
 simp only [f9.s3, ← f9.l1, ← f9.l2]
 kernel_rfl
theorem f9.l3 (n : Nat) (x : f9.Z2) (r1 : Int) (y2 : Int) (r4 : f9.Z0) : ∀ (m : Nat) (y5 : f9.Z3), f9.L3 n x r1 y2 r4 m y5 = zF (f9.s3 n x r1 y2 r4) m y5 :=
 zw (L := f9.L3 n x r1 y2 r4) (step := f9.s3 n x r1 y2 r4) (fun _ => rfl) (f9.k3 n x r1 y2 r4)
def f9.s4 (n : Nat) (x : f9.Z2) (r1 : Int) (S2 : Int → Option f9.Y4) (y2 : Int) : Option f9.Y4 :=
 bif decide (y2 < (x.2.2.length : Int)) then
 bif decide (0 ≤ y2) && decide (y2 < (x.2.2.length : Int)) then
 bif decide (x.2.2.getD y2.toNat (Ty.dflt (.int .i64)) < (0 : Int)) then
 some (((⟨#[]⟩ : BA), ((⟨#[]⟩ : BA), false)), (1 : Int))
 else
 bif decide (0 ≤ y2) && decide (y2 < (x.2.2.length : Int)) then
 bif decide (x.2.2.getD y2.toNat (Ty.dflt (.int .i64)) ≥ (x.1.2.1.length : Int)) then
 some (((⟨#[]⟩ : BA), ((⟨#[]⟩ : BA), false)), (1 : Int))
 else
 zF (f9.s1 n x r1 y2 S2) n (0 : Int)
 else
 (none)
 else
 (none)
 else
 (F29 (x.1, (Rose.node x.2.1.lab x.2.1.kids))).bind fun r4 =>
 zF (f9.s3 n x r1 y2 r4) n (0, ((0 : Int), []))
theorem f9.k4 (n : Nat) (x : f9.Z2) (r1 : Int) (m : Nat) (y : Int) : f9.L4 n x r1 (m + 1) y = f9.s4 n x r1 (f9.L4 n x r1 m) y := by
 simp only [f9.s4, ← f9.l1, ← f9.l2, ← f9.l3]
 kernel_rfl
theorem f9.l4 (n : Nat) (x : f9.Z2) (r1 : Int) : ∀ (m : Nat) (y2 : Int), f9.L4 n x r1 m y2 = zF (f9.s4 n x r1) m y2 :=
 zw (L := f9.L4 n x r1) (step := f9.s4 n x r1) (fun _ => rfl) (f9.k4 n x r1)
def f9.g (n : Nat) (x : f9.Z2) : Option f9.Y4 :=
 (F28 (x.1, (Rose.node x.2.1.lab x.2.1.kids))).bind fun r1 =>
 bif r1 != (0 : Int) then
 some (((⟨#[]⟩ : BA), ((⟨#[]⟩ : BA), false)), r1)
 else
 bif bif (decide ((x.2.2.length : Int) < (1 : Int))) then true else (decide ((x.2.2.length : Int) > (64 : Int))) then
 some (((⟨#[]⟩ : BA), ((⟨#[]⟩ : BA), false)), (1 : Int))
 else
 zF (f9.s4 n x r1) n (0 : Int)
theorem f9.eq (n : Nat) (x : f9.Z2) : rK E9 C9 n 1 9 (zt f9.A6 x) (zp f9.A5) = f9.g n x := by
 simp only [f9.g, ← f9.l1, ← f9.l2, ← f9.l3, ← f9.l4]
 kernel_rfl
theorem f9.codes : CdO E9 C9 := zm (aC Tryz.func9 aN) (by kernel_rfl)
theorem f9.ok (h : Run F9 f9.g) (e28 : CO 28 RL) (e29 : CO 29 TM) (e30 : CO 30 T4) (e31 : CO 31 U6) : CO 9 (zj f9.A6 f9.A5 true F9) :=
 zi zu zv (zf e31 (zf e30 (zf e29 (zf e28 zk)))) f9.codes (fun _ => Ll.1 rfl) (h.go f9.eq)
def NS : Con := zj f9.A6 f9.A5 true F9
def E34 : FuncId → Option Con := zU
noncomputable def C34 : List (FuncId × Func) := [(34, Tryz.f34)]
def f34.g (n : Nat) (x : Int) : Option (zc) :=
 some ((2 : Int), (x, (0, (⟨#[]⟩ : BA))))
theorem f34.eq (n : Nat) (x : Int) : rK E34 C34 n 1 34 (zt [(false, .int .i64)] x) (zp [(true, tValue)]) = f34.g n x := by
 kernel_rfl
theorem f34.codes : CdO E34 C34 := zm (aC Tryz.func34 aN) (by kernel_rfl)
theorem f34.ok (h : Run F34 f34.g)  : CO 34 (zj [(false, .int .i64)] [(true, tValue)] true F34) :=
 zi zu zv zk f34.codes (fun _ => Ll.1 rfl) (h.go f34.eq)
def Tw : Con := zj [(false, .int .i64)] [(true, tValue)] true F34
def E10 : FuncId → Option Con := (zy 34 Tw (zy 33 UY (zy 32 T2 (zy 11 SX zU))))
noncomputable def C10 : List (FuncId × Func) := [(10, Tryz.f10)]
def f10.g (n : Nat) (x : Unit) : Option (Bool) :=
 (F33 ()).bind fun r1 =>
 (F32 (r1, (⟨#[97, 32, 43, 32, 49, 32, 60, 32, 53]⟩ : BA))).bind fun r2 =>
 bif r2.2 != (0 : Int) then
 some false
 else
 (F33 ()).bind fun r3 =>
 (F34 (3 : Int)).bind fun r4 =>
 (F11 (r3, ((Rose.node r2.1.lab r2.1.kids), List.take 1 ([r4])))).bind fun r5 =>
 (F33 ()).bind fun r6 =>
 (F34 (4 : Int)).bind fun r7 =>
 (F11 (r6, ((Rose.node r2.1.lab r2.1.kids), List.take 1 ([r7])))).bind fun r8 =>
 some (bif (bif (bif r5.1 then (!r8.1) else false) then (r5.2 == (0 : Int)) else false) then (r8.2 == (0 : Int)) else false)
theorem f10.eq (n : Nat) (x : Unit) : rK E10 C10 n 1 10 (zt [] x) (zp [(false, .bool)]) = f10.g n x := by
 kernel_rfl
theorem f10.codes : CdO E10 C10 := zm (aC Tryz.func10 aN) (by kernel_rfl)
theorem f10.ok (h : Run F10 f10.g) (e11 : CO 11 SX) (e32 : CO 32 T2) (e33 : CO 33 UY) (e34 : CO 34 Tw) : CO 10 (zj [] [(false, .bool)] true F10) :=
 zi zu zv (zf e34 (zf e33 (zf e32 (zf e11 zk)))) f10.codes (fun _ => Ll.1 rfl) (h.go f10.eq)
def Tf : Con := zj [] [(false, .bool)] true F10
abbrev f3.Z0 : Type := V9 × (List Int)
abbrev f3.A1 : Sig := [(true, Zp), (false, .sl (.int .i64))]
def f3.alts : Nat → Option Alt := fun r => match r with
 | 2 => some (.node 8 12 (.leaf [0, 1, 2, 3, 4, 5, 6, 7, 8, 9, 10, 11, 12, 13, 14]) (.node 7 12 (.leaf [0, 1, 2, 3, 4, 5, 6, 7, 12, 8, 9, 10, 11, 13, 14]) (.node 5 12 (.leaf [0, 1, 2, 3, 4, 5, 6, 12, 7, 8, 9, 10, 11, 13, 14]) (.leaf [0, 1, 2, 3, 4, 12, 5, 6, 7, 8, 9, 10, 11, 13, 14]))))
 | _ => none
def E3 : FuncId → Option Con := (zy 10 Tf (zy 9 NS (zy 8 Ny (zy 7 OL (zy 6 NM (zy 5 OK zU))))))
noncomputable def C3 : List (FuncId × Func) := []
def f3.g (n : Nat) (x : f3.Z0) : Option (Bool) :=
 (F5 (Rose.node x.1.2.1.lab x.1.2.1.kids)).bind fun r1 =>
 (F7 x.1.1).bind fun r2 =>
 (F8 (Rose.node r1.lab r1.kids)).bind fun r3 =>
 bif decide ((0 + x.2.length) * 8 ≤ zq) then
 (F6 (r2, ((Rose.node r3.lab r3.kids), List.take (0 + x.2.length) (List.take 0 ([]) ++ x.2)))).bind fun r4 =>
 (F9 (x.1.1, ((Rose.node r1.lab r1.kids), x.2))).bind fun r5 =>
 bif bif ((.pair .str (.pair .str .bool) : Ty).eqB r4.1 r5.1) then (r4.2 == r5.2) else false then
 (F10 ()).bind fun r6 =>
 some r6
 else
 some false
 else
 (none)
theorem f3.a0_0 (n : Nat) (x : f3.Z0) : xm TT 0 E3 (yi TT E3 n ann (yk C3) 1) n ann f3.alts 3 Tryz.f3 [false, false, false] (zt f3.A1 x) [] (zp [(false, .bool)]) = f3.g n x := by kernel_rfl
theorem f3.a0_1 (n : Nat) (x : f3.Z0) : xm TT 0 E3 (yi TT E3 n ann (yk C3) 1) n ann f3.alts 3 Tryz.f3 [true, false, false] (zt f3.A1 x) [] (zp [(false, .bool)]) = f3.g n x := by kernel_rfl
theorem f3.a0_2 (n : Nat) (x : f3.Z0) : xm TT 0 E3 (yi TT E3 n ann (yk C3) 1) n ann f3.alts 3 Tryz.f3 [false, true, false] (zt f3.A1 x) [] (zp [(false, .bool)]) = f3.g n x := by kernel_rfl
theorem f3.a0_3 (n : Nat) (x : f3.Z0) : xm TT 0 E3 (yi TT E3 n ann (yk C3) 1) n ann f3.alts 3 Tryz.f3 [true, true, false] (zt f3.A1 x) [] (zp [(false, .bool)]) = f3.g n x := by kernel_rfl
theorem f3.a0_4 (n : Nat) (x : f3.Z0) : xm TT 0 E3 (yi TT E3 n ann (yk C3) 1) n ann f3.alts 3 Tryz.f3 [false, false, true] (zt f3.A1 x) [] (zp [(false, .bool)]) = f3.g n x := by kernel_rfl
theorem f3.a0_5 (n : Nat) (x : f3.Z0) : xm TT 0 E3 (yi TT E3 n ann (yk C3) 1) n ann f3.alts 3 Tryz.f3 [true, false, true] (zt f3.A1 x) [] (zp [(false, .bool)]) = f3.g n x := by kernel_rfl
theorem f3.a0_6 (n : Nat) (x : f3.Z0) : xm TT 0 E3 (yi TT E3 n ann (yk C3) 1) n ann f3.alts 3 Tryz.f3 [false, true, true] (zt f3.A1 x) [] (zp [(false, .bool)]) = f3.g n x := by kernel_rfl
theorem f3.a0_7 (n : Nat) (x : f3.Z0) : xm TT 0 E3 (yi TT E3 n ann (yk C3) 1) n ann f3.alts 3 Tryz.f3 [true, true, true] (zt f3.A1 x) [] (zp [(false, .bool)]) = f3.g n x := by kernel_rfl
theorem f3.a0 (b0 b1 b2 : Bool) (n : Nat) (x : f3.Z0) : xm TT 0 E3 (yi TT E3 n ann (yk C3) 1) n ann f3.alts 3 Tryz.f3 [b0, b1, b2] (zt f3.A1 x) [] (zp [(false, .bool)]) = f3.g n x := match b0, b1, b2 with
 | false, false, false => f3.a0_0 n x
 | true, false, false => f3.a0_1 n x
 | false, true, false => f3.a0_2 n x
 | true, true, false => f3.a0_3 n x
 | false, false, true => f3.a0_4 n x
 | true, false, true => f3.a0_5 n x
 | false, true, true => f3.a0_6 n x
 | true, true, true => f3.a0_7 n x
theorem f3.eq (b0 b1 b2 : Bool) (n : Nat) (x : f3.Z0) : xm TT 0 E3 (yi TT E3 n ann (yk C3) 1) n ann f3.alts 3 Tryz.f3 [b0, b1, b2] (zt f3.A1 x) [] (zp [(false, .bool)]) = f3.g n x := by
 exact f3.a0 b0 b1 b2 n x
theorem f3.codes : CdO E3 C3 := zm (by intro p hp; simp only [C3, LD, List.not_mem_nil, or_false] at hp; done) (by kernel_rfl)
theorem f3.codeS : CodeTOk Tryz.prog E3 ann f3.alts 3 Tryz.f3 := ⟨Tryz.func3, by kernel_rfl, by kernel_rfl⟩
theorem f3.ok (h : ∀ X Y, (FL f3.A1) X = some Y → ∃ n, f3.g n X = some Y) (e5 : CO 5 OK) (e6 : CO 6 NM) (e7 : CO 7 OL) (e8 : CO 8 Ny) (e9 : CO 9 NS) (e10 : CO 10 Tf) : CO 3 (zj f3.A1 [(false, .bool)] true (FL f3.A1)) :=
 ou zu zv (zf e10 (zf e9 (zf e8 (zf e7 (zf e6 (zf e5 zk)))))) f3.codes 3 f3.codeS (fun _ => Ll.1 rfl) fun X Y hF => (h X Y hF).imp fun n hn => No fun b0 b1 b2 => (f3.eq b0 b1 b2 n X).trans hn
def Le : Con := zj f3.A1 [(false, .bool)] true (FL f3.A1)
end
end Go.Proofs.YtefddghdaimklaaGreatDoor.AI
