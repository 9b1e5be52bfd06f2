/- A part of the proof. -/
import Derived.Test.YtefddghdaimklaaGreatDoorBy
set_option linter.unusedVariables false
set_option linter.unusedSimpArgs false
set_option linter.unusedSectionVars false
set_option maxRecDepth 100000
namespace Go.Proofs.YtefddghdaimklaaGreatDoor.AI
open Go
noncomputable section
set_option maxRecDepth 100000
abbrev f43.Z0 : Type := Nat × Int × (List (Int × (ByteArray × zc)))
abbrev f43.Z1 : Type := (List (List (Int × (ByteArray × zc))))
abbrev f43.Y2 : Type := (List (Int × (ByteArray × zc)))
abbrev f43.A3 : Sig := [(false, .sl (.sl (.pair (.int .i64) (.pair .str tValue))))]
abbrev f43.A4 : Sig := [(false, .sl (.pair (.int .i64) (.pair .str tValue)))]
def E43 : FuncId → Option Con := yc
noncomputable def C43 : List (FuncId × Func) := [(43, Tryz.f43), (70, Tryz.f70)]
def f43.h1 (x : f43.Z1) (y1 : Int × Int) (y2 : f43.Z0) : List AV × List Ob := (uN 6 ([vv [.own 0 y2.1]] ++ uN 18 ([vv [.sc (.sl (.sl (.pair (.int .i64) (.pair .str tValue)))) x], vv [cI (x.length : Int)], vv [cI y2.2.1]] ++ uN 8 [])), [.arr 58 (.pair (.int .i64) (.pair .str tValue)) y2.2.2])
def f43.h2 (x : f43.Z1) (y1 : Int × Int) (y3 : f43.Z0) : List AV × List Ob := (uN 6 ([vv [.own 0 y3.1]] ++ uN 18 ([vv [.sc (.sl (.sl (.pair (.int .i64) (.pair .str tValue)))) x], vv [cI (x.length : Int)], vv [cI y3.2.1]] ++ uN 8 [])), [.arr 58 (.pair (.int .i64) (.pair .str tValue)) y3.2.2])
def f43.h3 (x : f43.Z1) (y1 : Int × Int) : List AV × List Ob := ([vv [.sc (.sl (.sl (.pair (.int .i64) (.pair .str tValue)))) x], .undef, .undef, vv [cI y1.1]] ++ uN 5 ([vv [.sc (.sl (.sl (.pair (.int .i64) (.pair .str tValue)))) x], vv [cI (x.length : Int)], vv [cI y1.2]] ++ uN 24 []), [])
def f43.L1 (n : Nat) (x : f43.Z1) (y1 : Int × Int) (m2 : Nat) (y2 : f43.Z0) : Option f43.Y2 :=
 lK (ann 43 11) 1 E43 C43 n 2 43 Tryz.f43 [1, 1, 1, 1, 0, 1, 0, 0] [1, 1, 1, 1, 0, 1, 0] m2 (f43.h1 x y1 y2) (un TT Tryz.f43 (zq f43.A4))
def f43.L2 (n : Nat) (x : f43.Z1) (y1 : Int × Int) (m3 : Nat) (y3 : f43.Z0) : Option f43.Y2 :=
 lK (ann 43 11) 1 E43 C43 n 2 43 Tryz.f43 [1, 1, 1, 1, 0, 1, 0, 0] [1, 1, 1, 1, 0, 1, 0] m3 (f43.h2 x y1 y3) (un TT Tryz.f43 (zq f43.A4))
def f43.L3 (n : Nat) (x : f43.Z1) (m1 : Nat) (y1 : Int × Int) : Option f43.Y2 :=
 lK (ann 43 3) 0 E43 C43 n 2 43 Tryz.f43 [1, 1, 0, 1, 0, 0] [1, 1, 0, 1, 0] m1 (f43.h3 x y1) (un TT Tryz.f43 (zq f43.A4))
def f43.s1 (n : Nat) (x : f43.Z1) (y1 : Int × Int) (S2 : (Nat × Int × (List (Int × (ByteArray × zc)))) → Option f43.Y2) (y2 : f43.Z0) : Option f43.Y2 :=
 bif decide (y2.2.1 < (x.length : Int)) then
 bif decide (0 ≤ y2.2.1) && decide (y2.2.1 < (x.length : Int)) then
 bif decide ((y2.1 + ((x.getD y2.2.1.toNat (Ty.dflt (.sl (.pair (.int .i64) (.pair .str tValue))))).length)) * 64 ≤ zo) then
 S2 (y2.1 + ((x.getD y2.2.1.toNat (Ty.dflt (.sl (.pair (.int .i64) (.pair .str tValue))))).length), (IntKind.wrap .i64 (y2.2.1 + (1 : Int)), List.take y2.1 y2.2.2 ++ (x.getD y2.2.1.toNat (Ty.dflt (.sl (.pair (.int .i64) (.pair .str tValue)))))))
 else
 (none)
 else
 (none)
 else
 some (List.take y2.1 y2.2.2)
theorem f43.l1 (n : Nat) (x : f43.Z1) (y1 : Int × Int) : ∀ (m : Nat) (y2 : f43.Z0), f43.L1 n x y1 m y2 = zY (f43.s1 n x y1) m y2 :=
 zM (fun _ => rfl) fun m y => by kernel_rfl
def f43.s2 (n : Nat) (x : f43.Z1) (y1 : Int × Int) (S3 : (Nat × Int × (List (Int × (ByteArray × zc)))) → Option f43.Y2) (y3 : f43.Z0) : Option f43.Y2 :=
 bif decide (y3.2.1 < (x.length : Int)) then
 bif decide (0 ≤ y3.2.1) && decide (y3.2.1 < (x.length : Int)) then
 bif decide ((y3.1 + ((x.getD y3.2.1.toNat (Ty.dflt (.sl (.pair (.int .i64) (.pair .str tValue))))).length)) * 64 ≤ zo) then
 S3 (y3.1 + ((x.getD y3.2.1.toNat (Ty.dflt (.sl (.pair (.int .i64) (.pair .str tValue))))).length), (IntKind.wrap .i64 (y3.2.1 + (1 : Int)), List.take y3.1 y3.2.2 ++ (x.getD y3.2.1.toNat (Ty.dflt (.sl (.pair (.int .i64) (.pair .str tValue)))))))
 else
 (none)
 else
 (none)
 else
 some (List.take y3.1 y3.2.2)
theorem f43.l2 (n : Nat) (x : f43.Z1) (y1 : Int × Int) : ∀ (m : Nat) (y3 : f43.Z0), f43.L2 n x y1 m y3 = zY (f43.s2 n x y1) m y3 :=
 zM (fun _ => rfl) fun m y => by kernel_rfl
def f43.s3 (n : Nat) (x : f43.Z1) (S1 : (Int × Int) → Option f43.Y2) (y1 : Int × Int) : Option f43.Y2 :=
 bif decide (y1.2 < (x.length : Int)) then
 bif decide (0 ≤ y1.2) && decide (y1.2 < (x.length : Int)) then
 bif decide (IntKind.wrap .i64 (y1.1 + ((x.getD y1.2.toNat (Ty.dflt (.sl (.pair (.int .i64) (.pair .str tValue))))).length : Int)) < (0 : Int)) then
 (none)
 else
 S1 (IntKind.wrap .i64 (y1.1 + ((x.getD y1.2.toNat (Ty.dflt (.sl (.pair (.int .i64) (.pair .str tValue))))).length : Int)), IntKind.wrap .i64 (y1.2 + (1 : Int)))
 else
 (none)
 else
 bif decide (y1.1 < (0 : Int)) then
 (none)
 else
 bif decide (IntKind.wrap .i64 (y1.1 - (0 : Int)) > (0 : Int)) then
 bif decide ((0 : Int) = 0) then
 bif (decide (0 < IntKind.wrap .i64 (y1.1 - (0 : Int))) && decide (0 < 6)) && (decide ((IntKind.wrap .i64 (y1.1 - (0 : Int))).toNat * 64 ≤ zo) && decide (0 < 64)) then
 bif decide (0 ≤ (0 : Int)) && decide ((0 : Int) ≤ (((IntKind.wrap .i64 (y1.1 - (0 : Int))).toNat : Nat) : Int)) then
 zY (f43.s1 n x y1) n (0, ((0 : Int), List.replicate ((IntKind.wrap .i64 (y1.1 - (0 : Int))).toNat) (Ty.dflt (.pair (.int .i64) (.pair .str tValue)))))
 else
 (none)
 else
 (none)
 else
 (none)
 else
 zY (f43.s2 n x y1) n (0, ((0 : Int), []))
theorem f43.k3 (n : Nat) (x : f43.Z1) (m : Nat) (y : Int × Int) : f43.L3 n x (m + 1) y = f43.s3 n x (f43.L3 n x m) y := by
 simp only [f43.s3, ← f43.l1, ← f43.l2]
 kernel_rfl
theorem f43.l3 (n : Nat) (x : f43.Z1) : ∀ (m : Nat) (y1 : Int × Int), f43.L3 n x m y1 = zY (f43.s3 n x) m y1 :=
 zM (L := f43.L3 n x) (step := f43.s3 n x) (fun _ => rfl) (f43.k3 n x)
def f43.g (n : Nat) (x : f43.Z1) : Option f43.Y2 :=
 zY (f43.s3 n x) n ((0 : Int), (0 : Int))
theorem f43.eq (n : Nat) (x : f43.Z1) : iR TT E43 n ann (xW C43) 2 43 (zu f43.A3 x) [] (zq f43.A4) = f43.g n x := by
 simp only [f43.g, ← f43.l1, ← f43.l2, ← f43.l3]
 kernel_rfl
theorem f43.codes : CdO E43 C43 := zm (aC Tryz.func43 (aC Tryz.func70 aN)) (by kernel_rfl)
theorem f43.ok (h : Run F43 f43.g)  : CO 43 (zk f43.A3 f43.A4 false F43) :=
 zn zE zD zj f43.codes (fun h => by cases h) (h.go f43.eq)
def TA : Con := zk f43.A3 f43.A4 false F43
abbrev f17.Y0 : Type := (List (Int × (ByteArray × zc)))
abbrev f17.A1 : Sig := [(false, .sl (.pair (.int .i64) (.pair .str tValue)))]
abbrev f17.A2 : Sig := [(true, tTable), (true, tExpr)]
class Rec17 where
 F : (zi × zg) → Option f17.Y0
section
variable [Rec17]
def VO : Con := zk f17.A2 f17.A1 false Rec17.F
def f17.alts : Nat → Option Alt := fun r => match r with
 | 6 => some (.node 10 11 (.leaf [0, 1, 2, 3, 4, 5, 6, 7, 8, 9, 10, 11, 12, 13, 14]) (.leaf [0, 1, 2, 3, 4, 5, 6, 7, 8, 9, 11, 10, 12, 13, 14]))
 | _ => none
def E17 : FuncId → Option Con := (zN 44 ae (zN 43 TA (zN 17 VO yc)))
noncomputable def C17 : List (FuncId × Func) := []
def f17.g (n : Nat) (x : zi × zg) : Option f17.Y0 :=
 bif bif (x.2.lab.1 == (4 : Int)) then (zd x.2.lab.2.1 (⟨#[97, 110, 100]⟩ : BA)) else false then
 bif decide (0 ≤ (0 : Int)) && decide ((0 : Int) < (x.2.kids.length : Int)) then
 (Rec17.F (x.1, (Rose.node ((x.2.kids.getD 0 tExpr.dflt).lab) ((x.2.kids.getD 0 tExpr.dflt).kids)))).bind fun r1 =>
 bif decide (0 ≤ (1 : Int)) && decide ((1 : Int) < (x.2.kids.length : Int)) then
 (Rec17.F (x.1, (Rose.node ((x.2.kids.getD 1 tExpr.dflt).lab) ((x.2.kids.getD 1 tExpr.dflt).kids)))).bind fun r2 =>
 (F43 (List.take 2 ([r1, r2]))).bind fun r3 =>
 some r3
 else
 (none)
 else
 (none)
 else
 (F44 (cpL, x.2.lab.2.1)).bind fun r4 =>
 bif bif (bif (x.2.lab.1 != (4 : Int)) then true else (decide (r4 < (0 : Int)))) then true else (zd x.2.lab.2.1 (⟨#[60, 62]⟩ : BA)) then
 some ([])
 else
 bif decide (0 ≤ (0 : Int)) && decide ((0 : Int) < (x.2.kids.length : Int)) then
 bif decide (0 ≤ (1 : Int)) && decide ((1 : Int) < (x.2.kids.length : Int)) then
 bif ((x.2.kids.getD 0 tExpr.dflt).lab).1 == (1 : Int) then
 bif decide (0 ≤ r4) && decide (r4 < (tnL.length : Int)) then
 bif bif (((x.2.kids.getD 1 tExpr.dflt).lab).1 != (2 : Int)) then true else (((x.2.kids.getD 0 tExpr.dflt).lab).1 != (1 : Int)) then
 some ([])
 else
 bif decide (0 ≤ ((x.2.kids.getD 1 tExpr.dflt).lab).2.2.1) && decide (((x.2.kids.getD 1 tExpr.dflt).lab).2.2.1 < (x.1.2.1.length : Int)) then
 bif ((x.2.kids.getD 0 tExpr.dflt).lab).2.2.2.1 != (x.1.2.1.getD (((x.2.kids.getD 1 tExpr.dflt).lab).2.2.1.toNat) tColumn.dflt).2.1 then
 some ([])
 else
 some (List.take 1 ([(((x.2.kids.getD 1 tExpr.dflt).lab).2.2.1, (tnL.getD r4.toNat (Ty.dflt .str), ((x.2.kids.getD 0 tExpr.dflt).lab).2.2.2))]))
 else
 (none)
 else
 (none)
 else
 bif bif (((x.2.kids.getD 0 tExpr.dflt).lab).1 != (2 : Int)) then true else (((x.2.kids.getD 1 tExpr.dflt).lab).1 != (1 : Int)) then
 some ([])
 else
 bif decide (0 ≤ ((x.2.kids.getD 0 tExpr.dflt).lab).2.2.1) && decide (((x.2.kids.getD 0 tExpr.dflt).lab).2.2.1 < (x.1.2.1.length : Int)) then
 bif ((x.2.kids.getD 1 tExpr.dflt).lab).2.2.2.1 != (x.1.2.1.getD (((x.2.kids.getD 0 tExpr.dflt).lab).2.2.1.toNat) tColumn.dflt).2.1 then
 some ([])
 else
 some (List.take 1 ([(((x.2.kids.getD 0 tExpr.dflt).lab).2.2.1, (x.2.lab.2.1, ((x.2.kids.getD 1 tExpr.dflt).lab).2.2.2))]))
 else
 (none)
 else
 (none)
 else
 (none)
theorem f17.a0_0 (n : Nat) (x : zi × zg) : sP TT 0 E17 (xH TT E17 n ann (xW C17) 1) n ann f17.alts 17 Tryz.f17 [false] (zu f17.A2 x) [] (zq f17.A1) = f17.g n x := by kernel_rfl
theorem f17.a0_1 (n : Nat) (x : zi × zg) : sP TT 0 E17 (xH TT E17 n ann (xW C17) 1) n ann f17.alts 17 Tryz.f17 [true] (zu f17.A2 x) [] (zq f17.A1) = f17.g n x := by kernel_rfl
theorem f17.a0 (b0 : Bool) (n : Nat) (x : zi × zg) : sP TT 0 E17 (xH TT E17 n ann (xW C17) 1) n ann f17.alts 17 Tryz.f17 [b0] (zu f17.A2 x) [] (zq f17.A1) = f17.g n x := match b0 with
 | false => f17.a0_0 n x
 | true => f17.a0_1 n x
theorem f17.eq (b0 : Bool) (n : Nat) (x : zi × zg) : sP TT 0 E17 (xH TT E17 n ann (xW C17) 1) n ann f17.alts 17 Tryz.f17 [b0] (zu f17.A2 x) [] (zq f17.A1) = f17.g n x := by
 exact f17.a0 b0 n x
theorem f17.codes : CdO E17 C17 := zm (by intro p hp; simp only [C17, NM, List.not_mem_nil, or_false] at hp; done) (by kernel_rfl)
theorem f17.codeS : CodeTOk Tryz.prog E17 ann f17.alts 17 Tryz.f17 := ⟨Tryz.func17, by kernel_rfl, by kernel_rfl⟩
theorem f17.ok (G : (zi × zg) → Option f17.Y0) (h : Run G f17.g) (e17 : CO 17 VO) (e43 : CO 43 TA) (e44 : CO 44 ae) : CO 17 (zk f17.A2 f17.A1 false G) :=
 jQ zE zD (zf e44 (zf e43 (zf e17 zj))) f17.codes 1 f17.codeS (fun h => by cases h) fun X Y hF => (h X Y hF).imp fun n hn => P0 fun b0 => (f17.eq b0 n X).trans hn
end
def U1 : Con := zk f17.A2 f17.A1 false F17
class Rec29 where
 F : (zi × zg) → Option ((List (Int × (ByteArray × zc)) × Unit) × Unit)
section
variable [Rec29]
end
def E25 : FuncId → Option Con := yc
noncomputable def C25 : List (FuncId × Func) := [(25, Tryz.f25)]
def f25.g (n : Nat) (x : Bool × (List zc)) : Option ((List zc × Unit) × Unit) :=
 bif x.1 then
 some (([], ()), ())
 else
 bif decide ((0 + x.2.length) * 40 ≤ zo) then
 some ((List.take (0 + x.2.length) (List.take 0 ([]) ++ x.2), ()), ())
 else
 (none)
theorem f25.eq (n : Nat) (x : Bool × (List zc)) : iR TT E25 n ann (xW C25) 1 25 [.val false [.scn x.1 tValue x.2]] [] (cf [(false, [.own 30 tValue])]) = f25.g n x := by
 kernel_rfl
theorem f25.codes : CdO E25 C25 := zm (aC Tryz.func25 aN) (by kernel_rfl)
theorem f25.ok (h : ∀ X Y, F25 X = some Y → ∀ z, (z = true → X = []) → ∃ n, f25.g n (z, X) = some Y)  : CO 25 (gW [(false, .sl tValue)] [(false, [.own 30 tValue])] F25) :=
 eW zE zD zj f25.codes fun X Y hF z hz => (h X Y hF z hz).imp fun n hn => (f25.eq n (z, X)).trans hn
def SA : Con := gW [(false, .sl tValue)] [(false, [.own 30 tValue])] F25
abbrev f18.Z0 : Type := (List (Int × (ByteArray × zc))) × Int
def E18 : FuncId → Option Con := yc
noncomputable def C18 : List (FuncId × Func) := [(18, Tryz.f18), (19, Tryz.f19)]
def f18.h1 (x : f18.Z0) (y1 : Int) : List AV × List Ob := ([vv [.sc (.sl (.pair (.int .i64) (.pair .str tValue))) x.1], vv [.fnr 19 [⟨.int .i64, x.2⟩]]] ++ uN 5 ([vv [cI (x.1.length : Int)], vv [cI y1]] ++ uN 10 []), [])
def f18.L1 (n : Nat) (x : f18.Z0) (m1 : Nat) (y1 : Int) : Option (Int) :=
 lK (ann 18 2) 0 E18 C18 n 2 18 Tryz.f18 [1, 0, 1, 0, 0] [1, 0, 1, 0] m1 (f18.h1 x y1) (un TT Tryz.f18 (zq [(false, .int .i64)]))
def f18.s1 (n : Nat) (x : f18.Z0) (S1 : Int → Option (Int)) (y1 : Int) : Option (Int) :=
 bif decide (y1 < (x.1.length : Int)) then
 bif decide (0 ≤ y1) && decide (y1 < (x.1.length : Int)) then
 bif bif ((x.1.getD y1.toNat (Ty.dflt (.pair (.int .i64) (.pair .str tValue)))).1 == x.2) then (zd (x.1.getD y1.toNat (Ty.dflt (.pair (.int .i64) (.pair .str tValue)))).2.1 (⟨#[61]⟩ : BA)) else false then
 some y1
 else
 S1 (IntKind.wrap .i64 (y1 + (1 : Int)))
 else
 (none)
 else
 some (-1 : Int)
theorem f18.l1 (n : Nat) (x : f18.Z0) : ∀ (m : Nat) (y1 : Int), f18.L1 n x m y1 = zY (f18.s1 n x) m y1 :=
 zM (fun _ => rfl) fun m y => by kernel_rfl
def f18.g (n : Nat) (x : f18.Z0) : Option (Int) :=
 zY (f18.s1 n x) n (0 : Int)
theorem f18.eq (n : Nat) (x : f18.Z0) : rK E18 C18 n 2 18 (avL [.dat false (.sl (.pair (.int .i64) (.pair .str tValue))), .clo 19 [(true, .int .i64)]] x) (zq [(false, .int .i64)]) = f18.g n x := by
 simp only [f18.g, ← f18.l1]
 kernel_rfl
theorem f18.codes : CdO E18 C18 := zm (aC Tryz.func18 (aC Tryz.func19 aN)) (by kernel_rfl)
theorem f18.ok (h : Run F18 f18.g)  : CO 18 (sd [.dat false (.sl (.pair (.int .i64) (.pair .str tValue))), .clo 19 [(true, .int .i64)]] [(false, .int .i64)] F18) :=
 yQ zE zD zj f18.codes (Nw.1 rfl) (h.go f18.eq)
def UF : Con := sd [.dat false (.sl (.pair (.int .i64) (.pair .str tValue))), .clo 19 [(true, .int .i64)]] [(false, .int .i64)] F18
abbrev f20.Z0 : Type := (List (Int × (ByteArray × zc))) × Int × ByteArray × ByteArray × Int
abbrev f20.Z1 : Type := Bool × Int × Int × ByteArray × Int × Int × Nat × ByteArray
abbrev f20.Y2 : Type := (Int × (ByteArray × zc)) × Bool
abbrev f20.A3 : Sig := [(false, .sl (.pair (.int .i64) (.pair .str tValue))), (false, .int .i64), (false, .str), (false, .str), (false, .int .i64)]
abbrev f20.A4 : Sig := [(true, .pair (.int .i64) (.pair .str tValue)), (false, .bool)]
def E20 : FuncId → Option Con := (zN 45 ZC yc)
noncomputable def C20 : List (FuncId × Func) := [(20, Tryz.f20)]
def f20.h1 (x : f20.Z0) (y1 : f20.Z1) : List AV × List Ob := ([.undef, vv [cI x.2.1], vv [cT x.2.2.1], vv [cT x.2.2.2.1], vv [cI x.2.2.2.2]] ++ uN 5 ([vv [.ptr 0 0], .undef, vv [.ptr 1 0], vv [cB y1.1]] ++ uN 3 ([vv [.sc (.sl (.pair (.int .i64) (.pair .str tValue))) x.1], vv [cI (x.1.length : Int)], vv [cI y1.2.1]] ++ uN 46 [])), [.box [cI (0 : Int), cT (⟨#[]⟩ : BA), cI (0 : Int), cI (0 : Int), .sc (.float .f64) 0, cT (⟨#[]⟩ : BA)], .box [cI y1.2.2.1, cT y1.2.2.2.1, cI y1.2.2.2.2.1, cI y1.2.2.2.2.2.1, .sc (.float .f64) y1.2.2.2.2.2.2.1, cT y1.2.2.2.2.2.2.2]])
def f20.L1 (n : Nat) (x : f20.Z0) (m1 : Nat) (y1 : f20.Z1) : Option f20.Y2 :=
 lK (ann 20 4) 2 E20 C20 n 1 20 Tryz.f20 [1, 1, 1, 0, 1, 0, 0] [1, 1, 1, 0, 1, 0] m1 (f20.h1 x y1) (un TT Tryz.f20 (zq f20.A4))
def f20.s1 (n : Nat) (x : f20.Z0) (S1 : (Bool × Int × Int × ByteArray × Int × Int × Nat × ByteArray) → Option f20.Y2) (y1 : f20.Z1) : Option f20.Y2 :=
 bif decide (y1.2.1 < (x.1.length : Int)) then
 bif decide (0 ≤ y1.2.1) && decide (y1.2.1 < (x.1.length : Int)) then
 bif bif ((x.1.getD y1.2.1.toNat (Ty.dflt (.pair (.int .i64) (.pair .str tValue)))).1 != x.2.1) then true else (bif (!(zd (x.1.getD y1.2.1.toNat (Ty.dflt (.pair (.int .i64) (.pair .str tValue)))).2.1 x.2.2.1)) then (!(zd (x.1.getD y1.2.1.toNat (Ty.dflt (.pair (.int .i64) (.pair .str tValue)))).2.1 x.2.2.2.1)) else false) then
 S1 (y1.1, (IntKind.wrap .i64 (y1.2.1 + (1 : Int)), y1.2.2))
 else
 (F45 ((x.1.getD y1.2.1.toNat (Ty.dflt (.pair (.int .i64) (.pair .str tValue)))).2.2, y1.2.2.2.2)).bind fun r2 =>
 bif bif (bif (!y1.1) then true else (decide (IntKind.wrap .i64 (x.2.2.2.2 * r2) < (0 : Int)))) then true else (bif (IntKind.wrap .i64 (x.2.2.2.2 * r2) == (0 : Int)) then (zd (x.1.getD y1.2.1.toNat (Ty.dflt (.pair (.int .i64) (.pair .str tValue)))).2.1 x.2.2.1) else false) then
 S1 (true, (IntKind.wrap .i64 (y1.2.1 + (1 : Int)), x.1.getD y1.2.1.toNat (Ty.dflt (.pair (.int .i64) (.pair .str tValue)))))
 else
 S1 (y1.1, (IntKind.wrap .i64 (y1.2.1 + (1 : Int)), y1.2.2))
 else
 (none)
 else
 some (y1.2.2, y1.1)
theorem f20.l1 (n : Nat) (x : f20.Z0) : ∀ (m : Nat) (y1 : f20.Z1), f20.L1 n x m y1 = zY (f20.s1 n x) m y1 :=
 zM (fun _ => rfl) fun m y => by kernel_rfl
def f20.g (n : Nat) (x : f20.Z0) : Option f20.Y2 :=
 zY (f20.s1 n x) n (false, ((0 : Int), ((0 : Int), ((⟨#[]⟩ : BA), ((0 : Int), ((0 : Int), (0, (⟨#[]⟩ : BA))))))))
theorem f20.eq (n : Nat) (x : f20.Z0) : rK E20 C20 n 1 20 (zu f20.A3 x) (zq f20.A4) = f20.g n x := by
 simp only [f20.g, ← f20.l1]
 kernel_rfl
theorem f20.codes : CdO E20 C20 := zm (aC Tryz.func20 aN) (by kernel_rfl)
theorem f20.ok (h : Run F20 f20.g) (e45 : CO 45 ZC) : CO 20 (zk f20.A3 f20.A4 true F20) :=
 zn zE zD (zf e45 zj) f20.codes (fun _ => Nw.1 rfl) (h.go f20.eq)
def UY : Con := zk f20.A3 f20.A4 true F20
abbrev f6.Z0 : Type := (List (Int × (ByteArray × zc)))
abbrev f6.Z1 : Type := zi × zg × (List Int)
abbrev f6.Z2 : Type := Nat × Int × (List zc)
abbrev f6.Y3 : Type := (ByteArray × (ByteArray × Bool)) × Int
abbrev f6.A4 : Sig := [(true, .pair .str (.pair .str .bool)), (false, .int .i64)]
abbrev f6.A5 : Sig := [(true, tTable), (true, tExpr), (false, .sl (.int .i64))]
def f6.alts : Nat → Option Alt := fun r => match r with
 | 30 => some (.node 2 5 (.leaf [0, 1, 2, 3, 4, 5, 6, 7, 8, 9, 10, 11, 12, 13]) (.leaf [0, 1, 3, 4, 5, 2, 6, 7, 8, 9, 10, 11, 12, 13]))
 | 32 => some (.node 2 4 (.leaf [0, 1, 2, 3, 4, 5, 6, 7, 8, 9]) (.leaf [0, 1, 3, 4, 2, 5, 6, 7, 8, 9]))
 | 34 => some (.node 2 5 (.leaf [0, 1, 2, 3, 4, 5, 6, 7, 8, 9, 10, 11, 12, 13]) (.leaf [0, 1, 3, 4, 5, 2, 6, 7, 8, 9, 10, 11, 12, 13]))
 | _ => none
def E6 : FuncId → Option Con := (zN 26 T1 (zN 25 SA (zN 24 SV (zN 23 UD (zN 21 ig (zN 20 UY (zN 18 UF (zN 17 U1 (zN 16 Yu (zN 15 Zj yc))))))))))
noncomputable def C6 : List (FuncId × Func) := [(22, Tryz.f22)]
def f6.h1 (x : f6.Z1) (r1 : Int) (y2 : Int) (r4 : f6.Z0) (y5 : f6.Z2) : List AV × List Ob := ([.undef, .undef, vv [.sc (.sl (.int .i64)) x.2.2]] ++ uN 3 ([vv [.ptr 2 0]] ++ uN 4 ([vv [.sc (.sl (.pair (.int .i64) (.pair .str tValue))) r4], vv [.own 3 y5.1]] ++ uN 55 ([vv [.sc (.sl (.int .i64)) x.2.2], vv [cI (x.2.2.length : Int)], vv [cI y5.2.1]] ++ uN 94 []))), [.box [cT x.1.1, .sc (.sl tColumn) x.1.2.1, .sc (.sl (.int .i64)) x.1.2.2.1, .sc (.sl tIndex) x.1.2.2.2.1, .sc (.sl tRef) x.1.2.2.2.2], .box [cI x.2.1.lab.1, cT x.2.1.lab.2.1, cI x.2.1.lab.2.2.1, cI x.2.1.lab.2.2.2.1, cI x.2.1.lab.2.2.2.2.1, .sc (.float .f64) x.2.1.lab.2.2.2.2.2.1, cT x.2.1.lab.2.2.2.2.2.2, .sc (.sl tExpr) x.2.1.kids], .box [cT (⟨#[]⟩ : BA), cT (⟨#[]⟩ : BA), cB false], .arr 30 tValue y5.2.2])
def f6.h2 (x : f6.Z1) (r1 : Int) (y2 : Int) : List AV × List Ob := ([.undef, .undef, vv [.sc (.sl (.int .i64)) x.2.2], vv [.ptr 0 0], vv [.ptr 1 0], .undef, vv [.ptr 2 0]] ++ uN 33 ([vv [.sc (.sl (.int .i64)) x.2.2], vv [cI (x.2.2.length : Int)], vv [cI y2]] ++ uN 122 []), [.box [cT x.1.1, .sc (.sl tColumn) x.1.2.1, .sc (.sl (.int .i64)) x.1.2.2.1, .sc (.sl tIndex) x.1.2.2.2.1, .sc (.sl tRef) x.1.2.2.2.2], .box [cI x.2.1.lab.1, cT x.2.1.lab.2.1, cI x.2.1.lab.2.2.1, cI x.2.1.lab.2.2.2.1, cI x.2.1.lab.2.2.2.2.1, .sc (.float .f64) x.2.1.lab.2.2.2.2.2.1, cT x.2.1.lab.2.2.2.2.2.2, .sc (.sl tExpr) x.2.1.kids], .box [cT (⟨#[]⟩ : BA), cT (⟨#[]⟩ : BA), cB false]])
def f6.L1 (b0 b1 : Bool) (n : Nat) (x : f6.Z1) (r1 : Int) (y2 : Int) (r4 : f6.Z0) (m5 : Nat) (y5 : f6.Z2) : Option f6.Y3 :=
 tv (ann 6 15).keep 4 (fun fr H k => ye TT 0 E6 (xH TT E6 n ann (xW C6) 2) n (ann 6) (j1 [1, 1, 1, 1, 1, 1, 0, 1, 0, 0] (xw Tryz.f6)) fr H k) m5 (f6.h1 x r1 y2 r4 y5).1 (f6.h1 x r1 y2 r4 y5).2 (j4 TT 0 E6 (xH TT E6 n ann (xW C6) 2) n (ann 6) f6.alts [b0, b1] [1, 1, 1, 1, 1, 1, 0, 1, 0] (xw Tryz.f6) (Na (un TT Tryz.f6 (zq f6.A4))))
def f6.L2 (b0 b1 : Bool) (n : Nat) (x : f6.Z1) (r1 : Int) (m2 : Nat) (y2 : Int) : Option f6.Y3 :=
 tv (ann 6 7).keep 3 (fun fr H k => ye TT 0 E6 (xH TT E6 n ann (xW C6) 2) n (ann 6) (j1 [1, 1, 1, 0, 1, 0, 0] (xw Tryz.f6)) fr H k) m2 (f6.h2 x r1 y2).1 (f6.h2 x r1 y2).2 (j4 TT 0 E6 (xH TT E6 n ann (xW C6) 2) n (ann 6) f6.alts [b0, b1] [1, 1, 1, 0, 1, 0] (xw Tryz.f6) (Na (un TT Tryz.f6 (zq f6.A4))))
def f6.s1 (n : Nat) (x : f6.Z1) (r1 : Int) (y2 : Int) (r4 : f6.Z0) (S5 : (Nat × Int × (List zc)) → Option f6.Y3) (y5 : f6.Z2) : Option f6.Y3 :=
 bif decide (y5.2.1 < (x.2.2.length : Int)) then
 bif decide (0 ≤ y5.2.1) && decide (y5.2.1 < (x.2.2.length : Int)) then
 (F18 (r4, x.2.2.getD y5.2.1.toNat (Ty.dflt (.int .i64)))).bind fun r6 =>
 bif decide (r6 < (0 : Int)) then
 bif decide (((y5.1 : Nat) : Int) < (x.2.2.length : Int)) then
 bif decide (0 ≤ ((y5.1 : Nat) : Int)) && decide (((y5.1 : Nat) : Int) < (x.2.2.length : Int)) then
 (F20 (r4, (x.2.2.getD (((y5.1 : Nat) : Int).toNat) (Ty.dflt (.int .i64)), ((⟨#[62]⟩ : BA), ((⟨#[62, 61]⟩ : BA), (-1 : Int)))))).bind fun r7 =>
 bif decide (0 ≤ ((y5.1 : Nat) : Int)) && decide (((y5.1 : Nat) : Int) < (x.2.2.length : Int)) then
 (F20 (r4, (x.2.2.getD (((y5.1 : Nat) : Int).toNat) (Ty.dflt (.int .i64)), ((⟨#[60]⟩ : BA), ((⟨#[60, 61]⟩ : BA), (1 : Int)))))).bind fun r8 =>
 (F21 (List.take y5.1 y5.2.2)).bind fun r9 =>
 bif r7.2 then
 (F25 (List.take y5.1 y5.2.2)).bind fun r10 =>
 bif decide ((r10.1.1.length + 1) * 40 ≤ zo) then
 (F24 (List.take (r10.1.1.length + 1) (List.take r10.1.1.length r10.1.1 ++ ([r7.1.2.2])), zd r7.1.2.1 (⟨#[62, 61]⟩ : BA))).bind fun r11 =>
 (F23 (r9.1, r11.1)).bind fun r12 =>
 bif r11.2 != (0 : Int) then
 bif r8.2 then
 (F25 (List.take y5.1 y5.2.2)).bind fun r13 =>
 bif decide ((r13.1.1.length + 1) * 40 ≤ zo) then
 (F26 (List.take (r13.1.1.length + 1) (List.take r13.1.1.length r13.1.1 ++ ([r8.1.2.2])), zd r8.1.2.1 (⟨#[60, 61]⟩ : BA))).bind fun r14 =>
 (F23 (r12, r14.1)).bind fun r15 =>
 bif r14.2 != (0 : Int) then
 bif r14.2 != (0 : Int) then
 some (((⟨#[]⟩ : BA), ((⟨#[]⟩ : BA), true)), (0 : Int))
 else
 some (r15, (0 : Int))
 else
 bif r11.2 != (0 : Int) then
 some (((⟨#[]⟩ : BA), ((⟨#[]⟩ : BA), true)), (0 : Int))
 else
 some (r15, (0 : Int))
 else
 (none)
 else
 bif r11.2 != (0 : Int) then
 some (((⟨#[]⟩ : BA), ((⟨#[]⟩ : BA), true)), (0 : Int))
 else
 some (r12, (0 : Int))
 else
 bif r8.2 then
 (F25 (List.take y5.1 y5.2.2)).bind fun r16 =>
 bif decide ((r16.1.1.length + 1) * 40 ≤ zo) then
 (F26 (List.take (r16.1.1.length + 1) (List.take r16.1.1.length r16.1.1 ++ ([r8.1.2.2])), zd r8.1.2.1 (⟨#[60, 61]⟩ : BA))).bind fun r17 =>
 (F23 (r12, r17.1)).bind fun r18 =>
 bif r17.2 != (0 : Int) then
 bif r17.2 != (0 : Int) then
 some (((⟨#[]⟩ : BA), ((⟨#[]⟩ : BA), true)), (0 : Int))
 else
 some (r18, (0 : Int))
 else
 bif r9.2 != (0 : Int) then
 some (((⟨#[]⟩ : BA), ((⟨#[]⟩ : BA), true)), (0 : Int))
 else
 some (r18, (0 : Int))
 else
 (none)
 else
 bif r9.2 != (0 : Int) then
 some (((⟨#[]⟩ : BA), ((⟨#[]⟩ : BA), true)), (0 : Int))
 else
 some (r12, (0 : Int))
 else
 (none)
 else
 bif r8.2 then
 (F25 (List.take y5.1 y5.2.2)).bind fun r19 =>
 bif decide ((r19.1.1.length + 1) * 40 ≤ zo) then
 (F24 (List.take (r19.1.1.length + 1) (List.take r19.1.1.length r19.1.1 ++ ([zeroV])), false)).bind fun r20 =>
 (F23 (r9.1, r20.1)).bind fun r21 =>
 bif r20.2 != (0 : Int) then
 bif r8.2 then
 (F25 (List.take y5.1 y5.2.2)).bind fun r22 =>
 bif decide ((r22.1.1.length + 1) * 40 ≤ zo) then
 (F26 (List.take (r22.1.1.length + 1) (List.take r22.1.1.length r22.1.1 ++ ([r8.1.2.2])), zd r8.1.2.1 (⟨#[60, 61]⟩ : BA))).bind fun r23 =>
 (F23 (r21, r23.1)).bind fun r24 =>
 bif r23.2 != (0 : Int) then
 bif r23.2 != (0 : Int) then
 some (((⟨#[]⟩ : BA), ((⟨#[]⟩ : BA), true)), (0 : Int))
 else
 some (r24, (0 : Int))
 else
 bif r20.2 != (0 : Int) then
 some (((⟨#[]⟩ : BA), ((⟨#[]⟩ : BA), true)), (0 : Int))
 else
 some (r24, (0 : Int))
 else
 (none)
 else
 bif r20.2 != (0 : Int) then
 some (((⟨#[]⟩ : BA), ((⟨#[]⟩ : BA), true)), (0 : Int))
 else
 some (r21, (0 : Int))
 else
 bif r8.2 then
 (F25 (List.take y5.1 y5.2.2)).bind fun r25 =>
 bif decide ((r25.1.1.length + 1) * 40 ≤ zo) then
 (F26 (List.take (r25.1.1.length + 1) (List.take r25.1.1.length r25.1.1 ++ ([r8.1.2.2])), zd r8.1.2.1 (⟨#[60, 61]⟩ : BA))).bind fun r26 =>
 (F23 (r21, r26.1)).bind fun r27 =>
 bif r26.2 != (0 : Int) then
 bif r26.2 != (0 : Int) then
 some (((⟨#[]⟩ : BA), ((⟨#[]⟩ : BA), true)), (0 : Int))
 else
 some (r27, (0 : Int))
 else
 bif r9.2 != (0 : Int) then
 some (((⟨#[]⟩ : BA), ((⟨#[]⟩ : BA), true)), (0 : Int))
 else
 some (r27, (0 : Int))
 else
 (none)
 else
 bif r9.2 != (0 : Int) then
 some (((⟨#[]⟩ : BA), ((⟨#[]⟩ : BA), true)), (0 : Int))
 else
 some (r21, (0 : Int))
 else
 (none)
 else
 bif r8.2 then
 (F25 (List.take y5.1 y5.2.2)).bind fun r28 =>
 bif decide ((r28.1.1.length + 1) * 40 ≤ zo) then
 (F26 (List.take (r28.1.1.length + 1) (List.take r28.1.1.length r28.1.1 ++ ([r8.1.2.2])), zd r8.1.2.1 (⟨#[60, 61]⟩ : BA))).bind fun r29 =>
 (F23 (r9.1, r29.1)).bind fun r30 =>
 bif r29.2 != (0 : Int) then
 bif r29.2 != (0 : Int) then
 some (((⟨#[]⟩ : BA), ((⟨#[]⟩ : BA), true)), (0 : Int))
 else
 some (r30, (0 : Int))
 else
 bif r9.2 != (0 : Int) then
 some (((⟨#[]⟩ : BA), ((⟨#[]⟩ : BA), true)), (0 : Int))
 else
 some (r30, (0 : Int))
 else
 (none)
 else
 bif r9.2 != (0 : Int) then
 some (((⟨#[]⟩ : BA), ((⟨#[]⟩ : BA), true)), (0 : Int))
 else
 some (r9.1, (0 : Int))
 else
 (none)
 else
 (none)
 else
 (F21 (List.take y5.1 y5.2.2)).bind fun r31 =>
 bif r31.2 != (0 : Int) then
 some (((⟨#[]⟩ : BA), ((⟨#[]⟩ : BA), true)), (0 : Int))
 else
 some (r31.1, (0 : Int))
 else
 bif decide (0 ≤ r6) && decide (r6 < (r4.length : Int)) then
 bif decide ((y5.1 + 1) * 40 ≤ zo) then
 S5 (y5.1 + 1, (IntKind.wrap .i64 (y5.2.1 + (1 : Int)), List.take y5.1 y5.2.2 ++ ([(r4.getD r6.toNat (Ty.dflt (.pair (.int .i64) (.pair .str tValue)))).2.2])))
 else
 (none)
 else
 (none)
 else
 (none)
 else
 bif decide (((y5.1 : Nat) : Int) < (x.2.2.length : Int)) then
 bif decide (0 ≤ ((y5.1 : Nat) : Int)) && decide (((y5.1 : Nat) : Int) < (x.2.2.length : Int)) then
 (F20 (r4, (x.2.2.getD (((y5.1 : Nat) : Int).toNat) (Ty.dflt (.int .i64)), ((⟨#[62]⟩ : BA), ((⟨#[62, 61]⟩ : BA), (-1 : Int)))))).bind fun r32 =>
 bif decide (0 ≤ ((y5.1 : Nat) : Int)) && decide (((y5.1 : Nat) : Int) < (x.2.2.length : Int)) then
 (F20 (r4, (x.2.2.getD (((y5.1 : Nat) : Int).toNat) (Ty.dflt (.int .i64)), ((⟨#[60]⟩ : BA), ((⟨#[60, 61]⟩ : BA), (1 : Int)))))).bind fun r33 =>
 (F21 (List.take y5.1 y5.2.2)).bind fun r34 =>
 bif r32.2 then
 (F25 (List.take y5.1 y5.2.2)).bind fun r35 =>
 bif decide ((r35.1.1.length + 1) * 40 ≤ zo) then
 (F24 (List.take (r35.1.1.length + 1) (List.take r35.1.1.length r35.1.1 ++ ([r32.1.2.2])), zd r32.1.2.1 (⟨#[62, 61]⟩ : BA))).bind fun r36 =>
 (F23 (r34.1, r36.1)).bind fun r37 =>
 bif r36.2 != (0 : Int) then
 bif r33.2 then
 (F25 (List.take y5.1 y5.2.2)).bind fun r38 =>
 bif decide ((r38.1.1.length + 1) * 40 ≤ zo) then
 (F26 (List.take (r38.1.1.length + 1) (List.take r38.1.1.length r38.1.1 ++ ([r33.1.2.2])), zd r33.1.2.1 (⟨#[60, 61]⟩ : BA))).bind fun r39 =>
 (F23 (r37, r39.1)).bind fun r40 =>
 bif r39.2 != (0 : Int) then
 bif r39.2 != (0 : Int) then
 some (((⟨#[]⟩ : BA), ((⟨#[]⟩ : BA), true)), (0 : Int))
 else
 some (r40, (0 : Int))
 else
 bif r36.2 != (0 : Int) then
 some (((⟨#[]⟩ : BA), ((⟨#[]⟩ : BA), true)), (0 : Int))
 else
 some (r40, (0 : Int))
 else
 (none)
 else
 bif r36.2 != (0 : Int) then
 some (((⟨#[]⟩ : BA), ((⟨#[]⟩ : BA), true)), (0 : Int))
 else
 some (r37, (0 : Int))
 else
 bif r33.2 then
 (F25 (List.take y5.1 y5.2.2)).bind fun r41 =>
 bif decide ((r41.1.1.length + 1) * 40 ≤ zo) then
 (F26 (List.take (r41.1.1.length + 1) (List.take r41.1.1.length r41.1.1 ++ ([r33.1.2.2])), zd r33.1.2.1 (⟨#[60, 61]⟩ : BA))).bind fun r42 =>
 (F23 (r37, r42.1)).bind fun r43 =>
 bif r42.2 != (0 : Int) then
 bif r42.2 != (0 : Int) then
 some (((⟨#[]⟩ : BA), ((⟨#[]⟩ : BA), true)), (0 : Int))
 else
 some (r43, (0 : Int))
 else
 bif r34.2 != (0 : Int) then
 some (((⟨#[]⟩ : BA), ((⟨#[]⟩ : BA), true)), (0 : Int))
 else
 some (r43, (0 : Int))
 else
 (none)
 else
 bif r34.2 != (0 : Int) then
 some (((⟨#[]⟩ : BA), ((⟨#[]⟩ : BA), true)), (0 : Int))
 else
 some (r37, (0 : Int))
 else
 (none)
 else
 bif r33.2 then
 (F25 (List.take y5.1 y5.2.2)).bind fun r44 =>
 bif decide ((r44.1.1.length + 1) * 40 ≤ zo) then
 (F24 (List.take (r44.1.1.length + 1) (List.take r44.1.1.length r44.1.1 ++ ([zeroV])), false)).bind fun r45 =>
 (F23 (r34.1, r45.1)).bind fun r46 =>
 bif r45.2 != (0 : Int) then
 bif r33.2 then
 (F25 (List.take y5.1 y5.2.2)).bind fun r47 =>
 bif decide ((r47.1.1.length + 1) * 40 ≤ zo) then
 (F26 (List.take (r47.1.1.length + 1) (List.take r47.1.1.length r47.1.1 ++ ([r33.1.2.2])), zd r33.1.2.1 (⟨#[60, 61]⟩ : BA))).bind fun r48 =>
 (F23 (r46, r48.1)).bind fun r49 =>
 bif r48.2 != (0 : Int) then
 bif r48.2 != (0 : Int) then
 some (((⟨#[]⟩ : BA), ((⟨#[]⟩ : BA), true)), (0 : Int))
 else
 some (r49, (0 : Int))
 else
 bif r45.2 != (0 : Int) then
 some (((⟨#[]⟩ : BA), ((⟨#[]⟩ : BA), true)), (0 : Int))
 else
 some (r49, (0 : Int))
 else
 (none)
 else
 bif r45.2 != (0 : Int) then
 some (((⟨#[]⟩ : BA), ((⟨#[]⟩ : BA), true)), (0 : Int))
 else
 some (r46, (0 : Int))
 else
 bif r33.2 then
 (F25 (List.take y5.1 y5.2.2)).bind fun r50 =>
 bif decide ((r50.1.1.length + 1) * 40 ≤ zo) then
 (F26 (List.take (r50.1.1.length + 1) (List.take r50.1.1.length r50.1.1 ++ ([r33.1.2.2])), zd r33.1.2.1 (⟨#[60, 61]⟩ : BA))).bind fun r51 =>
 (F23 (r46, r51.1)).bind fun r52 =>
 bif r51.2 != (0 : Int) then
 bif r51.2 != (0 : Int) then
 some (((⟨#[]⟩ : BA), ((⟨#[]⟩ : BA), true)), (0 : Int))
 else
 some (r52, (0 : Int))
 else
 bif r34.2 != (0 : Int) then
 some (((⟨#[]⟩ : BA), ((⟨#[]⟩ : BA), true)), (0 : Int))
 else
 some (r52, (0 : Int))
 else
 (none)
 else
 bif r34.2 != (0 : Int) then
 some (((⟨#[]⟩ : BA), ((⟨#[]⟩ : BA), true)), (0 : Int))
 else
 some (r46, (0 : Int))
 else
 (none)
 else
 bif r33.2 then
 (F25 (List.take y5.1 y5.2.2)).bind fun r53 =>
 bif decide ((r53.1.1.length + 1) * 40 ≤ zo) then
 (F26 (List.take (r53.1.1.length + 1) (List.take r53.1.1.length r53.1.1 ++ ([r33.1.2.2])), zd r33.1.2.1 (⟨#[60, 61]⟩ : BA))).bind fun r54 =>
 (F23 (r34.1, r54.1)).bind fun r55 =>
 bif r54.2 != (0 : Int) then
 bif r54.2 != (0 : Int) then
 some (((⟨#[]⟩ : BA), ((⟨#[]⟩ : BA), true)), (0 : Int))
 else
 some (r55, (0 : Int))
 else
 bif r34.2 != (0 : Int) then
 some (((⟨#[]⟩ : BA), ((⟨#[]⟩ : BA), true)), (0 : Int))
 else
 some (r55, (0 : Int))
 else
 (none)
 else
 bif r34.2 != (0 : Int) then
 some (((⟨#[]⟩ : BA), ((⟨#[]⟩ : BA), true)), (0 : Int))
 else
 some (r34.1, (0 : Int))
 else
 (none)
 else
 (none)
 else
 (F21 (List.take y5.1 y5.2.2)).bind fun r56 =>
 bif r56.2 != (0 : Int) then
 some (((⟨#[]⟩ : BA), ((⟨#[]⟩ : BA), true)), (0 : Int))
 else
 some (r56.1, (0 : Int))
theorem f6.a1_0 (n : Nat) (x : f6.Z1) (r1 : Int) (y2 : Int) (r4 : f6.Z0) (m : Nat) (y : f6.Z2) : f6.L1 false false n x r1 y2 r4 (m + 1) y = f6.s1 n x r1 y2 r4 (f6.L1 false false n x r1 y2 r4 m) y := by kernel_rfl
theorem f6.a1_1 (n : Nat) (x : f6.Z1) (r1 : Int) (y2 : Int) (r4 : f6.Z0) (m : Nat) (y : f6.Z2) : f6.L1 true false n x r1 y2 r4 (m + 1) y = f6.s1 n x r1 y2 r4 (f6.L1 true false n x r1 y2 r4 m) y := by kernel_rfl
theorem f6.a1_2 (n : Nat) (x : f6.Z1) (r1 : Int) (y2 : Int) (r4 : f6.Z0) (m : Nat) (y : f6.Z2) : f6.L1 false true n x r1 y2 r4 (m + 1) y = f6.s1 n x r1 y2 r4 (f6.L1 false true n x r1 y2 r4 m) y := by kernel_rfl
theorem f6.a1_3 (n : Nat) (x : f6.Z1) (r1 : Int) (y2 : Int) (r4 : f6.Z0) (m : Nat) (y : f6.Z2) : f6.L1 true true n x r1 y2 r4 (m + 1) y = f6.s1 n x r1 y2 r4 (f6.L1 true true n x r1 y2 r4 m) y := by kernel_rfl
theorem f6.a1 (b0 b1 : Bool) (n : Nat) (x : f6.Z1) (r1 : Int) (y2 : Int) (r4 : f6.Z0) (m : Nat) (y : f6.Z2) : f6.L1 b0 b1 n x r1 y2 r4 (m + 1) y = f6.s1 n x r1 y2 r4 (f6.L1 b0 b1 n x r1 y2 r4 m) y := match b0, b1 with
 | false, false => f6.a1_0 n x r1 y2 r4 m y
 | true, false => f6.a1_1 n x r1 y2 r4 m y
 | false, true => f6.a1_2 n x r1 y2 r4 m y
 | true, true => f6.a1_3 n x r1 y2 r4 m y
theorem f6.k1 (b0 b1 : Bool) (n : Nat) (x : f6.Z1) (r1 : Int) (y2 : Int) (r4 : f6.Z0) (m : Nat) (y : f6.Z2) : f6.L1 b0 b1 n x r1 y2 r4 (m + 1) y = f6.s1 n x r1 y2 r4 (f6.L1 b0 b1 n x r1 y2 r4 m) y := by exact f6.a1 b0 b1 n x r1 y2 r4 m y
theorem f6.l1 (b0 b1 : Bool) (n : Nat) (x : f6.Z1) (r1 : Int) (y2 : Int) (r4 : f6.Z0) : ∀ (m : Nat) (y5 : f6.Z2), f6.L1 b0 b1 n x r1 y2 r4 m y5 = zY (f6.s1 n x r1 y2 r4) m y5 :=
 zM (L := f6.L1 b0 b1 n x r1 y2 r4) (step := f6.s1 n x r1 y2 r4) (fun _ => rfl) (f6.k1 b0 b1 n x r1 y2 r4)
def f6.s2 (n : Nat) (x : f6.Z1) (r1 : Int) (S2 : Int → Option f6.Y3) (y2 : Int) : Option f6.Y3 :=
 bif decide (y2 < (x.2.2.length : Int)) then
 bif decide (0 ≤ y2) && decide (y2 < (x.2.2.length : Int)) then
 bif bif (decide (x.2.2.getD y2.toNat (Ty.dflt (.int .i64)) < (0 : Int))) then true else (decide (x.2.2.getD y2.toNat (Ty.dflt (.int .i64)) ≥ (x.1.2.1.length : Int))) then
 some (((⟨#[]⟩ : BA), ((⟨#[]⟩ : BA), false)), (1 : Int))
 else
 bif decide (0 ≤ y2) && decide (y2 ≤ (x.2.2.length : Int)) then
 (F16 (List.take y2.toNat x.2.2, x.2.2.getD y2.toNat (Ty.dflt (.int .i64)))).bind fun r3 =>
 bif r3 then
 some (((⟨#[]⟩ : BA), ((⟨#[]⟩ : BA), false)), (1 : Int))
 else
 S2 (IntKind.wrap .i64 (y2 + (1 : Int)))
 else
 (none)
 else
 (none)
 else
 (F17 (x.1, (Rose.node x.2.1.lab x.2.1.kids))).bind fun r4 =>
 zY (f6.s1 n x r1 y2 r4) n (0, ((0 : Int), []))
def f6.r2 (b0 b1 : Bool) (n : Nat) (x : f6.Z1) (r1 : Int) (m2 : Nat) (S2 : Int → Option f6.Y3) (y2 : Int) : Option f6.Y3 :=
 bif decide (y2 < (x.2.2.length : Int)) then
 bif decide (0 ≤ y2) && decide (y2 < (x.2.2.length : Int)) then
 bif bif (decide (x.2.2.getD y2.toNat (Ty.dflt (.int .i64)) < (0 : Int))) then true else (decide (x.2.2.getD y2.toNat (Ty.dflt (.int .i64)) ≥ (x.1.2.1.length : Int))) then
 some (((⟨#[]⟩ : BA), ((⟨#[]⟩ : BA), false)), (1 : Int))
 else
 bif decide (0 ≤ y2) && decide (y2 ≤ (x.2.2.length : Int)) then
 (F16 (List.take y2.toNat x.2.2, x.2.2.getD y2.toNat (Ty.dflt (.int .i64)))).bind fun r3 =>
 bif r3 then
 some (((⟨#[]⟩ : BA), ((⟨#[]⟩ : BA), false)), (1 : Int))
 else
 S2 (IntKind.wrap .i64 (y2 + (1 : Int)))
 else
 (none)
 else
 (none)
 else
 (F17 (x.1, (Rose.node x.2.1.lab x.2.1.kids))).bind fun r4 =>
 f6.L1 b0 b1 n x r1 y2 r4 n (0, ((0 : Int), []))
theorem f6.a2_0 (n : Nat) (x : f6.Z1) (r1 : Int) (m : Nat) (y : Int) : f6.L2 false false n x r1 (m + 1) y = f6.r2 false false n x r1 m (f6.L2 false false n x r1 m) y := by kernel_rfl
theorem f6.a2_1 (n : Nat) (x : f6.Z1) (r1 : Int) (m : Nat) (y : Int) : f6.L2 true false n x r1 (m + 1) y = f6.r2 true false n x r1 m (f6.L2 true false n x r1 m) y := by kernel_rfl
theorem f6.a2_2 (n : Nat) (x : f6.Z1) (r1 : Int) (m : Nat) (y : Int) : f6.L2 false true n x r1 (m + 1) y = f6.r2 false true n x r1 m (f6.L2 false true n x r1 m) y := by kernel_rfl
theorem f6.a2_3 (n : Nat) (x : f6.Z1) (r1 : Int) (m : Nat) (y : Int) : f6.L2 true true n x r1 (m + 1) y = f6.r2 true true n x r1 m (f6.L2 true true n x r1 m) y := by kernel_rfl
theorem f6.a2 (b0 b1 : Bool) (n : Nat) (x : f6.Z1) (r1 : Int) (m : Nat) (y : Int) : f6.L2 b0 b1 n x r1 (m + 1) y = f6.r2 b0 b1 n x r1 m (f6.L2 b0 b1 n x r1 m) y := match b0, b1 with
 | false, false => f6.a2_0 n x r1 m y
 | true, false => f6.a2_1 n x r1 m y
 | false, true => f6.a2_2 n x r1 m y
 | true, true => f6.a2_3 n x r1 m y
theorem f6.k2 (b0 b1 : Bool) (n : Nat) (x : f6.Z1) (r1 : Int) (m : Nat) (y : Int) : f6.L2 b0 b1 n x r1 (m + 1) y = f6.s2 n x r1 (f6.L2 b0 b1 n x r1 m) y := by
 have h : f6.L2 b0 b1 n x r1 (m + 1) y = f6.r2 b0 b1 n x r1 m (f6.L2 b0 b1 n x r1 m) y := f6.a2 b0 b1 n x r1 m y
 rw [h]
 simp only [f6.r2, f6.s2, f6.l1]
theorem f6.l2 (b0 b1 : Bool) (n : Nat) (x : f6.Z1) (r1 : Int) : ∀ (m : Nat) (y2 : Int), f6.L2 b0 b1 n x r1 m y2 = zY (f6.s2 n x r1) m y2 :=
 zM (L := f6.L2 b0 b1 n x r1) (step := f6.s2 n x r1) (fun _ => rfl) (f6.k2 b0 b1 n x r1)
def f6.g (n : Nat) (x : f6.Z1) : Option f6.Y3 :=
 (F15 (x.1, (Rose.node x.2.1.lab x.2.1.kids))).bind fun r1 =>
 bif r1 != (0 : Int) then
 some (((⟨#[]⟩ : BA), ((⟨#[]⟩ : BA), false)), r1)
 else
 bif bif (decide ((x.2.2.length : Int) < (1 : Int))) then true else (decide ((x.2.2.length : Int) > (64 : Int))) then
 some (((⟨#[]⟩ : BA), ((⟨#[]⟩ : BA), false)), (1 : Int))
 else
 zY (f6.s2 n x r1) n (0 : Int)
def f6.q (b0 b1 : Bool) (n : Nat) (x : f6.Z1) : Option f6.Y3 :=
 (F15 (x.1, (Rose.node x.2.1.lab x.2.1.kids))).bind fun r1 =>
 bif r1 != (0 : Int) then
 some (((⟨#[]⟩ : BA), ((⟨#[]⟩ : BA), false)), r1)
 else
 bif bif (decide ((x.2.2.length : Int) < (1 : Int))) then true else (decide ((x.2.2.length : Int) > (64 : Int))) then
 some (((⟨#[]⟩ : BA), ((⟨#[]⟩ : BA), false)), (1 : Int))
 else
 (f6.L2 b0 b1 n x r1 n (0 : Int))
theorem f6.a0_0 (n : Nat) (x : f6.Z1) : sP TT 0 E6 (xH TT E6 n ann (xW C6) 2) n ann f6.alts 6 Tryz.f6 [false, false] (zu f6.A5 x) [] (zq f6.A4) = f6.q false false n x := by kernel_rfl
theorem f6.a0_1 (n : Nat) (x : f6.Z1) : sP TT 0 E6 (xH TT E6 n ann (xW C6) 2) n ann f6.alts 6 Tryz.f6 [true, false] (zu f6.A5 x) [] (zq f6.A4) = f6.q true false n x := by kernel_rfl
theorem f6.a0_2 (n : Nat) (x : f6.Z1) : sP TT 0 E6 (xH TT E6 n ann (xW C6) 2) n ann f6.alts 6 Tryz.f6 [false, true] (zu f6.A5 x) [] (zq f6.A4) = f6.q false true n x := by kernel_rfl
theorem f6.a0_3 (n : Nat) (x : f6.Z1) : sP TT 0 E6 (xH TT E6 n ann (xW C6) 2) n ann f6.alts 6 Tryz.f6 [true, true] (zu f6.A5 x) [] (zq f6.A4) = f6.q true true n x := by kernel_rfl
theorem f6.a0 (b0 b1 : Bool) (n : Nat) (x : f6.Z1) : sP TT 0 E6 (xH TT E6 n ann (xW C6) 2) n ann f6.alts 6 Tryz.f6 [b0, b1] (zu f6.A5 x) [] (zq f6.A4) = f6.q b0 b1 n x := match b0, b1 with
 | false, false => f6.a0_0 n x
 | true, false => f6.a0_1 n x
 | false, true => f6.a0_2 n x
 | true, true => f6.a0_3 n x
theorem f6.eq (b0 b1 : Bool) (n : Nat) (x : f6.Z1) : sP TT 0 E6 (xH TT E6 n ann (xW C6) 2) n ann f6.alts 6 Tryz.f6 [b0, b1] (zu f6.A5 x) [] (zq f6.A4) = f6.g n x :=
 Eq.trans (f6.a0 b0 b1 n x) (by simp only [f6.q, f6.g, f6.l1, f6.l2])
theorem f6.codes : CdO E6 C6 := zm (aC Tryz.func22 aN) (by kernel_rfl)
theorem f6.codeS : CodeTOk Tryz.prog E6 ann f6.alts 6 Tryz.f6 := ⟨Tryz.func6, by kernel_rfl, by kernel_rfl⟩
theorem f6.ok (h : Run F6 f6.g) (e15 : CO 15 Zj) (e16 : CO 16 Yu) (e17 : CO 17 U1) (e18 : CO 18 UF) (e20 : CO 20 UY) (e21 : CO 21 ig) (e23 : CO 23 UD) (e24 : CO 24 SV) (e25 : CO 25 SA) (e26 : CO 26 T1) : CO 6 (zk f6.A5 f6.A4 true F6) :=
 jQ zE zD (zf e26 (zf e25 (zf e24 (zf e23 (zf e21 (zf e20 (zf e18 (zf e17 (zf e16 (zf e15 zj)))))))))) f6.codes 2 f6.codeS (fun _ => Nw.1 rfl) fun X Y hF => (h X Y hF).imp fun n hn => Od fun b0 b1 => (f6.eq b0 b1 n X).trans hn
def P9 : Con := zk f6.A5 f6.A4 true F6
def E34 : FuncId → Option Con := yc
noncomputable def C34 : List (FuncId × Func) := [(34, Tryz.f34)]
def f34.g (n : Nat) (x : Int) : Option (zc) :=
 some ((2 : Int), (x, (0, (⟨#[]⟩ : BA))))
theorem f34.eq (n : Nat) (x : Int) : rK E34 C34 n 1 34 (zu [(false, .int .i64)] x) (zq [(true, tValue)]) = f34.g n x := by
 kernel_rfl
theorem f34.codes : CdO E34 C34 := zm (aC Tryz.func34 aN) (by kernel_rfl)
theorem f34.ok (h : Run F34 f34.g)  : CO 34 (zk [(false, .int .i64)] [(true, tValue)] true F34) :=
 zn zE zD zj f34.codes (fun _ => Nw.1 rfl) (h.go f34.eq)
def Uy : Con := zk [(false, .int .i64)] [(true, tValue)] true F34
def E10 : FuncId → Option Con := (zN 34 Uy (zN 33 Ud (zN 32 Tw (zN 11 aa yc))))
noncomputable def C10 : List (FuncId × Func) := [(10, Tryz.f10)]
def f10.g (n : Nat) (x : Unit) : Option (Bool) :=
 (F33 ()).bind fun r1 =>
 (F32 (r1, (⟨#[97, 32, 43, 32, 49, 32, 60, 32, 53]⟩ : BA))).bind fun r2 =>
 bif r2.2 != (0 : Int) then
 some false
 else
 (F33 ()).bind fun r3 =>
 (F34 (3 : Int)).bind fun r4 =>
 (F11 (r3, ((Rose.node r2.1.lab r2.1.kids), List.take 1 ([r4])))).bind fun r5 =>
 (F33 ()).bind fun r6 =>
 (F34 (4 : Int)).bind fun r7 =>
 (F11 (r6, ((Rose.node r2.1.lab r2.1.kids), List.take 1 ([r7])))).bind fun r8 =>
 some (bif (bif (bif r5.1 then (!r8.1) else false) then (r5.2 == (0 : Int)) else false) then (r8.2 == (0 : Int)) else false)
theorem f10.eq (n : Nat) (x : Unit) : rK E10 C10 n 1 10 (zu [] x) (zq [(false, .bool)]) = f10.g n x := by
 kernel_rfl
theorem f10.codes : CdO E10 C10 := zm (aC Tryz.func10 aN) (by kernel_rfl)
theorem f10.ok (h : Run F10 f10.g) (e11 : CO 11 aa) (e32 : CO 32 Tw) (e33 : CO 33 Ud) (e34 : CO 34 Uy) : CO 10 (zk [] [(false, .bool)] true F10) :=
 zn zE zD (zf e34 (zf e33 (zf e32 (zf e11 zj)))) f10.codes (fun _ => Nw.1 rfl) (h.go f10.eq)
def U4 : Con := zk [] [(false, .bool)] true F10
abbrev f4.Z0 : Type := (ByteArray × (ByteArray × Bool)) × Int
abbrev f4.Z1 : Type := Nat × Int × (List zc)
abbrev f4.Z2 : Type := VU × (List Int)
abbrev f4.A3 : Sig := [(true, c7), (false, .sl (.int .i64))]
def E4 : FuncId → Option Con := (zN 13 Sh (zN 12 Si (zN 11 aa (zN 10 U4 (zN 6 P9 (zN 5 P1 yc))))))
noncomputable def C4 : List (FuncId × Func) := [(4, Tryz.f4)]
def f4.h1 (x : f4.Z2) (r1 : zg) (r2 : f4.Z0) (r3 : Bool × Int) (y5 : f4.Z1) : List AV × List Ob := ([.undef, vv [.sc (.sl (.int .i64)) x.2], vv [.ptr 0 0]] ++ uN 3 ([vv [.ptr 2 0]] ++ uN 3 ([vv [.own 3 y5.1], vv [cI y5.2.1]] ++ uN 72 [])), [.box [cT x.1.1.1, .sc (.sl tColumn) x.1.1.2.1, .sc (.sl (.int .i64)) x.1.1.2.2.1, .sc (.sl tIndex) x.1.1.2.2.2.1, .sc (.sl tRef) x.1.1.2.2.2.2, cI x.1.2.1.lab.1, cT x.1.2.1.lab.2.1, cI x.1.2.1.lab.2.2.1, cI x.1.2.1.lab.2.2.2.1, cI x.1.2.1.lab.2.2.2.2.1, .sc (.float .f64) x.1.2.1.lab.2.2.2.2.2.1, cT x.1.2.1.lab.2.2.2.2.2.2, .sc (.sl tExpr) x.1.2.1.kids, .sc (.sl tValue) x.1.2.2], .box [cI r1.lab.1, cT r1.lab.2.1, cI r1.lab.2.2.1, cI r1.lab.2.2.2.1, cI r1.lab.2.2.2.2.1, .sc (.float .f64) r1.lab.2.2.2.2.2.1, cT r1.lab.2.2.2.2.2.2, .sc (.sl tExpr) r1.kids], .box [cT r2.1.1, cT r2.1.2.1, cB r2.1.2.2], .arr 30 tValue y5.2.2])
def f4.L1 (n : Nat) (x : f4.Z2) (r1 : zg) (r2 : f4.Z0) (r3 : Bool × Int) (m5 : Nat) (y5 : f4.Z1) : Option (Bool) :=
 lK (ann 4 8) 4 E4 C4 n 1 4 Tryz.f4 [1, 1, 1, 1, 1, 1, 0, 1, 0, 0] [1, 1, 1, 1, 1, 1, 0, 1, 0] m5 (f4.h1 x r1 r2 r3 y5) (un TT Tryz.f4 (zq [(false, .bool)]))
def f4.s1 (n : Nat) (x : f4.Z2) (r1 : zg) (r2 : f4.Z0) (r3 : Bool × Int) (S5 : (Nat × Int × (List zc)) → Option (Bool)) (y5 : f4.Z1) : Option (Bool) :=
 bif decide (y5.2.1 < (x.2.length : Int)) then
 bif decide (0 ≤ y5.2.1) && decide (y5.2.1 < (x.2.length : Int)) then
 bif decide (0 ≤ x.2.getD y5.2.1.toNat (Ty.dflt (.int .i64))) && decide (x.2.getD y5.2.1.toNat (Ty.dflt (.int .i64)) < (x.1.2.2.length : Int)) then
 bif decide ((y5.1 + 1) * 40 ≤ zo) then
 S5 (y5.1 + 1, (IntKind.wrap .i64 (y5.2.1 + (1 : Int)), List.take y5.1 y5.2.2 ++ ([x.1.2.2.getD ((x.2.getD y5.2.1.toNat (Ty.dflt (.int .i64))).toNat) tValue.dflt])))
 else
 (none)
 else
 (none)
 else
 (none)
 else
 (F12 (List.take y5.1 y5.2.2)).bind fun r6 =>
 bif r6.2 != (0 : Int) then
 (F10 ()).bind fun r7 =>
 some r7
 else
 (F13 (r2.1, r6.1)).bind fun r8 =>
 bif r8 then
 bif decide (r6.1.size + (⟨#[3, 128]⟩ : BA).size ≤ y8) then
 (F13 (r2.1, r6.1 ++ (⟨#[3, 128]⟩ : BA))).bind fun r9 =>
 bif r9 then
 (F10 ()).bind fun r10 =>
 some r10
 else
 some false
 else
 (none)
 else
 some false
theorem f4.l1 (n : Nat) (x : f4.Z2) (r1 : zg) (r2 : f4.Z0) (r3 : Bool × Int) : ∀ (m : Nat) (y5 : f4.Z1), f4.L1 n x r1 r2 r3 m y5 = zY (f4.s1 n x r1 r2 r3) m y5 :=
 zM (fun _ => rfl) fun m y => by kernel_rfl
def f4.g (n : Nat) (x : f4.Z2) : Option (Bool) :=
 (F5 (Rose.node x.1.2.1.lab x.1.2.1.kids)).bind fun r1 =>
 (F6 (x.1.1, ((Rose.node r1.lab r1.kids), x.2))).bind fun r2 =>
 (F11 (x.1.1, ((Rose.node r1.lab r1.kids), x.1.2.2))).bind fun r3 =>
 bif bif (bif (r2.2 != (0 : Int)) then true else (r3.2 != (0 : Int))) then true else (!r3.1) then
 (F10 ()).bind fun r4 =>
 some r4
 else
 zY (f4.s1 n x r1 r2 r3) n (0, ((0 : Int), []))
theorem f4.eq (n : Nat) (x : f4.Z2) : rK E4 C4 n 1 4 (zu f4.A3 x) (zq [(false, .bool)]) = f4.g n x := by
 simp only [f4.g, ← f4.l1]
 kernel_rfl
theorem f4.codes : CdO E4 C4 := zm (aC Tryz.func4 aN) (by kernel_rfl)
theorem f4.ok (h : Run (FL f4.A3) f4.g) (e5 : CO 5 P1) (e6 : CO 6 P9) (e10 : CO 10 U4) (e11 : CO 11 aa) (e12 : CO 12 Si) (e13 : CO 13 Sh) : CO 4 (zk f4.A3 [(false, .bool)] true (FL f4.A3)) :=
 zn zE zD (zf e13 (zf e12 (zf e11 (zf e10 (zf e6 (zf e5 zj)))))) f4.codes (fun _ => Nw.1 rfl) (h.go f4.eq)
def Nq : Con := zk f4.A3 [(false, .bool)] true (FL f4.A3)
end
end Go.Proofs.YtefddghdaimklaaGreatDoor.AI
