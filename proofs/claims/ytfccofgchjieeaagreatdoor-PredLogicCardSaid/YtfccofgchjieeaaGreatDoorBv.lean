/- Runs of the program's functions over plain data. Printed by aipr.py; Lean checks them. -/
import Derived.Test.YtfccofgchjieeaaGreatDoorBc
set_option maxRecDepth 100000
set_option linter.unusedVariables false
set_option linter.unusedSimpArgs false
set_option linter.unusedSectionVars false
namespace Go.Proofs.YtfccofgchjieeaaGreatDoor.AI
open Go
noncomputable section
/-! ### vellum/vellumref15.counted -/
class Rec48 where
 F : (dExpr × Int) → Option (Int)
section
variable [Rec48]
def conS48 : Con := mkCon [(true, tExpr), (false, .int .i64)] [(false, .int .i64)] true Rec48.F
def E48 : FuncId → Option Con := (envC 48 conS48 env0)
noncomputable def C48 : List (FuncId × Func) := [(48, Tryz.f48)]
def f48.h1 (x : dExpr × Int) (y1 : Int × Int) : List AV × List Ob := ([.undef, .val false [.sc (.int .i64) y1.1], .val false [.ptr 0 0], .undef, .undef, .val false [.sc (.int .i64) y1.2]] ++ List.replicate 21 .undef, [.box [.sc (.int .i64) x.1.lab.1, .sc .str x.1.lab.2.1, .sc (.int .i64) x.1.lab.2.2.1, .sc (.int .i64) x.1.lab.2.2.2.1, .sc (.int .i64) x.1.lab.2.2.2.2.1, .sc (.float .f64) x.1.lab.2.2.2.2.2.1, .sc .str x.1.lab.2.2.2.2.2.2, .sc (.sl tExpr) x.1.kids]])
def f48.L1 (n : Nat) (x : dExpr × Int) (m1 : Nat) (y1 : Int × Int) : Option (Int) :=
 loopN (ann 48 3).keep 1 (fun fr H k => execK TT 0 E48 (inlD TT E48 n ann (tabC C48) 1) n (ann 48) (subC [1, 1, 0, 1, 0, 0] (bodyOf Tryz.f48)) fr H k) m1 (f48.h1 x y1).1 (f48.h1 x y1).2 (kont TT 0 E48 (inlD TT E48 n ann (tabC C48) 1) n (ann 48) [1, 1, 0, 1, 0] (bodyOf Tryz.f48) (endK TT Tryz.f48 (readL [(false, .int .i64)])))
def f48.s1 (n : Nat) (x : dExpr × Int) (S1 : (Int × Int) → Option (Int)) (y1 : Int × Int) : Option (Int) :=
 bif bif (decide (y1.2 < (x.1.kids.length : Int))) then (decide (y1.1 ≤ (262144 : Int))) else false then
 (bif decide (0 ≤ y1.2) && decide (y1.2 < (x.1.kids.length : Int)) then
 ((Rec48.F ((Rose.node ((x.1.kids.getD y1.2.toNat tExpr.dflt).lab) ((x.1.kids.getD y1.2.toNat tExpr.dflt).kids)), y1.1)).bind fun r2 =>
 S1 (r2, IntKind.wrap .i64 (y1.2 + (1 : Int))))
 else
 (none))
 else
 (some y1.1)
theorem f48.k1 (n : Nat) (x : dExpr × Int) (m : Nat) (y : Int × Int) : f48.L1 n x (m + 1) y = f48.s1 n x (f48.L1 n x m) y := by kernel_rfl
theorem f48.l1 (n : Nat) (x : dExpr × Int) : ∀ (m : Nat) (y1 : Int × Int), f48.L1 n x m y1 = iter (f48.s1 n x) m y1 :=
 loop_of (L := f48.L1 n x) (step := f48.s1 n x) (fun _ => rfl) (f48.k1 n x)
def f48.g (n : Nat) (x : dExpr × Int) : Option (Int) :=
 iter (f48.s1 n x) n (IntKind.wrap .i64 (x.2 + (1 : Int)), (0 : Int))
def f48.q (n : Nat) (x : dExpr × Int) : Option (Int) :=
 f48.L1 n x n (IntKind.wrap .i64 (x.2 + (1 : Int)), (0 : Int))
theorem f48.eq (n : Nat) (x : dExpr × Int) : runK TT E48 n ann (tabC C48) 1 48 (argsL [(true, tExpr), (false, .int .i64)] x) [] (readL [(false, .int .i64)]) = f48.g n x := by
 have h : runK TT E48 n ann (tabC C48) 1 48 (argsL [(true, tExpr), (false, .int .i64)] x) [] (readL [(false, .int .i64)]) = f48.q n x := by kernel_rfl
 rw [h]
 simp only [f48.q, f48.g, f48.l1]
theorem f48.codes : CodesOk Tryz.prog E48 ann (tabC C48) := tabC_ok (by intro p hp; simp only [C48, List.mem_cons, List.not_mem_nil, or_false] at hp; rcases hp with rfl <;> first | exact Tryz.func48) (by kernel_rfl)
theorem f48.ok (G : (dExpr × Int) → Option (Int)) (h : ∀ X Y, G X = some Y → ∃ n, f48.g n X = some Y) (e48 : ConOk Tryz.prog 48 conS48) : ConOk Tryz.prog 48 (mkCon [(true, tExpr), (false, .int .i64)] [(false, .int .i64)] true G) :=
 mkCon_ok mixed TT_ok (envC_ok e48 env0_ok) f48.codes (fun _ => List.all_eq_true.1 rfl) fun X Y hF => (h X Y hF).imp fun n hn => (f48.eq n X).trans hn
end
def con48 : Con := mkCon [(true, tExpr), (false, .int .i64)] [(false, .int .i64)] true F48
/-! ### vellum/vellumref15.Large -/
def E24 : FuncId → Option Con := (envC 48 con48 env0)
noncomputable def C24 : List (FuncId × Func) := [(24, Tryz.f24)]
def f24.g (n : Nat) (x : dExpr) : Option (Bool) :=
 (F48 ((Rose.node x.lab x.kids), (0 : Int))).bind fun r1 =>
 some (decide (r1 > (262144 : Int)))
theorem f24.eq (n : Nat) (x : dExpr) : runK TT E24 n ann (tabC C24) 1 24 (argsL [(true, tExpr)] x) [] (readL [(false, .bool)]) = f24.g n x := by
 kernel_rfl
theorem f24.codes : CodesOk Tryz.prog E24 ann (tabC C24) := tabC_ok (by intro p hp; simp only [C24, List.mem_cons, List.not_mem_nil, or_false] at hp; rcases hp with rfl <;> first | exact Tryz.func24) (by kernel_rfl)
theorem f24.ok (h : ∀ X Y, F24 X = some Y → ∃ n, f24.g n X = some Y) (e48 : ConOk Tryz.prog 48 con48) : ConOk Tryz.prog 24 (mkCon [(true, tExpr)] [(false, .bool)] true F24) :=
 mkCon_ok mixed TT_ok (envC_ok e48 env0_ok) f24.codes (fun _ => List.all_eq_true.1 rfl) fun X Y hF => (h X Y hF).imp fun n hn => (f24.eq n X).trans hn
def con24 : Con := mkCon [(true, tExpr)] [(false, .bool)] true F24
/-! ### vellum/vellumlaw15.cut -/
def E7 : FuncId → Option Con := (envC 24 con24 env0)
noncomputable def C7 : List (FuncId × Func) := [(7, Tryz.f7)]
def f7.g (n : Nat) (x : dExpr) : Option (dExpr) :=
 (F24 (Rose.node x.lab x.kids)).bind fun r1 =>
 bif r1 then
 (some (Rose.node ((0 : Int), ((⟨#[]⟩ : ByteArray), ((0 : Int), ((0 : Int), ((0 : Int), (0, (⟨#[]⟩ : ByteArray))))))) ([])))
 else
 (some (Rose.node x.lab x.kids))
theorem f7.eq (n : Nat) (x : dExpr) : runK TT E7 n ann (tabC C7) 1 7 (argsL [(true, tExpr)] x) [] (readL [(true, tExpr)]) = f7.g n x := by
 kernel_rfl
theorem f7.codes : CodesOk Tryz.prog E7 ann (tabC C7) := tabC_ok (by intro p hp; simp only [C7, List.mem_cons, List.not_mem_nil, or_false] at hp; rcases hp with rfl <;> first | exact Tryz.func7) (by kernel_rfl)
theorem f7.ok (h : ∀ X Y, F7 X = some Y → ∃ n, f7.g n X = some Y) (e24 : ConOk Tryz.prog 24 con24) : ConOk Tryz.prog 7 (mkCon [(true, tExpr)] [(true, tExpr)] false F7) :=
 mkCon_ok mixed TT_ok (envC_ok e24 env0_ok) f7.codes (fun h => by cases h) fun X Y hF => (h X Y hF).imp fun n hn => (f7.eq n X).trans hn
def con7 : Con := mkCon [(true, tExpr)] [(true, tExpr)] false F7
/-! ### vellum/vellumlaw15.ints -/
def E18 : FuncId → Option Con := env0
noncomputable def C18 : List (FuncId × Func) := [(18, Tryz.f18)]
def f18.h1 (x : (List Int) × (List Int)) (y1 : Int) : List AV × List Ob := ([.val false [.sc (.sl (.int .i64)) x.1], .val false [.sc (.sl (.int .i64)) x.2], .undef, .undef, .undef, .val false [.sc (.int .i64) y1]] ++ List.replicate 20 .undef, [])
def f18.L1 (n : Nat) (x : (List Int) × (List Int)) (m1 : Nat) (y1 : Int) : Option (Bool) :=
 loopN (ann 18 4).keep 0 (fun fr H k => execK TT 0 E18 (inlD TT E18 n ann (tabC C18) 1) n (ann 18) (subC [1, 1, 0, 1, 0, 0] (bodyOf Tryz.f18)) fr H k) m1 (f18.h1 x y1).1 (f18.h1 x y1).2 (kont TT 0 E18 (inlD TT E18 n ann (tabC C18) 1) n (ann 18) [1, 1, 0, 1, 0] (bodyOf Tryz.f18) (endK TT Tryz.f18 (readL [(false, .bool)])))
def f18.s1 (n : Nat) (x : (List Int) × (List Int)) (S1 : Int → Option (Bool)) (y1 : Int) : Option (Bool) :=
 bif decide (y1 < (x.1.length : Int)) then
 (bif decide (0 ≤ y1) && decide (y1 < (x.1.length : Int)) then
 (bif decide (0 ≤ y1) && decide (y1 < (x.2.length : Int)) then
 (bif x.1.getD y1.toNat (Ty.dflt (.int .i64)) != x.2.getD y1.toNat (Ty.dflt (.int .i64)) then
 (some false)
 else
 (S1 (IntKind.wrap .i64 (y1 + (1 : Int)))))
 else
 (none))
 else
 (none))
 else
 (some true)
theorem f18.k1 (n : Nat) (x : (List Int) × (List Int)) (m : Nat) (y : Int) : f18.L1 n x (m + 1) y = f18.s1 n x (f18.L1 n x m) y := by kernel_rfl
theorem f18.l1 (n : Nat) (x : (List Int) × (List Int)) : ∀ (m : Nat) (y1 : Int), f18.L1 n x m y1 = iter (f18.s1 n x) m y1 :=
 loop_of (L := f18.L1 n x) (step := f18.s1 n x) (fun _ => rfl) (f18.k1 n x)
def f18.g (n : Nat) (x : (List Int) × (List Int)) : Option (Bool) :=
 bif (x.1.length : Int) != (x.2.length : Int) then
 (some false)
 else
 (iter (f18.s1 n x) n (0 : Int))
def f18.q (n : Nat) (x : (List Int) × (List Int)) : Option (Bool) :=
 bif (x.1.length : Int) != (x.2.length : Int) then
 (some false)
 else
 (f18.L1 n x n (0 : Int))
theorem f18.eq (n : Nat) (x : (List Int) × (List Int)) : runK TT E18 n ann (tabC C18) 1 18 (argsL [(false, .sl (.int .i64)), (false, .sl (.int .i64))] x) [] (readL [(false, .bool)]) = f18.g n x := by
 have h : runK TT E18 n ann (tabC C18) 1 18 (argsL [(false, .sl (.int .i64)), (false, .sl (.int .i64))] x) [] (readL [(false, .bool)]) = f18.q n x := by kernel_rfl
 rw [h]
 simp only [f18.q, f18.g, f18.l1]
theorem f18.codes : CodesOk Tryz.prog E18 ann (tabC C18) := tabC_ok (by intro p hp; simp only [C18, List.mem_cons, List.not_mem_nil, or_false] at hp; rcases hp with rfl <;> first | exact Tryz.func18) (by kernel_rfl)
theorem f18.ok (h : ∀ X Y, F18 X = some Y → ∃ n, f18.g n X = some Y)  : ConOk Tryz.prog 18 (mkCon [(false, .sl (.int .i64)), (false, .sl (.int .i64))] [(false, .bool)] true F18) :=
 mkCon_ok mixed TT_ok env0_ok f18.codes (fun _ => List.all_eq_true.1 rfl) fun X Y hF => (h X Y hF).imp fun n hn => (f18.eq n X).trans hn
def con18 : Con := mkCon [(false, .sl (.int .i64)), (false, .sl (.int .i64))] [(false, .bool)] true F18
/-! ### vellum/vellumref15.Copy -/
class Rec16 where
 F : dExpr → Option (dExpr)
section
variable [Rec16]
def conS16 : Con := mkCon [(true, tExpr)] [(true, tExpr)] false Rec16.F
def E16 : FuncId → Option Con := (envC 16 conS16 env0)
noncomputable def C16 : List (FuncId × Func) := [(16, Tryz.f16)]
def f16.h1 (x : dExpr) (y1 : Int × Nat × (List dExpr)) : List AV × List Ob := ([.undef, .val false [.ptr 0 0], .val false [.ptr 1 0], .val false [.ptr 2 0], .val false [.sc (.int .i64) y1.1]] ++ List.replicate 28 .undef, [.box [.sc (.int .i64) x.lab.1, .sc .str x.lab.2.1, .sc (.int .i64) x.lab.2.2.1, .sc (.int .i64) x.lab.2.2.2.1, .sc (.int .i64) x.lab.2.2.2.2.1, .sc (.float .f64) x.lab.2.2.2.2.2.1, .sc .str x.lab.2.2.2.2.2.2, .sc (.sl tExpr) x.kids], .box [.sc (.int .i64) (0 : Int), .sc .str (⟨#[]⟩ : ByteArray), .sc (.int .i64) (0 : Int), .sc (.int .i64) (0 : Int), .sc (.int .i64) (0 : Int), .sc (.float .f64) 0, .sc .str (⟨#[]⟩ : ByteArray), .nils], .box [.sc (.int .i64) x.lab.1, .sc .str x.lab.2.1, .sc (.int .i64) x.lab.2.2.1, .sc (.int .i64) x.lab.2.2.2.1, .sc (.int .i64) x.lab.2.2.2.2.1, .sc (.float .f64) x.lab.2.2.2.2.2.1, .sc .str x.lab.2.2.2.2.2.2, .own 3 y1.2.1], .arr 33 tExpr y1.2.2])
def f16.L1 (n : Nat) (x : dExpr) (m1 : Nat) (y1 : Int × Nat × (List dExpr)) : Option (dExpr) :=
 loopN (ann 16 3).keep 4 (fun fr H k => execK TT 0 E16 (inlD TT E16 n ann (tabC C16) 1) n (ann 16) (subC [1, 1, 0, 1, 0, 0] (bodyOf Tryz.f16)) fr H k) m1 (f16.h1 x y1).1 (f16.h1 x y1).2 (kont TT 0 E16 (inlD TT E16 n ann (tabC C16) 1) n (ann 16) [1, 1, 0, 1, 0] (bodyOf Tryz.f16) (endK TT Tryz.f16 (readL [(true, tExpr)])))
def f16.s1 (n : Nat) (x : dExpr) (S1 : (Int × Nat × (List dExpr)) → Option (dExpr)) (y1 : Int × Nat × (List dExpr)) : Option (dExpr) :=
 bif decide (y1.1 < (x.kids.length : Int)) then
 (bif decide (0 ≤ y1.1) && decide (y1.1 < (x.kids.length : Int)) then
 ((Rec16.F (Rose.node ((x.kids.getD y1.1.toNat tExpr.dflt).lab) ((x.kids.getD y1.1.toNat tExpr.dflt).kids))).bind fun r2 =>
 bif decide ((y1.2.1 + 1) * 96 ≤ boundN) then
 (S1 (IntKind.wrap .i64 (y1.1 + (1 : Int)), (y1.2.1 + 1, List.take y1.2.1 y1.2.2 ++ ([(Rose.node r2.lab r2.kids)]))))
 else
 (none))
 else
 (none))
 else
 (some (Rose.node x.lab (List.take y1.2.1 y1.2.2)))
theorem f16.k1 (n : Nat) (x : dExpr) (m : Nat) (y : Int × Nat × (List dExpr)) : f16.L1 n x (m + 1) y = f16.s1 n x (f16.L1 n x m) y := by kernel_rfl
theorem f16.l1 (n : Nat) (x : dExpr) : ∀ (m : Nat) (y1 : Int × Nat × (List dExpr)), f16.L1 n x m y1 = iter (f16.s1 n x) m y1 :=
 loop_of (L := f16.L1 n x) (step := f16.s1 n x) (fun _ => rfl) (f16.k1 n x)
def f16.g (n : Nat) (x : dExpr) : Option (dExpr) :=
 iter (f16.s1 n x) n ((0 : Int), (0, []))
def f16.q (n : Nat) (x : dExpr) : Option (dExpr) :=
 f16.L1 n x n ((0 : Int), (0, []))
theorem f16.eq (n : Nat) (x : dExpr) : runK TT E16 n ann (tabC C16) 1 16 (argsL [(true, tExpr)] x) [] (readL [(true, tExpr)]) = f16.g n x := by
 have h : runK TT E16 n ann (tabC C16) 1 16 (argsL [(true, tExpr)] x) [] (readL [(true, tExpr)]) = f16.q n x := by kernel_rfl
 rw [h]
 simp only [f16.q, f16.g, f16.l1]
theorem f16.codes : CodesOk Tryz.prog E16 ann (tabC C16) := tabC_ok (by intro p hp; simp only [C16, List.mem_cons, List.not_mem_nil, or_false] at hp; rcases hp with rfl <;> first | exact Tryz.func16) (by kernel_rfl)
theorem f16.ok (G : dExpr → Option (dExpr)) (h : ∀ X Y, G X = some Y → ∃ n, f16.g n X = some Y) (e16 : ConOk Tryz.prog 16 conS16) : ConOk Tryz.prog 16 (mkCon [(true, tExpr)] [(true, tExpr)] false G) :=
 mkCon_ok mixed TT_ok (envC_ok e16 env0_ok) f16.codes (fun h => by cases h) fun X Y hF => (h X Y hF).imp fun n hn => (f16.eq n X).trans hn
end
def con16 : Con := mkCon [(true, tExpr)] [(true, tExpr)] false F16
/-! ### slices.Index[[]string,string] -/
def E102 : FuncId → Option Con := env0
noncomputable def C102 : List (FuncId × Func) := [(102, Tryz.f102)]
def f102.h1 (x : (List ByteArray) × ByteArray) (y1 : Int) : List AV × List Ob := ([.val false [.sc (.sl .str) x.1], .val false [.sc .str x.2], .undef, .undef, .undef, .undef, .undef, .val false [.sc (.int .i64) (x.1.length : Int)], .val false [.sc (.int .i64) y1]] ++ List.replicate 10 .undef, [])
def f102.L1 (n : Nat) (x : (List ByteArray) × ByteArray) (m1 : Nat) (y1 : Int) : Option (Int) :=
 loopN (ann 102 2).keep 0 (fun fr H k => execK TT 0 E102 (inlD TT E102 n ann (tabC C102) 1) n (ann 102) (subC [1, 0, 1, 0, 0] (bodyOf Tryz.f102)) fr H k) m1 (f102.h1 x y1).1 (f102.h1 x y1).2 (kont TT 0 E102 (inlD TT E102 n ann (tabC C102) 1) n (ann 102) [1, 0, 1, 0] (bodyOf Tryz.f102) (endK TT Tryz.f102 (readL [(false, .int .i64)])))
def f102.s1 (n : Nat) (x : (List ByteArray) × ByteArray) (S1 : Int → Option (Int)) (y1 : Int) : Option (Int) :=
 bif decide (y1 < (x.1.length : Int)) then
 (bif decide (0 ≤ y1) && decide (y1 < (x.1.length : Int)) then
 (bif strEq x.2 (x.1.getD y1.toNat (Ty.dflt .str)) then
 (some y1)
 else
 (S1 (IntKind.wrap .i64 (y1 + (1 : Int)))))
 else
 (none))
 else
 (some (-1 : Int))
theorem f102.k1 (n : Nat) (x : (List ByteArray) × ByteArray) (m : Nat) (y : Int) : f102.L1 n x (m + 1) y = f102.s1 n x (f102.L1 n x m) y := by kernel_rfl
theorem f102.l1 (n : Nat) (x : (List ByteArray) × ByteArray) : ∀ (m : Nat) (y1 : Int), f102.L1 n x m y1 = iter (f102.s1 n x) m y1 :=
 loop_of (L := f102.L1 n x) (step := f102.s1 n x) (fun _ => rfl) (f102.k1 n x)
def f102.g (n : Nat) (x : (List ByteArray) × ByteArray) : Option (Int) :=
 iter (f102.s1 n x) n (0 : Int)
def f102.q (n : Nat) (x : (List ByteArray) × ByteArray) : Option (Int) :=
 f102.L1 n x n (0 : Int)
theorem f102.eq (n : Nat) (x : (List ByteArray) × ByteArray) : runK TT E102 n ann (tabC C102) 1 102 (argsL [(false, .sl .str), (false, .str)] x) [] (readL [(false, .int .i64)]) = f102.g n x := by
 have h : runK TT E102 n ann (tabC C102) 1 102 (argsL [(false, .sl .str), (false, .str)] x) [] (readL [(false, .int .i64)]) = f102.q n x := by kernel_rfl
 rw [h]
 simp only [f102.q, f102.g, f102.l1]
theorem f102.codes : CodesOk Tryz.prog E102 ann (tabC C102) := tabC_ok (by intro p hp; simp only [C102, List.mem_cons, List.not_mem_nil, or_false] at hp; rcases hp with rfl <;> first | exact Tryz.func102) (by kernel_rfl)
theorem f102.ok (h : ∀ X Y, F102 X = some Y → ∃ n, f102.g n X = some Y)  : ConOk Tryz.prog 102 (mkCon [(false, .sl .str), (false, .str)] [(false, .int .i64)] true F102) :=
 mkCon_ok mixed TT_ok env0_ok f102.codes (fun _ => List.all_eq_true.1 rfl) fun X Y hF => (h X Y hF).imp fun n hn => (f102.eq n X).trans hn
def con102 : Con := mkCon [(false, .sl .str), (false, .str)] [(false, .int .i64)] true F102
/-! ### slices.Contains[[]string,string] -/
def E55 : FuncId → Option Con := (envC 102 con102 env0)
noncomputable def C55 : List (FuncId × Func) := [(55, Tryz.f55)]
def f55.g (n : Nat) (x : (List ByteArray) × ByteArray) : Option (Bool) :=
 (F102 x).bind fun r1 =>
 some (decide (r1 ≥ (0 : Int)))
theorem f55.eq (n : Nat) (x : (List ByteArray) × ByteArray) : runK TT E55 n ann (tabC C55) 1 55 (argsL [(false, .sl .str), (false, .str)] x) [] (readL [(false, .bool)]) = f55.g n x := by
 kernel_rfl
theorem f55.codes : CodesOk Tryz.prog E55 ann (tabC C55) := tabC_ok (by intro p hp; simp only [C55, List.mem_cons, List.not_mem_nil, or_false] at hp; rcases hp with rfl <;> first | exact Tryz.func55) (by kernel_rfl)
theorem f55.ok (h : ∀ X Y, F55 X = some Y → ∃ n, f55.g n X = some Y) (e102 : ConOk Tryz.prog 102 con102) : ConOk Tryz.prog 55 (mkCon [(false, .sl .str), (false, .str)] [(false, .bool)] true F55) :=
 mkCon_ok mixed TT_ok (envC_ok e102 env0_ok) f55.codes (fun _ => List.all_eq_true.1 rfl) fun X Y hF => (h X Y hF).imp fun n hn => (f55.eq n X).trans hn
def con55 : Con := mkCon [(false, .sl .str), (false, .str)] [(false, .bool)] true F55
/-! ### vellum/vellumref15.in -/
def E80 : FuncId → Option Con := env0
noncomputable def C80 : List (FuncId × Func) := [(80, Tryz.f80)]
def f80.h1 (x : (List ByteArray) × ByteArray) (y1 : Int) : List AV × List Ob := ([.val false [.sc (.sl .str) x.1], .val false [.sc .str x.2], .undef, .undef, .undef, .val false [.sc (.int .i64) y1]] ++ List.replicate 12 .undef, [])
def f80.L1 (n : Nat) (x : (List ByteArray) × ByteArray) (m1 : Nat) (y1 : Int) : Option (Bool) :=
 loopN (ann 80 2).keep 0 (fun fr H k => execK TT 0 E80 (inlD TT E80 n ann (tabC C80) 1) n (ann 80) (subC [1, 0, 1, 0, 0] (bodyOf Tryz.f80)) fr H k) m1 (f80.h1 x y1).1 (f80.h1 x y1).2 (kont TT 0 E80 (inlD TT E80 n ann (tabC C80) 1) n (ann 80) [1, 0, 1, 0] (bodyOf Tryz.f80) (endK TT Tryz.f80 (readL [(false, .bool)])))
def f80.s1 (n : Nat) (x : (List ByteArray) × ByteArray) (S1 : Int → Option (Bool)) (y1 : Int) : Option (Bool) :=
 bif decide (y1 < (x.1.length : Int)) then
 (bif decide (0 ≤ y1) && decide (y1 < (x.1.length : Int)) then
 (bif strEq (x.1.getD y1.toNat (Ty.dflt .str)) x.2 then
 (some true)
 else
 (S1 (IntKind.wrap .i64 (y1 + (1 : Int)))))
 else
 (none))
 else
 (some false)
theorem f80.k1 (n : Nat) (x : (List ByteArray) × ByteArray) (m : Nat) (y : Int) : f80.L1 n x (m + 1) y = f80.s1 n x (f80.L1 n x m) y := by kernel_rfl
theorem f80.l1 (n : Nat) (x : (List ByteArray) × ByteArray) : ∀ (m : Nat) (y1 : Int), f80.L1 n x m y1 = iter (f80.s1 n x) m y1 :=
 loop_of (L := f80.L1 n x) (step := f80.s1 n x) (fun _ => rfl) (f80.k1 n x)
def f80.g (n : Nat) (x : (List ByteArray) × ByteArray) : Option (Bool) :=
 iter (f80.s1 n x) n (0 : Int)
def f80.q (n : Nat) (x : (List ByteArray) × ByteArray) : Option (Bool) :=
 f80.L1 n x n (0 : Int)
theorem f80.eq (n : Nat) (x : (List ByteArray) × ByteArray) : runK TT E80 n ann (tabC C80) 1 80 (argsL [(false, .sl .str), (false, .str)] x) [] (readL [(false, .bool)]) = f80.g n x := by
 have h : runK TT E80 n ann (tabC C80) 1 80 (argsL [(false, .sl .str), (false, .str)] x) [] (readL [(false, .bool)]) = f80.q n x := by kernel_rfl
 rw [h]
 simp only [f80.q, f80.g, f80.l1]
theorem f80.codes : CodesOk Tryz.prog E80 ann (tabC C80) := tabC_ok (by intro p hp; simp only [C80, List.mem_cons, List.not_mem_nil, or_false] at hp; rcases hp with rfl <;> first | exact Tryz.func80) (by kernel_rfl)
theorem f80.ok (h : ∀ X Y, F80 X = some Y → ∃ n, f80.g n X = some Y)  : ConOk Tryz.prog 80 (mkCon [(false, .sl .str), (false, .str)] [(false, .bool)] true F80) :=
 mkCon_ok mixed TT_ok env0_ok f80.codes (fun _ => List.all_eq_true.1 rfl) fun X Y hF => (h X Y hF).imp fun n hn => (f80.eq n X).trans hn
def con80 : Con := mkCon [(false, .sl .str), (false, .str)] [(false, .bool)] true F80
/-! ### vellum/vellumref15.unaries -/
def E81 : FuncId → Option Con := env0
noncomputable def C81 : List (FuncId × Func) := [(81, Tryz.f81)]
def f81.g (n : Nat) (x : Unit) : Option ((List ByteArray)) :=
 some (List.take 4 ([(⟨#[45]⟩ : ByteArray), (⟨#[110, 111, 116]⟩ : ByteArray), (⟨#[105, 115, 32, 110, 117, 108, 108]⟩ : ByteArray), (⟨#[105, 115, 32, 110, 111, 116, 32, 110, 117, 108, 108]⟩ : ByteArray)]))
theorem f81.eq (n : Nat) (x : Unit) : runK TT E81 n ann (tabC C81) 1 81 (argsL [] x) [] (readL [(false, .sl .str)]) = f81.g n x := by
 kernel_rfl
theorem f81.codes : CodesOk Tryz.prog E81 ann (tabC C81) := tabC_ok (by intro p hp; simp only [C81, List.mem_cons, List.not_mem_nil, or_false] at hp; rcases hp with rfl <;> first | exact Tryz.func81) (by kernel_rfl)
theorem f81.ok (h : ∀ X Y, F81 X = some Y → ∃ n, f81.g n X = some Y)  : ConOk Tryz.prog 81 (mkCon [] [(false, .sl .str)] false F81) :=
 mkCon_ok mixed TT_ok env0_ok f81.codes (fun h => by cases h) fun X Y hF => (h X Y hF).imp fun n hn => (f81.eq n X).trans hn
def con81 : Con := mkCon [] [(false, .sl .str)] false F81
/-! ### vellum/vellumref15.binaries -/
def E82 : FuncId → Option Con := env0
noncomputable def C82 : List (FuncId × Func) := [(82, Tryz.f82)]
def f82.g (n : Nat) (x : Unit) : Option ((List ByteArray)) :=
 some (List.take 13 ([(⟨#[43]⟩ : ByteArray), (⟨#[45]⟩ : ByteArray), (⟨#[42]⟩ : ByteArray), (⟨#[47]⟩ : ByteArray), (⟨#[37]⟩ : ByteArray), (⟨#[61]⟩ : ByteArray), (⟨#[60, 62]⟩ : ByteArray), (⟨#[60]⟩ : ByteArray), (⟨#[60, 61]⟩ : ByteArray), (⟨#[62]⟩ : ByteArray), (⟨#[62, 61]⟩ : ByteArray), (⟨#[97, 110, 100]⟩ : ByteArray), (⟨#[111, 114]⟩ : ByteArray)]))
theorem f82.eq (n : Nat) (x : Unit) : runK TT E82 n ann (tabC C82) 1 82 (argsL [] x) [] (readL [(false, .sl .str)]) = f82.g n x := by
 kernel_rfl
theorem f82.codes : CodesOk Tryz.prog E82 ann (tabC C82) := tabC_ok (by intro p hp; simp only [C82, List.mem_cons, List.not_mem_nil, or_false] at hp; rcases hp with rfl <;> first | exact Tryz.func82) (by kernel_rfl)
theorem f82.ok (h : ∀ X Y, F82 X = some Y → ∃ n, f82.g n X = some Y)  : ConOk Tryz.prog 82 (mkCon [] [(false, .sl .str)] false F82) :=
 mkCon_ok mixed TT_ok env0_ok f82.codes (fun h => by cases h) fun X Y hF => (h X Y hF).imp fun n hn => (f82.eq n X).trans hn
def con82 : Con := mkCon [] [(false, .sl .str)] false F82
/-! ### vellum/vellumref15.compares -/
def E88 : FuncId → Option Con := (envC 80 con80 env0)
noncomputable def C88 : List (FuncId × Func) := [(88, Tryz.f88)]
def f88.g (n : Nat) (x : ByteArray) : Option (Bool) :=
 (F80 (List.take 6 ([(⟨#[61]⟩ : ByteArray), (⟨#[60, 62]⟩ : ByteArray), (⟨#[60]⟩ : ByteArray), (⟨#[60, 61]⟩ : ByteArray), (⟨#[62]⟩ : ByteArray), (⟨#[62, 61]⟩ : ByteArray)]), x)).bind fun r1 =>
 some r1
theorem f88.eq (n : Nat) (x : ByteArray) : runK TT E88 n ann (tabC C88) 1 88 (argsL [(false, .str)] x) [] (readL [(false, .bool)]) = f88.g n x := by
 kernel_rfl
theorem f88.codes : CodesOk Tryz.prog E88 ann (tabC C88) := tabC_ok (by intro p hp; simp only [C88, List.mem_cons, List.not_mem_nil, or_false] at hp; rcases hp with rfl <;> first | exact Tryz.func88) (by kernel_rfl)
theorem f88.ok (h : ∀ X Y, F88 X = some Y → ∃ n, f88.g n X = some Y) (e80 : ConOk Tryz.prog 80 con80) : ConOk Tryz.prog 88 (mkCon [(false, .str)] [(false, .bool)] true F88) :=
 mkCon_ok mixed TT_ok (envC_ok e80 env0_ok) f88.codes (fun _ => List.all_eq_true.1 rfl) fun X Y hF => (h X Y hF).imp fun n hn => (f88.eq n X).trans hn
def con88 : Con := mkCon [(false, .str)] [(false, .bool)] true F88
/-! ### vellum/vellumref15.reckons -/
def E86 : FuncId → Option Con := (envC 80 con80 env0)
noncomputable def C86 : List (FuncId × Func) := [(86, Tryz.f86)]
def f86.g (n : Nat) (x : ByteArray) : Option (Bool) :=
 (F80 (List.take 5 ([(⟨#[43]⟩ : ByteArray), (⟨#[45]⟩ : ByteArray), (⟨#[42]⟩ : ByteArray), (⟨#[47]⟩ : ByteArray), (⟨#[37]⟩ : ByteArray)]), x)).bind fun r1 =>
 some r1
theorem f86.eq (n : Nat) (x : ByteArray) : runK TT E86 n ann (tabC C86) 1 86 (argsL [(false, .str)] x) [] (readL [(false, .bool)]) = f86.g n x := by
 kernel_rfl
theorem f86.codes : CodesOk Tryz.prog E86 ann (tabC C86) := tabC_ok (by intro p hp; simp only [C86, List.mem_cons, List.not_mem_nil, or_false] at hp; rcases hp with rfl <;> first | exact Tryz.func86) (by kernel_rfl)
theorem f86.ok (h : ∀ X Y, F86 X = some Y → ∃ n, f86.g n X = some Y) (e80 : ConOk Tryz.prog 80 con80) : ConOk Tryz.prog 86 (mkCon [(false, .str)] [(false, .bool)] true F86) :=
 mkCon_ok mixed TT_ok (envC_ok e80 env0_ok) f86.codes (fun _ => List.all_eq_true.1 rfl) fun X Y hF => (h X Y hF).imp fun n hn => (f86.eq n X).trans hn
def con86 : Con := mkCon [(false, .str)] [(false, .bool)] true F86
/-! ### vellum/pred.nothing -/
def E69 : FuncId → Option Con := (envC 29 con29 env0)
noncomputable def C69 : List (FuncId × Func) := [(69, Tryz.f69)]
def f69.g (n : Nat) (x : dValue) : Option (Bool) :=
 bif bif (x.1 == (0 : Int)) then (x.2.1 == (0 : Int)) else false then
 ((F29 x.2.2.1).bind fun r1 =>
 some (bif (r1 == (0 : Int)) then (strEq x.2.2.2 (⟨#[]⟩ : ByteArray)) else false))
 else
 (some false)
theorem f69.eq (n : Nat) (x : dValue) : runK TT E69 n ann (tabC C69) 1 69 (argsL [(true, tValue)] x) [] (readL [(false, .bool)]) = f69.g n x := by
 kernel_rfl
theorem f69.codes : CodesOk Tryz.prog E69 ann (tabC C69) := tabC_ok (by intro p hp; simp only [C69, List.mem_cons, List.not_mem_nil, or_false] at hp; rcases hp with rfl <;> first | exact Tryz.func69) (by kernel_rfl)
theorem f69.ok (h : ∀ X Y, F69 X = some Y → ∃ n, f69.g n X = some Y) (e29 : ConOk Tryz.prog 29 con29) : ConOk Tryz.prog 69 (mkCon [(true, tValue)] [(false, .bool)] true F69) :=
 mkCon_ok mixed TT_ok (envC_ok e29 env0_ok) f69.codes (fun _ => List.all_eq_true.1 rfl) fun X Y hF => (h X Y hF).imp fun n hn => (f69.eq n X).trans hn
def con69 : Con := mkCon [(true, tValue)] [(false, .bool)] true F69
/-! ### (*vellum/pred.walker).may -/
class Rec34 where
 F : ((dTable × Int) × (dExpr × Int)) → Option ((dTable × Int) × Bool)
section
variable [Rec34]
def conS34 : Con := mkConP (.pair tTable (.int .i64)) [(true, tExpr), (false, .int .i64)] [(false, .bool)] Rec34.F
def E34 : FuncId → Option Con := (envC 69 con69 (envC 55 con55 (envC 50 con50 (envC 34 conS34 env0))))
noncomputable def C34 : List (FuncId × Func) := [(34, Tryz.f34)]
def f34.h1 (x : (dTable × Int) × (dExpr × Int)) (r3 : Bool) (r4 : Bool) (y5 : Int × ByteArray × (List dColumn) × (List Int) × (List dIndex) × (List dRef) × Int) : List AV × List Ob := ([.val false [.ptr 0 0], .undef, .val false [.sc (.int .i64) x.2.2], .undef, .undef, .undef, .undef, .undef, .undef, .undef, .undef, .undef, .undef, .undef, .undef, .undef, .undef, .undef, .undef, .undef, .undef, .undef, .undef, .undef, .undef, .undef, .undef, .undef, .undef, .undef, .undef, .undef, .undef, .undef, .undef, .undef, .undef, .undef, .undef, .undef, .undef, .undef, .undef, .undef, .undef, .undef, .undef, .undef, .undef, .undef, .undef, .undef, .undef, .undef, .undef, .undef, .undef, .undef, .undef, .undef, .undef, .undef, .undef, .undef, .undef, .undef, .undef, .undef, .undef, .undef, .undef, .undef, .undef, .undef, .undef, .undef, .undef, .undef, .undef, .undef, .undef, .undef, .undef, .undef, .undef, .undef, .undef, .undef, .undef, .undef, .undef, .undef, .undef, .undef, .undef, .undef, .undef, .undef, .undef, .undef, .undef, .undef, .undef, .undef, .undef, .undef, .undef, .undef, .undef, .undef, .undef, .undef, .undef, .undef, .undef, .undef, .undef, .undef, .undef, .undef, .undef, .undef, .undef, .undef, .undef, .undef, .undef, .undef, .undef, .undef, .undef, .undef, .undef, .undef, .undef, .undef, .undef, .undef, .undef, .undef, .undef, .val false [.sc (.sl tExpr) x.2.1.kids], .val false [.sc (.int .i64) (x.2.1.kids.length : Int)], .val false [.sc (.int .i64) y5.1]] ++ List.replicate 10 .undef, [.box [.sc .str y5.2.1, .sc (.sl tColumn) y5.2.2.1, .sc (.sl (.int .i64)) y5.2.2.2.1, .sc (.sl tIndex) y5.2.2.2.2.1, .sc (.sl tRef) y5.2.2.2.2.2.1, .sc (.int .i64) y5.2.2.2.2.2.2], .box [.sc (.int .i64) x.2.1.lab.1, .sc .str x.2.1.lab.2.1, .sc (.int .i64) x.2.1.lab.2.2.1, .sc (.int .i64) x.2.1.lab.2.2.2.1, .sc (.int .i64) x.2.1.lab.2.2.2.2.1, .sc (.float .f64) x.2.1.lab.2.2.2.2.2.1, .sc .str x.2.1.lab.2.2.2.2.2.2, .sc (.sl tExpr) x.2.1.kids]])
def f34.h2 (x : (dTable × Int) × (dExpr × Int)) (r7 : Bool) (r8 : Bool) (y9 : Int × ByteArray × (List dColumn) × (List Int) × (List dIndex) × (List dRef) × Int) : List AV × List Ob := ([.val false [.ptr 0 0], .undef, .val false [.sc (.int .i64) x.2.2], .undef, .undef, .undef, .undef, .undef, .undef, .undef, .undef, .undef, .undef, .undef, .undef, .undef, .undef, .undef, .undef, .undef, .undef, .undef, .undef, .undef, .undef, .undef, .undef, .undef, .undef, .undef, .undef, .undef, .undef, .undef, .undef, .undef, .undef, .undef, .undef, .undef, .undef, .undef, .undef, .undef, .undef, .undef, .undef, .undef, .undef, .undef, .undef, .undef, .undef, .undef, .undef, .undef, .undef, .undef, .undef, .undef, .undef, .undef, .undef, .undef, .undef, .undef, .undef, .undef, .undef, .undef, .undef, .undef, .undef, .undef, .undef, .undef, .undef, .undef, .undef, .undef, .undef, .undef, .undef, .undef, .undef, .undef, .undef, .undef, .undef, .undef, .undef, .undef, .undef, .undef, .undef, .undef, .undef, .undef, .undef, .undef, .undef, .undef, .undef, .undef, .undef, .undef, .undef, .undef, .undef, .undef, .undef, .undef, .undef, .undef, .undef, .undef, .undef, .undef, .undef, .undef, .undef, .undef, .undef, .undef, .undef, .undef, .undef, .undef, .undef, .undef, .undef, .undef, .undef, .undef, .undef, .undef, .undef, .undef, .undef, .undef, .undef, .val false [.sc (.sl tExpr) x.2.1.kids], .val false [.sc (.int .i64) (x.2.1.kids.length : Int)], .val false [.sc (.int .i64) y9.1]] ++ List.replicate 10 .undef, [.box [.sc .str y9.2.1, .sc (.sl tColumn) y9.2.2.1, .sc (.sl (.int .i64)) y9.2.2.2.1, .sc (.sl tIndex) y9.2.2.2.2.1, .sc (.sl tRef) y9.2.2.2.2.2.1, .sc (.int .i64) y9.2.2.2.2.2.2], .box [.sc (.int .i64) x.2.1.lab.1, .sc .str x.2.1.lab.2.1, .sc (.int .i64) x.2.1.lab.2.2.1, .sc (.int .i64) x.2.1.lab.2.2.2.1, .sc (.int .i64) x.2.1.lab.2.2.2.2.1, .sc (.float .f64) x.2.1.lab.2.2.2.2.2.1, .sc .str x.2.1.lab.2.2.2.2.2.2, .sc (.sl tExpr) x.2.1.kids]])
def f34.h3 (x : (dTable × Int) × (dExpr × Int)) (r7 : Bool) (r11 : Bool) (r12 : Bool) (y13 : Int × ByteArray × (List dColumn) × (List Int) × (List dIndex) × (List dRef) × Int) : List AV × List Ob := ([.val false [.ptr 0 0], .undef, .val false [.sc (.int .i64) x.2.2], .undef, .undef, .undef, .undef, .undef, .undef, .undef, .undef, .undef, .undef, .undef, .undef, .undef, .undef, .undef, .undef, .undef, .undef, .undef, .undef, .undef, .undef, .undef, .undef, .undef, .undef, .undef, .undef, .undef, .undef, .undef, .undef, .undef, .undef, .undef, .undef, .undef, .undef, .undef, .undef, .undef, .undef, .undef, .undef, .undef, .undef, .undef, .undef, .undef, .undef, .undef, .undef, .undef, .undef, .undef, .undef, .undef, .undef, .undef, .undef, .undef, .undef, .undef, .undef, .undef, .undef, .undef, .undef, .undef, .undef, .undef, .undef, .undef, .undef, .undef, .undef, .undef, .undef, .undef, .undef, .undef, .undef, .undef, .undef, .undef, .undef, .undef, .undef, .undef, .undef, .undef, .undef, .undef, .undef, .undef, .undef, .undef, .undef, .undef, .undef, .undef, .undef, .undef, .undef, .undef, .undef, .undef, .undef, .undef, .undef, .undef, .undef, .undef, .undef, .undef, .undef, .undef, .undef, .undef, .undef, .undef, .undef, .undef, .undef, .undef, .undef, .undef, .undef, .undef, .undef, .undef, .undef, .undef, .undef, .undef, .undef, .undef, .undef, .val false [.sc (.sl tExpr) x.2.1.kids], .val false [.sc (.int .i64) (x.2.1.kids.length : Int)], .val false [.sc (.int .i64) y13.1]] ++ List.replicate 10 .undef, [.box [.sc .str y13.2.1, .sc (.sl tColumn) y13.2.2.1, .sc (.sl (.int .i64)) y13.2.2.2.1, .sc (.sl tIndex) y13.2.2.2.2.1, .sc (.sl tRef) y13.2.2.2.2.2.1, .sc (.int .i64) y13.2.2.2.2.2.2], .box [.sc (.int .i64) x.2.1.lab.1, .sc .str x.2.1.lab.2.1, .sc (.int .i64) x.2.1.lab.2.2.1, .sc (.int .i64) x.2.1.lab.2.2.2.1, .sc (.int .i64) x.2.1.lab.2.2.2.2.1, .sc (.float .f64) x.2.1.lab.2.2.2.2.2.1, .sc .str x.2.1.lab.2.2.2.2.2.2, .sc (.sl tExpr) x.2.1.kids]])
def f34.h4 (x : (dTable × Int) × (dExpr × Int)) (r15 : Bool) (y16 : Int × ByteArray × (List dColumn) × (List Int) × (List dIndex) × (List dRef) × Int) : List AV × List Ob := ([.val false [.ptr 0 0], .undef, .val false [.sc (.int .i64) x.2.2], .undef, .undef, .undef, .undef, .undef, .undef, .undef, .undef, .undef, .undef, .undef, .undef, .undef, .undef, .undef, .undef, .undef, .undef, .undef, .undef, .undef, .undef, .undef, .undef, .undef, .undef, .undef, .undef, .undef, .undef, .undef, .undef, .undef, .undef, .undef, .undef, .undef, .undef, .undef, .undef, .undef, .undef, .undef, .undef, .undef, .undef, .undef, .undef, .undef, .undef, .undef, .undef, .undef, .undef, .undef, .undef, .undef, .undef, .undef, .undef, .undef, .undef, .undef, .undef, .undef, .undef, .undef, .undef, .undef, .undef, .undef, .undef, .undef, .undef, .undef, .undef, .undef, .undef, .undef, .undef, .undef, .undef, .undef, .undef, .undef, .undef, .undef, .undef, .undef, .undef, .undef, .undef, .undef, .undef, .undef, .undef, .undef, .undef, .undef, .undef, .undef, .undef, .undef, .undef, .undef, .undef, .undef, .undef, .undef, .undef, .undef, .undef, .undef, .undef, .undef, .undef, .undef, .undef, .undef, .undef, .undef, .undef, .undef, .undef, .undef, .undef, .undef, .undef, .undef, .undef, .undef, .undef, .undef, .undef, .undef, .undef, .undef, .undef, .val false [.sc (.sl tExpr) x.2.1.kids], .val false [.sc (.int .i64) (x.2.1.kids.length : Int)], .val false [.sc (.int .i64) y16.1]] ++ List.replicate 10 .undef, [.box [.sc .str y16.2.1, .sc (.sl tColumn) y16.2.2.1, .sc (.sl (.int .i64)) y16.2.2.2.1, .sc (.sl tIndex) y16.2.2.2.2.1, .sc (.sl tRef) y16.2.2.2.2.2.1, .sc (.int .i64) y16.2.2.2.2.2.2], .box [.sc (.int .i64) x.2.1.lab.1, .sc .str x.2.1.lab.2.1, .sc (.int .i64) x.2.1.lab.2.2.1, .sc (.int .i64) x.2.1.lab.2.2.2.1, .sc (.int .i64) x.2.1.lab.2.2.2.2.1, .sc (.float .f64) x.2.1.lab.2.2.2.2.2.1, .sc .str x.2.1.lab.2.2.2.2.2.2, .sc (.sl tExpr) x.2.1.kids]])
def f34.L1 (n : Nat) (x : (dTable × Int) × (dExpr × Int)) (r3 : Bool) (r4 : Bool) (m5 : Nat) (y5 : Int × ByteArray × (List dColumn) × (List Int) × (List dIndex) × (List dRef) × Int) : Option ((dTable × Int) × Bool) :=
 loopN (ann 34 20).keep 2 (fun fr H k => execK TT 1 E34 (inlD TT E34 n ann (tabC C34) 1) n (ann 34) (subC [1, 1, 1, 1, 1, 1, 1, 0, 1, 0, 0] (bodyOf Tryz.f34)) fr H k) m5 (f34.h1 x r3 r4 y5).1 (f34.h1 x r3 r4 y5).2 (kont TT 1 E34 (inlD TT E34 n ann (tabC C34) 1) n (ann 34) [1, 1, 1, 1, 1, 1, 1, 0, 1, 0] (bodyOf Tryz.f34) (endK TT Tryz.f34 (readP (.pair tTable (.int .i64)) [(false, .bool)])))
def f34.L2 (n : Nat) (x : (dTable × Int) × (dExpr × Int)) (r7 : Bool) (r8 : Bool) (m9 : Nat) (y9 : Int × ByteArray × (List dColumn) × (List Int) × (List dIndex) × (List dRef) × Int) : Option ((dTable × Int) × Bool) :=
 loopN (ann 34 20).keep 2 (fun fr H k => execK TT 1 E34 (inlD TT E34 n ann (tabC C34) 1) n (ann 34) (subC [1, 1, 1, 1, 1, 1, 1, 0, 1, 0, 0] (bodyOf Tryz.f34)) fr H k) m9 (f34.h2 x r7 r8 y9).1 (f34.h2 x r7 r8 y9).2 (kont TT 1 E34 (inlD TT E34 n ann (tabC C34) 1) n (ann 34) [1, 1, 1, 1, 1, 1, 1, 0, 1, 0] (bodyOf Tryz.f34) (endK TT Tryz.f34 (readP (.pair tTable (.int .i64)) [(false, .bool)])))
def f34.L3 (n : Nat) (x : (dTable × Int) × (dExpr × Int)) (r7 : Bool) (r11 : Bool) (r12 : Bool) (m13 : Nat) (y13 : Int × ByteArray × (List dColumn) × (List Int) × (List dIndex) × (List dRef) × Int) : Option ((dTable × Int) × Bool) :=
 loopN (ann 34 20).keep 2 (fun fr H k => execK TT 1 E34 (inlD TT E34 n ann (tabC C34) 1) n (ann 34) (subC [1, 1, 1, 1, 1, 1, 1, 0, 1, 0, 0] (bodyOf Tryz.f34)) fr H k) m13 (f34.h3 x r7 r11 r12 y13).1 (f34.h3 x r7 r11 r12 y13).2 (kont TT 1 E34 (inlD TT E34 n ann (tabC C34) 1) n (ann 34) [1, 1, 1, 1, 1, 1, 1, 0, 1, 0] (bodyOf Tryz.f34) (endK TT Tryz.f34 (readP (.pair tTable (.int .i64)) [(false, .bool)])))
def f34.L4 (n : Nat) (x : (dTable × Int) × (dExpr × Int)) (r15 : Bool) (m16 : Nat) (y16 : Int × ByteArray × (List dColumn) × (List Int) × (List dIndex) × (List dRef) × Int) : Option ((dTable × Int) × Bool) :=
 loopN (ann 34 20).keep 2 (fun fr H k => execK TT 1 E34 (inlD TT E34 n ann (tabC C34) 1) n (ann 34) (subC [1, 1, 1, 1, 1, 1, 1, 0, 1, 0, 0] (bodyOf Tryz.f34)) fr H k) m16 (f34.h4 x r15 y16).1 (f34.h4 x r15 y16).2 (kont TT 1 E34 (inlD TT E34 n ann (tabC C34) 1) n (ann 34) [1, 1, 1, 1, 1, 1, 1, 0, 1, 0] (bodyOf Tryz.f34) (endK TT Tryz.f34 (readP (.pair tTable (.int .i64)) [(false, .bool)])))
def f34.s1 (n : Nat) (x : (dTable × Int) × (dExpr × Int)) (r3 : Bool) (r4 : Bool) (S5 : (Int × ByteArray × (List dColumn) × (List Int) × (List dIndex) × (List dRef) × Int) → Option ((dTable × Int) × Bool)) (y5 : Int × ByteArray × (List dColumn) × (List Int) × (List dIndex) × (List dRef) × Int) : Option ((dTable × Int) × Bool) :=
 bif decide (y5.1 < (x.2.1.kids.length : Int)) then
 (bif decide (0 ≤ y5.1) && decide (y5.1 < (x.2.1.kids.length : Int)) then
 ((Rec34.F (((y5.2.1, (y5.2.2.1, (y5.2.2.2.1, (y5.2.2.2.2.1, y5.2.2.2.2.2.1)))), y5.2.2.2.2.2.2), ((Rose.node ((x.2.1.kids.getD y5.1.toNat tExpr.dflt).lab) ((x.2.1.kids.getD y5.1.toNat tExpr.dflt).kids)), IntKind.wrap .i64 (x.2.2 + (1 : Int))))).bind fun r6 =>
 bif !r6.2 then
 (some (r6.1, false))
 else
 (S5 (IntKind.wrap .i64 (y5.1 + (1 : Int)), (r6.1.1.1, (r6.1.1.2.1, (r6.1.1.2.2.1, (r6.1.1.2.2.2.1, (r6.1.1.2.2.2.2, r6.1.2))))))))
 else
 (none))
 else
 (some (((y5.2.1, (y5.2.2.1, (y5.2.2.2.1, (y5.2.2.2.2.1, y5.2.2.2.2.2.1)))), y5.2.2.2.2.2.2), true))
theorem f34.k1 (n : Nat) (x : (dTable × Int) × (dExpr × Int)) (r3 : Bool) (r4 : Bool) (m : Nat) (y : Int × ByteArray × (List dColumn) × (List Int) × (List dIndex) × (List dRef) × Int) : f34.L1 n x r3 r4 (m + 1) y = f34.s1 n x r3 r4 (f34.L1 n x r3 r4 m) y := by kernel_rfl
theorem f34.l1 (n : Nat) (x : (dTable × Int) × (dExpr × Int)) (r3 : Bool) (r4 : Bool) : ∀ (m : Nat) (y5 : Int × ByteArray × (List dColumn) × (List Int) × (List dIndex) × (List dRef) × Int), f34.L1 n x r3 r4 m y5 = iter (f34.s1 n x r3 r4) m y5 :=
 loop_of (L := f34.L1 n x r3 r4) (step := f34.s1 n x r3 r4) (fun _ => rfl) (f34.k1 n x r3 r4)
def f34.s2 (n : Nat) (x : (dTable × Int) × (dExpr × Int)) (r7 : Bool) (r8 : Bool) (S9 : (Int × ByteArray × (List dColumn) × (List Int) × (List dIndex) × (List dRef) × Int) → Option ((dTable × Int) × Bool)) (y9 : Int × ByteArray × (List dColumn) × (List Int) × (List dIndex) × (List dRef) × Int) : Option ((dTable × Int) × Bool) :=
 bif decide (y9.1 < (x.2.1.kids.length : Int)) then
 (bif decide (0 ≤ y9.1) && decide (y9.1 < (x.2.1.kids.length : Int)) then
 ((Rec34.F (((y9.2.1, (y9.2.2.1, (y9.2.2.2.1, (y9.2.2.2.2.1, y9.2.2.2.2.2.1)))), y9.2.2.2.2.2.2), ((Rose.node ((x.2.1.kids.getD y9.1.toNat tExpr.dflt).lab) ((x.2.1.kids.getD y9.1.toNat tExpr.dflt).kids)), IntKind.wrap .i64 (x.2.2 + (1 : Int))))).bind fun r10 =>
 bif !r10.2 then
 (some (r10.1, false))
 else
 (S9 (IntKind.wrap .i64 (y9.1 + (1 : Int)), (r10.1.1.1, (r10.1.1.2.1, (r10.1.1.2.2.1, (r10.1.1.2.2.2.1, (r10.1.1.2.2.2.2, r10.1.2))))))))
 else
 (none))
 else
 (some (((y9.2.1, (y9.2.2.1, (y9.2.2.2.1, (y9.2.2.2.2.1, y9.2.2.2.2.2.1)))), y9.2.2.2.2.2.2), true))
theorem f34.k2 (n : Nat) (x : (dTable × Int) × (dExpr × Int)) (r7 : Bool) (r8 : Bool) (m : Nat) (y : Int × ByteArray × (List dColumn) × (List Int) × (List dIndex) × (List dRef) × Int) : f34.L2 n x r7 r8 (m + 1) y = f34.s2 n x r7 r8 (f34.L2 n x r7 r8 m) y := by kernel_rfl
theorem f34.l2 (n : Nat) (x : (dTable × Int) × (dExpr × Int)) (r7 : Bool) (r8 : Bool) : ∀ (m : Nat) (y9 : Int × ByteArray × (List dColumn) × (List Int) × (List dIndex) × (List dRef) × Int), f34.L2 n x r7 r8 m y9 = iter (f34.s2 n x r7 r8) m y9 :=
 loop_of (L := f34.L2 n x r7 r8) (step := f34.s2 n x r7 r8) (fun _ => rfl) (f34.k2 n x r7 r8)
def f34.s3 (n : Nat) (x : (dTable × Int) × (dExpr × Int)) (r7 : Bool) (r11 : Bool) (r12 : Bool) (S13 : (Int × ByteArray × (List dColumn) × (List Int) × (List dIndex) × (List dRef) × Int) → Option ((dTable × Int) × Bool)) (y13 : Int × ByteArray × (List dColumn) × (List Int) × (List dIndex) × (List dRef) × Int) : Option ((dTable × Int) × Bool) :=
 bif decide (y13.1 < (x.2.1.kids.length : Int)) then
 (bif decide (0 ≤ y13.1) && decide (y13.1 < (x.2.1.kids.length : Int)) then
 ((Rec34.F (((y13.2.1, (y13.2.2.1, (y13.2.2.2.1, (y13.2.2.2.2.1, y13.2.2.2.2.2.1)))), y13.2.2.2.2.2.2), ((Rose.node ((x.2.1.kids.getD y13.1.toNat tExpr.dflt).lab) ((x.2.1.kids.getD y13.1.toNat tExpr.dflt).kids)), IntKind.wrap .i64 (x.2.2 + (1 : Int))))).bind fun r14 =>
 bif !r14.2 then
 (some (r14.1, false))
 else
 (S13 (IntKind.wrap .i64 (y13.1 + (1 : Int)), (r14.1.1.1, (r14.1.1.2.1, (r14.1.1.2.2.1, (r14.1.1.2.2.2.1, (r14.1.1.2.2.2.2, r14.1.2))))))))
 else
 (none))
 else
 (some (((y13.2.1, (y13.2.2.1, (y13.2.2.2.1, (y13.2.2.2.2.1, y13.2.2.2.2.2.1)))), y13.2.2.2.2.2.2), true))
theorem f34.k3 (n : Nat) (x : (dTable × Int) × (dExpr × Int)) (r7 : Bool) (r11 : Bool) (r12 : Bool) (m : Nat) (y : Int × ByteArray × (List dColumn) × (List Int) × (List dIndex) × (List dRef) × Int) : f34.L3 n x r7 r11 r12 (m + 1) y = f34.s3 n x r7 r11 r12 (f34.L3 n x r7 r11 r12 m) y := by kernel_rfl
theorem f34.l3 (n : Nat) (x : (dTable × Int) × (dExpr × Int)) (r7 : Bool) (r11 : Bool) (r12 : Bool) : ∀ (m : Nat) (y13 : Int × ByteArray × (List dColumn) × (List Int) × (List dIndex) × (List dRef) × Int), f34.L3 n x r7 r11 r12 m y13 = iter (f34.s3 n x r7 r11 r12) m y13 :=
 loop_of (L := f34.L3 n x r7 r11 r12) (step := f34.s3 n x r7 r11 r12) (fun _ => rfl) (f34.k3 n x r7 r11 r12)
def f34.s4 (n : Nat) (x : (dTable × Int) × (dExpr × Int)) (r15 : Bool) (S16 : (Int × ByteArray × (List dColumn) × (List Int) × (List dIndex) × (List dRef) × Int) → Option ((dTable × Int) × Bool)) (y16 : Int × ByteArray × (List dColumn) × (List Int) × (List dIndex) × (List dRef) × Int) : Option ((dTable × Int) × Bool) :=
 bif decide (y16.1 < (x.2.1.kids.length : Int)) then
 (bif decide (0 ≤ y16.1) && decide (y16.1 < (x.2.1.kids.length : Int)) then
 ((Rec34.F (((y16.2.1, (y16.2.2.1, (y16.2.2.2.1, (y16.2.2.2.2.1, y16.2.2.2.2.2.1)))), y16.2.2.2.2.2.2), ((Rose.node ((x.2.1.kids.getD y16.1.toNat tExpr.dflt).lab) ((x.2.1.kids.getD y16.1.toNat tExpr.dflt).kids)), IntKind.wrap .i64 (x.2.2 + (1 : Int))))).bind fun r17 =>
 bif !r17.2 then
 (some (r17.1, false))
 else
 (S16 (IntKind.wrap .i64 (y16.1 + (1 : Int)), (r17.1.1.1, (r17.1.1.2.1, (r17.1.1.2.2.1, (r17.1.1.2.2.2.1, (r17.1.1.2.2.2.2, r17.1.2))))))))
 else
 (none))
 else
 (some (((y16.2.1, (y16.2.2.1, (y16.2.2.2.1, (y16.2.2.2.2.1, y16.2.2.2.2.2.1)))), y16.2.2.2.2.2.2), true))
theorem f34.k4 (n : Nat) (x : (dTable × Int) × (dExpr × Int)) (r15 : Bool) (m : Nat) (y : Int × ByteArray × (List dColumn) × (List Int) × (List dIndex) × (List dRef) × Int) : f34.L4 n x r15 (m + 1) y = f34.s4 n x r15 (f34.L4 n x r15 m) y := by kernel_rfl
theorem f34.l4 (n : Nat) (x : (dTable × Int) × (dExpr × Int)) (r15 : Bool) : ∀ (m : Nat) (y16 : Int × ByteArray × (List dColumn) × (List Int) × (List dIndex) × (List dRef) × Int), f34.L4 n x r15 m y16 = iter (f34.s4 n x r15) m y16 :=
 loop_of (L := f34.L4 n x r15) (step := f34.s4 n x r15) (fun _ => rfl) (f34.k4 n x r15)
def f34.g (n : Nat) (x : (dTable × Int) × (dExpr × Int)) : Option ((dTable × Int) × Bool) :=
 bif bif (decide (IntKind.wrap .i64 (x.1.2 - (1 : Int)) < (0 : Int))) then true else (decide (x.2.2 > (100 : Int))) then
 (some ((x.1.1, IntKind.wrap .i64 (x.1.2 - (1 : Int))), false))
 else
 (bif x.2.1.lab.1 == (1 : Int) then
 (bif bif (bif ((x.2.1.kids.length : Int) == (0 : Int)) then (strEq x.2.1.lab.2.1 (⟨#[]⟩ : ByteArray)) else false) then (x.2.1.lab.2.2.1 == (0 : Int)) else false then
 ((F50 x.2.1.lab.2.2.2).bind fun r1 =>
 some ((x.1.1, IntKind.wrap .i64 (x.1.2 - (1 : Int))), r1 == (0 : Int)))
 else
 (some ((x.1.1, IntKind.wrap .i64 (x.1.2 - (1 : Int))), false)))
 else
 (bif x.2.1.lab.1 == (2 : Int) then
 (bif bif (bif (bif ((x.2.1.kids.length : Int) == (0 : Int)) then (strEq x.2.1.lab.2.1 (⟨#[]⟩ : ByteArray)) else false) then (decide (x.2.1.lab.2.2.1 ≥ (0 : Int))) else false) then (decide (x.2.1.lab.2.2.1 < (x.1.1.2.1.length : Int))) else false then
 ((F69 x.2.1.lab.2.2.2).bind fun r2 =>
 some ((x.1.1, IntKind.wrap .i64 (x.1.2 - (1 : Int))), r2))
 else
 (some ((x.1.1, IntKind.wrap .i64 (x.1.2 - (1 : Int))), false)))
 else
 (bif x.2.1.lab.1 == (3 : Int) then
 (bif (x.2.1.kids.length : Int) == (1 : Int) then
 ((F55 (unL, x.2.1.lab.2.1)).bind fun r3 =>
 bif bif (!r3) then true else (x.2.1.lab.2.2.1 != (0 : Int)) then
 (some ((x.1.1, IntKind.wrap .i64 (x.1.2 - (1 : Int))), false))
 else
 ((F69 x.2.1.lab.2.2.2).bind fun r4 =>
 bif !r4 then
 (some ((x.1.1, IntKind.wrap .i64 (x.1.2 - (1 : Int))), false))
 else
 (iter (f34.s1 n x r3 r4) n ((0 : Int), (x.1.1.1, (x.1.1.2.1, (x.1.1.2.2.1, (x.1.1.2.2.2.1, (x.1.1.2.2.2.2, IntKind.wrap .i64 (x.1.2 - (1 : Int)))))))))))
 else
 (some ((x.1.1, IntKind.wrap .i64 (x.1.2 - (1 : Int))), false)))
 else
 (bif x.2.1.lab.1 == (4 : Int) then
 (bif (x.2.1.kids.length : Int) == (2 : Int) then
 ((F55 (arL, x.2.1.lab.2.1)).bind fun r7 =>
 bif r7 then
 (bif x.2.1.lab.2.2.1 != (0 : Int) then
 (some ((x.1.1, IntKind.wrap .i64 (x.1.2 - (1 : Int))), false))
 else
 ((F69 x.2.1.lab.2.2.2).bind fun r8 =>
 bif !r8 then
 (some ((x.1.1, IntKind.wrap .i64 (x.1.2 - (1 : Int))), false))
 else
 (iter (f34.s2 n x r7 r8) n ((0 : Int), (x.1.1.1, (x.1.1.2.1, (x.1.1.2.2.1, (x.1.1.2.2.2.1, (x.1.1.2.2.2.2, IntKind.wrap .i64 (x.1.2 - (1 : Int)))))))))))
 else
 ((F55 (cpL, x.2.1.lab.2.1)).bind fun r11 =>
 bif bif (!(bif (bif r11 then true else (strEq x.2.1.lab.2.1 (⟨#[97, 110, 100]⟩ : ByteArray))) then true else (strEq x.2.1.lab.2.1 (⟨#[111, 114]⟩ : ByteArray)))) then true else (x.2.1.lab.2.2.1 != (0 : Int)) then
 (some ((x.1.1, IntKind.wrap .i64 (x.1.2 - (1 : Int))), false))
 else
 ((F69 x.2.1.lab.2.2.2).bind fun r12 =>
 bif !r12 then
 (some ((x.1.1, IntKind.wrap .i64 (x.1.2 - (1 : Int))), false))
 else
 (iter (f34.s3 n x r7 r11 r12) n ((0 : Int), (x.1.1.1, (x.1.1.2.1, (x.1.1.2.2.1, (x.1.1.2.2.2.1, (x.1.1.2.2.2.2, IntKind.wrap .i64 (x.1.2 - (1 : Int))))))))))))
 else
 (some ((x.1.1, IntKind.wrap .i64 (x.1.2 - (1 : Int))), false)))
 else
 (bif x.2.1.lab.1 == (5 : Int) then
 (bif bif (!(bif (decide ((x.2.1.kids.length : Int) ≥ (2 : Int))) then (strEq x.2.1.lab.2.1 (⟨#[]⟩ : ByteArray)) else false)) then true else (x.2.1.lab.2.2.1 != (0 : Int)) then
 (some ((x.1.1, IntKind.wrap .i64 (x.1.2 - (1 : Int))), false))
 else
 ((F69 x.2.1.lab.2.2.2).bind fun r15 =>
 bif !r15 then
 (some ((x.1.1, IntKind.wrap .i64 (x.1.2 - (1 : Int))), false))
 else
 (iter (f34.s4 n x r15) n ((0 : Int), (x.1.1.1, (x.1.1.2.1, (x.1.1.2.2.1, (x.1.1.2.2.2.1, (x.1.1.2.2.2.2, IntKind.wrap .i64 (x.1.2 - (1 : Int)))))))))))
 else
 (some ((x.1.1, IntKind.wrap .i64 (x.1.2 - (1 : Int))), false)))))))
def f34.q (n : Nat) (x : (dTable × Int) × (dExpr × Int)) : Option ((dTable × Int) × Bool) :=
 bif bif (decide (IntKind.wrap .i64 (x.1.2 - (1 : Int)) < (0 : Int))) then true else (decide (x.2.2 > (100 : Int))) then
 (some ((x.1.1, IntKind.wrap .i64 (x.1.2 - (1 : Int))), false))
 else
 (bif x.2.1.lab.1 == (1 : Int) then
 (bif bif (bif ((x.2.1.kids.length : Int) == (0 : Int)) then (strEq x.2.1.lab.2.1 (⟨#[]⟩ : ByteArray)) else false) then (x.2.1.lab.2.2.1 == (0 : Int)) else false then
 ((F50 x.2.1.lab.2.2.2).bind fun r1 =>
 some ((x.1.1, IntKind.wrap .i64 (x.1.2 - (1 : Int))), r1 == (0 : Int)))
 else
 (some ((x.1.1, IntKind.wrap .i64 (x.1.2 - (1 : Int))), false)))
 else
 (bif x.2.1.lab.1 == (2 : Int) then
 (bif bif (bif (bif ((x.2.1.kids.length : Int) == (0 : Int)) then (strEq x.2.1.lab.2.1 (⟨#[]⟩ : ByteArray)) else false) then (decide (x.2.1.lab.2.2.1 ≥ (0 : Int))) else false) then (decide (x.2.1.lab.2.2.1 < (x.1.1.2.1.length : Int))) else false then
 ((F69 x.2.1.lab.2.2.2).bind fun r2 =>
 some ((x.1.1, IntKind.wrap .i64 (x.1.2 - (1 : Int))), r2))
 else
 (some ((x.1.1, IntKind.wrap .i64 (x.1.2 - (1 : Int))), false)))
 else
 (bif x.2.1.lab.1 == (3 : Int) then
 (bif (x.2.1.kids.length : Int) == (1 : Int) then
 ((F55 (unL, x.2.1.lab.2.1)).bind fun r3 =>
 bif bif (!r3) then true else (x.2.1.lab.2.2.1 != (0 : Int)) then
 (some ((x.1.1, IntKind.wrap .i64 (x.1.2 - (1 : Int))), false))
 else
 ((F69 x.2.1.lab.2.2.2).bind fun r4 =>
 bif !r4 then
 (some ((x.1.1, IntKind.wrap .i64 (x.1.2 - (1 : Int))), false))
 else
 (f34.L1 n x r3 r4 n ((0 : Int), (x.1.1.1, (x.1.1.2.1, (x.1.1.2.2.1, (x.1.1.2.2.2.1, (x.1.1.2.2.2.2, IntKind.wrap .i64 (x.1.2 - (1 : Int)))))))))))
 else
 (some ((x.1.1, IntKind.wrap .i64 (x.1.2 - (1 : Int))), false)))
 else
 (bif x.2.1.lab.1 == (4 : Int) then
 (bif (x.2.1.kids.length : Int) == (2 : Int) then
 ((F55 (arL, x.2.1.lab.2.1)).bind fun r7 =>
 bif r7 then
 (bif x.2.1.lab.2.2.1 != (0 : Int) then
 (some ((x.1.1, IntKind.wrap .i64 (x.1.2 - (1 : Int))), false))
 else
 ((F69 x.2.1.lab.2.2.2).bind fun r8 =>
 bif !r8 then
 (some ((x.1.1, IntKind.wrap .i64 (x.1.2 - (1 : Int))), false))
 else
 (f34.L2 n x r7 r8 n ((0 : Int), (x.1.1.1, (x.1.1.2.1, (x.1.1.2.2.1, (x.1.1.2.2.2.1, (x.1.1.2.2.2.2, IntKind.wrap .i64 (x.1.2 - (1 : Int)))))))))))
 else
 ((F55 (cpL, x.2.1.lab.2.1)).bind fun r11 =>
 bif bif (!(bif (bif r11 then true else (strEq x.2.1.lab.2.1 (⟨#[97, 110, 100]⟩ : ByteArray))) then true else (strEq x.2.1.lab.2.1 (⟨#[111, 114]⟩ : ByteArray)))) then true else (x.2.1.lab.2.2.1 != (0 : Int)) then
 (some ((x.1.1, IntKind.wrap .i64 (x.1.2 - (1 : Int))), false))
 else
 ((F69 x.2.1.lab.2.2.2).bind fun r12 =>
 bif !r12 then
 (some ((x.1.1, IntKind.wrap .i64 (x.1.2 - (1 : Int))), false))
 else
 (f34.L3 n x r7 r11 r12 n ((0 : Int), (x.1.1.1, (x.1.1.2.1, (x.1.1.2.2.1, (x.1.1.2.2.2.1, (x.1.1.2.2.2.2, IntKind.wrap .i64 (x.1.2 - (1 : Int))))))))))))
 else
 (some ((x.1.1, IntKind.wrap .i64 (x.1.2 - (1 : Int))), false)))
 else
 (bif x.2.1.lab.1 == (5 : Int) then
 (bif bif (!(bif (decide ((x.2.1.kids.length : Int) ≥ (2 : Int))) then (strEq x.2.1.lab.2.1 (⟨#[]⟩ : ByteArray)) else false)) then true else (x.2.1.lab.2.2.1 != (0 : Int)) then
 (some ((x.1.1, IntKind.wrap .i64 (x.1.2 - (1 : Int))), false))
 else
 ((F69 x.2.1.lab.2.2.2).bind fun r15 =>
 bif !r15 then
 (some ((x.1.1, IntKind.wrap .i64 (x.1.2 - (1 : Int))), false))
 else
 (f34.L4 n x r15 n ((0 : Int), (x.1.1.1, (x.1.1.2.1, (x.1.1.2.2.1, (x.1.1.2.2.2.1, (x.1.1.2.2.2.2, IntKind.wrap .i64 (x.1.2 - (1 : Int)))))))))))
 else
 (some ((x.1.1, IntKind.wrap .i64 (x.1.2 - (1 : Int))), false)))))))
theorem f34.eq (n : Nat) (x : (dTable × Int) × (dExpr × Int)) : runM TT E34 n ann (tabC C34) 1 34 (argsM [(true, tExpr), (false, .int .i64)] x.2) (startP (.pair tTable (.int .i64)) x.1) (readP (.pair tTable (.int .i64)) [(false, .bool)]) = f34.g n x := by
 have h : runM TT E34 n ann (tabC C34) 1 34 (argsM [(true, tExpr), (false, .int .i64)] x.2) (startP (.pair tTable (.int .i64)) x.1) (readP (.pair tTable (.int .i64)) [(false, .bool)]) = f34.q n x := by kernel_rfl
 rw [h]
 simp only [f34.q, f34.g, f34.l1, f34.l2, f34.l3, f34.l4]
theorem f34.codes : CodesOk Tryz.prog E34 ann (tabC C34) := tabC_ok (by intro p hp; simp only [C34, List.mem_cons, List.not_mem_nil, or_false] at hp; rcases hp with rfl <;> first | exact Tryz.func34) (by kernel_rfl)
theorem f34.ok (G : ((dTable × Int) × (dExpr × Int)) → Option ((dTable × Int) × Bool)) (h : ∀ X Y, G X = some Y → ∃ n, f34.g n X = some Y) (e34 : ConOk Tryz.prog 34 conS34) (e50 : ConOk Tryz.prog 50 con50) (e55 : ConOk Tryz.prog 55 con55) (e69 : ConOk Tryz.prog 69 con69) : ConOk Tryz.prog 34 (mkConP (.pair tTable (.int .i64)) [(true, tExpr), (false, .int .i64)] [(false, .bool)] G) :=
 mkConP_ok mixed TT_ok (envC_ok e69 (envC_ok e55 (envC_ok e50 (envC_ok e34 env0_ok)))) f34.codes (List.all_eq_true.1 rfl) fun X Y hF => (h X Y hF).imp fun n hn => (f34.eq n X).trans hn
end
def con34 : Con := mkConP (.pair tTable (.int .i64)) [(true, tExpr), (false, .int .i64)] [(false, .bool)] F34
/-! ### vellum/vellumref15.nodes -/
class Rec38 where
 F : (dExpr × Int × Int) → Option (Int × Bool)
section
variable [Rec38]
def conS38 : Con := mkCon [(true, tExpr), (false, .int .i64), (false, .int .i64)] [(false, .int .i64), (false, .bool)] true Rec38.F
def E38 : FuncId → Option Con := (envC 38 conS38 env0)
noncomputable def C38 : List (FuncId × Func) := [(38, Tryz.f38)]
def f38.h1 (x : dExpr × Int × Int) (y1 : Int × Bool × Int) : List AV × List Ob := ([.undef, .val false [.sc (.int .i64) y1.1], .val false [.sc (.int .i64) x.2.2], .val false [.ptr 0 0], .undef, .undef, .undef, .undef, .val false [.sc .bool y1.2.1], .val false [.sc (.int .i64) y1.2.2]] ++ List.replicate 33 .undef, [.box [.sc (.int .i64) x.1.lab.1, .sc .str x.1.lab.2.1, .sc (.int .i64) x.1.lab.2.2.1, .sc (.int .i64) x.1.lab.2.2.2.1, .sc (.int .i64) x.1.lab.2.2.2.2.1, .sc (.float .f64) x.1.lab.2.2.2.2.2.1, .sc .str x.1.lab.2.2.2.2.2.2, .sc (.sl tExpr) x.1.kids]])
def f38.L1 (n : Nat) (x : dExpr × Int × Int) (m1 : Nat) (y1 : Int × Bool × Int) : Option (Int × Bool) :=
 loopN (ann 38 6).keep 1 (fun fr H k => execK TT 0 E38 (inlD TT E38 n ann (tabC C38) 1) n (ann 38) (subC [1, 1, 1, 1, 0, 1, 0, 0] (bodyOf Tryz.f38)) fr H k) m1 (f38.h1 x y1).1 (f38.h1 x y1).2 (kont TT 0 E38 (inlD TT E38 n ann (tabC C38) 1) n (ann 38) [1, 1, 1, 1, 0, 1, 0] (bodyOf Tryz.f38) (endK TT Tryz.f38 (readL [(false, .int .i64), (false, .bool)])))
def f38.s1 (n : Nat) (x : dExpr × Int × Int) (S1 : (Int × Bool × Int) → Option (Int × Bool)) (y1 : Int × Bool × Int) : Option (Int × Bool) :=
 bif bif (decide (y1.2.2 < (x.1.kids.length : Int))) then y1.2.1 else false then
 (bif decide (0 ≤ y1.2.2) && decide (y1.2.2 < (x.1.kids.length : Int)) then
 ((Rec38.F ((Rose.node ((x.1.kids.getD y1.2.2.toNat tExpr.dflt).lab) ((x.1.kids.getD y1.2.2.toNat tExpr.dflt).kids)), (y1.1, IntKind.wrap .i64 (x.2.2 + (1 : Int))))).bind fun r2 =>
 S1 (r2.1, (r2.2, IntKind.wrap .i64 (y1.2.2 + (1 : Int)))))
 else
 (none))
 else
 (some (y1.1, y1.2.1))
theorem f38.k1 (n : Nat) (x : dExpr × Int × Int) (m : Nat) (y : Int × Bool × Int) : f38.L1 n x (m + 1) y = f38.s1 n x (f38.L1 n x m) y := by kernel_rfl
theorem f38.l1 (n : Nat) (x : dExpr × Int × Int) : ∀ (m : Nat) (y1 : Int × Bool × Int), f38.L1 n x m y1 = iter (f38.s1 n x) m y1 :=
 loop_of (L := f38.L1 n x) (step := f38.s1 n x) (fun _ => rfl) (f38.k1 n x)
def f38.g (n : Nat) (x : dExpr × Int × Int) : Option (Int × Bool) :=
 bif bif (decide (IntKind.wrap .i64 (x.2.1 + (1 : Int)) > (1024 : Int))) then true else (decide (x.2.2 > (100 : Int))) then
 (some (IntKind.wrap .i64 (x.2.1 + (1 : Int)), false))
 else
 (iter (f38.s1 n x) n (IntKind.wrap .i64 (x.2.1 + (1 : Int)), (true, (0 : Int))))
def f38.q (n : Nat) (x : dExpr × Int × Int) : Option (Int × Bool) :=
 bif bif (decide (IntKind.wrap .i64 (x.2.1 + (1 : Int)) > (1024 : Int))) then true else (decide (x.2.2 > (100 : Int))) then
 (some (IntKind.wrap .i64 (x.2.1 + (1 : Int)), false))
 else
 (f38.L1 n x n (IntKind.wrap .i64 (x.2.1 + (1 : Int)), (true, (0 : Int))))
theorem f38.eq (n : Nat) (x : dExpr × Int × Int) : runK TT E38 n ann (tabC C38) 1 38 (argsL [(true, tExpr), (false, .int .i64), (false, .int .i64)] x) [] (readL [(false, .int .i64), (false, .bool)]) = f38.g n x := by
 have h : runK TT E38 n ann (tabC C38) 1 38 (argsL [(true, tExpr), (false, .int .i64), (false, .int .i64)] x) [] (readL [(false, .int .i64), (false, .bool)]) = f38.q n x := by kernel_rfl
 rw [h]
 simp only [f38.q, f38.g, f38.l1]
theorem f38.codes : CodesOk Tryz.prog E38 ann (tabC C38) := tabC_ok (by intro p hp; simp only [C38, List.mem_cons, List.not_mem_nil, or_false] at hp; rcases hp with rfl <;> first | exact Tryz.func38) (by kernel_rfl)
theorem f38.ok (G : (dExpr × Int × Int) → Option (Int × Bool)) (h : ∀ X Y, G X = some Y → ∃ n, f38.g n X = some Y) (e38 : ConOk Tryz.prog 38 conS38) : ConOk Tryz.prog 38 (mkCon [(true, tExpr), (false, .int .i64), (false, .int .i64)] [(false, .int .i64), (false, .bool)] true G) :=
 mkCon_ok mixed TT_ok (envC_ok e38 env0_ok) f38.codes (fun _ => List.all_eq_true.1 rfl) fun X Y hF => (h X Y hF).imp fun n hn => (f38.eq n X).trans hn
end
def con38 : Con := mkCon [(true, tExpr), (false, .int .i64), (false, .int .i64)] [(false, .int .i64), (false, .bool)] true F38
/-! ### vellum/vellumref15.empty -/
def E79 : FuncId → Option Con := (envC 12 con12 env0)
noncomputable def C79 : List (FuncId × Func) := [(79, Tryz.f79)]
def f79.g (n : Nat) (x : dValue) : Option (Bool) :=
 (F12 (x, ((0 : Int), ((0 : Int), (0, (⟨#[]⟩ : ByteArray)))))).bind fun r1 =>
 some r1
theorem f79.eq (n : Nat) (x : dValue) : runK TT E79 n ann (tabC C79) 1 79 (argsL [(true, tValue)] x) [] (readL [(false, .bool)]) = f79.g n x := by
 kernel_rfl
theorem f79.codes : CodesOk Tryz.prog E79 ann (tabC C79) := tabC_ok (by intro p hp; simp only [C79, List.mem_cons, List.not_mem_nil, or_false] at hp; rcases hp with rfl <;> first | exact Tryz.func79) (by kernel_rfl)
theorem f79.ok (h : ∀ X Y, F79 X = some Y → ∃ n, f79.g n X = some Y) (e12 : ConOk Tryz.prog 12 con12) : ConOk Tryz.prog 79 (mkCon [(true, tValue)] [(false, .bool)] true F79) :=
 mkCon_ok mixed TT_ok (envC_ok e12 env0_ok) f79.codes (fun _ => List.all_eq_true.1 rfl) fun X Y hF => (h X Y hF).imp fun n hn => (f79.eq n X).trans hn
def con79 : Con := mkCon [(true, tValue)] [(false, .bool)] true F79
/-! ### vellum/vellumref15.may -/
class Rec39 where
 F : (dTable × dExpr) → Option (Bool)
section
variable [Rec39]
def conS39 : Con := mkCon [(true, tTable), (true, tExpr)] [(false, .bool)] true Rec39.F
def E39 : FuncId → Option Con := (envC 82 con82 (envC 81 con81 (envC 80 con80 (envC 79 con79 (envC 78 con78 (envC 39 conS39 env0))))))
noncomputable def C39 : List (FuncId × Func) := [(39, Tryz.f39)]
def f39.h1 (x : dTable × dExpr) (y1 : Int) : List AV × List Ob := ([.undef, .undef, .val false [.ptr 0 0], .val false [.ptr 1 0], .undef, .val false [.sc (.int .i64) y1]] ++ List.replicate 127 .undef, [.box [.sc .str x.1.1, .sc (.sl tColumn) x.1.2.1, .sc (.sl (.int .i64)) x.1.2.2.1, .sc (.sl tIndex) x.1.2.2.2.1, .sc (.sl tRef) x.1.2.2.2.2], .box [.sc (.int .i64) x.2.lab.1, .sc .str x.2.lab.2.1, .sc (.int .i64) x.2.lab.2.2.1, .sc (.int .i64) x.2.lab.2.2.2.1, .sc (.int .i64) x.2.lab.2.2.2.2.1, .sc (.float .f64) x.2.lab.2.2.2.2.2.1, .sc .str x.2.lab.2.2.2.2.2.2, .sc (.sl tExpr) x.2.kids]])
def f39.L1 (n : Nat) (x : dTable × dExpr) (m1 : Nat) (y1 : Int) : Option (Bool) :=
 loopN (ann 39 2).keep 2 (fun fr H k => execK TT 0 E39 (inlD TT E39 n ann (tabC C39) 1) n (ann 39) (subC [1, 0, 1, 0, 0] (bodyOf Tryz.f39)) fr H k) m1 (f39.h1 x y1).1 (f39.h1 x y1).2 (kont TT 0 E39 (inlD TT E39 n ann (tabC C39) 1) n (ann 39) [1, 0, 1, 0] (bodyOf Tryz.f39) (endK TT Tryz.f39 (readL [(false, .bool)])))
def f39.s1 (n : Nat) (x : dTable × dExpr) (S1 : Int → Option (Bool)) (y1 : Int) : Option (Bool) :=
 bif decide (y1 < (x.2.kids.length : Int)) then
 (bif decide (0 ≤ y1) && decide (y1 < (x.2.kids.length : Int)) then
 ((Rec39.F (x.1, (Rose.node ((x.2.kids.getD y1.toNat tExpr.dflt).lab) ((x.2.kids.getD y1.toNat tExpr.dflt).kids)))).bind fun r2 =>
 bif !r2 then
 (some false)
 else
 (S1 (IntKind.wrap .i64 (y1 + (1 : Int)))))
 else
 (none))
 else
 (bif x.2.lab.1 == (1 : Int) then
 (bif bif (bif (strEq x.2.lab.2.1 (⟨#[]⟩ : ByteArray)) then (x.2.lab.2.2.1 == (0 : Int)) else false) then ((x.2.kids.length : Int) == (0 : Int)) else false then
 ((F78 x.2.lab.2.2.2).bind fun r3 =>
 some (r3 == (0 : Int)))
 else
 (some false))
 else
 (bif x.2.lab.1 == (2 : Int) then
 (bif strEq x.2.lab.2.1 (⟨#[]⟩ : ByteArray) then
 ((F79 x.2.lab.2.2.2).bind fun r4 =>
 some (bif (bif (bif r4 then ((x.2.kids.length : Int) == (0 : Int)) else false) then (decide (x.2.lab.2.2.1 ≥ (0 : Int))) else false) then (decide (x.2.lab.2.2.1 < (x.1.2.1.length : Int))) else false))
 else
 (some false))
 else
 (bif x.2.lab.1 == (3 : Int) then
 ((F81 ()).bind fun r5 =>
 (F80 (r5, x.2.lab.2.1)).bind fun r6 =>
 bif bif r6 then (x.2.lab.2.2.1 == (0 : Int)) else false then
 ((F79 x.2.lab.2.2.2).bind fun r7 =>
 some (bif r7 then ((x.2.kids.length : Int) == (1 : Int)) else false))
 else
 (some false))
 else
 (bif x.2.lab.1 == (4 : Int) then
 ((F82 ()).bind fun r8 =>
 (F80 (r8, x.2.lab.2.1)).bind fun r9 =>
 bif bif r9 then (x.2.lab.2.2.1 == (0 : Int)) else false then
 ((F79 x.2.lab.2.2.2).bind fun r10 =>
 some (bif r10 then ((x.2.kids.length : Int) == (2 : Int)) else false))
 else
 (some false))
 else
 (bif x.2.lab.1 == (5 : Int) then
 (bif bif (strEq x.2.lab.2.1 (⟨#[]⟩ : ByteArray)) then (x.2.lab.2.2.1 == (0 : Int)) else false then
 ((F79 x.2.lab.2.2.2).bind fun r11 =>
 some (bif r11 then (decide ((x.2.kids.length : Int) ≥ (2 : Int))) else false))
 else
 (some false))
 else
 (some false))))))
theorem f39.k1 (n : Nat) (x : dTable × dExpr) (m : Nat) (y : Int) : f39.L1 n x (m + 1) y = f39.s1 n x (f39.L1 n x m) y := by kernel_rfl
theorem f39.l1 (n : Nat) (x : dTable × dExpr) : ∀ (m : Nat) (y1 : Int), f39.L1 n x m y1 = iter (f39.s1 n x) m y1 :=
 loop_of (L := f39.L1 n x) (step := f39.s1 n x) (fun _ => rfl) (f39.k1 n x)
def f39.g (n : Nat) (x : dTable × dExpr) : Option (Bool) :=
 iter (f39.s1 n x) n (0 : Int)
def f39.q (n : Nat) (x : dTable × dExpr) : Option (Bool) :=
 f39.L1 n x n (0 : Int)
theorem f39.eq (n : Nat) (x : dTable × dExpr) : runK TT E39 n ann (tabC C39) 1 39 (argsL [(true, tTable), (true, tExpr)] x) [] (readL [(false, .bool)]) = f39.g n x := by
 have h : runK TT E39 n ann (tabC C39) 1 39 (argsL [(true, tTable), (true, tExpr)] x) [] (readL [(false, .bool)]) = f39.q n x := by kernel_rfl
 rw [h]
 simp only [f39.q, f39.g, f39.l1]
theorem f39.codes : CodesOk Tryz.prog E39 ann (tabC C39) := tabC_ok (by intro p hp; simp only [C39, List.mem_cons, List.not_mem_nil, or_false] at hp; rcases hp with rfl <;> first | exact Tryz.func39) (by kernel_rfl)
theorem f39.ok (G : (dTable × dExpr) → Option (Bool)) (h : ∀ X Y, G X = some Y → ∃ n, f39.g n X = some Y) (e39 : ConOk Tryz.prog 39 conS39) (e78 : ConOk Tryz.prog 78 con78) (e79 : ConOk Tryz.prog 79 con79) (e80 : ConOk Tryz.prog 80 con80) (e81 : ConOk Tryz.prog 81 con81) (e82 : ConOk Tryz.prog 82 con82) : ConOk Tryz.prog 39 (mkCon [(true, tTable), (true, tExpr)] [(false, .bool)] true G) :=
 mkCon_ok mixed TT_ok (envC_ok e82 (envC_ok e81 (envC_ok e80 (envC_ok e79 (envC_ok e78 (envC_ok e39 env0_ok)))))) f39.codes (fun _ => List.all_eq_true.1 rfl) fun X Y hF => (h X Y hF).imp fun n hn => (f39.eq n X).trans hn
end
def con39 : Con := mkCon [(true, tTable), (true, tExpr)] [(false, .bool)] true F39
/-! ### vellum/vellumref15.number -/
def E83 : FuncId → Option Con := env0
noncomputable def C83 : List (FuncId × Func) := [(83, Tryz.f83)]
def f83.g (n : Nat) (x : Int) : Option (Bool) :=
 some (bif (x == (2 : Int)) then true else (x == (3 : Int)))
theorem f83.eq (n : Nat) (x : Int) : runK TT E83 n ann (tabC C83) 1 83 (argsL [(false, .int .i64)] x) [] (readL [(false, .bool)]) = f83.g n x := by
 kernel_rfl
theorem f83.codes : CodesOk Tryz.prog E83 ann (tabC C83) := tabC_ok (by intro p hp; simp only [C83, List.mem_cons, List.not_mem_nil, or_false] at hp; rcases hp with rfl <;> first | exact Tryz.func83) (by kernel_rfl)
theorem f83.ok (h : ∀ X Y, F83 X = some Y → ∃ n, f83.g n X = some Y)  : ConOk Tryz.prog 83 (mkCon [(false, .int .i64)] [(false, .bool)] true F83) :=
 mkCon_ok mixed TT_ok env0_ok f83.codes (fun _ => List.all_eq_true.1 rfl) fun X Y hF => (h X Y hF).imp fun n hn => (f83.eq n X).trans hn
def con83 : Con := mkCon [(false, .int .i64)] [(false, .bool)] true F83
/-! ### vellum/vellumref15.logic -/
def E84 : FuncId → Option Con := env0
noncomputable def C84 : List (FuncId × Func) := [(84, Tryz.f84)]
def f84.g (n : Nat) (x : Int) : Option (Bool) :=
 some (bif (x == (1 : Int)) then true else (x == (0 : Int)))
theorem f84.eq (n : Nat) (x : Int) : runK TT E84 n ann (tabC C84) 1 84 (argsL [(false, .int .i64)] x) [] (readL [(false, .bool)]) = f84.g n x := by
 kernel_rfl
theorem f84.codes : CodesOk Tryz.prog E84 ann (tabC C84) := tabC_ok (by intro p hp; simp only [C84, List.mem_cons, List.not_mem_nil, or_false] at hp; rcases hp with rfl <;> first | exact Tryz.func84) (by kernel_rfl)
theorem f84.ok (h : ∀ X Y, F84 X = some Y → ∃ n, f84.g n X = some Y)  : ConOk Tryz.prog 84 (mkCon [(false, .int .i64)] [(false, .bool)] true F84) :=
 mkCon_ok mixed TT_ok env0_ok f84.codes (fun _ => List.all_eq_true.1 rfl) fun X Y hF => (h X Y hF).imp fun n hn => (f84.eq n X).trans hn
def con84 : Con := mkCon [(false, .int .i64)] [(false, .bool)] true F84
/-! ### vellum/vellumref15.comparable -/
def E85 : FuncId → Option Con := (envC 83 con83 env0)
noncomputable def C85 : List (FuncId × Func) := [(85, Tryz.f85)]
def f85.g (n : Nat) (x : Int × Int) : Option (Bool) :=
 (F83 x.1).bind fun r1 =>
 bif r1 then
 ((F83 x.2).bind fun r2 =>
 some (bif (bif (bif r2 then true else (x.1 == x.2)) then true else (x.1 == (0 : Int))) then true else (x.2 == (0 : Int))))
 else
 (some (bif (bif (x.1 == x.2) then true else (x.1 == (0 : Int))) then true else (x.2 == (0 : Int))))
theorem f85.eq (n : Nat) (x : Int × Int) : runK TT E85 n ann (tabC C85) 1 85 (argsL [(false, .int .i64), (false, .int .i64)] x) [] (readL [(false, .bool)]) = f85.g n x := by
 kernel_rfl
theorem f85.codes : CodesOk Tryz.prog E85 ann (tabC C85) := tabC_ok (by intro p hp; simp only [C85, List.mem_cons, List.not_mem_nil, or_false] at hp; rcases hp with rfl <;> first | exact Tryz.func85) (by kernel_rfl)
theorem f85.ok (h : ∀ X Y, F85 X = some Y → ∃ n, f85.g n X = some Y) (e83 : ConOk Tryz.prog 83 con83) : ConOk Tryz.prog 85 (mkCon [(false, .int .i64), (false, .int .i64)] [(false, .bool)] true F85) :=
 mkCon_ok mixed TT_ok (envC_ok e83 env0_ok) f85.codes (fun _ => List.all_eq_true.1 rfl) fun X Y hF => (h X Y hF).imp fun n hn => (f85.eq n X).trans hn
def con85 : Con := mkCon [(false, .int .i64), (false, .int .i64)] [(false, .bool)] true F85
/-! ### vellum/pred.reckoned -/
def E73 : FuncId → Option Con := (envC 72 con72 env0)
noncomputable def C73 : List (FuncId × Func) := [(73, Tryz.f73)]
def f73.g (n : Nat) (x : ByteArray × Int × Int) : Option (Int × Bool) :=
 bif x.2.1 == (0 : Int) then
 (bif x.2.2 == (0 : Int) then
 (some (x.2.2, true))
 else
 ((F72 x.2.2).bind fun r1 =>
 bif !r1 then
 (some ((0 : Int), false))
 else
 ((F72 x.2.1).bind fun r2 =>
 bif bif (!r2) then (x.2.1 != (0 : Int)) else false then
 (bif bif (!r2) then (x.2.1 != (0 : Int)) else false then
 (some ((0 : Int), false))
 else
 (bif x.2.1 == (0 : Int) then
 (some (x.2.2, true))
 else
 (some (maxI true x.2.2 x.2.1, true))))
 else
 (bif bif (strEq x.1 (⟨#[37]⟩ : ByteArray)) then (bif (x.2.2 == (3 : Int)) then true else (x.2.1 == (3 : Int))) else false then
 (some ((0 : Int), false))
 else
 (bif x.2.1 == (0 : Int) then
 (some (x.2.2, true))
 else
 (some (maxI true x.2.2 x.2.1, true)))))))
 else
 (bif x.2.1 == (0 : Int) then
 (some (x.2.1, true))
 else
 ((F72 x.2.1).bind fun r3 =>
 bif !r3 then
 (some ((0 : Int), false))
 else
 ((F72 x.2.2).bind fun r4 =>
 bif bif (!r4) then (x.2.2 != (0 : Int)) else false then
 (bif bif (!r4) then (x.2.2 != (0 : Int)) else false then
 (some ((0 : Int), false))
 else
 (bif x.2.2 == (0 : Int) then
 (some (x.2.1, true))
 else
 (some (maxI true x.2.1 x.2.2, true))))
 else
 (bif bif (strEq x.1 (⟨#[37]⟩ : ByteArray)) then (bif (x.2.1 == (3 : Int)) then true else (x.2.2 == (3 : Int))) else false then
 (some ((0 : Int), false))
 else
 (bif x.2.2 == (0 : Int) then
 (some (x.2.1, true))
 else
 (some (maxI true x.2.1 x.2.2, true)))))))
theorem f73.eq (n : Nat) (x : ByteArray × Int × Int) : runK TT E73 n ann (tabC C73) 1 73 (argsL [(false, .str), (false, .int .i64), (false, .int .i64)] x) [] (readL [(false, .int .i64), (false, .bool)]) = f73.g n x := by
 kernel_rfl
theorem f73.codes : CodesOk Tryz.prog E73 ann (tabC C73) := tabC_ok (by intro p hp; simp only [C73, List.mem_cons, List.not_mem_nil, or_false] at hp; rcases hp with rfl <;> first | exact Tryz.func73) (by kernel_rfl)
theorem f73.ok (h : ∀ X Y, F73 X = some Y → ∃ n, f73.g n X = some Y) (e72 : ConOk Tryz.prog 72 con72) : ConOk Tryz.prog 73 (mkCon [(false, .str), (false, .int .i64), (false, .int .i64)] [(false, .int .i64), (false, .bool)] true F73) :=
 mkCon_ok mixed TT_ok (envC_ok e72 env0_ok) f73.codes (fun _ => List.all_eq_true.1 rfl) fun X Y hF => (h X Y hF).imp fun n hn => (f73.eq n X).trans hn
def con73 : Con := mkCon [(false, .str), (false, .int .i64), (false, .int .i64)] [(false, .int .i64), (false, .bool)] true F73
/-! ### vellum/vellumref15.reckoned -/
def E87 : FuncId → Option Con := (envC 83 con83 env0)
noncomputable def C87 : List (FuncId × Func) := [(87, Tryz.f87)]
def f87.g (n : Nat) (x : ByteArray × Int × Int) : Option (Int × Bool) :=
 bif x.2.1 == (0 : Int) then
 (bif x.2.2 == (0 : Int) then
 (some ((0 : Int), true))
 else
 (bif strEq x.1 (⟨#[37]⟩ : ByteArray) then
 (some ((2 : Int), bif (x.2.2 == (2 : Int)) then (bif (x.2.1 == (2 : Int)) then true else (x.2.1 == (0 : Int))) else false))
 else
 (bif x.2.1 == (0 : Int) then
 ((F83 x.2.2).bind fun r1 =>
 some (x.2.2, r1))
 else
 ((F83 x.2.2).bind fun r2 =>
 bif !r2 then
 (some ((0 : Int), false))
 else
 ((F83 x.2.1).bind fun r3 =>
 bif !r3 then
 (some ((0 : Int), false))
 else
 (bif bif (x.2.2 == (2 : Int)) then (x.2.1 == (2 : Int)) else false then
 (some ((2 : Int), true))
 else
 (some ((3 : Int), true))))))))
 else
 (bif x.2.1 == (0 : Int) then
 (some ((0 : Int), true))
 else
 (bif strEq x.1 (⟨#[37]⟩ : ByteArray) then
 (some ((2 : Int), bif (x.2.1 == (2 : Int)) then (bif (x.2.2 == (2 : Int)) then true else (x.2.2 == (0 : Int))) else false))
 else
 (bif x.2.2 == (0 : Int) then
 ((F83 x.2.1).bind fun r4 =>
 some (x.2.1, r4))
 else
 ((F83 x.2.1).bind fun r5 =>
 bif !r5 then
 (some ((0 : Int), false))
 else
 ((F83 x.2.2).bind fun r6 =>
 bif !r6 then
 (some ((0 : Int), false))
 else
 (bif bif (x.2.1 == (2 : Int)) then (x.2.2 == (2 : Int)) else false then
 (some ((2 : Int), true))
 else
 (some ((3 : Int), true))))))))
theorem f87.eq (n : Nat) (x : ByteArray × Int × Int) : runK TT E87 n ann (tabC C87) 1 87 (argsL [(false, .str), (false, .int .i64), (false, .int .i64)] x) [] (readL [(false, .int .i64), (false, .bool)]) = f87.g n x := by
 kernel_rfl
theorem f87.codes : CodesOk Tryz.prog E87 ann (tabC C87) := tabC_ok (by intro p hp; simp only [C87, List.mem_cons, List.not_mem_nil, or_false] at hp; rcases hp with rfl <;> first | exact Tryz.func87) (by kernel_rfl)
theorem f87.ok (h : ∀ X Y, F87 X = some Y → ∃ n, f87.g n X = some Y) (e83 : ConOk Tryz.prog 83 con83) : ConOk Tryz.prog 87 (mkCon [(false, .str), (false, .int .i64), (false, .int .i64)] [(false, .int .i64), (false, .bool)] true F87) :=
 mkCon_ok mixed TT_ok (envC_ok e83 env0_ok) f87.codes (fun _ => List.all_eq_true.1 rfl) fun X Y hF => (h X Y hF).imp fun n hn => (f87.eq n X).trans hn
def con87 : Con := mkCon [(false, .str), (false, .int .i64), (false, .int .i64)] [(false, .int .i64), (false, .bool)] true F87
/-! ### vellum/pred.kindOf -/
class Rec35 where
 F : (dTable × dExpr) → Option (Int × Bool)
section
variable [Rec35]
def conS35 : Con := mkCon [(true, tTable), (true, tExpr)] [(false, .int .i64), (false, .bool)] true Rec35.F
def E35 : FuncId → Option Con := (envC 73 con73 (envC 72 con72 (envC 71 con71 (envC 65 con65 (envC 55 con55 (envC 49 con49 (envC 35 conS35 env0)))))))
noncomputable def C35 : List (FuncId × Func) := [(35, Tryz.f35)]
def f35.h1 (x : dTable × dExpr) (y1 : Int × Nat × (List Int)) : List AV × List Ob := ([.undef, .undef, .val false [.ptr 0 0], .val false [.ptr 1 0], .undef, .undef, .val false [.ptr 2 0], .undef, .undef, .undef, .undef, .undef, .val false [.sc (.sl tExpr) x.2.kids], .val false [.sc (.int .i64) (x.2.kids.length : Int)], .val false [.sc (.int .i64) y1.1]] ++ List.replicate 119 .undef, [.box [.sc .str x.1.1, .sc (.sl tColumn) x.1.2.1, .sc (.sl (.int .i64)) x.1.2.2.1, .sc (.sl tIndex) x.1.2.2.2.1, .sc (.sl tRef) x.1.2.2.2.2], .box [.sc (.int .i64) x.2.lab.1, .sc .str x.2.lab.2.1, .sc (.int .i64) x.2.lab.2.2.1, .sc (.int .i64) x.2.lab.2.2.2.1, .sc (.int .i64) x.2.lab.2.2.2.2.1, .sc (.float .f64) x.2.lab.2.2.2.2.2.1, .sc .str x.2.lab.2.2.2.2.2.2, .sc (.sl tExpr) x.2.kids], .box [.own 3 y1.2.1], .arr 3 (.int .i64) y1.2.2])
def f35.L1 (n : Nat) (x : dTable × dExpr) (m1 : Nat) (y1 : Int × Nat × (List Int)) : Option (Int × Bool) :=
 loopN (ann 35 3).keep 4 (fun fr H k => execK TT 0 E35 (inlD TT E35 n ann (tabC C35) 1) n (ann 35) (subC [1, 1, 0, 1, 0, 0] (bodyOf Tryz.f35)) fr H k) m1 (f35.h1 x y1).1 (f35.h1 x y1).2 (kont TT 0 E35 (inlD TT E35 n ann (tabC C35) 1) n (ann 35) [1, 1, 0, 1, 0] (bodyOf Tryz.f35) (endK TT Tryz.f35 (readL [(false, .int .i64), (false, .bool)])))
def f35.s1 (n : Nat) (x : dTable × dExpr) (S1 : (Int × Nat × (List Int)) → Option (Int × Bool)) (y1 : Int × Nat × (List Int)) : Option (Int × Bool) :=
 bif decide (y1.1 < (x.2.kids.length : Int)) then
 (bif decide (0 ≤ y1.1) && decide (y1.1 < (x.2.kids.length : Int)) then
 ((Rec35.F (x.1, (Rose.node ((x.2.kids.getD y1.1.toNat tExpr.dflt).lab) ((x.2.kids.getD y1.1.toNat tExpr.dflt).kids)))).bind fun r2 =>
 bif !r2.2 then
 (some ((0 : Int), false))
 else
 (bif decide ((y1.2.1 + 1) * 8 ≤ boundN) then
 (S1 (IntKind.wrap .i64 (y1.1 + (1 : Int)), (y1.2.1 + 1, List.take y1.2.1 y1.2.2 ++ ([r2.1]))))
 else
 (none)))
 else
 (none))
 else
 (bif x.2.lab.1 == (1 : Int) then
 (some (x.2.lab.2.2.2.1, true))
 else
 (bif x.2.lab.1 == (2 : Int) then
 (bif decide (0 ≤ x.2.lab.2.2.1) && decide (x.2.lab.2.2.1 < (x.1.2.1.length : Int)) then
 (some ((x.1.2.1.getD x.2.lab.2.2.1.toNat tColumn.dflt).2.1, true))
 else
 (none))
 else
 (bif x.2.lab.1 == (5 : Int) then
 (bif decide (0 ≤ (1 : Int)) && decide ((1 : Int) ≤ ((List.take y1.2.1 y1.2.2).length : Int)) then
 ((F65b (List.drop 1 (List.take y1.2.1 y1.2.2), List.take y1.2.1 y1.2.2)).bind fun r3 =>
 some ((1 : Int), !r3))
 else
 (none))
 else
 (bif bif (strEq x.2.lab.2.1 (⟨#[45]⟩ : ByteArray)) then (((y1.2.1 : Nat) : Int) == (1 : Int)) else false then
 (bif decide (0 ≤ (0 : Int)) && decide ((0 : Int) < ((y1.2.1 : Nat) : Int)) then
 (bif decide (0 ≤ (0 : Int)) && decide ((0 : Int) < ((y1.2.1 : Nat) : Int)) then
 ((F72 (y1.2.2.getD 0 (Ty.dflt (.int .i64)))).bind fun r4 =>
 bif r4 then
 (some (y1.2.2.getD 0 (Ty.dflt (.int .i64)), true))
 else
 (bif decide (0 ≤ (0 : Int)) && decide ((0 : Int) < ((y1.2.1 : Nat) : Int)) then
 (some (y1.2.2.getD 0 (Ty.dflt (.int .i64)), y1.2.2.getD 0 (Ty.dflt (.int .i64)) == (0 : Int)))
 else
 (none)))
 else
 (none))
 else
 (none))
 else
 (bif strEq x.2.lab.2.1 (⟨#[110, 111, 116]⟩ : ByteArray) then
 (bif decide (0 ≤ (0 : Int)) && decide ((0 : Int) < ((y1.2.1 : Nat) : Int)) then
 ((F49 (y1.2.2.getD 0 (Ty.dflt (.int .i64)))).bind fun r5 =>
 some ((1 : Int), r5))
 else
 (none))
 else
 (bif x.2.lab.1 == (3 : Int) then
 (some ((1 : Int), true))
 else
 ((F55 (cpL, x.2.lab.2.1)).bind fun r6 =>
 bif r6 then
 (bif decide (0 ≤ (0 : Int)) && decide ((0 : Int) < ((y1.2.1 : Nat) : Int)) then
 (bif decide (0 ≤ (1 : Int)) && decide ((1 : Int) < ((y1.2.1 : Nat) : Int)) then
 ((F71 (y1.2.2.getD 0 (Ty.dflt (.int .i64)), y1.2.2.getD 1 (Ty.dflt (.int .i64)))).bind fun r7 =>
 some ((1 : Int), r7))
 else
 (none))
 else
 (none))
 else
 (bif bif (strEq x.2.lab.2.1 (⟨#[97, 110, 100]⟩ : ByteArray)) then true else (strEq x.2.lab.2.1 (⟨#[111, 114]⟩ : ByteArray)) then
 (bif decide (0 ≤ (0 : Int)) && decide ((0 : Int) < ((y1.2.1 : Nat) : Int)) then
 ((F49 (y1.2.2.getD 0 (Ty.dflt (.int .i64)))).bind fun r8 =>
 bif r8 then
 (bif decide (0 ≤ (1 : Int)) && decide ((1 : Int) < ((y1.2.1 : Nat) : Int)) then
 ((F49 (y1.2.2.getD 1 (Ty.dflt (.int .i64)))).bind fun r9 =>
 some ((1 : Int), r9))
 else
 (none))
 else
 (some ((1 : Int), false)))
 else
 (none))
 else
 (bif decide (0 ≤ (0 : Int)) && decide ((0 : Int) < ((y1.2.1 : Nat) : Int)) then
 (bif decide (0 ≤ (1 : Int)) && decide ((1 : Int) < ((y1.2.1 : Nat) : Int)) then
 ((F73 (x.2.lab.2.1, (y1.2.2.getD 0 (Ty.dflt (.int .i64)), y1.2.2.getD 1 (Ty.dflt (.int .i64))))).bind fun r10 =>
 some r10)
 else
 (none))
 else
 (none))))))))))
theorem f35.k1 (n : Nat) (x : dTable × dExpr) (m : Nat) (y : Int × Nat × (List Int)) : f35.L1 n x (m + 1) y = f35.s1 n x (f35.L1 n x m) y := by kernel_rfl
theorem f35.l1 (n : Nat) (x : dTable × dExpr) : ∀ (m : Nat) (y1 : Int × Nat × (List Int)), f35.L1 n x m y1 = iter (f35.s1 n x) m y1 :=
 loop_of (L := f35.L1 n x) (step := f35.s1 n x) (fun _ => rfl) (f35.k1 n x)
def f35.g (n : Nat) (x : dTable × dExpr) : Option (Int × Bool) :=
 iter (f35.s1 n x) n ((0 : Int), (0, []))
def f35.q (n : Nat) (x : dTable × dExpr) : Option (Int × Bool) :=
 f35.L1 n x n ((0 : Int), (0, []))
theorem f35.eq (n : Nat) (x : dTable × dExpr) : runK TT E35 n ann (tabC C35) 1 35 (argsL [(true, tTable), (true, tExpr)] x) [] (readL [(false, .int .i64), (false, .bool)]) = f35.g n x := by
 have h : runK TT E35 n ann (tabC C35) 1 35 (argsL [(true, tTable), (true, tExpr)] x) [] (readL [(false, .int .i64), (false, .bool)]) = f35.q n x := by kernel_rfl
 rw [h]
 simp only [f35.q, f35.g, f35.l1]
theorem f35.codes : CodesOk Tryz.prog E35 ann (tabC C35) := tabC_ok (by intro p hp; simp only [C35, List.mem_cons, List.not_mem_nil, or_false] at hp; rcases hp with rfl <;> first | exact Tryz.func35) (by kernel_rfl)
theorem f35.ok (G : (dTable × dExpr) → Option (Int × Bool)) (h : ∀ X Y, G X = some Y → ∃ n, f35.g n X = some Y) (e35 : ConOk Tryz.prog 35 conS35) (e49 : ConOk Tryz.prog 49 con49) (e55 : ConOk Tryz.prog 55 con55) (e65 : ConOk Tryz.prog 65 con65) (e71 : ConOk Tryz.prog 71 con71) (e72 : ConOk Tryz.prog 72 con72) (e73 : ConOk Tryz.prog 73 con73) : ConOk Tryz.prog 35 (mkCon [(true, tTable), (true, tExpr)] [(false, .int .i64), (false, .bool)] true G) :=
 mkCon_ok mixed TT_ok (envC_ok e73 (envC_ok e72 (envC_ok e71 (envC_ok e65 (envC_ok e55 (envC_ok e49 (envC_ok e35 env0_ok))))))) f35.codes (fun _ => List.all_eq_true.1 rfl) fun X Y hF => (h X Y hF).imp fun n hn => (f35.eq n X).trans hn
end
def con35 : Con := mkCon [(true, tTable), (true, tExpr)] [(false, .int .i64), (false, .bool)] true F35
/-! ### vellum/vellumref15.kind -/
class Rec40 where
 F : (dTable × dExpr) → Option (Int × Bool)
section
variable [Rec40]
def conS40 : Con := mkCon [(true, tTable), (true, tExpr)] [(false, .int .i64), (false, .bool)] true Rec40.F
def E40 : FuncId → Option Con := (envC 88 con88 (envC 87 con87 (envC 86 con86 (envC 85 con85 (envC 84 con84 (envC 83 con83 (envC 40 conS40 env0)))))))
noncomputable def C40 : List (FuncId × Func) := [(40, Tryz.f40)]
def f40.h1 (x : dTable × dExpr) (y1 : Nat × Int × (List Int)) (y5 : Int) : List AV × List Ob := ([.undef, .undef, .undef, .undef, .undef, .undef, .val false [.own 2 y1.1], .undef, .undef, .undef, .val false [.sc (.int .i64) y5]] ++ List.replicate 118 .undef, [.box [.sc .str x.1.1, .sc (.sl tColumn) x.1.2.1, .sc (.sl (.int .i64)) x.1.2.2.1, .sc (.sl tIndex) x.1.2.2.2.1, .sc (.sl tRef) x.1.2.2.2.2], .box [.sc (.int .i64) x.2.lab.1, .sc .str x.2.lab.2.1, .sc (.int .i64) x.2.lab.2.2.1, .sc (.int .i64) x.2.lab.2.2.2.1, .sc (.int .i64) x.2.lab.2.2.2.2.1, .sc (.float .f64) x.2.lab.2.2.2.2.2.1, .sc .str x.2.lab.2.2.2.2.2.2, .sc (.sl tExpr) x.2.kids], .arr 3 (.int .i64) y1.2.2])
def f40.h2 (x : dTable × dExpr) (y1 : Nat × Int × (List Int)) : List AV × List Ob := ([.undef, .undef, .val false [.ptr 0 0], .val false [.ptr 1 0], .undef, .undef, .val false [.own 2 y1.1], .val false [.sc (.int .i64) y1.2.1]] ++ List.replicate 121 .undef, [.box [.sc .str x.1.1, .sc (.sl tColumn) x.1.2.1, .sc (.sl (.int .i64)) x.1.2.2.1, .sc (.sl tIndex) x.1.2.2.2.1, .sc (.sl tRef) x.1.2.2.2.2], .box [.sc (.int .i64) x.2.lab.1, .sc .str x.2.lab.2.1, .sc (.int .i64) x.2.lab.2.2.1, .sc (.int .i64) x.2.lab.2.2.2.1, .sc (.int .i64) x.2.lab.2.2.2.2.1, .sc (.float .f64) x.2.lab.2.2.2.2.2.1, .sc .str x.2.lab.2.2.2.2.2.2, .sc (.sl tExpr) x.2.kids], .arr 3 (.int .i64) y1.2.2])
def f40.L1 (n : Nat) (x : dTable × dExpr) (y1 : Nat × Int × (List Int)) (m5 : Nat) (y5 : Int) : Option (Int × Bool) :=
 loopN (ann 40 20).keep 3 (fun fr H k => execK TT 0 E40 (inlD TT E40 n ann (tabC C40) 1) n (ann 40) (subC [1, 1, 1, 0, 1, 0, 1, 1, 1, 1, 1, 1, 1, 0, 0, 1, 0, 0] (bodyOf Tryz.f40)) fr H k) m5 (f40.h1 x y1 y5).1 (f40.h1 x y1 y5).2 (kont TT 0 E40 (inlD TT E40 n ann (tabC C40) 1) n (ann 40) [1, 1, 1, 0, 1, 0, 1, 1, 1, 1, 1, 1, 1, 0, 0, 1, 0] (bodyOf Tryz.f40) (endK TT Tryz.f40 (readL [(false, .int .i64), (false, .bool)])))
def f40.L2 (n : Nat) (x : dTable × dExpr) (m1 : Nat) (y1 : Nat × Int × (List Int)) : Option (Int × Bool) :=
 loopN (ann 40 3).keep 3 (fun fr H k => execK TT 0 E40 (inlD TT E40 n ann (tabC C40) 1) n (ann 40) (subC [1, 1, 0, 1, 0, 0] (bodyOf Tryz.f40)) fr H k) m1 (f40.h2 x y1).1 (f40.h2 x y1).2 (kont TT 0 E40 (inlD TT E40 n ann (tabC C40) 1) n (ann 40) [1, 1, 0, 1, 0] (bodyOf Tryz.f40) (endK TT Tryz.f40 (readL [(false, .int .i64), (false, .bool)])))
def f40.s1 (n : Nat) (x : dTable × dExpr) (y1 : Nat × Int × (List Int)) (S5 : Int → Option (Int × Bool)) (y5 : Int) : Option (Int × Bool) :=
 bif decide (y5 < ((y1.1 : Nat) : Int)) then
 (bif decide (0 ≤ (0 : Int)) && decide ((0 : Int) < ((y1.1 : Nat) : Int)) then
 (bif decide (0 ≤ y5) && decide (y5 < ((y1.1 : Nat) : Int)) then
 ((F85 (y1.2.2.getD 0 (Ty.dflt (.int .i64)), y1.2.2.getD y5.toNat (Ty.dflt (.int .i64)))).bind fun r6 =>
 bif !r6 then
 (some ((0 : Int), false))
 else
 (S5 (IntKind.wrap .i64 (y5 + (1 : Int)))))
 else
 (none))
 else
 (none))
 else
 (some ((1 : Int), true))
theorem f40.k1 (n : Nat) (x : dTable × dExpr) (y1 : Nat × Int × (List Int)) (m : Nat) (y : Int) : f40.L1 n x y1 (m + 1) y = f40.s1 n x y1 (f40.L1 n x y1 m) y := by kernel_rfl
theorem f40.l1 (n : Nat) (x : dTable × dExpr) (y1 : Nat × Int × (List Int)) : ∀ (m : Nat) (y5 : Int), f40.L1 n x y1 m y5 = iter (f40.s1 n x y1) m y5 :=
 loop_of (L := f40.L1 n x y1) (step := f40.s1 n x y1) (fun _ => rfl) (f40.k1 n x y1)
def f40.s2 (n : Nat) (x : dTable × dExpr) (S1 : (Nat × Int × (List Int)) → Option (Int × Bool)) (y1 : Nat × Int × (List Int)) : Option (Int × Bool) :=
 bif decide (y1.2.1 < (x.2.kids.length : Int)) then
 (bif decide (0 ≤ y1.2.1) && decide (y1.2.1 < (x.2.kids.length : Int)) then
 ((Rec40.F (x.1, (Rose.node ((x.2.kids.getD y1.2.1.toNat tExpr.dflt).lab) ((x.2.kids.getD y1.2.1.toNat tExpr.dflt).kids)))).bind fun r2 =>
 bif !r2.2 then
 (some ((0 : Int), false))
 else
 (bif decide ((y1.1 + 1) * 8 ≤ boundN) then
 (S1 (y1.1 + 1, (IntKind.wrap .i64 (y1.2.1 + (1 : Int)), List.take y1.1 y1.2.2 ++ ([r2.1]))))
 else
 (none)))
 else
 (none))
 else
 (bif x.2.lab.1 == (1 : Int) then
 (some (x.2.lab.2.2.2.1, true))
 else
 (bif x.2.lab.1 == (2 : Int) then
 (bif decide (0 ≤ x.2.lab.2.2.1) && decide (x.2.lab.2.2.1 < (x.1.2.1.length : Int)) then
 (some ((x.1.2.1.getD x.2.lab.2.2.1.toNat tColumn.dflt).2.1, true))
 else
 (none))
 else
 (bif x.2.lab.1 == (3 : Int) then
 (bif strEq x.2.lab.2.1 (⟨#[45]⟩ : ByteArray) then
 (bif decide (0 ≤ (0 : Int)) && decide ((0 : Int) < ((y1.1 : Nat) : Int)) then
 (bif decide (0 ≤ (0 : Int)) && decide ((0 : Int) < ((y1.1 : Nat) : Int)) then
 ((F83 (y1.2.2.getD 0 (Ty.dflt (.int .i64)))).bind fun r3 =>
 bif r3 then
 (some (y1.2.2.getD 0 (Ty.dflt (.int .i64)), true))
 else
 (bif decide (0 ≤ (0 : Int)) && decide ((0 : Int) < ((y1.1 : Nat) : Int)) then
 (some (y1.2.2.getD 0 (Ty.dflt (.int .i64)), y1.2.2.getD 0 (Ty.dflt (.int .i64)) == (0 : Int)))
 else
 (none)))
 else
 (none))
 else
 (none))
 else
 (bif !(strEq x.2.lab.2.1 (⟨#[110, 111, 116]⟩ : ByteArray)) then
 (some ((1 : Int), true))
 else
 (bif decide (0 ≤ (0 : Int)) && decide ((0 : Int) < ((y1.1 : Nat) : Int)) then
 ((F84 (y1.2.2.getD 0 (Ty.dflt (.int .i64)))).bind fun r4 =>
 some ((1 : Int), r4))
 else
 (none))))
 else
 (bif x.2.lab.1 == (5 : Int) then
 (iter (f40.s1 n x y1) n (1 : Int))
 else
 ((F86 x.2.lab.2.1).bind fun r7 =>
 bif r7 then
 (bif decide (0 ≤ (0 : Int)) && decide ((0 : Int) < ((y1.1 : Nat) : Int)) then
 (bif decide (0 ≤ (1 : Int)) && decide ((1 : Int) < ((y1.1 : Nat) : Int)) then
 ((F87 (x.2.lab.2.1, (y1.2.2.getD 0 (Ty.dflt (.int .i64)), y1.2.2.getD 1 (Ty.dflt (.int .i64))))).bind fun r8 =>
 some r8)
 else
 (none))
 else
 (none))
 else
 ((F88 x.2.lab.2.1).bind fun r9 =>
 bif r9 then
 (bif decide (0 ≤ (0 : Int)) && decide ((0 : Int) < ((y1.1 : Nat) : Int)) then
 (bif decide (0 ≤ (1 : Int)) && decide ((1 : Int) < ((y1.1 : Nat) : Int)) then
 ((F85 (y1.2.2.getD 0 (Ty.dflt (.int .i64)), y1.2.2.getD 1 (Ty.dflt (.int .i64)))).bind fun r10 =>
 some ((1 : Int), r10))
 else
 (none))
 else
 (none))
 else
 (bif decide (0 ≤ (0 : Int)) && decide ((0 : Int) < ((y1.1 : Nat) : Int)) then
 ((F84 (y1.2.2.getD 0 (Ty.dflt (.int .i64)))).bind fun r11 =>
 bif r11 then
 (bif decide (0 ≤ (1 : Int)) && decide ((1 : Int) < ((y1.1 : Nat) : Int)) then
 ((F84 (y1.2.2.getD 1 (Ty.dflt (.int .i64)))).bind fun r12 =>
 some ((1 : Int), r12))
 else
 (none))
 else
 (some ((1 : Int), false)))
 else
 (none))))))))
def f40.r2 (n : Nat) (x : dTable × dExpr) (m1 : Nat) (S1 : (Nat × Int × (List Int)) → Option (Int × Bool)) (y1 : Nat × Int × (List Int)) : Option (Int × Bool) :=
 bif decide (y1.2.1 < (x.2.kids.length : Int)) then
 (bif decide (0 ≤ y1.2.1) && decide (y1.2.1 < (x.2.kids.length : Int)) then
 ((Rec40.F (x.1, (Rose.node ((x.2.kids.getD y1.2.1.toNat tExpr.dflt).lab) ((x.2.kids.getD y1.2.1.toNat tExpr.dflt).kids)))).bind fun r2 =>
 bif !r2.2 then
 (some ((0 : Int), false))
 else
 (bif decide ((y1.1 + 1) * 8 ≤ boundN) then
 (S1 (y1.1 + 1, (IntKind.wrap .i64 (y1.2.1 + (1 : Int)), List.take y1.1 y1.2.2 ++ ([r2.1]))))
 else
 (none)))
 else
 (none))
 else
 (bif x.2.lab.1 == (1 : Int) then
 (some (x.2.lab.2.2.2.1, true))
 else
 (bif x.2.lab.1 == (2 : Int) then
 (bif decide (0 ≤ x.2.lab.2.2.1) && decide (x.2.lab.2.2.1 < (x.1.2.1.length : Int)) then
 (some ((x.1.2.1.getD x.2.lab.2.2.1.toNat tColumn.dflt).2.1, true))
 else
 (none))
 else
 (bif x.2.lab.1 == (3 : Int) then
 (bif strEq x.2.lab.2.1 (⟨#[45]⟩ : ByteArray) then
 (bif decide (0 ≤ (0 : Int)) && decide ((0 : Int) < ((y1.1 : Nat) : Int)) then
 (bif decide (0 ≤ (0 : Int)) && decide ((0 : Int) < ((y1.1 : Nat) : Int)) then
 ((F83 (y1.2.2.getD 0 (Ty.dflt (.int .i64)))).bind fun r3 =>
 bif r3 then
 (some (y1.2.2.getD 0 (Ty.dflt (.int .i64)), true))
 else
 (bif decide (0 ≤ (0 : Int)) && decide ((0 : Int) < ((y1.1 : Nat) : Int)) then
 (some (y1.2.2.getD 0 (Ty.dflt (.int .i64)), y1.2.2.getD 0 (Ty.dflt (.int .i64)) == (0 : Int)))
 else
 (none)))
 else
 (none))
 else
 (none))
 else
 (bif !(strEq x.2.lab.2.1 (⟨#[110, 111, 116]⟩ : ByteArray)) then
 (some ((1 : Int), true))
 else
 (bif decide (0 ≤ (0 : Int)) && decide ((0 : Int) < ((y1.1 : Nat) : Int)) then
 ((F84 (y1.2.2.getD 0 (Ty.dflt (.int .i64)))).bind fun r4 =>
 some ((1 : Int), r4))
 else
 (none))))
 else
 (bif x.2.lab.1 == (5 : Int) then
 (f40.L1 n x y1 n (1 : Int))
 else
 ((F86 x.2.lab.2.1).bind fun r7 =>
 bif r7 then
 (bif decide (0 ≤ (0 : Int)) && decide ((0 : Int) < ((y1.1 : Nat) : Int)) then
 (bif decide (0 ≤ (1 : Int)) && decide ((1 : Int) < ((y1.1 : Nat) : Int)) then
 ((F87 (x.2.lab.2.1, (y1.2.2.getD 0 (Ty.dflt (.int .i64)), y1.2.2.getD 1 (Ty.dflt (.int .i64))))).bind fun r8 =>
 some r8)
 else
 (none))
 else
 (none))
 else
 ((F88 x.2.lab.2.1).bind fun r9 =>
 bif r9 then
 (bif decide (0 ≤ (0 : Int)) && decide ((0 : Int) < ((y1.1 : Nat) : Int)) then
 (bif decide (0 ≤ (1 : Int)) && decide ((1 : Int) < ((y1.1 : Nat) : Int)) then
 ((F85 (y1.2.2.getD 0 (Ty.dflt (.int .i64)), y1.2.2.getD 1 (Ty.dflt (.int .i64)))).bind fun r10 =>
 some ((1 : Int), r10))
 else
 (none))
 else
 (none))
 else
 (bif decide (0 ≤ (0 : Int)) && decide ((0 : Int) < ((y1.1 : Nat) : Int)) then
 ((F84 (y1.2.2.getD 0 (Ty.dflt (.int .i64)))).bind fun r11 =>
 bif r11 then
 (bif decide (0 ≤ (1 : Int)) && decide ((1 : Int) < ((y1.1 : Nat) : Int)) then
 ((F84 (y1.2.2.getD 1 (Ty.dflt (.int .i64)))).bind fun r12 =>
 some ((1 : Int), r12))
 else
 (none))
 else
 (some ((1 : Int), false)))
 else
 (none))))))))
theorem f40.k2 (n : Nat) (x : dTable × dExpr) (m : Nat) (y : Nat × Int × (List Int)) : f40.L2 n x (m + 1) y = f40.s2 n x (f40.L2 n x m) y := by
 have h : f40.L2 n x (m + 1) y = f40.r2 n x m (f40.L2 n x m) y := by kernel_rfl
 rw [h]
 simp only [f40.r2, f40.s2, f40.l1]
theorem f40.l2 (n : Nat) (x : dTable × dExpr) : ∀ (m : Nat) (y1 : Nat × Int × (List Int)), f40.L2 n x m y1 = iter (f40.s2 n x) m y1 :=
 loop_of (L := f40.L2 n x) (step := f40.s2 n x) (fun _ => rfl) (f40.k2 n x)
def f40.g (n : Nat) (x : dTable × dExpr) : Option (Int × Bool) :=
 iter (f40.s2 n x) n (0, ((0 : Int), []))
def f40.q (n : Nat) (x : dTable × dExpr) : Option (Int × Bool) :=
 f40.L2 n x n (0, ((0 : Int), []))
theorem f40.eq (n : Nat) (x : dTable × dExpr) : runK TT E40 n ann (tabC C40) 1 40 (argsL [(true, tTable), (true, tExpr)] x) [] (readL [(false, .int .i64), (false, .bool)]) = f40.g n x := by
 have h : runK TT E40 n ann (tabC C40) 1 40 (argsL [(true, tTable), (true, tExpr)] x) [] (readL [(false, .int .i64), (false, .bool)]) = f40.q n x := by kernel_rfl
 rw [h]
 simp only [f40.q, f40.g, f40.l1, f40.l2]
theorem f40.codes : CodesOk Tryz.prog E40 ann (tabC C40) := tabC_ok (by intro p hp; simp only [C40, List.mem_cons, List.not_mem_nil, or_false] at hp; rcases hp with rfl <;> first | exact Tryz.func40) (by kernel_rfl)
theorem f40.ok (G : (dTable × dExpr) → Option (Int × Bool)) (h : ∀ X Y, G X = some Y → ∃ n, f40.g n X = some Y) (e40 : ConOk Tryz.prog 40 conS40) (e83 : ConOk Tryz.prog 83 con83) (e84 : ConOk Tryz.prog 84 con84) (e85 : ConOk Tryz.prog 85 con85) (e86 : ConOk Tryz.prog 86 con86) (e87 : ConOk Tryz.prog 87 con87) (e88 : ConOk Tryz.prog 88 con88) : ConOk Tryz.prog 40 (mkCon [(true, tTable), (true, tExpr)] [(false, .int .i64), (false, .bool)] true G) :=
 mkCon_ok mixed TT_ok (envC_ok e88 (envC_ok e87 (envC_ok e86 (envC_ok e85 (envC_ok e84 (envC_ok e83 (envC_ok e40 env0_ok))))))) f40.codes (fun _ => List.all_eq_true.1 rfl) fun X Y hF => (h X Y hF).imp fun n hn => (f40.eq n X).trans hn
end
def con40 : Con := mkCon [(true, tTable), (true, tExpr)] [(false, .int .i64), (false, .bool)] true F40
/-! ### vellum/pred.Check -/
def E14 : FuncId → Option Con := (envC 35 con35 (envC 34 con34 (envC 33 con33 env0)))
noncomputable def C14 : List (FuncId × Func) := [(14, Tryz.f14)]
def f14.g (n : Nat) (x : dTable × dExpr) : Option (Int × Int) :=
 (F33 x.1).bind fun r1 =>
 bif r1 != (0 : Int) then
 (some ((0 : Int), r1))
 else
 ((F34 ((x.1, (1024 : Int)), ((Rose.node x.2.lab x.2.kids), (1 : Int)))).bind fun r2 =>
 bif !r2.2 then
 (some ((0 : Int), (150 : Int)))
 else
 ((F35 (x.1, (Rose.node x.2.lab x.2.kids))).bind fun r3 =>
 bif !r3.2 then
 (some ((0 : Int), (151 : Int)))
 else
 (some (r3.1, (0 : Int)))))
theorem f14.eq (n : Nat) (x : dTable × dExpr) : runK TT E14 n ann (tabC C14) 1 14 (argsL [(true, tTable), (true, tExpr)] x) [] (readL [(false, .int .i64), (false, .int .i64)]) = f14.g n x := by
 kernel_rfl
theorem f14.codes : CodesOk Tryz.prog E14 ann (tabC C14) := tabC_ok (by intro p hp; simp only [C14, List.mem_cons, List.not_mem_nil, or_false] at hp; rcases hp with rfl <;> first | exact Tryz.func14) (by kernel_rfl)
theorem f14.ok (h : ∀ X Y, F14 X = some Y → ∃ n, f14.g n X = some Y) (e33 : ConOk Tryz.prog 33 con33) (e34 : ConOk Tryz.prog 34 con34) (e35 : ConOk Tryz.prog 35 con35) : ConOk Tryz.prog 14 (mkCon [(true, tTable), (true, tExpr)] [(false, .int .i64), (false, .int .i64)] true F14) :=
 mkCon_ok mixed TT_ok (envC_ok e35 (envC_ok e34 (envC_ok e33 env0_ok))) f14.codes (fun _ => List.all_eq_true.1 rfl) fun X Y hF => (h X Y hF).imp fun n hn => (f14.eq n X).trans hn
def con14 : Con := mkCon [(true, tTable), (true, tExpr)] [(false, .int .i64), (false, .int .i64)] true F14
/-! ### vellum/vellumref15.Check -/
def E17 : FuncId → Option Con := (envC 40 con40 (envC 39 con39 (envC 38 con38 (envC 37 con37 env0))))
noncomputable def C17 : List (FuncId × Func) := [(17, Tryz.f17)]
def f17.g (n : Nat) (x : dTable × dExpr) : Option (Int × Int) :=
 (F37 x.1).bind fun r1 =>
 bif r1 != (0 : Int) then
 (some ((0 : Int), r1))
 else
 ((F38 ((Rose.node x.2.lab x.2.kids), ((0 : Int), (1 : Int)))).bind fun r2 =>
 bif !r2.2 then
 (some ((0 : Int), (150 : Int)))
 else
 ((F39 (x.1, (Rose.node x.2.lab x.2.kids))).bind fun r3 =>
 bif !r3 then
 (some ((0 : Int), (150 : Int)))
 else
 ((F40 (x.1, (Rose.node x.2.lab x.2.kids))).bind fun r4 =>
 bif !r4.2 then
 (some ((0 : Int), (151 : Int)))
 else
 (some (r4.1, (0 : Int))))))
theorem f17.eq (n : Nat) (x : dTable × dExpr) : runK TT E17 n ann (tabC C17) 1 17 (argsL [(true, tTable), (true, tExpr)] x) [] (readL [(false, .int .i64), (false, .int .i64)]) = f17.g n x := by
 kernel_rfl
theorem f17.codes : CodesOk Tryz.prog E17 ann (tabC C17) := tabC_ok (by intro p hp; simp only [C17, List.mem_cons, List.not_mem_nil, or_false] at hp; rcases hp with rfl <;> first | exact Tryz.func17) (by kernel_rfl)
theorem f17.ok (h : ∀ X Y, F17 X = some Y → ∃ n, f17.g n X = some Y) (e37 : ConOk Tryz.prog 37 con37) (e38 : ConOk Tryz.prog 38 con38) (e39 : ConOk Tryz.prog 39 con39) (e40 : ConOk Tryz.prog 40 con40) : ConOk Tryz.prog 17 (mkCon [(true, tTable), (true, tExpr)] [(false, .int .i64), (false, .int .i64)] true F17) :=
 mkCon_ok mixed TT_ok (envC_ok e40 (envC_ok e39 (envC_ok e38 (envC_ok e37 env0_ok)))) f17.codes (fun _ => List.all_eq_true.1 rfl) fun X Y hF => (h X Y hF).imp fun n hn => (f17.eq n X).trans hn
def con17 : Con := mkCon [(true, tTable), (true, tExpr)] [(false, .int .i64), (false, .int .i64)] true F17
/-! ### vellum/pred.Columns -/
class Rec19 where
 F : dExpr → Option ((List Int))
section
variable [Rec19]
def conS19 : Con := mkCon [(true, tExpr)] [(false, .sl (.int .i64))] false Rec19.F
def E19 : FuncId → Option Con := (envC 42 con42 (envC 41 con41 (envC 19 conS19 env0)))
noncomputable def C19 : List (FuncId × Func) := [(19, Tryz.f19)]
def f19.h1 (x : dExpr) (y1 : Nat × Int × (List Int)) : List AV × List Ob := ([.undef, .undef, .undef, .val false [.own 2 y1.1], .undef, .undef, .undef, .undef, .undef, .undef, .undef, .undef, .undef, .undef, .undef, .val false [.sc (.sl tExpr) x.kids], .val false [.sc (.int .i64) (x.kids.length : Int)], .val false [.sc (.int .i64) y1.2.1]] ++ List.replicate 12 .undef, [.box [.sc (.int .i64) x.lab.1, .sc .str x.lab.2.1, .sc (.int .i64) x.lab.2.2.1, .sc (.int .i64) x.lab.2.2.2.1, .sc (.int .i64) x.lab.2.2.2.2.1, .sc (.float .f64) x.lab.2.2.2.2.2.1, .sc .str x.lab.2.2.2.2.2.2, .sc (.sl tExpr) x.kids], .arr 3 (.int .i64) ([x.lab.2.2.1]), .arr 3 (.int .i64) y1.2.2])
def f19.h2 (x : dExpr) (y5 : Nat × Int × (List Int)) : List AV × List Ob := ([.undef, .undef, .undef, .val false [.own 1 y5.1], .undef, .undef, .undef, .undef, .undef, .undef, .undef, .undef, .undef, .undef, .undef, .val false [.sc (.sl tExpr) x.kids], .val false [.sc (.int .i64) (x.kids.length : Int)], .val false [.sc (.int .i64) y5.2.1]] ++ List.replicate 12 .undef, [.box [.sc (.int .i64) x.lab.1, .sc .str x.lab.2.1, .sc (.int .i64) x.lab.2.2.1, .sc (.int .i64) x.lab.2.2.2.1, .sc (.int .i64) x.lab.2.2.2.2.1, .sc (.float .f64) x.lab.2.2.2.2.2.1, .sc .str x.lab.2.2.2.2.2.2, .sc (.sl tExpr) x.kids], .arr 3 (.int .i64) y5.2.2])
def f19.L1 (n : Nat) (x : dExpr) (m1 : Nat) (y1 : Nat × Int × (List Int)) : Option ((List Int)) :=
 loopN (ann 19 5).keep 3 (fun fr H k => execK TT 0 E19 (inlD TT E19 n ann (tabC C19) 1) n (ann 19) (subC [1, 1, 1, 0, 1, 0, 0] (bodyOf Tryz.f19)) fr H k) m1 (f19.h1 x y1).1 (f19.h1 x y1).2 (kont TT 0 E19 (inlD TT E19 n ann (tabC C19) 1) n (ann 19) [1, 1, 1, 0, 1, 0] (bodyOf Tryz.f19) (endK TT Tryz.f19 (readL [(false, .sl (.int .i64))])))
def f19.L2 (n : Nat) (x : dExpr) (m5 : Nat) (y5 : Nat × Int × (List Int)) : Option ((List Int)) :=
 loopN (ann 19 5).keep 2 (fun fr H k => execK TT 0 E19 (inlD TT E19 n ann (tabC C19) 1) n (ann 19) (subC [1, 1, 1, 0, 1, 0, 0] (bodyOf Tryz.f19)) fr H k) m5 (f19.h2 x y5).1 (f19.h2 x y5).2 (kont TT 0 E19 (inlD TT E19 n ann (tabC C19) 1) n (ann 19) [1, 1, 1, 0, 1, 0] (bodyOf Tryz.f19) (endK TT Tryz.f19 (readL [(false, .sl (.int .i64))])))
def f19.s1 (n : Nat) (x : dExpr) (S1 : (Nat × Int × (List Int)) → Option ((List Int))) (y1 : Nat × Int × (List Int)) : Option ((List Int)) :=
 bif decide (y1.2.1 < (x.kids.length : Int)) then
 (bif decide (0 ≤ y1.2.1) && decide (y1.2.1 < (x.kids.length : Int)) then
 ((Rec19.F (Rose.node ((x.kids.getD y1.2.1.toNat tExpr.dflt).lab) ((x.kids.getD y1.2.1.toNat tExpr.dflt).kids))).bind fun r2 =>
 bif decide ((y1.1 + r2.length) * 8 ≤ boundN) then
 (S1 (y1.1 + r2.length, (IntKind.wrap .i64 (y1.2.1 + (1 : Int)), List.take y1.1 y1.2.2 ++ r2)))
 else
 (none))
 else
 (none))
 else
 ((F41 (List.take y1.1 y1.2.2)).bind fun r3 =>
 (F42 (List.take y1.1 (r3.1 ++ List.drop y1.1 y1.2.2))).bind fun r4 =>
 some (List.take r4.2 (r4.1 ++ List.drop y1.1 (r3.1 ++ List.drop y1.1 y1.2.2))))
theorem f19.k1 (n : Nat) (x : dExpr) (m : Nat) (y : Nat × Int × (List Int)) : f19.L1 n x (m + 1) y = f19.s1 n x (f19.L1 n x m) y := by kernel_rfl
theorem f19.l1 (n : Nat) (x : dExpr) : ∀ (m : Nat) (y1 : Nat × Int × (List Int)), f19.L1 n x m y1 = iter (f19.s1 n x) m y1 :=
 loop_of (L := f19.L1 n x) (step := f19.s1 n x) (fun _ => rfl) (f19.k1 n x)
def f19.s2 (n : Nat) (x : dExpr) (S5 : (Nat × Int × (List Int)) → Option ((List Int))) (y5 : Nat × Int × (List Int)) : Option ((List Int)) :=
 bif decide (y5.2.1 < (x.kids.length : Int)) then
 (bif decide (0 ≤ y5.2.1) && decide (y5.2.1 < (x.kids.length : Int)) then
 ((Rec19.F (Rose.node ((x.kids.getD y5.2.1.toNat tExpr.dflt).lab) ((x.kids.getD y5.2.1.toNat tExpr.dflt).kids))).bind fun r6 =>
 bif decide ((y5.1 + r6.length) * 8 ≤ boundN) then
 (S5 (y5.1 + r6.length, (IntKind.wrap .i64 (y5.2.1 + (1 : Int)), List.take y5.1 y5.2.2 ++ r6)))
 else
 (none))
 else
 (none))
 else
 ((F41 (List.take y5.1 y5.2.2)).bind fun r7 =>
 (F42 (List.take y5.1 (r7.1 ++ List.drop y5.1 y5.2.2))).bind fun r8 =>
 some (List.take r8.2 (r8.1 ++ List.drop y5.1 (r7.1 ++ List.drop y5.1 y5.2.2))))
theorem f19.k2 (n : Nat) (x : dExpr) (m : Nat) (y : Nat × Int × (List Int)) : f19.L2 n x (m + 1) y = f19.s2 n x (f19.L2 n x m) y := by kernel_rfl
theorem f19.l2 (n : Nat) (x : dExpr) : ∀ (m : Nat) (y5 : Nat × Int × (List Int)), f19.L2 n x m y5 = iter (f19.s2 n x) m y5 :=
 loop_of (L := f19.L2 n x) (step := f19.s2 n x) (fun _ => rfl) (f19.k2 n x)
def f19.g (n : Nat) (x : dExpr) : Option ((List Int)) :=
 bif x.lab.1 == (2 : Int) then
 (bif decide (1 * 8 ≤ boundN) then
 (iter (f19.s1 n x) n (1, ((0 : Int), [x.lab.2.2.1])))
 else
 (none))
 else
 (iter (f19.s2 n x) n (0, ((0 : Int), [])))
def f19.q (n : Nat) (x : dExpr) : Option ((List Int)) :=
 bif x.lab.1 == (2 : Int) then
 (bif decide (1 * 8 ≤ boundN) then
 (f19.L1 n x n (1, ((0 : Int), [x.lab.2.2.1])))
 else
 (none))
 else
 (f19.L2 n x n (0, ((0 : Int), [])))
theorem f19.eq (n : Nat) (x : dExpr) : runK TT E19 n ann (tabC C19) 1 19 (argsL [(true, tExpr)] x) [] (readL [(false, .sl (.int .i64))]) = f19.g n x := by
 have h : runK TT E19 n ann (tabC C19) 1 19 (argsL [(true, tExpr)] x) [] (readL [(false, .sl (.int .i64))]) = f19.q n x := by kernel_rfl
 rw [h]
 simp only [f19.q, f19.g, f19.l1, f19.l2]
theorem f19.codes : CodesOk Tryz.prog E19 ann (tabC C19) := tabC_ok (by intro p hp; simp only [C19, List.mem_cons, List.not_mem_nil, or_false] at hp; rcases hp with rfl <;> first | exact Tryz.func19) (by kernel_rfl)
theorem f19.ok (G : dExpr → Option ((List Int))) (h : ∀ X Y, G X = some Y → ∃ n, f19.g n X = some Y) (e19 : ConOk Tryz.prog 19 conS19) (e41 : ConOk Tryz.prog 41 con41) (e42 : ConOk Tryz.prog 42 con42) : ConOk Tryz.prog 19 (mkCon [(true, tExpr)] [(false, .sl (.int .i64))] false G) :=
 mkCon_ok mixed TT_ok (envC_ok e42 (envC_ok e41 (envC_ok e19 env0_ok))) f19.codes (fun h => by cases h) fun X Y hF => (h X Y hF).imp fun n hn => (f19.eq n X).trans hn
end
def con19 : Con := mkCon [(true, tExpr)] [(false, .sl (.int .i64))] false F19
/-! ### vellum/vellumref15.columns -/
class Rec43 where
 F : (dExpr × List Int) → Option (List Int)
section
variable [Rec43]
def conS43 : Con := mkConA [(true, tExpr)] 3 (.int .i64) Rec43.F
def E43 : FuncId → Option Con := (envC 43 conS43 env0)
noncomputable def C43 : List (FuncId × Func) := [(43, Tryz.f43)]
def f43.h1 (x : dExpr × List Int) (y1 : Nat × Int × (List Int)) : List AV × List Ob := ([.undef, .val false [.own 0 y1.1], .val false [.ptr 1 0], .undef, .undef, .val false [.sc (.int .i64) y1.2.1]] ++ List.replicate 23 .undef, [.arr 3 (.int .i64) y1.2.2, .box [.sc (.int .i64) x.1.lab.1, .sc .str x.1.lab.2.1, .sc (.int .i64) x.1.lab.2.2.1, .sc (.int .i64) x.1.lab.2.2.2.1, .sc (.int .i64) x.1.lab.2.2.2.2.1, .sc (.float .f64) x.1.lab.2.2.2.2.2.1, .sc .str x.1.lab.2.2.2.2.2.2, .sc (.sl tExpr) x.1.kids], .arr 3 (.int .i64) ([x.1.lab.2.2.1])])
def f43.h2 (x : dExpr × List Int) (y3 : Nat × Int × (List Int)) : List AV × List Ob := ([.undef, .val false [.own 0 y3.1], .val false [.ptr 1 0], .undef, .undef, .val false [.sc (.int .i64) y3.2.1]] ++ List.replicate 23 .undef, [.arr 3 (.int .i64) y3.2.2, .box [.sc (.int .i64) x.1.lab.1, .sc .str x.1.lab.2.1, .sc (.int .i64) x.1.lab.2.2.1, .sc (.int .i64) x.1.lab.2.2.2.1, .sc (.int .i64) x.1.lab.2.2.2.2.1, .sc (.float .f64) x.1.lab.2.2.2.2.2.1, .sc .str x.1.lab.2.2.2.2.2.2, .sc (.sl tExpr) x.1.kids]])
def f43.L1 (n : Nat) (x : dExpr × List Int) (m1 : Nat) (y1 : Nat × Int × (List Int)) : Option (List Int) :=
 loopN (ann 43 4).keep 3 (fun fr H k => execK TT 0 E43 (inlD TT E43 n ann (tabC C43) 1) n (ann 43) (subC [1, 1, 0, 1, 0, 0] (bodyOf Tryz.f43)) fr H k) m1 (f43.h1 x y1).1 (f43.h1 x y1).2 (kont TT 0 E43 (inlD TT E43 n ann (tabC C43) 1) n (ann 43) [1, 1, 0, 1, 0] (bodyOf Tryz.f43) (endK TT Tryz.f43 (readRow 3 (.int .i64))))
def f43.L2 (n : Nat) (x : dExpr × List Int) (m3 : Nat) (y3 : Nat × Int × (List Int)) : Option (List Int) :=
 loopN (ann 43 4).keep 2 (fun fr H k => execK TT 0 E43 (inlD TT E43 n ann (tabC C43) 1) n (ann 43) (subC [1, 1, 0, 1, 0, 0] (bodyOf Tryz.f43)) fr H k) m3 (f43.h2 x y3).1 (f43.h2 x y3).2 (kont TT 0 E43 (inlD TT E43 n ann (tabC C43) 1) n (ann 43) [1, 1, 0, 1, 0] (bodyOf Tryz.f43) (endK TT Tryz.f43 (readRow 3 (.int .i64))))
def f43.s1 (n : Nat) (x : dExpr × List Int) (S1 : (Nat × Int × (List Int)) → Option (List Int)) (y1 : Nat × Int × (List Int)) : Option (List Int) :=
 bif decide (y1.2.1 < (x.1.kids.length : Int)) then
 (bif decide (0 ≤ y1.2.1) && decide (y1.2.1 < (x.1.kids.length : Int)) then
 ((Rec43.F ((Rose.node ((x.1.kids.getD y1.2.1.toNat tExpr.dflt).lab) ((x.1.kids.getD y1.2.1.toNat tExpr.dflt).kids)), List.take y1.1 y1.2.2)).bind fun r2 =>
 S1 (r2.length, (IntKind.wrap .i64 (y1.2.1 + (1 : Int)), r2)))
 else
 (none))
 else
 (some (List.take y1.1 y1.2.2))
theorem f43.k1 (n : Nat) (x : dExpr × List Int) (m : Nat) (y : Nat × Int × (List Int)) : f43.L1 n x (m + 1) y = f43.s1 n x (f43.L1 n x m) y := by kernel_rfl
theorem f43.l1 (n : Nat) (x : dExpr × List Int) : ∀ (m : Nat) (y1 : Nat × Int × (List Int)), f43.L1 n x m y1 = iter (f43.s1 n x) m y1 :=
 loop_of (L := f43.L1 n x) (step := f43.s1 n x) (fun _ => rfl) (f43.k1 n x)
def f43.s2 (n : Nat) (x : dExpr × List Int) (S3 : (Nat × Int × (List Int)) → Option (List Int)) (y3 : Nat × Int × (List Int)) : Option (List Int) :=
 bif decide (y3.2.1 < (x.1.kids.length : Int)) then
 (bif decide (0 ≤ y3.2.1) && decide (y3.2.1 < (x.1.kids.length : Int)) then
 ((Rec43.F ((Rose.node ((x.1.kids.getD y3.2.1.toNat tExpr.dflt).lab) ((x.1.kids.getD y3.2.1.toNat tExpr.dflt).kids)), List.take y3.1 y3.2.2)).bind fun r4 =>
 S3 (r4.length, (IntKind.wrap .i64 (y3.2.1 + (1 : Int)), r4)))
 else
 (none))
 else
 (some (List.take y3.1 y3.2.2))
theorem f43.k2 (n : Nat) (x : dExpr × List Int) (m : Nat) (y : Nat × Int × (List Int)) : f43.L2 n x (m + 1) y = f43.s2 n x (f43.L2 n x m) y := by kernel_rfl
theorem f43.l2 (n : Nat) (x : dExpr × List Int) : ∀ (m : Nat) (y3 : Nat × Int × (List Int)), f43.L2 n x m y3 = iter (f43.s2 n x) m y3 :=
 loop_of (L := f43.L2 n x) (step := f43.s2 n x) (fun _ => rfl) (f43.k2 n x)
def f43.g (n : Nat) (x : dExpr × List Int) : Option (List Int) :=
 bif x.1.lab.1 == (2 : Int) then
 (bif decide ((x.2.length + 1) * 8 ≤ boundN) then
 (iter (f43.s1 n x) n (x.2.length + 1, ((0 : Int), List.take x.2.length x.2 ++ ([x.1.lab.2.2.1]))))
 else
 (none))
 else
 (iter (f43.s2 n x) n (x.2.length, ((0 : Int), x.2)))
def f43.q (n : Nat) (x : dExpr × List Int) : Option (List Int) :=
 bif x.1.lab.1 == (2 : Int) then
 (bif decide ((x.2.length + 1) * 8 ≤ boundN) then
 (f43.L1 n x n (x.2.length + 1, ((0 : Int), List.take x.2.length x.2 ++ ([x.1.lab.2.2.1]))))
 else
 (none))
 else
 (f43.L2 n x n (x.2.length, ((0 : Int), x.2)))
theorem f43.eq (n : Nat) (x : dExpr × List Int) : runK TT E43 n ann (tabC C43) 1 43 (argsRow [(true, tExpr)] (.int .i64) x) (startRow 3 (.int .i64) x.2) (readRow 3 (.int .i64)) = f43.g n x := by
 have h : runK TT E43 n ann (tabC C43) 1 43 (argsRow [(true, tExpr)] (.int .i64) x) (startRow 3 (.int .i64) x.2) (readRow 3 (.int .i64)) = f43.q n x := by kernel_rfl
 rw [h]
 simp only [f43.q, f43.g, f43.l1, f43.l2]
theorem f43.codes : CodesOk Tryz.prog E43 ann (tabC C43) := tabC_ok (by intro p hp; simp only [C43, List.mem_cons, List.not_mem_nil, or_false] at hp; rcases hp with rfl <;> first | exact Tryz.func43) (by kernel_rfl)
theorem f43.ok (G : (dExpr × List Int) → Option (List Int)) (h : ∀ X Y, G X = some Y → ∃ n, f43.g n X = some Y) (e43 : ConOk Tryz.prog 43 conS43) : ConOk Tryz.prog 43 (mkConA [(true, tExpr)] 3 (.int .i64) G) :=
 mkConA_ok mixed TT_ok (envC_ok e43 env0_ok) f43.codes fun X Y hF => (h X Y hF).imp fun n hn => (f43.eq n X).trans hn
end
def con43 : Con := mkConA [(true, tExpr)] 3 (.int .i64) F43
/-! ### vellum/vellumref15.Columns -/
def E20 : FuncId → Option Con := (envC 43 con43 env0)
noncomputable def C20 : List (FuncId × Func) := [(20, Tryz.f20)]
def f20.h1 (x : dExpr) (r1 : List Int) (y2 : (List Int) × Int) (y3 : Int) (y4 : Nat × Int × (List Int)) (y5 : Nat × Int × (List Int)) : List AV × List Ob := ([.undef, .undef, .undef, .val false [.sc (.sl (.int .i64)) y2.1], .val false [.own 2 r1.length], .val false [.sc (.int .i64) y2.2], .undef, .val false [.own 3 y5.1], .undef, .val false [.sc (.int .i64) y5.2.1], .undef, .undef, .undef, .undef, .undef, .undef, .undef, .undef, .undef, .undef, .undef, .undef, .undef, .undef, .val false [.sc (.sl (.int .i64)) y2.1], .val false [.sc (.int .i64) y3], .val false [.elr (.int .i64) (y2.1.getD y3.toNat (Ty.dflt (.int .i64))) 0], .val false [.sc (.int .i64) (y2.1.getD y3.toNat (Ty.dflt (.int .i64)))], .val false [.own 2 r1.length], .val false [.sc (.int .i64) y2.2], .val false [.elo 2 y2.2.toNat 0], .val false [.sc (.int .i64) (r1.getD y2.2.toNat (Ty.dflt (.int .i64)))], .val false [.sc .bool (decide (y2.1.getD y3.toNat (Ty.dflt (.int .i64)) < r1.getD y2.2.toNat (Ty.dflt (.int .i64))))], .undef, .undef, .undef, .undef, .undef, .undef, .undef, .undef, .val false [.sc (.sl (.int .i64)) y2.1], .val false [.sc (.int .i64) y3], .val false [.elr (.int .i64) (y2.1.getD y3.toNat (Ty.dflt (.int .i64))) 0], .val false [.sc (.int .i64) (y2.1.getD y3.toNat (Ty.dflt (.int .i64)))], .val false [.own 2 r1.length], .val false [.sc (.int .i64) y2.2], .val false [.elo 2 y2.2.toNat 0], .val false [.sc (.int .i64) (r1.getD y2.2.toNat (Ty.dflt (.int .i64)))], .val false [.sc .bool (y2.1.getD y3.toNat (Ty.dflt (.int .i64)) == r1.getD y2.2.toNat (Ty.dflt (.int .i64)))]] ++ List.replicate 37 .undef, [.box [.sc (.int .i64) x.lab.1, .sc .str x.lab.2.1, .sc (.int .i64) x.lab.2.2.1, .sc (.int .i64) x.lab.2.2.2.1, .sc (.int .i64) x.lab.2.2.2.2.1, .sc (.float .f64) x.lab.2.2.2.2.2.1, .sc .str x.lab.2.2.2.2.2.2, .sc (.sl tExpr) x.kids], .dead, .arr 3 (.int .i64) r1, .arr 3 (.int .i64) y5.2.2, .arr 3 (.int .i64) ([r1.getD y2.2.toNat (Ty.dflt (.int .i64))])])
def f20.h2 (x : dExpr) (r1 : List Int) (y2 : (List Int) × Int) (y3 : Int) (y4 : Nat × Int × (List Int)) : List AV × List Ob := ([.undef, .undef, .undef, .val false [.sc (.sl (.int .i64)) y2.1], .val false [.own 2 r1.length], .val false [.sc (.int .i64) y2.2], .val false [.sc (.int .i64) y3], .val false [.own 3 y4.1], .val false [.sc (.int .i64) y4.2.1], .undef, .undef, .undef, .undef, .undef, .undef, .undef, .undef, .undef, .undef, .undef, .undef, .undef, .undef, .undef, .val false [.sc (.sl (.int .i64)) y2.1], .val false [.sc (.int .i64) y3], .val false [.elr (.int .i64) (y2.1.getD y3.toNat (Ty.dflt (.int .i64))) 0], .val false [.sc (.int .i64) (y2.1.getD y3.toNat (Ty.dflt (.int .i64)))], .val false [.own 2 r1.length], .val false [.sc (.int .i64) y2.2], .val false [.elo 2 y2.2.toNat 0], .val false [.sc (.int .i64) (r1.getD y2.2.toNat (Ty.dflt (.int .i64)))], .val false [.sc .bool (decide (y2.1.getD y3.toNat (Ty.dflt (.int .i64)) < r1.getD y2.2.toNat (Ty.dflt (.int .i64))))], .undef, .undef, .undef, .undef, .undef, .undef, .undef, .undef, .val false [.sc (.sl (.int .i64)) y2.1], .val false [.sc (.int .i64) y3], .val false [.elr (.int .i64) (y2.1.getD y3.toNat (Ty.dflt (.int .i64))) 0], .val false [.sc (.int .i64) (y2.1.getD y3.toNat (Ty.dflt (.int .i64)))], .val false [.own 2 r1.length], .val false [.sc (.int .i64) y2.2], .val false [.elo 2 y2.2.toNat 0], .val false [.sc (.int .i64) (r1.getD y2.2.toNat (Ty.dflt (.int .i64)))], .val false [.sc .bool (y2.1.getD y3.toNat (Ty.dflt (.int .i64)) == r1.getD y2.2.toNat (Ty.dflt (.int .i64)))]] ++ List.replicate 37 .undef, [.box [.sc (.int .i64) x.lab.1, .sc .str x.lab.2.1, .sc (.int .i64) x.lab.2.2.1, .sc (.int .i64) x.lab.2.2.2.1, .sc (.int .i64) x.lab.2.2.2.2.1, .sc (.float .f64) x.lab.2.2.2.2.2.1, .sc .str x.lab.2.2.2.2.2.2, .sc (.sl tExpr) x.kids], .dead, .arr 3 (.int .i64) r1, .arr 3 (.int .i64) y4.2.2])
def f20.h3 (x : dExpr) (r1 : List Int) (y2 : (List Int) × Int) (y3 : Int) (y6 : Nat × Int × (List Int)) (y7 : Nat × Int × (List Int)) : List AV × List Ob := ([.undef, .undef, .undef, .val false [.sc (.sl (.int .i64)) y2.1], .val false [.own 2 r1.length], .val false [.sc (.int .i64) y2.2], .undef, .val false [.own 3 y7.1], .undef, .val false [.sc (.int .i64) y7.2.1], .undef, .undef, .undef, .undef, .undef, .undef, .undef, .undef, .undef, .undef, .undef, .undef, .undef, .undef, .val false [.sc (.sl (.int .i64)) y2.1], .val false [.sc (.int .i64) y3], .val false [.elr (.int .i64) (y2.1.getD y3.toNat (Ty.dflt (.int .i64))) 0], .val false [.sc (.int .i64) (y2.1.getD y3.toNat (Ty.dflt (.int .i64)))], .val false [.own 2 r1.length], .val false [.sc (.int .i64) y2.2], .val false [.elo 2 y2.2.toNat 0], .val false [.sc (.int .i64) (r1.getD y2.2.toNat (Ty.dflt (.int .i64)))], .val false [.sc .bool (decide (y2.1.getD y3.toNat (Ty.dflt (.int .i64)) < r1.getD y2.2.toNat (Ty.dflt (.int .i64))))], .undef, .undef, .undef, .undef, .undef, .undef, .undef, .undef, .undef, .undef, .skip, .skip, .skip, .skip, .skip, .skip, .skip] ++ List.replicate 37 .undef, [.box [.sc (.int .i64) x.lab.1, .sc .str x.lab.2.1, .sc (.int .i64) x.lab.2.2.1, .sc (.int .i64) x.lab.2.2.2.1, .sc (.int .i64) x.lab.2.2.2.2.1, .sc (.float .f64) x.lab.2.2.2.2.2.1, .sc .str x.lab.2.2.2.2.2.2, .sc (.sl tExpr) x.kids], .dead, .arr 3 (.int .i64) r1, .arr 3 (.int .i64) y7.2.2, .arr 3 (.int .i64) ([r1.getD y2.2.toNat (Ty.dflt (.int .i64))])])
def f20.h4 (x : dExpr) (r1 : List Int) (y2 : (List Int) × Int) (y3 : Int) (y6 : Nat × Int × (List Int)) : List AV × List Ob := ([.undef, .undef, .undef, .val false [.sc (.sl (.int .i64)) y2.1], .val false [.own 2 r1.length], .val false [.sc (.int .i64) y2.2], .val false [.sc (.int .i64) y3], .val false [.own 3 y6.1], .val false [.sc (.int .i64) y6.2.1], .undef, .undef, .undef, .undef, .undef, .undef, .undef, .undef, .undef, .undef, .undef, .undef, .undef, .undef, .undef, .val false [.sc (.sl (.int .i64)) y2.1], .val false [.sc (.int .i64) y3], .val false [.elr (.int .i64) (y2.1.getD y3.toNat (Ty.dflt (.int .i64))) 0], .val false [.sc (.int .i64) (y2.1.getD y3.toNat (Ty.dflt (.int .i64)))], .val false [.own 2 r1.length], .val false [.sc (.int .i64) y2.2], .val false [.elo 2 y2.2.toNat 0], .val false [.sc (.int .i64) (r1.getD y2.2.toNat (Ty.dflt (.int .i64)))], .val false [.sc .bool (decide (y2.1.getD y3.toNat (Ty.dflt (.int .i64)) < r1.getD y2.2.toNat (Ty.dflt (.int .i64))))], .undef, .undef, .undef, .undef, .undef, .undef, .undef, .undef, .undef, .undef, .skip, .skip, .skip, .skip, .skip, .skip, .skip] ++ List.replicate 37 .undef, [.box [.sc (.int .i64) x.lab.1, .sc .str x.lab.2.1, .sc (.int .i64) x.lab.2.2.1, .sc (.int .i64) x.lab.2.2.2.1, .sc (.int .i64) x.lab.2.2.2.2.1, .sc (.float .f64) x.lab.2.2.2.2.2.1, .sc .str x.lab.2.2.2.2.2.2, .sc (.sl tExpr) x.kids], .dead, .arr 3 (.int .i64) r1, .arr 3 (.int .i64) y6.2.2])
def f20.h5 (x : dExpr) (r1 : List Int) (y2 : (List Int) × Int) (y3 : Int) (y8 : Nat × Int × (List Int)) (y9 : Nat × Int × (List Int)) : List AV × List Ob := ([.undef, .undef, .undef, .val false [.sc (.sl (.int .i64)) y2.1], .val false [.own 2 r1.length], .val false [.sc (.int .i64) y2.2], .undef, .val false [.own 3 y9.1], .undef, .val false [.sc (.int .i64) y9.2.1], .undef, .undef, .undef, .undef, .undef, .undef, .undef, .undef, .undef, .undef, .undef, .undef, .undef, .undef, .undef, .undef, .skip, .skip, .skip, .skip, .skip, .skip, .skip, .undef, .undef, .undef, .undef, .undef, .undef, .undef, .undef, .val false [.sc (.sl (.int .i64)) y2.1], .val false [.sc (.int .i64) y3], .val false [.elr (.int .i64) (y2.1.getD y3.toNat (Ty.dflt (.int .i64))) 0], .val false [.sc (.int .i64) (y2.1.getD y3.toNat (Ty.dflt (.int .i64)))], .val false [.own 2 r1.length], .val false [.sc (.int .i64) y2.2], .val false [.elo 2 y2.2.toNat 0], .val false [.sc (.int .i64) (r1.getD y2.2.toNat (Ty.dflt (.int .i64)))], .val false [.sc .bool (y2.1.getD y3.toNat (Ty.dflt (.int .i64)) == r1.getD y2.2.toNat (Ty.dflt (.int .i64)))]] ++ List.replicate 37 .undef, [.box [.sc (.int .i64) x.lab.1, .sc .str x.lab.2.1, .sc (.int .i64) x.lab.2.2.1, .sc (.int .i64) x.lab.2.2.2.1, .sc (.int .i64) x.lab.2.2.2.2.1, .sc (.float .f64) x.lab.2.2.2.2.2.1, .sc .str x.lab.2.2.2.2.2.2, .sc (.sl tExpr) x.kids], .dead, .arr 3 (.int .i64) r1, .arr 3 (.int .i64) y9.2.2, .arr 3 (.int .i64) ([r1.getD y2.2.toNat (Ty.dflt (.int .i64))])])
def f20.h6 (x : dExpr) (r1 : List Int) (y2 : (List Int) × Int) (y3 : Int) (y8 : Nat × Int × (List Int)) : List AV × List Ob := ([.undef, .undef, .undef, .val false [.sc (.sl (.int .i64)) y2.1], .val false [.own 2 r1.length], .val false [.sc (.int .i64) y2.2], .val false [.sc (.int .i64) y3], .val false [.own 3 y8.1], .val false [.sc (.int .i64) y8.2.1], .undef, .undef, .undef, .undef, .undef, .undef, .undef, .undef, .undef, .undef, .undef, .undef, .undef, .undef, .undef, .undef, .undef, .skip, .skip, .skip, .skip, .skip, .skip, .skip, .undef, .undef, .undef, .undef, .undef, .undef, .undef, .undef, .val false [.sc (.sl (.int .i64)) y2.1], .val false [.sc (.int .i64) y3], .val false [.elr (.int .i64) (y2.1.getD y3.toNat (Ty.dflt (.int .i64))) 0], .val false [.sc (.int .i64) (y2.1.getD y3.toNat (Ty.dflt (.int .i64)))], .val false [.own 2 r1.length], .val false [.sc (.int .i64) y2.2], .val false [.elo 2 y2.2.toNat 0], .val false [.sc (.int .i64) (r1.getD y2.2.toNat (Ty.dflt (.int .i64)))], .val false [.sc .bool (y2.1.getD y3.toNat (Ty.dflt (.int .i64)) == r1.getD y2.2.toNat (Ty.dflt (.int .i64)))]] ++ List.replicate 37 .undef, [.box [.sc (.int .i64) x.lab.1, .sc .str x.lab.2.1, .sc (.int .i64) x.lab.2.2.1, .sc (.int .i64) x.lab.2.2.2.1, .sc (.int .i64) x.lab.2.2.2.2.1, .sc (.float .f64) x.lab.2.2.2.2.2.1, .sc .str x.lab.2.2.2.2.2.2, .sc (.sl tExpr) x.kids], .dead, .arr 3 (.int .i64) r1, .arr 3 (.int .i64) y8.2.2])
def f20.h7 (x : dExpr) (r1 : List Int) (y2 : (List Int) × Int) (y3 : Int) (y10 : Nat × Int × (List Int)) (y11 : Nat × Int × (List Int)) : List AV × List Ob := ([.undef, .undef, .undef, .val false [.sc (.sl (.int .i64)) y2.1], .val false [.own 2 r1.length], .val false [.sc (.int .i64) y2.2], .undef, .val false [.own 3 y11.1], .undef, .val false [.sc (.int .i64) y11.2.1], .undef, .undef, .undef, .undef, .undef, .undef, .undef, .undef, .undef, .undef, .undef, .undef, .undef, .undef, .undef, .undef, .skip, .skip, .skip, .skip, .skip, .skip, .skip, .undef, .undef, .undef, .undef, .undef, .undef, .undef, .undef, .undef, .undef, .skip, .skip, .skip, .skip, .skip, .skip, .skip] ++ List.replicate 37 .undef, [.box [.sc (.int .i64) x.lab.1, .sc .str x.lab.2.1, .sc (.int .i64) x.lab.2.2.1, .sc (.int .i64) x.lab.2.2.2.1, .sc (.int .i64) x.lab.2.2.2.2.1, .sc (.float .f64) x.lab.2.2.2.2.2.1, .sc .str x.lab.2.2.2.2.2.2, .sc (.sl tExpr) x.kids], .dead, .arr 3 (.int .i64) r1, .arr 3 (.int .i64) y11.2.2, .arr 3 (.int .i64) ([r1.getD y2.2.toNat (Ty.dflt (.int .i64))])])
def f20.h8 (x : dExpr) (r1 : List Int) (y2 : (List Int) × Int) (y3 : Int) (y10 : Nat × Int × (List Int)) : List AV × List Ob := ([.undef, .undef, .undef, .val false [.sc (.sl (.int .i64)) y2.1], .val false [.own 2 r1.length], .val false [.sc (.int .i64) y2.2], .val false [.sc (.int .i64) y3], .val false [.own 3 y10.1], .val false [.sc (.int .i64) y10.2.1], .undef, .undef, .undef, .undef, .undef, .undef, .undef, .undef, .undef, .undef, .undef, .undef, .undef, .undef, .undef, .undef, .undef, .skip, .skip, .skip, .skip, .skip, .skip, .skip, .undef, .undef, .undef, .undef, .undef, .undef, .undef, .undef, .undef, .undef, .skip, .skip, .skip, .skip, .skip, .skip, .skip] ++ List.replicate 37 .undef, [.box [.sc (.int .i64) x.lab.1, .sc .str x.lab.2.1, .sc (.int .i64) x.lab.2.2.1, .sc (.int .i64) x.lab.2.2.2.1, .sc (.int .i64) x.lab.2.2.2.2.1, .sc (.float .f64) x.lab.2.2.2.2.2.1, .sc .str x.lab.2.2.2.2.2.2, .sc (.sl tExpr) x.kids], .dead, .arr 3 (.int .i64) r1, .arr 3 (.int .i64) y10.2.2])
def f20.h9 (x : dExpr) (r1 : List Int) (y2 : (List Int) × Int) (y3 : Int) : List AV × List Ob := ([.undef, .undef, .undef, .val false [.sc (.sl (.int .i64)) y2.1], .val false [.own 2 r1.length], .val false [.sc (.int .i64) y2.2], .val false [.sc (.int .i64) y3]] ++ List.replicate 80 .undef, [.box [.sc (.int .i64) x.lab.1, .sc .str x.lab.2.1, .sc (.int .i64) x.lab.2.2.1, .sc (.int .i64) x.lab.2.2.2.1, .sc (.int .i64) x.lab.2.2.2.2.1, .sc (.float .f64) x.lab.2.2.2.2.2.1, .sc .str x.lab.2.2.2.2.2.2, .sc (.sl tExpr) x.kids], .dead, .arr 3 (.int .i64) r1])
def f20.h10 (x : dExpr) (r1 : List Int) (y2 : (List Int) × Int) : List AV × List Ob := ([.undef, .undef, .undef, .val false [.sc (.sl (.int .i64)) y2.1], .val false [.own 2 r1.length], .val false [.sc (.int .i64) y2.2]] ++ List.replicate 81 .undef, [.box [.sc (.int .i64) x.lab.1, .sc .str x.lab.2.1, .sc (.int .i64) x.lab.2.2.1, .sc (.int .i64) x.lab.2.2.2.1, .sc (.int .i64) x.lab.2.2.2.2.1, .sc (.float .f64) x.lab.2.2.2.2.2.1, .sc .str x.lab.2.2.2.2.2.2, .sc (.sl tExpr) x.kids], .dead, .arr 3 (.int .i64) r1])
def f20.L1 (n : Nat) (x : dExpr) (r1 : List Int) (y2 : (List Int) × Int) (y3 : Int) (y4 : Nat × Int × (List Int)) (m2 : Nat) (m5 : Nat) (y5 : Nat × Int × (List Int)) : Option ((List Int)) :=
 loopN (ann 20 17).keep 5 (fun fr H k => execK TT 0 E20 (inlD TT E20 n ann (tabC C20) 1) n (ann 20) (subC [1, 1, 1, 0, 1, 0, 0, 1, 0, 0, 1, 1, 1, 1, 1, 1, 0, 1, 0, 0] (bodyOf Tryz.f20)) fr H k) m5 (f20.h1 x r1 y2 y3 y4 y5).1 (f20.h1 x r1 y2 y3 y4 y5).2 (kont TT 0 E20 (inlD TT E20 n ann (tabC C20) 1) n (ann 20) [1, 0, 0, 1, 1, 1, 1, 1, 1, 0, 1, 0] (subC [1, 1, 1, 0, 1, 0, 0] (bodyOf Tryz.f20)) (loopK (ann 20 4).keep 3 (fun fr H k => execK TT 0 E20 (inlD TT E20 n ann (tabC C20) 1) n (ann 20) (subC [1, 1, 1, 0, 1, 0, 0] (bodyOf Tryz.f20)) fr H k) m2 (kont TT 0 E20 (inlD TT E20 n ann (tabC C20) 1) n (ann 20) [1, 1, 1, 0, 1, 0] (bodyOf Tryz.f20) (endK TT Tryz.f20 (readL [(false, .sl (.int .i64))])))))
def f20.L2 (n : Nat) (x : dExpr) (r1 : List Int) (y2 : (List Int) × Int) (y3 : Int) (m2 : Nat) (m4 : Nat) (y4 : Nat × Int × (List Int)) : Option ((List Int)) :=
 loopN (ann 20 12).keep 4 (fun fr H k => execK TT 0 E20 (inlD TT E20 n ann (tabC C20) 1) n (ann 20) (subC [1, 1, 1, 0, 1, 0, 0, 1, 0, 0, 1, 1, 1, 1, 0, 1, 0, 0] (bodyOf Tryz.f20)) fr H k) m4 (f20.h2 x r1 y2 y3 y4).1 (f20.h2 x r1 y2 y3 y4).2 (kont TT 0 E20 (inlD TT E20 n ann (tabC C20) 1) n (ann 20) [1, 0, 0, 1, 1, 1, 1, 0, 1, 0] (subC [1, 1, 1, 0, 1, 0, 0] (bodyOf Tryz.f20)) (loopK (ann 20 4).keep 3 (fun fr H k => execK TT 0 E20 (inlD TT E20 n ann (tabC C20) 1) n (ann 20) (subC [1, 1, 1, 0, 1, 0, 0] (bodyOf Tryz.f20)) fr H k) m2 (kont TT 0 E20 (inlD TT E20 n ann (tabC C20) 1) n (ann 20) [1, 1, 1, 0, 1, 0] (bodyOf Tryz.f20) (endK TT Tryz.f20 (readL [(false, .sl (.int .i64))])))))
def f20.L3 (n : Nat) (x : dExpr) (r1 : List Int) (y2 : (List Int) × Int) (y3 : Int) (y6 : Nat × Int × (List Int)) (m2 : Nat) (m7 : Nat) (y7 : Nat × Int × (List Int)) : Option ((List Int)) :=
 loopN (ann 20 17).keep 5 (fun fr H k => execK TT 0 E20 (inlD TT E20 n ann (tabC C20) 1) n (ann 20) (subC [1, 1, 1, 0, 1, 0, 0, 1, 0, 0, 1, 1, 1, 1, 1, 1, 0, 1, 0, 0] (bodyOf Tryz.f20)) fr H k) m7 (f20.h3 x r1 y2 y3 y6 y7).1 (f20.h3 x r1 y2 y3 y6 y7).2 (kont TT 0 E20 (inlD TT E20 n ann (tabC C20) 1) n (ann 20) [1, 0, 0, 1, 1, 1, 1, 1, 1, 0, 1, 0] (subC [1, 1, 1, 0, 1, 0, 0] (bodyOf Tryz.f20)) (loopK (ann 20 4).keep 3 (fun fr H k => execK TT 0 E20 (inlD TT E20 n ann (tabC C20) 1) n (ann 20) (subC [1, 1, 1, 0, 1, 0, 0] (bodyOf Tryz.f20)) fr H k) m2 (kont TT 0 E20 (inlD TT E20 n ann (tabC C20) 1) n (ann 20) [1, 1, 1, 0, 1, 0] (bodyOf Tryz.f20) (endK TT Tryz.f20 (readL [(false, .sl (.int .i64))])))))
def f20.L4 (n : Nat) (x : dExpr) (r1 : List Int) (y2 : (List Int) × Int) (y3 : Int) (m2 : Nat) (m6 : Nat) (y6 : Nat × Int × (List Int)) : Option ((List Int)) :=
 loopN (ann 20 12).keep 4 (fun fr H k => execK TT 0 E20 (inlD TT E20 n ann (tabC C20) 1) n (ann 20) (subC [1, 1, 1, 0, 1, 0, 0, 1, 0, 0, 1, 1, 1, 1, 0, 1, 0, 0] (bodyOf Tryz.f20)) fr H k) m6 (f20.h4 x r1 y2 y3 y6).1 (f20.h4 x r1 y2 y3 y6).2 (kont TT 0 E20 (inlD TT E20 n ann (tabC C20) 1) n (ann 20) [1, 0, 0, 1, 1, 1, 1, 0, 1, 0] (subC [1, 1, 1, 0, 1, 0, 0] (bodyOf Tryz.f20)) (loopK (ann 20 4).keep 3 (fun fr H k => execK TT 0 E20 (inlD TT E20 n ann (tabC C20) 1) n (ann 20) (subC [1, 1, 1, 0, 1, 0, 0] (bodyOf Tryz.f20)) fr H k) m2 (kont TT 0 E20 (inlD TT E20 n ann (tabC C20) 1) n (ann 20) [1, 1, 1, 0, 1, 0] (bodyOf Tryz.f20) (endK TT Tryz.f20 (readL [(false, .sl (.int .i64))])))))
def f20.L5 (n : Nat) (x : dExpr) (r1 : List Int) (y2 : (List Int) × Int) (y3 : Int) (y8 : Nat × Int × (List Int)) (m2 : Nat) (m9 : Nat) (y9 : Nat × Int × (List Int)) : Option ((List Int)) :=
 loopN (ann 20 17).keep 5 (fun fr H k => execK TT 0 E20 (inlD TT E20 n ann (tabC C20) 1) n (ann 20) (subC [1, 1, 1, 0, 1, 0, 0, 1, 0, 0, 1, 1, 1, 1, 1, 1, 0, 1, 0, 0] (bodyOf Tryz.f20)) fr H k) m9 (f20.h5 x r1 y2 y3 y8 y9).1 (f20.h5 x r1 y2 y3 y8 y9).2 (kont TT 0 E20 (inlD TT E20 n ann (tabC C20) 1) n (ann 20) [1, 0, 0, 1, 1, 1, 1, 1, 1, 0, 1, 0] (subC [1, 1, 1, 0, 1, 0, 0] (bodyOf Tryz.f20)) (loopK (ann 20 4).keep 3 (fun fr H k => execK TT 0 E20 (inlD TT E20 n ann (tabC C20) 1) n (ann 20) (subC [1, 1, 1, 0, 1, 0, 0] (bodyOf Tryz.f20)) fr H k) m2 (kont TT 0 E20 (inlD TT E20 n ann (tabC C20) 1) n (ann 20) [1, 1, 1, 0, 1, 0] (bodyOf Tryz.f20) (endK TT Tryz.f20 (readL [(false, .sl (.int .i64))])))))
def f20.L6 (n : Nat) (x : dExpr) (r1 : List Int) (y2 : (List Int) × Int) (y3 : Int) (m2 : Nat) (m8 : Nat) (y8 : Nat × Int × (List Int)) : Option ((List Int)) :=
 loopN (ann 20 12).keep 4 (fun fr H k => execK TT 0 E20 (inlD TT E20 n ann (tabC C20) 1) n (ann 20) (subC [1, 1, 1, 0, 1, 0, 0, 1, 0, 0, 1, 1, 1, 1, 0, 1, 0, 0] (bodyOf Tryz.f20)) fr H k) m8 (f20.h6 x r1 y2 y3 y8).1 (f20.h6 x r1 y2 y3 y8).2 (kont TT 0 E20 (inlD TT E20 n ann (tabC C20) 1) n (ann 20) [1, 0, 0, 1, 1, 1, 1, 0, 1, 0] (subC [1, 1, 1, 0, 1, 0, 0] (bodyOf Tryz.f20)) (loopK (ann 20 4).keep 3 (fun fr H k => execK TT 0 E20 (inlD TT E20 n ann (tabC C20) 1) n (ann 20) (subC [1, 1, 1, 0, 1, 0, 0] (bodyOf Tryz.f20)) fr H k) m2 (kont TT 0 E20 (inlD TT E20 n ann (tabC C20) 1) n (ann 20) [1, 1, 1, 0, 1, 0] (bodyOf Tryz.f20) (endK TT Tryz.f20 (readL [(false, .sl (.int .i64))])))))
def f20.L7 (n : Nat) (x : dExpr) (r1 : List Int) (y2 : (List Int) × Int) (y3 : Int) (y10 : Nat × Int × (List Int)) (m2 : Nat) (m11 : Nat) (y11 : Nat × Int × (List Int)) : Option ((List Int)) :=
 loopN (ann 20 17).keep 5 (fun fr H k => execK TT 0 E20 (inlD TT E20 n ann (tabC C20) 1) n (ann 20) (subC [1, 1, 1, 0, 1, 0, 0, 1, 0, 0, 1, 1, 1, 1, 1, 1, 0, 1, 0, 0] (bodyOf Tryz.f20)) fr H k) m11 (f20.h7 x r1 y2 y3 y10 y11).1 (f20.h7 x r1 y2 y3 y10 y11).2 (kont TT 0 E20 (inlD TT E20 n ann (tabC C20) 1) n (ann 20) [1, 0, 0, 1, 1, 1, 1, 1, 1, 0, 1, 0] (subC [1, 1, 1, 0, 1, 0, 0] (bodyOf Tryz.f20)) (loopK (ann 20 4).keep 3 (fun fr H k => execK TT 0 E20 (inlD TT E20 n ann (tabC C20) 1) n (ann 20) (subC [1, 1, 1, 0, 1, 0, 0] (bodyOf Tryz.f20)) fr H k) m2 (kont TT 0 E20 (inlD TT E20 n ann (tabC C20) 1) n (ann 20) [1, 1, 1, 0, 1, 0] (bodyOf Tryz.f20) (endK TT Tryz.f20 (readL [(false, .sl (.int .i64))])))))
def f20.L8 (n : Nat) (x : dExpr) (r1 : List Int) (y2 : (List Int) × Int) (y3 : Int) (m2 : Nat) (m10 : Nat) (y10 : Nat × Int × (List Int)) : Option ((List Int)) :=
 loopN (ann 20 12).keep 4 (fun fr H k => execK TT 0 E20 (inlD TT E20 n ann (tabC C20) 1) n (ann 20) (subC [1, 1, 1, 0, 1, 0, 0, 1, 0, 0, 1, 1, 1, 1, 0, 1, 0, 0] (bodyOf Tryz.f20)) fr H k) m10 (f20.h8 x r1 y2 y3 y10).1 (f20.h8 x r1 y2 y3 y10).2 (kont TT 0 E20 (inlD TT E20 n ann (tabC C20) 1) n (ann 20) [1, 0, 0, 1, 1, 1, 1, 0, 1, 0] (subC [1, 1, 1, 0, 1, 0, 0] (bodyOf Tryz.f20)) (loopK (ann 20 4).keep 3 (fun fr H k => execK TT 0 E20 (inlD TT E20 n ann (tabC C20) 1) n (ann 20) (subC [1, 1, 1, 0, 1, 0, 0] (bodyOf Tryz.f20)) fr H k) m2 (kont TT 0 E20 (inlD TT E20 n ann (tabC C20) 1) n (ann 20) [1, 1, 1, 0, 1, 0] (bodyOf Tryz.f20) (endK TT Tryz.f20 (readL [(false, .sl (.int .i64))])))))
def f20.L9 (n : Nat) (x : dExpr) (r1 : List Int) (y2 : (List Int) × Int) (m2 : Nat) (m3 : Nat) (y3 : Int) : Option ((List Int)) :=
 loopN (ann 20 7).keep 3 (fun fr H k => execK TT 0 E20 (inlD TT E20 n ann (tabC C20) 1) n (ann 20) (subC [1, 1, 1, 0, 1, 0, 0, 1, 0, 0, 1, 0, 0, 0] (bodyOf Tryz.f20)) fr H k) m3 (f20.h9 x r1 y2 y3).1 (f20.h9 x r1 y2 y3).2 (kont TT 0 E20 (inlD TT E20 n ann (tabC C20) 1) n (ann 20) [1, 0, 0, 1, 0, 0] (subC [1, 1, 1, 0, 1, 0, 0] (bodyOf Tryz.f20)) (loopK (ann 20 4).keep 3 (fun fr H k => execK TT 0 E20 (inlD TT E20 n ann (tabC C20) 1) n (ann 20) (subC [1, 1, 1, 0, 1, 0, 0] (bodyOf Tryz.f20)) fr H k) m2 (kont TT 0 E20 (inlD TT E20 n ann (tabC C20) 1) n (ann 20) [1, 1, 1, 0, 1, 0] (bodyOf Tryz.f20) (endK TT Tryz.f20 (readL [(false, .sl (.int .i64))])))))
def f20.L10 (n : Nat) (x : dExpr) (r1 : List Int) (m2 : Nat) (y2 : (List Int) × Int) : Option ((List Int)) :=
 loopN (ann 20 4).keep 3 (fun fr H k => execK TT 0 E20 (inlD TT E20 n ann (tabC C20) 1) n (ann 20) (subC [1, 1, 1, 0, 1, 0, 0] (bodyOf Tryz.f20)) fr H k) m2 (f20.h10 x r1 y2).1 (f20.h10 x r1 y2).2 (kont TT 0 E20 (inlD TT E20 n ann (tabC C20) 1) n (ann 20) [1, 1, 1, 0, 1, 0] (bodyOf Tryz.f20) (endK TT Tryz.f20 (readL [(false, .sl (.int .i64))])))
def f20.s1 (n : Nat) (x : dExpr) (r1 : List Int) (y2 : (List Int) × Int) (y3 : Int) (y4 : Nat × Int × (List Int)) (S2 : ((List Int) × Int) → Option ((List Int))) (S5 : (Nat × Int × (List Int)) → Option ((List Int))) (y5 : Nat × Int × (List Int)) : Option ((List Int)) :=
 bif decide (y5.2.1 < (y2.1.length : Int)) then
 (bif decide (0 ≤ y5.2.1) && decide (y5.2.1 < (y2.1.length : Int)) then
 (bif decide ((y5.1 + 1) * 8 ≤ boundN) then
 (S5 (y5.1 + 1, (IntKind.wrap .i64 (y5.2.1 + (1 : Int)), List.take y5.1 y5.2.2 ++ ([y2.1.getD y5.2.1.toNat (Ty.dflt (.int .i64))]))))
 else
 (none))
 else
 (none))
 else
 (S2 (List.take y5.1 y5.2.2, IntKind.wrap .i64 (y2.2 + (1 : Int))))
def f20.r1 (n : Nat) (x : dExpr) (r1 : List Int) (y2 : (List Int) × Int) (y3 : Int) (y4 : Nat × Int × (List Int)) (m2 : Nat) (m5 : Nat) (S2 : ((List Int) × Int) → Option ((List Int))) (S5 : (Nat × Int × (List Int)) → Option ((List Int))) (y5 : Nat × Int × (List Int)) : Option ((List Int)) :=
 bif decide (y5.2.1 < (y2.1.length : Int)) then
 (bif decide (0 ≤ y5.2.1) && decide (y5.2.1 < (y2.1.length : Int)) then
 (bif decide ((y5.1 + 1) * 8 ≤ boundN) then
 (S5 (y5.1 + 1, (IntKind.wrap .i64 (y5.2.1 + (1 : Int)), List.take y5.1 y5.2.2 ++ ([y2.1.getD y5.2.1.toNat (Ty.dflt (.int .i64))]))))
 else
 (none))
 else
 (none))
 else
 (S2 (List.take y5.1 y5.2.2, IntKind.wrap .i64 (y2.2 + (1 : Int))))
theorem f20.k1 (n : Nat) (x : dExpr) (r1 : List Int) (y2 : (List Int) × Int) (y3 : Int) (y4 : Nat × Int × (List Int)) (m2 : Nat) (m : Nat) (y : Nat × Int × (List Int)) : f20.L1 n x r1 y2 y3 y4 m2 (m + 1) y = f20.s1 n x r1 y2 y3 y4 (f20.L10 n x r1 m2) (f20.L1 n x r1 y2 y3 y4 m2 m) y := by
 have h : f20.L1 n x r1 y2 y3 y4 m2 (m + 1) y = f20.r1 n x r1 y2 y3 y4 m2 m (f20.L10 n x r1 m2) (f20.L1 n x r1 y2 y3 y4 m2 m) y := by kernel_rfl
 rw [h]
 simp only [f20.r1, f20.s1]
theorem f20.l1 (n : Nat) (x : dExpr) (r1 : List Int) (y2 : (List Int) × Int) (y3 : Int) (y4 : Nat × Int × (List Int)) (m2 : Nat) : ∀ (m : Nat) (y5 : Nat × Int × (List Int)), f20.L1 n x r1 y2 y3 y4 m2 m y5 = iter (f20.s1 n x r1 y2 y3 y4 (f20.L10 n x r1 m2)) m y5 :=
 loop_of (L := f20.L1 n x r1 y2 y3 y4 m2) (step := f20.s1 n x r1 y2 y3 y4 (f20.L10 n x r1 m2)) (fun _ => rfl) (f20.k1 n x r1 y2 y3 y4 m2)
def f20.s2 (n : Nat) (x : dExpr) (r1 : List Int) (y2 : (List Int) × Int) (y3 : Int) (S2 : ((List Int) × Int) → Option ((List Int))) (S4 : (Nat × Int × (List Int)) → Option ((List Int))) (y4 : Nat × Int × (List Int)) : Option ((List Int)) :=
 bif decide (y4.2.1 < y3) then
 (bif decide (0 ≤ y4.2.1) && decide (y4.2.1 < (y2.1.length : Int)) then
 (bif decide ((y4.1 + 1) * 8 ≤ boundN) then
 (S4 (y4.1 + 1, (IntKind.wrap .i64 (y4.2.1 + (1 : Int)), List.take y4.1 y4.2.2 ++ ([y2.1.getD y4.2.1.toNat (Ty.dflt (.int .i64))]))))
 else
 (none))
 else
 (none))
 else
 (bif decide (0 ≤ y2.2) && decide (y2.2 < ((r1.length : Nat) : Int)) then
 (bif decide ((y4.1 + 1) * 8 ≤ boundN) then
 (iter (f20.s1 n x r1 y2 y3 y4 S2) n (y4.1 + 1, (y3, List.take y4.1 y4.2.2 ++ ([r1.getD y2.2.toNat (Ty.dflt (.int .i64))]))))
 else
 (none))
 else
 (none))
def f20.r2 (n : Nat) (x : dExpr) (r1 : List Int) (y2 : (List Int) × Int) (y3 : Int) (m2 : Nat) (m4 : Nat) (S2 : ((List Int) × Int) → Option ((List Int))) (S4 : (Nat × Int × (List Int)) → Option ((List Int))) (y4 : Nat × Int × (List Int)) : Option ((List Int)) :=
 bif decide (y4.2.1 < y3) then
 (bif decide (0 ≤ y4.2.1) && decide (y4.2.1 < (y2.1.length : Int)) then
 (bif decide ((y4.1 + 1) * 8 ≤ boundN) then
 (S4 (y4.1 + 1, (IntKind.wrap .i64 (y4.2.1 + (1 : Int)), List.take y4.1 y4.2.2 ++ ([y2.1.getD y4.2.1.toNat (Ty.dflt (.int .i64))]))))
 else
 (none))
 else
 (none))
 else
 (bif decide (0 ≤ y2.2) && decide (y2.2 < ((r1.length : Nat) : Int)) then
 (bif decide ((y4.1 + 1) * 8 ≤ boundN) then
 (f20.L1 n x r1 y2 y3 y4 m2 n (y4.1 + 1, (y3, List.take y4.1 y4.2.2 ++ ([r1.getD y2.2.toNat (Ty.dflt (.int .i64))]))))
 else
 (none))
 else
 (none))
theorem f20.k2 (n : Nat) (x : dExpr) (r1 : List Int) (y2 : (List Int) × Int) (y3 : Int) (m2 : Nat) (m : Nat) (y : Nat × Int × (List Int)) : f20.L2 n x r1 y2 y3 m2 (m + 1) y = f20.s2 n x r1 y2 y3 (f20.L10 n x r1 m2) (f20.L2 n x r1 y2 y3 m2 m) y := by
 have h : f20.L2 n x r1 y2 y3 m2 (m + 1) y = f20.r2 n x r1 y2 y3 m2 m (f20.L10 n x r1 m2) (f20.L2 n x r1 y2 y3 m2 m) y := by kernel_rfl
 rw [h]
 simp only [f20.r2, f20.s2, f20.l1]
theorem f20.l2 (n : Nat) (x : dExpr) (r1 : List Int) (y2 : (List Int) × Int) (y3 : Int) (m2 : Nat) : ∀ (m : Nat) (y4 : Nat × Int × (List Int)), f20.L2 n x r1 y2 y3 m2 m y4 = iter (f20.s2 n x r1 y2 y3 (f20.L10 n x r1 m2)) m y4 :=
 loop_of (L := f20.L2 n x r1 y2 y3 m2) (step := f20.s2 n x r1 y2 y3 (f20.L10 n x r1 m2)) (fun _ => rfl) (f20.k2 n x r1 y2 y3 m2)
def f20.s3 (n : Nat) (x : dExpr) (r1 : List Int) (y2 : (List Int) × Int) (y3 : Int) (y6 : Nat × Int × (List Int)) (S2 : ((List Int) × Int) → Option ((List Int))) (S7 : (Nat × Int × (List Int)) → Option ((List Int))) (y7 : Nat × Int × (List Int)) : Option ((List Int)) :=
 bif decide (y7.2.1 < (y2.1.length : Int)) then
 (bif decide (0 ≤ y7.2.1) && decide (y7.2.1 < (y2.1.length : Int)) then
 (bif decide ((y7.1 + 1) * 8 ≤ boundN) then
 (S7 (y7.1 + 1, (IntKind.wrap .i64 (y7.2.1 + (1 : Int)), List.take y7.1 y7.2.2 ++ ([y2.1.getD y7.2.1.toNat (Ty.dflt (.int .i64))]))))
 else
 (none))
 else
 (none))
 else
 (S2 (List.take y7.1 y7.2.2, IntKind.wrap .i64 (y2.2 + (1 : Int))))
def f20.r3 (n : Nat) (x : dExpr) (r1 : List Int) (y2 : (List Int) × Int) (y3 : Int) (y6 : Nat × Int × (List Int)) (m2 : Nat) (m7 : Nat) (S2 : ((List Int) × Int) → Option ((List Int))) (S7 : (Nat × Int × (List Int)) → Option ((List Int))) (y7 : Nat × Int × (List Int)) : Option ((List Int)) :=
 bif decide (y7.2.1 < (y2.1.length : Int)) then
 (bif decide (0 ≤ y7.2.1) && decide (y7.2.1 < (y2.1.length : Int)) then
 (bif decide ((y7.1 + 1) * 8 ≤ boundN) then
 (S7 (y7.1 + 1, (IntKind.wrap .i64 (y7.2.1 + (1 : Int)), List.take y7.1 y7.2.2 ++ ([y2.1.getD y7.2.1.toNat (Ty.dflt (.int .i64))]))))
 else
 (none))
 else
 (none))
 else
 (S2 (List.take y7.1 y7.2.2, IntKind.wrap .i64 (y2.2 + (1 : Int))))
theorem f20.k3 (n : Nat) (x : dExpr) (r1 : List Int) (y2 : (List Int) × Int) (y3 : Int) (y6 : Nat × Int × (List Int)) (m2 : Nat) (m : Nat) (y : Nat × Int × (List Int)) : f20.L3 n x r1 y2 y3 y6 m2 (m + 1) y = f20.s3 n x r1 y2 y3 y6 (f20.L10 n x r1 m2) (f20.L3 n x r1 y2 y3 y6 m2 m) y := by
 have h : f20.L3 n x r1 y2 y3 y6 m2 (m + 1) y = f20.r3 n x r1 y2 y3 y6 m2 m (f20.L10 n x r1 m2) (f20.L3 n x r1 y2 y3 y6 m2 m) y := by kernel_rfl
 rw [h]
 simp only [f20.r3, f20.s3, f20.l1, f20.l2]
theorem f20.l3 (n : Nat) (x : dExpr) (r1 : List Int) (y2 : (List Int) × Int) (y3 : Int) (y6 : Nat × Int × (List Int)) (m2 : Nat) : ∀ (m : Nat) (y7 : Nat × Int × (List Int)), f20.L3 n x r1 y2 y3 y6 m2 m y7 = iter (f20.s3 n x r1 y2 y3 y6 (f20.L10 n x r1 m2)) m y7 :=
 loop_of (L := f20.L3 n x r1 y2 y3 y6 m2) (step := f20.s3 n x r1 y2 y3 y6 (f20.L10 n x r1 m2)) (fun _ => rfl) (f20.k3 n x r1 y2 y3 y6 m2)
def f20.s4 (n : Nat) (x : dExpr) (r1 : List Int) (y2 : (List Int) × Int) (y3 : Int) (S2 : ((List Int) × Int) → Option ((List Int))) (S6 : (Nat × Int × (List Int)) → Option ((List Int))) (y6 : Nat × Int × (List Int)) : Option ((List Int)) :=
 bif decide (y6.2.1 < y3) then
 (bif decide (0 ≤ y6.2.1) && decide (y6.2.1 < (y2.1.length : Int)) then
 (bif decide ((y6.1 + 1) * 8 ≤ boundN) then
 (S6 (y6.1 + 1, (IntKind.wrap .i64 (y6.2.1 + (1 : Int)), List.take y6.1 y6.2.2 ++ ([y2.1.getD y6.2.1.toNat (Ty.dflt (.int .i64))]))))
 else
 (none))
 else
 (none))
 else
 (bif decide (0 ≤ y2.2) && decide (y2.2 < ((r1.length : Nat) : Int)) then
 (bif decide ((y6.1 + 1) * 8 ≤ boundN) then
 (iter (f20.s3 n x r1 y2 y3 y6 S2) n (y6.1 + 1, (y3, List.take y6.1 y6.2.2 ++ ([r1.getD y2.2.toNat (Ty.dflt (.int .i64))]))))
 else
 (none))
 else
 (none))
def f20.r4 (n : Nat) (x : dExpr) (r1 : List Int) (y2 : (List Int) × Int) (y3 : Int) (m2 : Nat) (m6 : Nat) (S2 : ((List Int) × Int) → Option ((List Int))) (S6 : (Nat × Int × (List Int)) → Option ((List Int))) (y6 : Nat × Int × (List Int)) : Option ((List Int)) :=
 bif decide (y6.2.1 < y3) then
 (bif decide (0 ≤ y6.2.1) && decide (y6.2.1 < (y2.1.length : Int)) then
 (bif decide ((y6.1 + 1) * 8 ≤ boundN) then
 (S6 (y6.1 + 1, (IntKind.wrap .i64 (y6.2.1 + (1 : Int)), List.take y6.1 y6.2.2 ++ ([y2.1.getD y6.2.1.toNat (Ty.dflt (.int .i64))]))))
 else
 (none))
 else
 (none))
 else
 (bif decide (0 ≤ y2.2) && decide (y2.2 < ((r1.length : Nat) : Int)) then
 (bif decide ((y6.1 + 1) * 8 ≤ boundN) then
 (f20.L3 n x r1 y2 y3 y6 m2 n (y6.1 + 1, (y3, List.take y6.1 y6.2.2 ++ ([r1.getD y2.2.toNat (Ty.dflt (.int .i64))]))))
 else
 (none))
 else
 (none))
theorem f20.k4 (n : Nat) (x : dExpr) (r1 : List Int) (y2 : (List Int) × Int) (y3 : Int) (m2 : Nat) (m : Nat) (y : Nat × Int × (List Int)) : f20.L4 n x r1 y2 y3 m2 (m + 1) y = f20.s4 n x r1 y2 y3 (f20.L10 n x r1 m2) (f20.L4 n x r1 y2 y3 m2 m) y := by
 have h : f20.L4 n x r1 y2 y3 m2 (m + 1) y = f20.r4 n x r1 y2 y3 m2 m (f20.L10 n x r1 m2) (f20.L4 n x r1 y2 y3 m2 m) y := by kernel_rfl
 rw [h]
 simp only [f20.r4, f20.s4, f20.l1, f20.l2, f20.l3]
theorem f20.l4 (n : Nat) (x : dExpr) (r1 : List Int) (y2 : (List Int) × Int) (y3 : Int) (m2 : Nat) : ∀ (m : Nat) (y6 : Nat × Int × (List Int)), f20.L4 n x r1 y2 y3 m2 m y6 = iter (f20.s4 n x r1 y2 y3 (f20.L10 n x r1 m2)) m y6 :=
 loop_of (L := f20.L4 n x r1 y2 y3 m2) (step := f20.s4 n x r1 y2 y3 (f20.L10 n x r1 m2)) (fun _ => rfl) (f20.k4 n x r1 y2 y3 m2)
def f20.s5 (n : Nat) (x : dExpr) (r1 : List Int) (y2 : (List Int) × Int) (y3 : Int) (y8 : Nat × Int × (List Int)) (S2 : ((List Int) × Int) → Option ((List Int))) (S9 : (Nat × Int × (List Int)) → Option ((List Int))) (y9 : Nat × Int × (List Int)) : Option ((List Int)) :=
 bif decide (y9.2.1 < (y2.1.length : Int)) then
 (bif decide (0 ≤ y9.2.1) && decide (y9.2.1 < (y2.1.length : Int)) then
 (bif decide ((y9.1 + 1) * 8 ≤ boundN) then
 (S9 (y9.1 + 1, (IntKind.wrap .i64 (y9.2.1 + (1 : Int)), List.take y9.1 y9.2.2 ++ ([y2.1.getD y9.2.1.toNat (Ty.dflt (.int .i64))]))))
 else
 (none))
 else
 (none))
 else
 (S2 (List.take y9.1 y9.2.2, IntKind.wrap .i64 (y2.2 + (1 : Int))))
def f20.r5 (n : Nat) (x : dExpr) (r1 : List Int) (y2 : (List Int) × Int) (y3 : Int) (y8 : Nat × Int × (List Int)) (m2 : Nat) (m9 : Nat) (S2 : ((List Int) × Int) → Option ((List Int))) (S9 : (Nat × Int × (List Int)) → Option ((List Int))) (y9 : Nat × Int × (List Int)) : Option ((List Int)) :=
 bif decide (y9.2.1 < (y2.1.length : Int)) then
 (bif decide (0 ≤ y9.2.1) && decide (y9.2.1 < (y2.1.length : Int)) then
 (bif decide ((y9.1 + 1) * 8 ≤ boundN) then
 (S9 (y9.1 + 1, (IntKind.wrap .i64 (y9.2.1 + (1 : Int)), List.take y9.1 y9.2.2 ++ ([y2.1.getD y9.2.1.toNat (Ty.dflt (.int .i64))]))))
 else
 (none))
 else
 (none))
 else
 (S2 (List.take y9.1 y9.2.2, IntKind.wrap .i64 (y2.2 + (1 : Int))))
theorem f20.k5 (n : Nat) (x : dExpr) (r1 : List Int) (y2 : (List Int) × Int) (y3 : Int) (y8 : Nat × Int × (List Int)) (m2 : Nat) (m : Nat) (y : Nat × Int × (List Int)) : f20.L5 n x r1 y2 y3 y8 m2 (m + 1) y = f20.s5 n x r1 y2 y3 y8 (f20.L10 n x r1 m2) (f20.L5 n x r1 y2 y3 y8 m2 m) y := by
 have h : f20.L5 n x r1 y2 y3 y8 m2 (m + 1) y = f20.r5 n x r1 y2 y3 y8 m2 m (f20.L10 n x r1 m2) (f20.L5 n x r1 y2 y3 y8 m2 m) y := by kernel_rfl
 rw [h]
 simp only [f20.r5, f20.s5, f20.l1, f20.l2, f20.l3, f20.l4]
theorem f20.l5 (n : Nat) (x : dExpr) (r1 : List Int) (y2 : (List Int) × Int) (y3 : Int) (y8 : Nat × Int × (List Int)) (m2 : Nat) : ∀ (m : Nat) (y9 : Nat × Int × (List Int)), f20.L5 n x r1 y2 y3 y8 m2 m y9 = iter (f20.s5 n x r1 y2 y3 y8 (f20.L10 n x r1 m2)) m y9 :=
 loop_of (L := f20.L5 n x r1 y2 y3 y8 m2) (step := f20.s5 n x r1 y2 y3 y8 (f20.L10 n x r1 m2)) (fun _ => rfl) (f20.k5 n x r1 y2 y3 y8 m2)
def f20.s6 (n : Nat) (x : dExpr) (r1 : List Int) (y2 : (List Int) × Int) (y3 : Int) (S2 : ((List Int) × Int) → Option ((List Int))) (S8 : (Nat × Int × (List Int)) → Option ((List Int))) (y8 : Nat × Int × (List Int)) : Option ((List Int)) :=
 bif decide (y8.2.1 < y3) then
 (bif decide (0 ≤ y8.2.1) && decide (y8.2.1 < (y2.1.length : Int)) then
 (bif decide ((y8.1 + 1) * 8 ≤ boundN) then
 (S8 (y8.1 + 1, (IntKind.wrap .i64 (y8.2.1 + (1 : Int)), List.take y8.1 y8.2.2 ++ ([y2.1.getD y8.2.1.toNat (Ty.dflt (.int .i64))]))))
 else
 (none))
 else
 (none))
 else
 (bif decide (0 ≤ y2.2) && decide (y2.2 < ((r1.length : Nat) : Int)) then
 (bif decide ((y8.1 + 1) * 8 ≤ boundN) then
 (iter (f20.s5 n x r1 y2 y3 y8 S2) n (y8.1 + 1, (y3, List.take y8.1 y8.2.2 ++ ([r1.getD y2.2.toNat (Ty.dflt (.int .i64))]))))
 else
 (none))
 else
 (none))
def f20.r6 (n : Nat) (x : dExpr) (r1 : List Int) (y2 : (List Int) × Int) (y3 : Int) (m2 : Nat) (m8 : Nat) (S2 : ((List Int) × Int) → Option ((List Int))) (S8 : (Nat × Int × (List Int)) → Option ((List Int))) (y8 : Nat × Int × (List Int)) : Option ((List Int)) :=
 bif decide (y8.2.1 < y3) then
 (bif decide (0 ≤ y8.2.1) && decide (y8.2.1 < (y2.1.length : Int)) then
 (bif decide ((y8.1 + 1) * 8 ≤ boundN) then
 (S8 (y8.1 + 1, (IntKind.wrap .i64 (y8.2.1 + (1 : Int)), List.take y8.1 y8.2.2 ++ ([y2.1.getD y8.2.1.toNat (Ty.dflt (.int .i64))]))))
 else
 (none))
 else
 (none))
 else
 (bif decide (0 ≤ y2.2) && decide (y2.2 < ((r1.length : Nat) : Int)) then
 (bif decide ((y8.1 + 1) * 8 ≤ boundN) then
 (f20.L5 n x r1 y2 y3 y8 m2 n (y8.1 + 1, (y3, List.take y8.1 y8.2.2 ++ ([r1.getD y2.2.toNat (Ty.dflt (.int .i64))]))))
 else
 (none))
 else
 (none))
theorem f20.k6 (n : Nat) (x : dExpr) (r1 : List Int) (y2 : (List Int) × Int) (y3 : Int) (m2 : Nat) (m : Nat) (y : Nat × Int × (List Int)) : f20.L6 n x r1 y2 y3 m2 (m + 1) y = f20.s6 n x r1 y2 y3 (f20.L10 n x r1 m2) (f20.L6 n x r1 y2 y3 m2 m) y := by
 have h : f20.L6 n x r1 y2 y3 m2 (m + 1) y = f20.r6 n x r1 y2 y3 m2 m (f20.L10 n x r1 m2) (f20.L6 n x r1 y2 y3 m2 m) y := by kernel_rfl
 rw [h]
 simp only [f20.r6, f20.s6, f20.l1, f20.l2, f20.l3, f20.l4, f20.l5]
theorem f20.l6 (n : Nat) (x : dExpr) (r1 : List Int) (y2 : (List Int) × Int) (y3 : Int) (m2 : Nat) : ∀ (m : Nat) (y8 : Nat × Int × (List Int)), f20.L6 n x r1 y2 y3 m2 m y8 = iter (f20.s6 n x r1 y2 y3 (f20.L10 n x r1 m2)) m y8 :=
 loop_of (L := f20.L6 n x r1 y2 y3 m2) (step := f20.s6 n x r1 y2 y3 (f20.L10 n x r1 m2)) (fun _ => rfl) (f20.k6 n x r1 y2 y3 m2)
def f20.s7 (n : Nat) (x : dExpr) (r1 : List Int) (y2 : (List Int) × Int) (y3 : Int) (y10 : Nat × Int × (List Int)) (S2 : ((List Int) × Int) → Option ((List Int))) (S11 : (Nat × Int × (List Int)) → Option ((List Int))) (y11 : Nat × Int × (List Int)) : Option ((List Int)) :=
 bif decide (y11.2.1 < (y2.1.length : Int)) then
 (bif decide (0 ≤ y11.2.1) && decide (y11.2.1 < (y2.1.length : Int)) then
 (bif decide ((y11.1 + 1) * 8 ≤ boundN) then
 (S11 (y11.1 + 1, (IntKind.wrap .i64 (y11.2.1 + (1 : Int)), List.take y11.1 y11.2.2 ++ ([y2.1.getD y11.2.1.toNat (Ty.dflt (.int .i64))]))))
 else
 (none))
 else
 (none))
 else
 (S2 (List.take y11.1 y11.2.2, IntKind.wrap .i64 (y2.2 + (1 : Int))))
def f20.r7 (n : Nat) (x : dExpr) (r1 : List Int) (y2 : (List Int) × Int) (y3 : Int) (y10 : Nat × Int × (List Int)) (m2 : Nat) (m11 : Nat) (S2 : ((List Int) × Int) → Option ((List Int))) (S11 : (Nat × Int × (List Int)) → Option ((List Int))) (y11 : Nat × Int × (List Int)) : Option ((List Int)) :=
 bif decide (y11.2.1 < (y2.1.length : Int)) then
 (bif decide (0 ≤ y11.2.1) && decide (y11.2.1 < (y2.1.length : Int)) then
 (bif decide ((y11.1 + 1) * 8 ≤ boundN) then
 (S11 (y11.1 + 1, (IntKind.wrap .i64 (y11.2.1 + (1 : Int)), List.take y11.1 y11.2.2 ++ ([y2.1.getD y11.2.1.toNat (Ty.dflt (.int .i64))]))))
 else
 (none))
 else
 (none))
 else
 (S2 (List.take y11.1 y11.2.2, IntKind.wrap .i64 (y2.2 + (1 : Int))))
theorem f20.k7 (n : Nat) (x : dExpr) (r1 : List Int) (y2 : (List Int) × Int) (y3 : Int) (y10 : Nat × Int × (List Int)) (m2 : Nat) (m : Nat) (y : Nat × Int × (List Int)) : f20.L7 n x r1 y2 y3 y10 m2 (m + 1) y = f20.s7 n x r1 y2 y3 y10 (f20.L10 n x r1 m2) (f20.L7 n x r1 y2 y3 y10 m2 m) y := by
 have h : f20.L7 n x r1 y2 y3 y10 m2 (m + 1) y = f20.r7 n x r1 y2 y3 y10 m2 m (f20.L10 n x r1 m2) (f20.L7 n x r1 y2 y3 y10 m2 m) y := by kernel_rfl
 rw [h]
 simp only [f20.r7, f20.s7, f20.l1, f20.l2, f20.l3, f20.l4, f20.l5, f20.l6]
theorem f20.l7 (n : Nat) (x : dExpr) (r1 : List Int) (y2 : (List Int) × Int) (y3 : Int) (y10 : Nat × Int × (List Int)) (m2 : Nat) : ∀ (m : Nat) (y11 : Nat × Int × (List Int)), f20.L7 n x r1 y2 y3 y10 m2 m y11 = iter (f20.s7 n x r1 y2 y3 y10 (f20.L10 n x r1 m2)) m y11 :=
 loop_of (L := f20.L7 n x r1 y2 y3 y10 m2) (step := f20.s7 n x r1 y2 y3 y10 (f20.L10 n x r1 m2)) (fun _ => rfl) (f20.k7 n x r1 y2 y3 y10 m2)
def f20.s8 (n : Nat) (x : dExpr) (r1 : List Int) (y2 : (List Int) × Int) (y3 : Int) (S2 : ((List Int) × Int) → Option ((List Int))) (S10 : (Nat × Int × (List Int)) → Option ((List Int))) (y10 : Nat × Int × (List Int)) : Option ((List Int)) :=
 bif decide (y10.2.1 < y3) then
 (bif decide (0 ≤ y10.2.1) && decide (y10.2.1 < (y2.1.length : Int)) then
 (bif decide ((y10.1 + 1) * 8 ≤ boundN) then
 (S10 (y10.1 + 1, (IntKind.wrap .i64 (y10.2.1 + (1 : Int)), List.take y10.1 y10.2.2 ++ ([y2.1.getD y10.2.1.toNat (Ty.dflt (.int .i64))]))))
 else
 (none))
 else
 (none))
 else
 (bif decide (0 ≤ y2.2) && decide (y2.2 < ((r1.length : Nat) : Int)) then
 (bif decide ((y10.1 + 1) * 8 ≤ boundN) then
 (iter (f20.s7 n x r1 y2 y3 y10 S2) n (y10.1 + 1, (y3, List.take y10.1 y10.2.2 ++ ([r1.getD y2.2.toNat (Ty.dflt (.int .i64))]))))
 else
 (none))
 else
 (none))
def f20.r8 (n : Nat) (x : dExpr) (r1 : List Int) (y2 : (List Int) × Int) (y3 : Int) (m2 : Nat) (m10 : Nat) (S2 : ((List Int) × Int) → Option ((List Int))) (S10 : (Nat × Int × (List Int)) → Option ((List Int))) (y10 : Nat × Int × (List Int)) : Option ((List Int)) :=
 bif decide (y10.2.1 < y3) then
 (bif decide (0 ≤ y10.2.1) && decide (y10.2.1 < (y2.1.length : Int)) then
 (bif decide ((y10.1 + 1) * 8 ≤ boundN) then
 (S10 (y10.1 + 1, (IntKind.wrap .i64 (y10.2.1 + (1 : Int)), List.take y10.1 y10.2.2 ++ ([y2.1.getD y10.2.1.toNat (Ty.dflt (.int .i64))]))))
 else
 (none))
 else
 (none))
 else
 (bif decide (0 ≤ y2.2) && decide (y2.2 < ((r1.length : Nat) : Int)) then
 (bif decide ((y10.1 + 1) * 8 ≤ boundN) then
 (f20.L7 n x r1 y2 y3 y10 m2 n (y10.1 + 1, (y3, List.take y10.1 y10.2.2 ++ ([r1.getD y2.2.toNat (Ty.dflt (.int .i64))]))))
 else
 (none))
 else
 (none))
theorem f20.k8 (n : Nat) (x : dExpr) (r1 : List Int) (y2 : (List Int) × Int) (y3 : Int) (m2 : Nat) (m : Nat) (y : Nat × Int × (List Int)) : f20.L8 n x r1 y2 y3 m2 (m + 1) y = f20.s8 n x r1 y2 y3 (f20.L10 n x r1 m2) (f20.L8 n x r1 y2 y3 m2 m) y := by
 have h : f20.L8 n x r1 y2 y3 m2 (m + 1) y = f20.r8 n x r1 y2 y3 m2 m (f20.L10 n x r1 m2) (f20.L8 n x r1 y2 y3 m2 m) y := by kernel_rfl
 rw [h]
 simp only [f20.r8, f20.s8, f20.l1, f20.l2, f20.l3, f20.l4, f20.l5, f20.l6, f20.l7]
theorem f20.l8 (n : Nat) (x : dExpr) (r1 : List Int) (y2 : (List Int) × Int) (y3 : Int) (m2 : Nat) : ∀ (m : Nat) (y10 : Nat × Int × (List Int)), f20.L8 n x r1 y2 y3 m2 m y10 = iter (f20.s8 n x r1 y2 y3 (f20.L10 n x r1 m2)) m y10 :=
 loop_of (L := f20.L8 n x r1 y2 y3 m2) (step := f20.s8 n x r1 y2 y3 (f20.L10 n x r1 m2)) (fun _ => rfl) (f20.k8 n x r1 y2 y3 m2)
def f20.s9 (n : Nat) (x : dExpr) (r1 : List Int) (y2 : (List Int) × Int) (S2 : ((List Int) × Int) → Option ((List Int))) (S3 : Int → Option ((List Int))) (y3 : Int) : Option ((List Int)) :=
 bif decide (y3 < (y2.1.length : Int)) then
 (bif decide (0 ≤ y3) && decide (y3 < (y2.1.length : Int)) then
 (bif decide (0 ≤ y2.2) && decide (y2.2 < ((r1.length : Nat) : Int)) then
 (bif decide (y2.1.getD y3.toNat (Ty.dflt (.int .i64)) < r1.getD y2.2.toNat (Ty.dflt (.int .i64))) then
 (S3 (IntKind.wrap .i64 (y3 + (1 : Int))))
 else
 (bif decide (y3 < (y2.1.length : Int)) then
 (bif decide (0 ≤ y3) && decide (y3 < (y2.1.length : Int)) then
 (bif decide (0 ≤ y2.2) && decide (y2.2 < ((r1.length : Nat) : Int)) then
 (bif y2.1.getD y3.toNat (Ty.dflt (.int .i64)) == r1.getD y2.2.toNat (Ty.dflt (.int .i64)) then
 (S2 (y2.1, IntKind.wrap .i64 (y2.2 + (1 : Int))))
 else
 (iter (f20.s2 n x r1 y2 y3 S2) n (0, ((0 : Int), []))))
 else
 (none))
 else
 (none))
 else
 (iter (f20.s4 n x r1 y2 y3 S2) n (0, ((0 : Int), [])))))
 else
 (none))
 else
 (none))
 else
 (bif decide (y3 < (y2.1.length : Int)) then
 (bif decide (0 ≤ y3) && decide (y3 < (y2.1.length : Int)) then
 (bif decide (0 ≤ y2.2) && decide (y2.2 < ((r1.length : Nat) : Int)) then
 (bif y2.1.getD y3.toNat (Ty.dflt (.int .i64)) == r1.getD y2.2.toNat (Ty.dflt (.int .i64)) then
 (S2 (y2.1, IntKind.wrap .i64 (y2.2 + (1 : Int))))
 else
 (iter (f20.s6 n x r1 y2 y3 S2) n (0, ((0 : Int), []))))
 else
 (none))
 else
 (none))
 else
 (iter (f20.s8 n x r1 y2 y3 S2) n (0, ((0 : Int), []))))
def f20.r9 (n : Nat) (x : dExpr) (r1 : List Int) (y2 : (List Int) × Int) (m2 : Nat) (m3 : Nat) (S2 : ((List Int) × Int) → Option ((List Int))) (S3 : Int → Option ((List Int))) (y3 : Int) : Option ((List Int)) :=
 bif decide (y3 < (y2.1.length : Int)) then
 (bif decide (0 ≤ y3) && decide (y3 < (y2.1.length : Int)) then
 (bif decide (0 ≤ y2.2) && decide (y2.2 < ((r1.length : Nat) : Int)) then
 (bif decide (y2.1.getD y3.toNat (Ty.dflt (.int .i64)) < r1.getD y2.2.toNat (Ty.dflt (.int .i64))) then
 (S3 (IntKind.wrap .i64 (y3 + (1 : Int))))
 else
 (bif decide (y3 < (y2.1.length : Int)) then
 (bif decide (0 ≤ y3) && decide (y3 < (y2.1.length : Int)) then
 (bif decide (0 ≤ y2.2) && decide (y2.2 < ((r1.length : Nat) : Int)) then
 (bif y2.1.getD y3.toNat (Ty.dflt (.int .i64)) == r1.getD y2.2.toNat (Ty.dflt (.int .i64)) then
 (S2 (y2.1, IntKind.wrap .i64 (y2.2 + (1 : Int))))
 else
 (f20.L2 n x r1 y2 y3 m2 n (0, ((0 : Int), []))))
 else
 (none))
 else
 (none))
 else
 (f20.L4 n x r1 y2 y3 m2 n (0, ((0 : Int), [])))))
 else
 (none))
 else
 (none))
 else
 (bif decide (y3 < (y2.1.length : Int)) then
 (bif decide (0 ≤ y3) && decide (y3 < (y2.1.length : Int)) then
 (bif decide (0 ≤ y2.2) && decide (y2.2 < ((r1.length : Nat) : Int)) then
 (bif y2.1.getD y3.toNat (Ty.dflt (.int .i64)) == r1.getD y2.2.toNat (Ty.dflt (.int .i64)) then
 (S2 (y2.1, IntKind.wrap .i64 (y2.2 + (1 : Int))))
 else
 (f20.L6 n x r1 y2 y3 m2 n (0, ((0 : Int), []))))
 else
 (none))
 else
 (none))
 else
 (f20.L8 n x r1 y2 y3 m2 n (0, ((0 : Int), []))))
theorem f20.k9 (n : Nat) (x : dExpr) (r1 : List Int) (y2 : (List Int) × Int) (m2 : Nat) (m : Nat) (y : Int) : f20.L9 n x r1 y2 m2 (m + 1) y = f20.s9 n x r1 y2 (f20.L10 n x r1 m2) (f20.L9 n x r1 y2 m2 m) y := by
 have h : f20.L9 n x r1 y2 m2 (m + 1) y = f20.r9 n x r1 y2 m2 m (f20.L10 n x r1 m2) (f20.L9 n x r1 y2 m2 m) y := by kernel_rfl
 rw [h]
 simp only [f20.r9, f20.s9, f20.l1, f20.l2, f20.l3, f20.l4, f20.l5, f20.l6, f20.l7, f20.l8]
theorem f20.l9 (n : Nat) (x : dExpr) (r1 : List Int) (y2 : (List Int) × Int) (m2 : Nat) : ∀ (m : Nat) (y3 : Int), f20.L9 n x r1 y2 m2 m y3 = iter (f20.s9 n x r1 y2 (f20.L10 n x r1 m2)) m y3 :=
 loop_of (L := f20.L9 n x r1 y2 m2) (step := f20.s9 n x r1 y2 (f20.L10 n x r1 m2)) (fun _ => rfl) (f20.k9 n x r1 y2 m2)
def f20.s10 (n : Nat) (x : dExpr) (r1 : List Int) (S2 : ((List Int) × Int) → Option ((List Int))) (y2 : (List Int) × Int) : Option ((List Int)) :=
 bif decide (y2.2 < ((r1.length : Nat) : Int)) then
 (iter (f20.s9 n x r1 y2 S2) n (0 : Int))
 else
 (some y2.1)
def f20.r10 (n : Nat) (x : dExpr) (r1 : List Int) (m2 : Nat) (S2 : ((List Int) × Int) → Option ((List Int))) (y2 : (List Int) × Int) : Option ((List Int)) :=
 bif decide (y2.2 < ((r1.length : Nat) : Int)) then
 (f20.L9 n x r1 y2 m2 n (0 : Int))
 else
 (some y2.1)
theorem f20.k10 (n : Nat) (x : dExpr) (r1 : List Int) (m : Nat) (y : (List Int) × Int) : f20.L10 n x r1 (m + 1) y = f20.s10 n x r1 (f20.L10 n x r1 m) y := by
 have h : f20.L10 n x r1 (m + 1) y = f20.r10 n x r1 m (f20.L10 n x r1 m) y := by kernel_rfl
 rw [h]
 simp only [f20.r10, f20.s10, f20.l1, f20.l2, f20.l3, f20.l4, f20.l5, f20.l6, f20.l7, f20.l8, f20.l9]
theorem f20.l10 (n : Nat) (x : dExpr) (r1 : List Int) : ∀ (m : Nat) (y2 : (List Int) × Int), f20.L10 n x r1 m y2 = iter (f20.s10 n x r1) m y2 :=
 loop_of (L := f20.L10 n x r1) (step := f20.s10 n x r1) (fun _ => rfl) (f20.k10 n x r1)
def f20.g (n : Nat) (x : dExpr) : Option ((List Int)) :=
 (F43 ((Rose.node x.lab x.kids), [])).bind fun r1 =>
 iter (f20.s10 n x r1) n (List.take 0 ([]), (0 : Int))
def f20.q (n : Nat) (x : dExpr) : Option ((List Int)) :=
 (F43 ((Rose.node x.lab x.kids), [])).bind fun r1 =>
 f20.L10 n x r1 n (List.take 0 ([]), (0 : Int))
theorem f20.eq (n : Nat) (x : dExpr) : runK TT E20 n ann (tabC C20) 1 20 (argsL [(true, tExpr)] x) [] (readL [(false, .sl (.int .i64))]) = f20.g n x := by
 have h : runK TT E20 n ann (tabC C20) 1 20 (argsL [(true, tExpr)] x) [] (readL [(false, .sl (.int .i64))]) = f20.q n x := by kernel_rfl
 rw [h]
 simp only [f20.q, f20.g, f20.l1, f20.l2, f20.l3, f20.l4, f20.l5, f20.l6, f20.l7, f20.l8, f20.l9, f20.l10]
theorem f20.codes : CodesOk Tryz.prog E20 ann (tabC C20) := tabC_ok (by intro p hp; simp only [C20, List.mem_cons, List.not_mem_nil, or_false] at hp; rcases hp with rfl <;> first | exact Tryz.func20) (by kernel_rfl)
theorem f20.ok (h : ∀ X Y, F20 X = some Y → ∃ n, f20.g n X = some Y) (e43 : ConOk Tryz.prog 43 con43) : ConOk Tryz.prog 20 (mkCon [(true, tExpr)] [(false, .sl (.int .i64))] false F20) :=
 mkCon_ok mixed TT_ok (envC_ok e43 env0_ok) f20.codes (fun h => by cases h) fun X Y hF => (h X Y hF).imp fun n hn => (f20.eq n X).trans hn
def con20 : Con := mkCon [(true, tExpr)] [(false, .sl (.int .i64))] false F20
/-! ### vellum/pred.isNull -/
def E54 : FuncId → Option Con := env0
noncomputable def C54 : List (FuncId × Func) := [(54, Tryz.f54)]
def f54.g (n : Nat) (x : dValue) : Option (Bool) :=
 some (x.1 == (0 : Int))
theorem f54.eq (n : Nat) (x : dValue) : runK TT E54 n ann (tabC C54) 1 54 (argsL [(true, tValue)] x) [] (readL [(false, .bool)]) = f54.g n x := by
 kernel_rfl
theorem f54.codes : CodesOk Tryz.prog E54 ann (tabC C54) := tabC_ok (by intro p hp; simp only [C54, List.mem_cons, List.not_mem_nil, or_false] at hp; rcases hp with rfl <;> first | exact Tryz.func54) (by kernel_rfl)
theorem f54.ok (h : ∀ X Y, F54 X = some Y → ∃ n, f54.g n X = some Y)  : ConOk Tryz.prog 54 (mkCon [(true, tValue)] [(false, .bool)] true F54) :=
 mkCon_ok mixed TT_ok env0_ok f54.codes (fun _ => List.all_eq_true.1 rfl) fun X Y hF => (h X Y hF).imp fun n hn => (f54.eq n X).trans hn
def con54 : Con := mkCon [(true, tValue)] [(false, .bool)] true F54
/-! ### vellum/pred.isTrue -/
def E26 : FuncId → Option Con := env0
noncomputable def C26 : List (FuncId × Func) := [(26, Tryz.f26)]
def f26.g (n : Nat) (x : dValue) : Option (Bool) :=
 some (bif (x.1 == (1 : Int)) then (x.2.1 == (1 : Int)) else false)
theorem f26.eq (n : Nat) (x : dValue) : runK TT E26 n ann (tabC C26) 1 26 (argsL [(true, tValue)] x) [] (readL [(false, .bool)]) = f26.g n x := by
 kernel_rfl
theorem f26.codes : CodesOk Tryz.prog E26 ann (tabC C26) := tabC_ok (by intro p hp; simp only [C26, List.mem_cons, List.not_mem_nil, or_false] at hp; rcases hp with rfl <;> first | exact Tryz.func26) (by kernel_rfl)
theorem f26.ok (h : ∀ X Y, F26 X = some Y → ∃ n, f26.g n X = some Y)  : ConOk Tryz.prog 26 (mkCon [(true, tValue)] [(false, .bool)] true F26) :=
 mkCon_ok mixed TT_ok env0_ok f26.codes (fun _ => List.all_eq_true.1 rfl) fun X Y hF => (h X Y hF).imp fun n hn => (f26.eq n X).trans hn
def con26 : Con := mkCon [(true, tValue)] [(false, .bool)] true F26
/-! ### vellum/pred.isFalse -/
def E99 : FuncId → Option Con := env0
noncomputable def C99 : List (FuncId × Func) := [(99, Tryz.f99)]
def f99.g (n : Nat) (x : dValue) : Option (Bool) :=
 some (bif (x.1 == (1 : Int)) then (x.2.1 == (0 : Int)) else false)
theorem f99.eq (n : Nat) (x : dValue) : runK TT E99 n ann (tabC C99) 1 99 (argsL [(true, tValue)] x) [] (readL [(false, .bool)]) = f99.g n x := by
 kernel_rfl
theorem f99.codes : CodesOk Tryz.prog E99 ann (tabC C99) := tabC_ok (by intro p hp; simp only [C99, List.mem_cons, List.not_mem_nil, or_false] at hp; rcases hp with rfl <;> first | exact Tryz.func99) (by kernel_rfl)
theorem f99.ok (h : ∀ X Y, F99 X = some Y → ∃ n, f99.g n X = some Y)  : ConOk Tryz.prog 99 (mkCon [(true, tValue)] [(false, .bool)] true F99) :=
 mkCon_ok mixed TT_ok env0_ok f99.codes (fun _ => List.all_eq_true.1 rfl) fun X Y hF => (h X Y hF).imp fun n hn => (f99.eq n X).trans hn
def con99 : Con := mkCon [(true, tValue)] [(false, .bool)] true F99
/-! ### vellum/pred.truth -/
def E56 : FuncId → Option Con := env0
noncomputable def C56 : List (FuncId × Func) := [(56, Tryz.f56)]
def f56.g (n : Nat) (x : Bool) : Option (dValue) :=
 bif x then
 (some ((1 : Int), ((1 : Int), (0, (⟨#[]⟩ : ByteArray)))))
 else
 (some ((1 : Int), ((0 : Int), (0, (⟨#[]⟩ : ByteArray)))))
theorem f56.eq (n : Nat) (x : Bool) : runK TT E56 n ann (tabC C56) 1 56 (argsL [(false, .bool)] x) [] (readL [(true, tValue)]) = f56.g n x := by
 kernel_rfl
theorem f56.codes : CodesOk Tryz.prog E56 ann (tabC C56) := tabC_ok (by intro p hp; simp only [C56, List.mem_cons, List.not_mem_nil, or_false] at hp; rcases hp with rfl <;> first | exact Tryz.func56) (by kernel_rfl)
theorem f56.ok (h : ∀ X Y, F56 X = some Y → ∃ n, f56.g n X = some Y)  : ConOk Tryz.prog 56 (mkCon [(false, .bool)] [(true, tValue)] true F56) :=
 mkCon_ok mixed TT_ok env0_ok f56.codes (fun _ => List.all_eq_true.1 rfl) fun X Y hF => (h X Y hF).imp fun n hn => (f56.eq n X).trans hn
def con56 : Con := mkCon [(false, .bool)] [(true, tValue)] true F56
/-! ### vellum/pred.whole -/
def E101 : FuncId → Option Con := env0
noncomputable def C101 : List (FuncId × Func) := [(101, Tryz.f101)]
def f101.g (n : Nat) (x : Int) : Option (dValue) :=
 some ((2 : Int), (x, (0, (⟨#[]⟩ : ByteArray))))
theorem f101.eq (n : Nat) (x : Int) : runK TT E101 n ann (tabC C101) 1 101 (argsL [(false, .int .i64)] x) [] (readL [(true, tValue)]) = f101.g n x := by
 kernel_rfl
theorem f101.codes : CodesOk Tryz.prog E101 ann (tabC C101) := tabC_ok (by intro p hp; simp only [C101, List.mem_cons, List.not_mem_nil, or_false] at hp; rcases hp with rfl <;> first | exact Tryz.func101) (by kernel_rfl)
theorem f101.ok (h : ∀ X Y, F101 X = some Y → ∃ n, f101.g n X = some Y)  : ConOk Tryz.prog 101 (mkCon [(false, .int .i64)] [(true, tValue)] true F101) :=
 mkCon_ok mixed TT_ok env0_ok f101.codes (fun _ => List.all_eq_true.1 rfl) fun X Y hF => (h X Y hF).imp fun n hn => (f101.eq n X).trans hn
def con101 : Con := mkCon [(false, .int .i64)] [(true, tValue)] true F101
/-! ### vellum/pred.asFloat -/
def E106 : FuncId → Option Con := env0
noncomputable def C106 : List (FuncId × Func) := [(106, Tryz.f106)]
def f106.g (n : Nat) (x : dValue) : Option (Nat) :=
 bif x.1 == (2 : Int) then
 (some (FloatKind.f64.nearest x.2.1))
 else
 (some x.2.2.1)
theorem f106.eq (n : Nat) (x : dValue) : runK TT E106 n ann (tabC C106) 1 106 (argsL [(true, tValue)] x) [] (readL [(false, .float .f64)]) = f106.g n x := by
 kernel_rfl
theorem f106.codes : CodesOk Tryz.prog E106 ann (tabC C106) := tabC_ok (by intro p hp; simp only [C106, List.mem_cons, List.not_mem_nil, or_false] at hp; rcases hp with rfl <;> first | exact Tryz.func106) (by kernel_rfl)
theorem f106.ok (h : ∀ X Y, F106 X = some Y → ∃ n, f106.g n X = some Y)  : ConOk Tryz.prog 106 (mkCon [(true, tValue)] [(false, .float .f64)] true F106) :=
 mkCon_ok mixed TT_ok env0_ok f106.codes (fun _ => List.all_eq_true.1 rfl) fun X Y hF => (h X Y hF).imp fun n hn => (f106.eq n X).trans hn
def con106 : Con := mkCon [(true, tValue)] [(false, .float .f64)] true F106
/-! ### vellum/vellumref15.null -/
/-! ### vellum/vellumref15.truth -/
end
end Go.Proofs.YtfccofgchjieeaaGreatDoor.AI
