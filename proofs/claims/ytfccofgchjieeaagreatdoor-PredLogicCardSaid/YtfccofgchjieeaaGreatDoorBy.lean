/- Runs of the program's functions over plain data. Printed by aipr.py; Lean checks them. -/
import Derived.Test.YtfccofgchjieeaaGreatDoorBx
set_option maxRecDepth 100000
set_option linter.unusedVariables false
set_option linter.unusedSimpArgs false
set_option linter.unusedSectionVars false
namespace Go.Proofs.YtfccofgchjieeaaGreatDoor.AI
open Go
noncomputable section
/-! ### vellum/vellumlaw15.PredLogic -/
def E3 : FuncId → Option Con := (envC 13 con13 (envC 12 con12 (envC 11 con11 (envC 10 con10 (envC 9 con9 (envC 8 con8 (envC 7 con7 env0)))))))
noncomputable def C3 : List (FuncId × Func) := []
def f3.g (n : Nat) (x : dGiven × dExpr) : Option (Bool) :=
 (F7 (Rose.node x.1.2.1.lab x.1.2.1.kids)).bind fun r1 =>
 (F7 (Rose.node x.2.lab x.2.kids)).bind fun r2 =>
 (F10 (x.1.1, ((Rose.node r1.lab r1.kids), x.1.2.2))).bind fun r3 =>
 (F10 (x.1.1, ((Rose.node r2.lab r2.kids), x.1.2.2))).bind fun r4 =>
 (F8 (Rose.node r1.lab r1.kids)).bind fun r5 =>
 (F8 (Rose.node r5.lab r5.kids)).bind fun r6 =>
 (F10 (x.1.1, ((Rose.node r6.lab r6.kids), x.1.2.2))).bind fun r7 =>
 (F9 ((⟨#[97, 110, 100]⟩ : ByteArray), ((Rose.node r1.lab r1.kids), (Rose.node r2.lab r2.kids)))).bind fun r8 =>
 (F10 (x.1.1, ((Rose.node r8.lab r8.kids), x.1.2.2))).bind fun r9 =>
 (F9 ((⟨#[97, 110, 100]⟩ : ByteArray), ((Rose.node r1.lab r1.kids), (Rose.node r2.lab r2.kids)))).bind fun r10 =>
 (F8 (Rose.node r10.lab r10.kids)).bind fun r11 =>
 (F11 (x.1.1, ((Rose.node r11.lab r11.kids), x.1.2.2))).bind fun r12 =>
 (F8 (Rose.node r1.lab r1.kids)).bind fun r13 =>
 (F8 (Rose.node r2.lab r2.kids)).bind fun r14 =>
 (F9 ((⟨#[111, 114]⟩ : ByteArray), ((Rose.node r13.lab r13.kids), (Rose.node r14.lab r14.kids)))).bind fun r15 =>
 (F11 (x.1.1, ((Rose.node r15.lab r15.kids), x.1.2.2))).bind fun r16 =>
 bif bif (bif (r3.2 == (0 : Int)) then (r7.2 == (0 : Int)) else false) then (!(r7.1 == r3.1)) else false then
 (some false)
 else
 (bif bif (bif (bif (r3.2 == (0 : Int)) then (r4.2 == (0 : Int)) else false) then (r9.2 == (0 : Int)) else false) then (!(r9.1 == (bif r3.1 then r4.1 else false))) else false then
 (some false)
 else
 (bif bif (r12.2 == (0 : Int)) then (r16.2 == (0 : Int)) else false then
 ((F12 (r12.1, r16.1)).bind fun r17 =>
 bif !r17 then
 (some false)
 else
 ((F13 ()).bind fun r18 =>
 some r18))
 else
 ((F13 ()).bind fun r19 =>
 some r19)))
theorem f3.eq (n : Nat) (x : dGiven × dExpr) : bodyK TT 0 E3 (inlD TT E3 n ann (tabC C3) 1) n ann 3 Tryz.f3 (argsL [(true, tGiven), (true, tExpr)] x) [] (readL [(false, .bool)]) = f3.g n x := by
 kernel_rfl
theorem f3.eqB (n : Nat) (x : dGiven × dExpr) : body2K TT 0 E3 (inlD TT E3 n ann (tabC C3) 1) n ann 5 3 Tryz.f3 (argsL [(true, tGiven), (true, tExpr)] x) [] (readL [(false, .bool)]) = f3.g n x := by
 kernel_rfl
theorem f3.codes : CodesOk Tryz.prog E3 ann (tabC C3) := tabC_ok (by intro p hp; simp only [C3, List.not_mem_nil] at hp) (by kernel_rfl)
theorem f3.code2 : Code2Ok Tryz.prog E3 ann 5 3 Tryz.f3 := ⟨Tryz.func3, by kernel_rfl, by kernel_rfl⟩
theorem f3.ok (h : ∀ X Y, (FL [(true, tGiven), (true, tExpr)]) X = some Y → ∃ n, f3.g n X = some Y) (e7 : ConOk Tryz.prog 7 con7) (e8 : ConOk Tryz.prog 8 con8) (e9 : ConOk Tryz.prog 9 con9) (e10 : ConOk Tryz.prog 10 con10) (e11 : ConOk Tryz.prog 11 con11) (e12 : ConOk Tryz.prog 12 con12) (e13 : ConOk Tryz.prog 13 con13) : ConOk Tryz.prog 3 (mkCon [(true, tGiven), (true, tExpr)] [(false, .bool)] true (FL [(true, tGiven), (true, tExpr)])) :=
 mkCon2_ok mixed TT_ok (envC_ok e13 (envC_ok e12 (envC_ok e11 (envC_ok e10 (envC_ok e9 (envC_ok e8 (envC_ok e7 env0_ok))))))) f3.codes f3.code2 (fun _ => List.all_eq_true.1 rfl) fun X Y hF => (h X Y hF).imp fun n hn => ⟨(f3.eq n X).trans hn, (f3.eqB n X).trans hn⟩
def con3 : Con := mkCon [(true, tGiven), (true, tExpr)] [(false, .bool)] true (FL [(true, tGiven), (true, tExpr)])
/-! ### vellum/vellumlaw15.PredChecks -/
def E4 : FuncId → Option Con := (envC 20 con20 (envC 19 con19 (envC 18 con18 (envC 17 con17 (envC 16 con16 (envC 15 con15 (envC 14 con14 (envC 13 con13 (envC 7 con7 env0)))))))))
noncomputable def C4 : List (FuncId × Func) := [(4, Tryz.f4)]
def f4.g (n : Nat) (x : dGiven) : Option (Bool) :=
 (F7 (Rose.node x.2.1.lab x.2.1.kids)).bind fun r1 =>
 (F15 x.1).bind fun r2 =>
 (F16 (Rose.node r1.lab r1.kids)).bind fun r3 =>
 (F14 (r2, (Rose.node r3.lab r3.kids))).bind fun r4 =>
 (F17 (x.1, (Rose.node r1.lab r1.kids))).bind fun r5 =>
 bif bif (r4.1 == r5.1) then (r4.2 == r5.2) else false then
 ((F16 (Rose.node r1.lab r1.kids)).bind fun r6 =>
 (F19 (Rose.node r6.lab r6.kids)).bind fun r7 =>
 (F20 (Rose.node r1.lab r1.kids)).bind fun r8 =>
 (F18 (r7, r8)).bind fun r9 =>
 bif r9 then
 ((F13 ()).bind fun r10 =>
 some r10)
 else
 (some false))
 else
 (some false)
theorem f4.eq (n : Nat) (x : dGiven) : runK TT E4 n ann (tabC C4) 1 4 (argsL [(true, tGiven)] x) [] (readL [(false, .bool)]) = f4.g n x := by
 kernel_rfl
theorem f4.codes : CodesOk Tryz.prog E4 ann (tabC C4) := tabC_ok (by intro p hp; simp only [C4, List.mem_cons, List.not_mem_nil, or_false] at hp; rcases hp with rfl <;> first | exact Tryz.func4) (by kernel_rfl)
theorem f4.ok (h : ∀ X Y, (FL [(true, tGiven)]) X = some Y → ∃ n, f4.g n X = some Y) (e7 : ConOk Tryz.prog 7 con7) (e13 : ConOk Tryz.prog 13 con13) (e14 : ConOk Tryz.prog 14 con14) (e15 : ConOk Tryz.prog 15 con15) (e16 : ConOk Tryz.prog 16 con16) (e17 : ConOk Tryz.prog 17 con17) (e18 : ConOk Tryz.prog 18 con18) (e19 : ConOk Tryz.prog 19 con19) (e20 : ConOk Tryz.prog 20 con20) : ConOk Tryz.prog 4 (mkCon [(true, tGiven)] [(false, .bool)] true (FL [(true, tGiven)])) :=
 mkCon_ok mixed TT_ok (envC_ok e20 (envC_ok e19 (envC_ok e18 (envC_ok e17 (envC_ok e16 (envC_ok e15 (envC_ok e14 (envC_ok e13 (envC_ok e7 env0_ok))))))))) f4.codes (fun _ => List.all_eq_true.1 rfl) fun X Y hF => (h X Y hF).imp fun n hn => (f4.eq n X).trans hn
def con4 : Con := mkCon [(true, tGiven)] [(false, .bool)] true (FL [(true, tGiven)])
end
end Go.Proofs.YtfccofgchjieeaaGreatDoor.AI
