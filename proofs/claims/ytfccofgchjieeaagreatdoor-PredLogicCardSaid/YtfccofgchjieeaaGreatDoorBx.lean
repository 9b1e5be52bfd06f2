/- Runs of the program's functions over plain data. Printed by aipr.py; Lean checks them. -/
import Derived.Test.YtfccofgchjieeaaGreatDoorBw
set_option maxRecDepth 100000
set_option linter.unusedVariables false
set_option linter.unusedSimpArgs false
set_option linter.unusedSectionVars false
namespace Go.Proofs.YtfccofgchjieeaaGreatDoor.AI
open Go
noncomputable section
/-! ### vellum/pred.binary -/
def E169 : FuncId → Option Con := env0
noncomputable def C169 : List (FuncId × Func) := [(169, Tryz.f169)]
def f169.g (n : Nat) (x : ByteArray × dExpr × dExpr) : Option (dExpr) :=
 some (Rose.node ((4 : Int), (x.1, ((0 : Int), ((0 : Int), ((0 : Int), (0, (⟨#[]⟩ : ByteArray))))))) (List.take 2 ([(Rose.node x.2.1.lab x.2.1.kids), (Rose.node x.2.2.lab x.2.2.kids)])))
theorem f169.eq (n : Nat) (x : ByteArray × dExpr × dExpr) : runK TT E169 n ann (tabC C169) 1 169 (argsL [(false, .str), (true, tExpr), (true, tExpr)] x) [] (readL [(true, tExpr)]) = f169.g n x := by
 kernel_rfl
theorem f169.codes : CodesOk Tryz.prog E169 ann (tabC C169) := tabC_ok (by intro p hp; simp only [C169, List.mem_cons, List.not_mem_nil, or_false] at hp; rcases hp with rfl <;> first | exact Tryz.func169) (by kernel_rfl)
theorem f169.ok (h : ∀ X Y, F169 X = some Y → ∃ n, f169.g n X = some Y)  : ConOk Tryz.prog 169 (mkCon [(false, .str), (true, tExpr), (true, tExpr)] [(true, tExpr)] false F169) :=
 mkCon_ok mixed TT_ok env0_ok f169.codes (fun h => by cases h) fun X Y hF => (h X Y hF).imp fun n hn => (f169.eq n X).trans hn
def con169 : Con := mkCon [(false, .str), (true, tExpr), (true, tExpr)] [(true, tExpr)] false F169
/-! ### vellum/pred.lex -/
def E60 : FuncId → Option Con := (envC 107 con107 env0)
noncomputable def C60 : List (FuncId × Func) := [(60, Tryz.f60), (108, Tryz.f108), (109, Tryz.f109), (110, Tryz.f110), (111, Tryz.f111), (162, Tryz.f162), (163, Tryz.f163), (164, Tryz.f164), (165, Tryz.f165), (166, Tryz.f166)]
def f60.at : ByteArray := (⟨#[97, 32, 43, 32, 49, 32, 60, 32, 53]⟩ : ByteArray)
def f60.g (n : Nat) : Option ((List ByteArray) × Bool) := (runS TT E60 n ann (tabC C60) 20 60 (argsL [(false, .str)] f60.at) []).bind fun p => (readL [(false, .sl .str), (false, .bool)]) p.1 p.2
set_option maxHeartbeats 0 in
theorem f60.codes : CodesAt Tryz.prog (tabC C60) := tabA_ok (by intro p hp; simp only [C60, List.mem_cons, List.not_mem_nil, or_false] at hp; rcases hp with rfl | rfl | rfl | rfl | rfl | rfl | rfl | rfl | rfl | rfl <;> first | exact Tryz.func60 | exact Tryz.func108 | exact Tryz.func109 | exact Tryz.func110 | exact Tryz.func111 | exact Tryz.func162 | exact Tryz.func163 | exact Tryz.func164 | exact Tryz.func165 | exact Tryz.func166) (by kernel_rfl)
theorem f60.ok (h : ∀ X Y, F60 X = some Y → X = f60.at ∧ ∃ n, f60.g n = some Y) (e107 : ConOk Tryz.prog 107 con107) : ConOk Tryz.prog 60 (mkCon [(false, .str)] [(false, .sl .str), (false, .bool)] false F60) :=
 mkConS_ok mixed TT_ok (envC_ok e107 env0_ok) f60.codes (fun h => by cases h) fun X Y hF => by
 rcases h X Y hF with ⟨e, n, hn⟩ <;> (subst e; exact ⟨n, hn⟩)
def con60 : Con := mkCon [(false, .str)] [(false, .sl .str), (false, .bool)] false F60
/-! ### vellum/vellumlaw15.tiny -/
def E31 : FuncId → Option Con := env0
noncomputable def C31 : List (FuncId × Func) := [(31, Tryz.f31)]
def f31.g (n : Nat) (x : Unit) : Option (dTable) :=
 some ((⟨#[116]⟩ : ByteArray), (List.take 1 ([((⟨#[97]⟩ : ByteArray), ((2 : Int), (false, ((0 : Int), ((0 : Int), (0, (⟨#[]⟩ : ByteArray)))))))]), (List.take 1 ([(0 : Int)]), ([], []))))
theorem f31.eq (n : Nat) (x : Unit) : runK TT E31 n ann (tabC C31) 1 31 (argsL [] x) [] (readL [(true, tTable)]) = f31.g n x := by
 kernel_rfl
theorem f31.codes : CodesOk Tryz.prog E31 ann (tabC C31) := tabC_ok (by intro p hp; simp only [C31, List.mem_cons, List.not_mem_nil, or_false] at hp; rcases hp with rfl <;> first | exact Tryz.func31) (by kernel_rfl)
theorem f31.ok (h : ∀ X Y, F31 X = some Y → ∃ n, f31.g n X = some Y)  : ConOk Tryz.prog 31 (mkCon [] [(true, tTable)] false F31) :=
 mkCon_ok mixed TT_ok env0_ok f31.codes (fun h => by cases h) fun X Y hF => (h X Y hF).imp fun n hn => (f31.eq n X).trans hn
def con31 : Con := mkCon [] [(true, tTable)] false F31
def F258 (x : ByteArray) : Option (dValue × Int) := bif strEq x ⟨#[49]⟩ then some (intV 1, 0) else bif strEq x ⟨#[53]⟩ then some (intV 5, 0) else bif strEq x ⟨#[97]⟩ then some (zeroV, 11) else none
/-! ### vellum/value.Parse -/
def E258 : FuncId → Option Con := (envC 223 con223 (envC 50 con50 env0))
noncomputable def C258 : List (FuncId × Func) := [(258, Tryz.f258), (110, Tryz.f110), (164, Tryz.f164), (280, Tryz.f280), (281, Tryz.f281), (308, Tryz.f308), (332, Tryz.f332), (333, Tryz.f333), (334, Tryz.f334), (350, Tryz.f350)]
def f258.at0 : ByteArray := (⟨#[49]⟩ : ByteArray)
def f258.g0 (n : Nat) : Option (dValue × Int) := (runS TT E258 n ann (tabC C258) 20 258 (argsL [(false, .str)] f258.at0) []).bind fun p => (readL [(true, tValue), (false, .int .i64)]) p.1 p.2
def f258.at1 : ByteArray := (⟨#[53]⟩ : ByteArray)
def f258.g1 (n : Nat) : Option (dValue × Int) := (runS TT E258 n ann (tabC C258) 20 258 (argsL [(false, .str)] f258.at1) []).bind fun p => (readL [(true, tValue), (false, .int .i64)]) p.1 p.2
def f258.at2 : ByteArray := (⟨#[97]⟩ : ByteArray)
def f258.g2 (n : Nat) : Option (dValue × Int) := (runS TT E258 n ann (tabC C258) 20 258 (argsL [(false, .str)] f258.at2) []).bind fun p => (readL [(true, tValue), (false, .int .i64)]) p.1 p.2
set_option maxHeartbeats 0 in
theorem f258.codes : CodesAt Tryz.prog (tabC C258) := tabA_ok (by intro p hp; simp only [C258, List.mem_cons, List.not_mem_nil, or_false] at hp; rcases hp with rfl | rfl | rfl | rfl | rfl | rfl | rfl | rfl | rfl | rfl <;> first | exact Tryz.func258 | exact Tryz.func110 | exact Tryz.func164 | exact Tryz.func280 | exact Tryz.func281 | exact Tryz.func308 | exact Tryz.func332 | exact Tryz.func333 | exact Tryz.func334 | exact Tryz.func350) (by kernel_rfl)
theorem f258.ok (h : ∀ X Y, F258 X = some Y → (X = f258.at0 ∧ ∃ n, f258.g0 n = some Y) ∨ (X = f258.at1 ∧ ∃ n, f258.g1 n = some Y) ∨ (X = f258.at2 ∧ ∃ n, f258.g2 n = some Y)) (e50 : ConOk Tryz.prog 50 con50) (e223 : ConOk Tryz.prog 223 con223) : ConOk Tryz.prog 258 (mkCon [(false, .str)] [(true, tValue), (false, .int .i64)] false F258) :=
 mkConS_ok mixed TT_ok (envC_ok e223 (envC_ok e50 env0_ok)) f258.codes (fun h => by cases h) fun X Y hF => by
 rcases h X Y hF with ⟨e, n, hn⟩ | ⟨e, n, hn⟩ | ⟨e, n, hn⟩ <;> (subst e; exact ⟨n, hn⟩)
def con258 : Con := mkCon [(false, .str)] [(true, tValue), (false, .int .i64)] false F258
/-! ### vellum/pred.Parse -/
def E30 : FuncId → Option Con := (envC 260 con260 (envC 258 con258 (envC 223 con223 (envC 169 con169 (envC 62 con62 (envC 60 con60 (envC 55 con55 (envC 50 con50 (envC 33 con33 (envC 14 con14 env0))))))))))
noncomputable def C30 : List (FuncId × Func) := [(30, Tryz.f30), (61, Tryz.f61), (110, Tryz.f110), (112, Tryz.f112), (113, Tryz.f113), (164, Tryz.f164), (165, Tryz.f165), (166, Tryz.f166), (167, Tryz.f167), (168, Tryz.f168), (170, Tryz.f170), (195, Tryz.f195), (208, Tryz.f208), (217, Tryz.f217), (229, Tryz.f229), (242, Tryz.f242), (259, Tryz.f259), (280, Tryz.f280), (281, Tryz.f281), (308, Tryz.f308), (332, Tryz.f332), (333, Tryz.f333), (334, Tryz.f334), (350, Tryz.f350)]
def f30.at : dTable × ByteArray := (((⟨#[116]⟩ : ByteArray), (([((⟨#[97]⟩ : ByteArray), ((2 : Int), (false, ((0 : Int), ((0 : Int), (0, (⟨#[]⟩ : ByteArray)))))))] : List dColumn), (([(0 : Int)] : List Int), (([] : List dIndex), ([] : List dRef))))), (⟨#[97, 32, 43, 32, 49, 32, 60, 32, 53]⟩ : ByteArray))
def f30.g (n : Nat) : Option (dExpr × Int) := (runS TT E30 n ann (tabC C30) 40 30 (argsL [(true, tTable), (false, .str)] f30.at) []).bind fun p => (readL [(true, tExpr), (false, .int .i64)]) p.1 p.2
set_option maxHeartbeats 0 in
theorem f30.codes : CodesAt Tryz.prog (tabC C30) := tabA_ok (by intro p hp; simp only [C30, List.mem_cons, List.not_mem_nil, or_false] at hp; rcases hp with rfl | rfl | rfl | rfl | rfl | rfl | rfl | rfl | rfl | rfl | rfl | rfl | rfl | rfl | rfl | rfl | rfl | rfl | rfl | rfl | rfl | rfl | rfl | rfl <;> first | exact Tryz.func30 | exact Tryz.func61 | exact Tryz.func110 | exact Tryz.func112 | exact Tryz.func113 | exact Tryz.func164 | exact Tryz.func165 | exact Tryz.func166 | exact Tryz.func167 | exact Tryz.func168 | exact Tryz.func170 | exact Tryz.func195 | exact Tryz.func208 | exact Tryz.func217 | exact Tryz.func229 | exact Tryz.func242 | exact Tryz.func259 | exact Tryz.func280 | exact Tryz.func281 | exact Tryz.func308 | exact Tryz.func332 | exact Tryz.func333 | exact Tryz.func334 | exact Tryz.func350) (by kernel_rfl)
theorem f30.ok (h : ∀ X Y, F30 X = some Y → X = f30.at ∧ ∃ n, f30.g n = some Y) (e14 : ConOk Tryz.prog 14 con14) (e33 : ConOk Tryz.prog 33 con33) (e50 : ConOk Tryz.prog 50 con50) (e55 : ConOk Tryz.prog 55 con55) (e60 : ConOk Tryz.prog 60 con60) (e62 : ConOk Tryz.prog 62 con62) (e169 : ConOk Tryz.prog 169 con169) (e223 : ConOk Tryz.prog 223 con223) (e258 : ConOk Tryz.prog 258 con258) (e260 : ConOk Tryz.prog 260 con260) : ConOk Tryz.prog 30 (mkCon [(true, tTable), (false, .str)] [(true, tExpr), (false, .int .i64)] false F30) :=
 mkConS_ok mixed TT_ok (envC_ok e260 (envC_ok e258 (envC_ok e223 (envC_ok e169 (envC_ok e62 (envC_ok e60 (envC_ok e55 (envC_ok e50 (envC_ok e33 (envC_ok e14 env0_ok)))))))))) f30.codes (fun h => by cases h) fun X Y hF => by
 rcases h X Y hF with ⟨e, n, hn⟩ <;> (subst e; exact ⟨n, hn⟩)
def con30 : Con := mkCon [(true, tTable), (false, .str)] [(true, tExpr), (false, .int .i64)] false F30
/-! ### vellum/vellumlaw15.PredLogic$1 -/
def E8 : FuncId → Option Con := env0
noncomputable def C8 : List (FuncId × Func) := [(8, Tryz.f8)]
def f8.g (n : Nat) (x : dExpr) : Option (dExpr) :=
 some (Rose.node ((3 : Int), ((⟨#[110, 111, 116]⟩ : ByteArray), ((0 : Int), ((0 : Int), ((0 : Int), (0, (⟨#[]⟩ : ByteArray))))))) (List.take 1 ([(Rose.node x.lab x.kids)])))
theorem f8.eq (n : Nat) (x : dExpr) : runK TT E8 n ann (tabC C8) 1 8 (argsL [(true, tExpr)] x) [] (readL [(true, tExpr)]) = f8.g n x := by
 kernel_rfl
theorem f8.codes : CodesOk Tryz.prog E8 ann (tabC C8) := tabC_ok (by intro p hp; simp only [C8, List.mem_cons, List.not_mem_nil, or_false] at hp; rcases hp with rfl <;> first | exact Tryz.func8) (by kernel_rfl)
theorem f8.ok (h : ∀ X Y, F8 X = some Y → ∃ n, f8.g n X = some Y)  : ConOk Tryz.prog 8 (mkCon [(true, tExpr)] [(true, tExpr)] false F8) :=
 mkCon_ok mixed TT_ok env0_ok f8.codes (fun h => by cases h) fun X Y hF => (h X Y hF).imp fun n hn => (f8.eq n X).trans hn
def con8 : Con := mkCon [(true, tExpr)] [(true, tExpr)] false F8
/-! ### vellum/vellumlaw15.PredLogic$2 -/
def E9 : FuncId → Option Con := env0
noncomputable def C9 : List (FuncId × Func) := [(9, Tryz.f9)]
def f9.g (n : Nat) (x : ByteArray × dExpr × dExpr) : Option (dExpr) :=
 some (Rose.node ((4 : Int), (x.1, ((0 : Int), ((0 : Int), ((0 : Int), (0, (⟨#[]⟩ : ByteArray))))))) (List.take 2 ([(Rose.node x.2.1.lab x.2.1.kids), (Rose.node x.2.2.lab x.2.2.kids)])))
theorem f9.eq (n : Nat) (x : ByteArray × dExpr × dExpr) : runK TT E9 n ann (tabC C9) 1 9 (argsL [(false, .str), (true, tExpr), (true, tExpr)] x) [] (readL [(true, tExpr)]) = f9.g n x := by
 kernel_rfl
theorem f9.codes : CodesOk Tryz.prog E9 ann (tabC C9) := tabC_ok (by intro p hp; simp only [C9, List.mem_cons, List.not_mem_nil, or_false] at hp; rcases hp with rfl <;> first | exact Tryz.func9) (by kernel_rfl)
theorem f9.ok (h : ∀ X Y, F9 X = some Y → ∃ n, f9.g n X = some Y)  : ConOk Tryz.prog 9 (mkCon [(false, .str), (true, tExpr), (true, tExpr)] [(true, tExpr)] false F9) :=
 mkCon_ok mixed TT_ok env0_ok f9.codes (fun h => by cases h) fun X Y hF => (h X Y hF).imp fun n hn => (f9.eq n X).trans hn
def con9 : Con := mkCon [(false, .str), (true, tExpr), (true, tExpr)] [(true, tExpr)] false F9
/-! ### vellum/vellumref01.Int -/
def E32 : FuncId → Option Con := env0
noncomputable def C32 : List (FuncId × Func) := [(32, Tryz.f32)]
def f32.g (n : Nat) (x : Int) : Option (dValue) :=
 some ((2 : Int), (x, (0, (⟨#[]⟩ : ByteArray))))
theorem f32.eq (n : Nat) (x : Int) : runK TT E32 n ann (tabC C32) 1 32 (argsL [(false, .int .i64)] x) [] (readL [(true, tValue)]) = f32.g n x := by
 kernel_rfl
theorem f32.codes : CodesOk Tryz.prog E32 ann (tabC C32) := tabC_ok (by intro p hp; simp only [C32, List.mem_cons, List.not_mem_nil, or_false] at hp; rcases hp with rfl <;> first | exact Tryz.func32) (by kernel_rfl)
theorem f32.ok (h : ∀ X Y, F32 X = some Y → ∃ n, f32.g n X = some Y)  : ConOk Tryz.prog 32 (mkCon [(false, .int .i64)] [(true, tValue)] true F32) :=
 mkCon_ok mixed TT_ok env0_ok f32.codes (fun _ => List.all_eq_true.1 rfl) fun X Y hF => (h X Y hF).imp fun n hn => (f32.eq n X).trans hn
def con32 : Con := mkCon [(false, .int .i64)] [(true, tValue)] true F32
/-! ### vellum/vellumlaw15.awake -/
def E13 : FuncId → Option Con := (envC 32 con32 (envC 31 con31 (envC 30 con30 (envC 10 con10 env0))))
noncomputable def C13 : List (FuncId × Func) := [(13, Tryz.f13)]
def f13.g (n : Nat) (x : Unit) : Option (Bool) :=
 (F31 ()).bind fun r1 =>
 (F30 (r1, (⟨#[97, 32, 43, 32, 49, 32, 60, 32, 53]⟩ : ByteArray))).bind fun r2 =>
 bif r2.2 != (0 : Int) then
 (some false)
 else
 ((F31 ()).bind fun r3 =>
 (F32 (3 : Int)).bind fun r4 =>
 (F10 (r3, ((Rose.node r2.1.lab r2.1.kids), List.take 1 ([r4])))).bind fun r5 =>
 (F31 ()).bind fun r6 =>
 (F32 (4 : Int)).bind fun r7 =>
 (F10 (r6, ((Rose.node r2.1.lab r2.1.kids), List.take 1 ([r7])))).bind fun r8 =>
 some (bif (bif (bif r5.1 then (!r8.1) else false) then (r5.2 == (0 : Int)) else false) then (r8.2 == (0 : Int)) else false))
theorem f13.eq (n : Nat) (x : Unit) : runK TT E13 n ann (tabC C13) 1 13 (argsL [] x) [] (readL [(false, .bool)]) = f13.g n x := by
 kernel_rfl
theorem f13.codes : CodesOk Tryz.prog E13 ann (tabC C13) := tabC_ok (by intro p hp; simp only [C13, List.mem_cons, List.not_mem_nil, or_false] at hp; rcases hp with rfl <;> first | exact Tryz.func13) (by kernel_rfl)
theorem f13.ok (h : ∀ X Y, F13 X = some Y → ∃ n, f13.g n X = some Y) (e10 : ConOk Tryz.prog 10 con10) (e30 : ConOk Tryz.prog 30 con30) (e31 : ConOk Tryz.prog 31 con31) (e32 : ConOk Tryz.prog 32 con32) : ConOk Tryz.prog 13 (mkCon [] [(false, .bool)] true F13) :=
 mkCon_ok mixed TT_ok (envC_ok e32 (envC_ok e31 (envC_ok e30 (envC_ok e10 env0_ok)))) f13.codes (fun _ => List.all_eq_true.1 rfl) fun X Y hF => (h X Y hF).imp fun n hn => (f13.eq n X).trans hn
def con13 : Con := mkCon [] [(false, .bool)] true F13
/-! ### vellum/vellumlaw15.PredEvals -/
/-! ### vellum/vellumlaw15.PredTakes -/
end
end Go.Proofs.YtfccofgchjieeaaGreatDoor.AI
