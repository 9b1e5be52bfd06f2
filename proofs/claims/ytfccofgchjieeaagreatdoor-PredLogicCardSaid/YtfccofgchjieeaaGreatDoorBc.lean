/- Runs of the program's functions over plain data. Printed by aipr.py; Lean checks them. -/
import Derived.Test.YtfccofgchjieeaaGreatDoorBb
set_option maxRecDepth 100000
set_option linter.unusedVariables false
set_option linter.unusedSimpArgs false
set_option linter.unusedSectionVars false
namespace Go.Proofs.YtfccofgchjieeaaGreatDoor.AI
open Go
noncomputable section
def con171 : Con := mkCon [(false, .str), (false, .str)] [(false, .bool)] true F171
def con29 : Con := mkCon [(false, .float .f64)] [(false, .int .u64)] true F29
def con98 : Con := mkCon [(false, .str)] [(false, .bool)] true F98
def con151 : Con := mkCon [(false, .str), (false, .str)] [(false, .int .i64)] true F151
def con184 : Con := mkCon [(false, .int .u64)] [(false, .float .f64)] true F184
def con204 : Con := mkCon [(false, .float .f64)] [(false, .float .f64)] true F204
def con107 : Con := mkCon [(false, .str), (false, .int .u8)] [(false, .int .i64)] true F107
def con41 : Con := mkConR 3 false F41
def con42 : Con := mkConR 3 true F42
/-! ### cmp.Compare[int] -/
def E150 : FuncId → Option Con := env0
noncomputable def C150 : List (FuncId × Func) := [(150, Tryz.f150), (179, Tryz.f179)]
def f150.g (n : Nat) (x : Int × Int) : Option (Int) :=
 bif x.1 != x.1 then
 (bif x.2 != x.2 then
 (some (0 : Int))
 else
 (some (-1 : Int)))
 else
 (bif x.2 != x.2 then
 (some (1 : Int))
 else
 (bif decide (x.1 < x.2) then
 (some (-1 : Int))
 else
 (bif decide (x.1 > x.2) then
 (some (1 : Int))
 else
 (some (0 : Int)))))
theorem f150.eq (n : Nat) (x : Int × Int) : runK TT E150 n ann (tabC C150) 2 150 (argsL [(false, .int .i64), (false, .int .i64)] x) [] (readL [(false, .int .i64)]) = f150.g n x := by
 kernel_rfl
theorem f150.codes : CodesOk Tryz.prog E150 ann (tabC C150) := tabC_ok (by intro p hp; simp only [C150, List.mem_cons, List.not_mem_nil, or_false] at hp; rcases hp with rfl | rfl <;> first | exact Tryz.func150 | exact Tryz.func179) (by kernel_rfl)
theorem f150.ok (h : ∀ X Y, F150 X = some Y → ∃ n, f150.g n X = some Y)  : ConOk Tryz.prog 150 (mkCon [(false, .int .i64), (false, .int .i64)] [(false, .int .i64)] true F150) :=
 mkCon_ok mixed TT_ok env0_ok f150.codes (fun _ => List.all_eq_true.1 rfl) fun X Y hF => (h X Y hF).imp fun n hn => (f150.eq n X).trans hn
def con150 : Con := mkCon [(false, .int .i64), (false, .int .i64)] [(false, .int .i64)] true F150
/-! ### cmp.Compare[int64] -/
def E147 : FuncId → Option Con := env0
noncomputable def C147 : List (FuncId × Func) := [(147, Tryz.f147), (189, Tryz.f189)]
def f147.g (n : Nat) (x : Int × Int) : Option (Int) :=
 bif x.1 != x.1 then
 (bif x.2 != x.2 then
 (some (0 : Int))
 else
 (some (-1 : Int)))
 else
 (bif x.2 != x.2 then
 (some (1 : Int))
 else
 (bif decide (x.1 < x.2) then
 (some (-1 : Int))
 else
 (bif decide (x.1 > x.2) then
 (some (1 : Int))
 else
 (some (0 : Int)))))
theorem f147.eq (n : Nat) (x : Int × Int) : runK TT E147 n ann (tabC C147) 2 147 (argsL [(false, .int .i64), (false, .int .i64)] x) [] (readL [(false, .int .i64)]) = f147.g n x := by
 kernel_rfl
theorem f147.codes : CodesOk Tryz.prog E147 ann (tabC C147) := tabC_ok (by intro p hp; simp only [C147, List.mem_cons, List.not_mem_nil, or_false] at hp; rcases hp with rfl | rfl <;> first | exact Tryz.func147 | exact Tryz.func189) (by kernel_rfl)
theorem f147.ok (h : ∀ X Y, F147 X = some Y → ∃ n, f147.g n X = some Y)  : ConOk Tryz.prog 147 (mkCon [(false, .int .i64), (false, .int .i64)] [(false, .int .i64)] true F147) :=
 mkCon_ok mixed TT_ok env0_ok f147.codes (fun _ => List.all_eq_true.1 rfl) fun X Y hF => (h X Y hF).imp fun n hn => (f147.eq n X).trans hn
def con147 : Con := mkCon [(false, .int .i64), (false, .int .i64)] [(false, .int .i64)] true F147
/-! ### vellum/value.floats -/
def E148 : FuncId → Option Con := env0
noncomputable def C148 : List (FuncId × Func) := [(148, Tryz.f148), (145, Tryz.f145)]
def f148.g (n : Nat) (x : Nat × Nat) : Option (Int) :=
 bif FloatKind.f64.format.order x.1 x.1 != some .eq then
 (bif FloatKind.f64.format.order x.2 x.2 != some .eq then
 (some (0 : Int))
 else
 (bif FloatKind.f64.format.order x.1 x.1 != some .eq then
 (some (1 : Int))
 else
 (bif FloatKind.f64.format.order x.2 x.2 != some .eq then
 (bif FloatKind.f64.format.order x.2 x.2 != some .eq then
 (some (-1 : Int))
 else
 (bif FloatKind.f64.format.order x.1 x.2 == some .gt then
 (some (1 : Int))
 else
 (some (0 : Int))))
 else
 (bif FloatKind.f64.format.order x.1 x.2 == some .lt then
 (some (-1 : Int))
 else
 (bif FloatKind.f64.format.order x.1 x.2 == some .gt then
 (some (1 : Int))
 else
 (some (0 : Int)))))))
 else
 (bif FloatKind.f64.format.order x.1 x.1 != some .eq then
 (some (1 : Int))
 else
 (bif FloatKind.f64.format.order x.2 x.2 != some .eq then
 (bif FloatKind.f64.format.order x.2 x.2 != some .eq then
 (some (-1 : Int))
 else
 (bif FloatKind.f64.format.order x.1 x.2 == some .gt then
 (some (1 : Int))
 else
 (some (0 : Int))))
 else
 (bif FloatKind.f64.format.order x.1 x.2 == some .lt then
 (some (-1 : Int))
 else
 (bif FloatKind.f64.format.order x.1 x.2 == some .gt then
 (some (1 : Int))
 else
 (some (0 : Int))))))
theorem f148.eq (n : Nat) (x : Nat × Nat) : runK TT E148 n ann (tabC C148) 2 148 (argsL [(false, .float .f64), (false, .float .f64)] x) [] (readL [(false, .int .i64)]) = f148.g n x := by
 kernel_rfl
theorem f148.codes : CodesOk Tryz.prog E148 ann (tabC C148) := tabC_ok (by intro p hp; simp only [C148, List.mem_cons, List.not_mem_nil, or_false] at hp; rcases hp with rfl | rfl <;> first | exact Tryz.func148 | exact Tryz.func145) (by kernel_rfl)
theorem f148.ok (h : ∀ X Y, F148 X = some Y → ∃ n, f148.g n X = some Y)  : ConOk Tryz.prog 148 (mkCon [(false, .float .f64), (false, .float .f64)] [(false, .int .i64)] true F148) :=
 mkCon_ok mixed TT_ok env0_ok f148.codes (fun _ => List.all_eq_true.1 rfl) fun X Y hF => (h X Y hF).imp fun n hn => (f148.eq n X).trans hn
def con148 : Con := mkCon [(false, .float .f64), (false, .float .f64)] [(false, .int .i64)] true F148
/-! ### vellum/vellumref01.ints -/
/-! ### vellum/vellumref01.floats -/
/-! ### vellum/vellumref01.Strings -/
/-! ### vellum/value.Compare -/
def E104 : FuncId → Option Con := (envC 151 con151 (envC 150 con150 (envC 148 con148 (envC 147 con147 env0))))
noncomputable def C104 : List (FuncId × Func) := [(104, Tryz.f104)]
def f104.g (n : Nat) (x : dValue × dValue) : Option (Int) :=
 (F150 (x.1.1, x.2.1)).bind fun r1 =>
 bif r1 != (0 : Int) then
 (some r1)
 else
 (bif x.1.1 == (1 : Int) then
 (bif x.1.1 == (1 : Int) then
 ((F147 (x.1.2.1, x.2.2.1)).bind fun r2 =>
 some r2)
 else
 (bif x.1.1 == (3 : Int) then
 ((F148 (x.1.2.2.1, x.2.2.2.1)).bind fun r3 =>
 some r3)
 else
 (bif x.1.1 == (4 : Int) then
 (bif x.1.1 == (4 : Int) then
 ((F151 (x.1.2.2.2, x.2.2.2.2)).bind fun r4 =>
 some r4)
 else
 (some (0 : Int)))
 else
 (bif x.1.1 == (5 : Int) then
 ((F151 (x.1.2.2.2, x.2.2.2.2)).bind fun r5 =>
 some r5)
 else
 (some (0 : Int))))))
 else
 (bif x.1.1 == (2 : Int) then
 ((F147 (x.1.2.1, x.2.2.1)).bind fun r6 =>
 some r6)
 else
 (bif x.1.1 == (3 : Int) then
 ((F148 (x.1.2.2.1, x.2.2.2.1)).bind fun r7 =>
 some r7)
 else
 (bif x.1.1 == (4 : Int) then
 (bif x.1.1 == (4 : Int) then
 ((F151 (x.1.2.2.2, x.2.2.2.2)).bind fun r8 =>
 some r8)
 else
 (some (0 : Int)))
 else
 (bif x.1.1 == (5 : Int) then
 ((F151 (x.1.2.2.2, x.2.2.2.2)).bind fun r9 =>
 some r9)
 else
 (some (0 : Int)))))))
theorem f104.eq (n : Nat) (x : dValue × dValue) : runK TT E104 n ann (tabC C104) 1 104 (argsL [(true, tValue), (true, tValue)] x) [] (readL [(false, .int .i64)]) = f104.g n x := by
 kernel_rfl
theorem f104.codes : CodesOk Tryz.prog E104 ann (tabC C104) := tabC_ok (by intro p hp; simp only [C104, List.mem_cons, List.not_mem_nil, or_false] at hp; rcases hp with rfl <;> first | exact Tryz.func104) (by kernel_rfl)
theorem f104.ok (h : ∀ X Y, F104 X = some Y → ∃ n, f104.g n X = some Y) (e147 : ConOk Tryz.prog 147 con147) (e148 : ConOk Tryz.prog 148 con148) (e150 : ConOk Tryz.prog 150 con150) (e151 : ConOk Tryz.prog 151 con151) : ConOk Tryz.prog 104 (mkCon [(true, tValue), (true, tValue)] [(false, .int .i64)] true F104) :=
 mkCon_ok mixed TT_ok (envC_ok e151 (envC_ok e150 (envC_ok e148 (envC_ok e147 env0_ok)))) f104.codes (fun _ => List.all_eq_true.1 rfl) fun X Y hF => (h X Y hF).imp fun n hn => (f104.eq n X).trans hn
def con104 : Con := mkCon [(true, tValue), (true, tValue)] [(false, .int .i64)] true F104
/-! ### vellum/vellumref01.Compare -/
/-! ### vellum/value.Check -/
def E50 : FuncId → Option Con := (envC 98 con98 (envC 29 con29 env0))
noncomputable def C50 : List (FuncId × Func) := [(50, Tryz.f50)]
def f50.g (n : Nat) (x : dValue) : Option (Int) :=
 bif bif (decide (x.1 < (0 : Int))) then true else (decide (x.1 > (5 : Int))) then
 (bif bif (decide (x.1 < (0 : Int))) then true else (decide (x.1 > (5 : Int))) then
 (some (10 : Int))
 else
 (bif decide ((x.2.2.2.size : Int) > (65536 : Int)) then
 (some (3 : Int))
 else
 (some (0 : Int))))
 else
 (bif bif (bif (x.1 == (1 : Int)) then (x.2.1 != (0 : Int)) else false) then (x.2.1 != (1 : Int)) else false then
 (bif bif (bif (x.1 == (1 : Int)) then (x.2.1 != (0 : Int)) else false) then (x.2.1 != (1 : Int)) else false then
 (some (10 : Int))
 else
 (bif decide ((x.2.2.2.size : Int) > (65536 : Int)) then
 (some (3 : Int))
 else
 (some (0 : Int))))
 else
 (bif bif (bif (x.1 != (1 : Int)) then (x.1 != (2 : Int)) else false) then (x.2.1 != (0 : Int)) else false then
 (bif bif (bif (x.1 != (1 : Int)) then (x.1 != (2 : Int)) else false) then (x.2.1 != (0 : Int)) else false then
 (some (10 : Int))
 else
 (bif decide ((x.2.2.2.size : Int) > (65536 : Int)) then
 (some (3 : Int))
 else
 (some (0 : Int))))
 else
 (bif x.1 != (3 : Int) then
 ((F29 x.2.2.1).bind fun r1 =>
 bif r1 != (0 : Int) then
 (bif r1 != (0 : Int) then
 (some (10 : Int))
 else
 (bif decide ((x.2.2.2.size : Int) > (65536 : Int)) then
 (some (3 : Int))
 else
 (some (0 : Int))))
 else
 (bif bif (!(bif (x.1 == (4 : Int)) then true else (x.1 == (5 : Int)))) then (!(strEq x.2.2.2 (⟨#[]⟩ : ByteArray))) else false then
 (bif bif (!(bif (x.1 == (4 : Int)) then true else (x.1 == (5 : Int)))) then (!(strEq x.2.2.2 (⟨#[]⟩ : ByteArray))) else false then
 (some (10 : Int))
 else
 (bif decide ((x.2.2.2.size : Int) > (65536 : Int)) then
 (some (3 : Int))
 else
 (some (0 : Int))))
 else
 (bif x.1 == (4 : Int) then
 ((F98 x.2.2.2).bind fun r2 =>
 bif !r2 then
 (some (10 : Int))
 else
 (bif decide ((x.2.2.2.size : Int) > (65536 : Int)) then
 (some (3 : Int))
 else
 (some (0 : Int))))
 else
 (bif decide ((x.2.2.2.size : Int) > (65536 : Int)) then
 (some (3 : Int))
 else
 (some (0 : Int))))))
 else
 (bif bif (!(bif (x.1 == (4 : Int)) then true else (x.1 == (5 : Int)))) then (!(strEq x.2.2.2 (⟨#[]⟩ : ByteArray))) else false then
 (bif bif (!(bif (x.1 == (4 : Int)) then true else (x.1 == (5 : Int)))) then (!(strEq x.2.2.2 (⟨#[]⟩ : ByteArray))) else false then
 (some (10 : Int))
 else
 (bif decide ((x.2.2.2.size : Int) > (65536 : Int)) then
 (some (3 : Int))
 else
 (some (0 : Int))))
 else
 (bif x.1 == (4 : Int) then
 ((F98 x.2.2.2).bind fun r3 =>
 bif !r3 then
 (some (10 : Int))
 else
 (bif decide ((x.2.2.2.size : Int) > (65536 : Int)) then
 (some (3 : Int))
 else
 (some (0 : Int))))
 else
 (bif decide ((x.2.2.2.size : Int) > (65536 : Int)) then
 (some (3 : Int))
 else
 (some (0 : Int))))))))
theorem f50.eq (n : Nat) (x : dValue) : runK TT E50 n ann (tabC C50) 1 50 (argsL [(true, tValue)] x) [] (readL [(false, .int .i64)]) = f50.g n x := by
 kernel_rfl
theorem f50.codes : CodesOk Tryz.prog E50 ann (tabC C50) := tabC_ok (by intro p hp; simp only [C50, List.mem_cons, List.not_mem_nil, or_false] at hp; rcases hp with rfl <;> first | exact Tryz.func50) (by kernel_rfl)
theorem f50.ok (h : ∀ X Y, F50 X = some Y → ∃ n, f50.g n X = some Y) (e29 : ConOk Tryz.prog 29 con29) (e98 : ConOk Tryz.prog 98 con98) : ConOk Tryz.prog 50 (mkCon [(true, tValue)] [(false, .int .i64)] true F50) :=
 mkCon_ok mixed TT_ok (envC_ok e98 (envC_ok e29 env0_ok)) f50.codes (fun _ => List.all_eq_true.1 rfl) fun X Y hF => (h X Y hF).imp fun n hn => (f50.eq n X).trans hn
def con50 : Con := mkCon [(true, tValue)] [(false, .int .i64)] true F50
/-! ### vellum/vellumref01.Check -/
def E78 : FuncId → Option Con := (envC 98 con98 (envC 29 con29 env0))
noncomputable def C78 : List (FuncId × Func) := [(78, Tryz.f78)]
def f78.g (n : Nat) (x : dValue) : Option (Int) :=
 bif bif (decide (x.1 < (0 : Int))) then true else (decide (x.1 > (5 : Int))) then
 (some (10 : Int))
 else
 (bif bif (bif (bif (x.1 == (1 : Int)) then (x.2.1 != (0 : Int)) else false) then (x.2.1 != (1 : Int)) else false) then true else (bif (bif (x.1 != (1 : Int)) then (x.1 != (2 : Int)) else false) then (x.2.1 != (0 : Int)) else false) then
 (some (10 : Int))
 else
 (bif x.1 != (3 : Int) then
 ((F29 x.2.2.1).bind fun r1 =>
 bif r1 != (0 : Int) then
 (some (10 : Int))
 else
 (bif bif (bif (x.1 != (4 : Int)) then (x.1 != (5 : Int)) else false) then (!(strEq x.2.2.2 (⟨#[]⟩ : ByteArray))) else false then
 (some (10 : Int))
 else
 (bif x.1 == (4 : Int) then
 ((F98 x.2.2.2).bind fun r2 =>
 bif !r2 then
 (some (10 : Int))
 else
 (bif decide ((x.2.2.2.size : Int) > (65536 : Int)) then
 (some (3 : Int))
 else
 (some (0 : Int))))
 else
 (bif decide ((x.2.2.2.size : Int) > (65536 : Int)) then
 (some (3 : Int))
 else
 (some (0 : Int))))))
 else
 (bif bif (bif (x.1 != (4 : Int)) then (x.1 != (5 : Int)) else false) then (!(strEq x.2.2.2 (⟨#[]⟩ : ByteArray))) else false then
 (some (10 : Int))
 else
 (bif x.1 == (4 : Int) then
 ((F98 x.2.2.2).bind fun r3 =>
 bif !r3 then
 (some (10 : Int))
 else
 (bif decide ((x.2.2.2.size : Int) > (65536 : Int)) then
 (some (3 : Int))
 else
 (some (0 : Int))))
 else
 (bif decide ((x.2.2.2.size : Int) > (65536 : Int)) then
 (some (3 : Int))
 else
 (some (0 : Int)))))))
theorem f78.eq (n : Nat) (x : dValue) : runK TT E78 n ann (tabC C78) 1 78 (argsL [(true, tValue)] x) [] (readL [(false, .int .i64)]) = f78.g n x := by
 kernel_rfl
theorem f78.codes : CodesOk Tryz.prog E78 ann (tabC C78) := tabC_ok (by intro p hp; simp only [C78, List.mem_cons, List.not_mem_nil, or_false] at hp; rcases hp with rfl <;> first | exact Tryz.func78) (by kernel_rfl)
theorem f78.ok (h : ∀ X Y, F78 X = some Y → ∃ n, f78.g n X = some Y) (e29 : ConOk Tryz.prog 29 con29) (e98 : ConOk Tryz.prog 98 con98) : ConOk Tryz.prog 78 (mkCon [(true, tValue)] [(false, .int .i64)] true F78) :=
 mkCon_ok mixed TT_ok (envC_ok e98 (envC_ok e29 env0_ok)) f78.codes (fun _ => List.all_eq_true.1 rfl) fun X Y hF => (h X Y hF).imp fun n hn => (f78.eq n X).trans hn
def con78 : Con := mkCon [(true, tValue)] [(false, .int .i64)] true F78
/-! ### vellum/value.Plain -/
/-! ### vellum/vellumref01.Plain -/
/-! ### vellum/vellumref01.Same -/
def E12 : FuncId → Option Con := (envC 29 con29 env0)
noncomputable def C12 : List (FuncId × Func) := [(12, Tryz.f12)]
def f12.g (n : Nat) (x : dValue × dValue) : Option (Bool) :=
 bif bif (x.1.1 == x.2.1) then (x.1.2.1 == x.2.2.1) else false then
 ((F29 x.1.2.2.1).bind fun r1 =>
 (F29 x.2.2.2.1).bind fun r2 =>
 some (bif (r1 == r2) then (strEq x.1.2.2.2 x.2.2.2.2) else false))
 else
 (some false)
theorem f12.eq (n : Nat) (x : dValue × dValue) : runK TT E12 n ann (tabC C12) 1 12 (argsL [(true, tValue), (true, tValue)] x) [] (readL [(false, .bool)]) = f12.g n x := by
 kernel_rfl
theorem f12.codes : CodesOk Tryz.prog E12 ann (tabC C12) := tabC_ok (by intro p hp; simp only [C12, List.mem_cons, List.not_mem_nil, or_false] at hp; rcases hp with rfl <;> first | exact Tryz.func12) (by kernel_rfl)
theorem f12.ok (h : ∀ X Y, F12 X = some Y → ∃ n, f12.g n X = some Y) (e29 : ConOk Tryz.prog 29 con29) : ConOk Tryz.prog 12 (mkCon [(true, tValue), (true, tValue)] [(false, .bool)] true F12) :=
 mkCon_ok mixed TT_ok (envC_ok e29 env0_ok) f12.codes (fun _ => List.all_eq_true.1 rfl) fun X Y hF => (h X Y hF).imp fun n hn => (f12.eq n X).trans hn
def con12 : Con := mkCon [(true, tValue), (true, tValue)] [(false, .bool)] true F12
/-! ### vellum/value.mixed -/
def E149 : FuncId → Option Con := (envC 204 con204 (envC 147 con147 env0))
noncomputable def C149 : List (FuncId × Func) := [(149, Tryz.f149), (145, Tryz.f145), (190, Tryz.f190), (191, Tryz.f191), (205, Tryz.f205), (206, Tryz.f206), (215, Tryz.f215), (216, Tryz.f216)]
def f149.g (n : Nat) (x : Int × Nat) : Option (Int) :=
 bif bif (FloatKind.f64.format.order x.2 x.2 != some .eq) then true else (FloatKind.f64.format.order x.2 4890909195324358656 == some .gt || FloatKind.f64.format.order x.2 4890909195324358656 == some .eq) then
 (some (-1 : Int))
 else
 (bif FloatKind.f64.format.order x.2 14114281232179134464 == some .lt then
 (some (1 : Int))
 else
 ((F204 x.2).bind fun r1 =>
 (fToI .f64 .i64 r1).bind fun r2 =>
 (F147 (x.1, r2)).bind fun r3 =>
 bif r3 != (0 : Int) then
 (some r3)
 else
 (fltB (FloatKind.f64.format.sub x.2 r1) (fun r4 =>
 bif FloatKind.f64.format.order 0 0 != some .eq then
 (bif FloatKind.f64.format.order r4 r4 != some .eq then
 (some (0 : Int))
 else
 (some (-1 : Int)))
 else
 (bif FloatKind.f64.format.order r4 r4 != some .eq then
 (some (1 : Int))
 else
 (bif FloatKind.f64.format.order 0 r4 == some .lt then
 (some (-1 : Int))
 else
 (bif FloatKind.f64.format.order 0 r4 == some .gt then
 (some (1 : Int))
 else
 (some (0 : Int))))))
 (bif FloatKind.f64.format.order 0 0 != some .eq then
 (some (0 : Int))
 else
 (some (1 : Int))))))
theorem f149.eq (n : Nat) (x : Int × Nat) : runK TT E149 n ann (tabC C149) 10 149 (argsL [(false, .int .i64), (false, .float .f64)] x) [] (readL [(false, .int .i64)]) = f149.g n x := by
 kernel_rfl
theorem f149.codes : CodesOk Tryz.prog E149 ann (tabC C149) := tabC_ok (by intro p hp; simp only [C149, List.mem_cons, List.not_mem_nil, or_false] at hp; rcases hp with rfl | rfl | rfl | rfl | rfl | rfl | rfl | rfl <;> first | exact Tryz.func149 | exact Tryz.func145 | exact Tryz.func190 | exact Tryz.func191 | exact Tryz.func205 | exact Tryz.func206 | exact Tryz.func215 | exact Tryz.func216) (by kernel_rfl)
theorem f149.ok (h : ∀ X Y, F149 X = some Y → ∃ n, f149.g n X = some Y) (e147 : ConOk Tryz.prog 147 con147) (e204 : ConOk Tryz.prog 204 con204) : ConOk Tryz.prog 149 (mkCon [(false, .int .i64), (false, .float .f64)] [(false, .int .i64)] true F149) :=
 mkCon_ok mixed TT_ok (envC_ok e204 (envC_ok e147 env0_ok)) f149.codes (fun _ => List.all_eq_true.1 rfl) fun X Y hF => (h X Y hF).imp fun n hn => (f149.eq n X).trans hn
def con149 : Con := mkCon [(false, .int .i64), (false, .float .f64)] [(false, .int .i64)] true F149
/-! ### vellum/vellumref01.mixed -/
/-! ### vellum/value.Numbers -/
def E103 : FuncId → Option Con := (envC 149 con149 (envC 148 con148 (envC 147 con147 env0)))
noncomputable def C103 : List (FuncId × Func) := [(103, Tryz.f103)]
def f103.g (n : Nat) (x : dValue × dValue) : Option (Int × Bool) :=
 bif x.1.1 == (2 : Int) then
 (bif x.2.1 == (2 : Int) then
 ((F147 (x.1.2.1, x.2.2.1)).bind fun r1 =>
 some (r1, true))
 else
 (bif x.1.1 == (3 : Int) then
 (bif x.2.1 == (3 : Int) then
 ((F148 (x.1.2.2.1, x.2.2.2.1)).bind fun r2 =>
 some (r2, true))
 else
 (bif x.1.1 == (2 : Int) then
 (bif x.2.1 == (3 : Int) then
 ((F149 (x.1.2.1, x.2.2.2.1)).bind fun r3 =>
 some (r3, true))
 else
 (bif x.1.1 == (3 : Int) then
 (bif x.2.1 == (2 : Int) then
 ((F149 (x.2.2.1, x.1.2.2.1)).bind fun r4 =>
 some (IntKind.wrap .i64 (0 - r4), true))
 else
 (some ((0 : Int), false)))
 else
 (some ((0 : Int), false))))
 else
 (bif x.1.1 == (3 : Int) then
 (bif x.2.1 == (2 : Int) then
 ((F149 (x.2.2.1, x.1.2.2.1)).bind fun r5 =>
 some (IntKind.wrap .i64 (0 - r5), true))
 else
 (some ((0 : Int), false)))
 else
 (some ((0 : Int), false)))))
 else
 (bif x.1.1 == (2 : Int) then
 (bif x.2.1 == (3 : Int) then
 ((F149 (x.1.2.1, x.2.2.2.1)).bind fun r6 =>
 some (r6, true))
 else
 (bif x.1.1 == (3 : Int) then
 (bif x.2.1 == (2 : Int) then
 ((F149 (x.2.2.1, x.1.2.2.1)).bind fun r7 =>
 some (IntKind.wrap .i64 (0 - r7), true))
 else
 (some ((0 : Int), false)))
 else
 (some ((0 : Int), false))))
 else
 (bif x.1.1 == (3 : Int) then
 (bif x.2.1 == (2 : Int) then
 ((F149 (x.2.2.1, x.1.2.2.1)).bind fun r8 =>
 some (IntKind.wrap .i64 (0 - r8), true))
 else
 (some ((0 : Int), false)))
 else
 (some ((0 : Int), false))))))
 else
 (bif x.1.1 == (3 : Int) then
 (bif x.2.1 == (3 : Int) then
 ((F148 (x.1.2.2.1, x.2.2.2.1)).bind fun r9 =>
 some (r9, true))
 else
 (bif x.1.1 == (2 : Int) then
 (bif x.2.1 == (3 : Int) then
 ((F149 (x.1.2.1, x.2.2.2.1)).bind fun r10 =>
 some (r10, true))
 else
 (bif x.1.1 == (3 : Int) then
 (bif x.2.1 == (2 : Int) then
 ((F149 (x.2.2.1, x.1.2.2.1)).bind fun r11 =>
 some (IntKind.wrap .i64 (0 - r11), true))
 else
 (some ((0 : Int), false)))
 else
 (some ((0 : Int), false))))
 else
 (bif x.1.1 == (3 : Int) then
 (bif x.2.1 == (2 : Int) then
 ((F149 (x.2.2.1, x.1.2.2.1)).bind fun r12 =>
 some (IntKind.wrap .i64 (0 - r12), true))
 else
 (some ((0 : Int), false)))
 else
 (some ((0 : Int), false)))))
 else
 (bif x.1.1 == (2 : Int) then
 (bif x.2.1 == (3 : Int) then
 ((F149 (x.1.2.1, x.2.2.2.1)).bind fun r13 =>
 some (r13, true))
 else
 (bif x.1.1 == (3 : Int) then
 (bif x.2.1 == (2 : Int) then
 ((F149 (x.2.2.1, x.1.2.2.1)).bind fun r14 =>
 some (IntKind.wrap .i64 (0 - r14), true))
 else
 (some ((0 : Int), false)))
 else
 (some ((0 : Int), false))))
 else
 (bif x.1.1 == (3 : Int) then
 (bif x.2.1 == (2 : Int) then
 ((F149 (x.2.2.1, x.1.2.2.1)).bind fun r15 =>
 some (IntKind.wrap .i64 (0 - r15), true))
 else
 (some ((0 : Int), false)))
 else
 (some ((0 : Int), false)))))
theorem f103.eq (n : Nat) (x : dValue × dValue) : runK TT E103 n ann (tabC C103) 1 103 (argsL [(true, tValue), (true, tValue)] x) [] (readL [(false, .int .i64), (false, .bool)]) = f103.g n x := by
 kernel_rfl
theorem f103.codes : CodesOk Tryz.prog E103 ann (tabC C103) := tabC_ok (by intro p hp; simp only [C103, List.mem_cons, List.not_mem_nil, or_false] at hp; rcases hp with rfl <;> first | exact Tryz.func103) (by kernel_rfl)
theorem f103.ok (h : ∀ X Y, F103 X = some Y → ∃ n, f103.g n X = some Y) (e147 : ConOk Tryz.prog 147 con147) (e148 : ConOk Tryz.prog 148 con148) (e149 : ConOk Tryz.prog 149 con149) : ConOk Tryz.prog 103 (mkCon [(true, tValue), (true, tValue)] [(false, .int .i64), (false, .bool)] true F103) :=
 mkCon_ok mixed TT_ok (envC_ok e149 (envC_ok e148 (envC_ok e147 env0_ok))) f103.codes (fun _ => List.all_eq_true.1 rfl) fun X Y hF => (h X Y hF).imp fun n hn => (f103.eq n X).trans hn
def con103 : Con := mkCon [(true, tValue), (true, tValue)] [(false, .int .i64), (false, .bool)] true F103
/-! ### vellum/vellumref01.Numbers -/
/-! ### vellum/schema.word -/
def E115 : FuncId → Option Con := (envC 171 con171 env0)
noncomputable def C115 : List (FuncId × Func) := [(115, Tryz.f115)]
def f115.g (n : Nat) (x : ByteArray) : Option (Bool) :=
 bif decide ((⟨#[32]⟩ : ByteArray).size + x.size ≤ boundS) then
 (bif decide (((⟨#[32]⟩ : ByteArray) ++ x).size + (⟨#[32]⟩ : ByteArray).size ≤ boundS) then
 ((F171 ((⟨#[32, 97, 110, 100, 32, 98, 111, 111, 108, 32, 98, 121, 116, 101, 115, 32, 99, 114, 101, 97, 116, 101, 32, 100, 101, 102, 97, 117, 108, 116, 32, 102, 97, 108, 115, 101, 32, 102, 108, 111, 97, 116, 32, 102, 111, 114, 101, 105, 103, 110, 32, 105, 110, 32, 105, 110, 100, 101, 120, 32, 105, 110, 116, 32, 105, 115, 32, 107, 101, 121, 32, 110, 111, 116, 32, 110, 117, 108, 108, 32, 111, 114, 32, 112, 114, 105, 109, 97, 114, 121, 32, 114, 101, 102, 101, 114, 101, 110, 99, 101, 115, 32, 116, 97, 98, 108, 101, 32, 116, 101, 120, 116, 32, 116, 114, 117, 101, 32, 117, 110, 105, 113, 117, 101, 32, 97, 98, 111, 114, 116, 32, 97, 115, 32, 97, 115, 99, 32, 97, 116, 32, 97, 118, 103, 32, 98, 101, 103, 105, 110, 32, 98, 101, 116, 119, 101, 101, 110, 32, 98, 121, 32, 99, 111, 109, 109, 105, 116, 32, 99, 111, 117, 110, 116, 32, 100, 101, 108, 101, 116, 101, 32, 100, 101, 115, 99, 32, 100, 114, 111, 112, 32, 102, 114, 111, 109, 32, 103, 114, 111, 117, 112, 32, 105, 110, 115, 101, 114, 116, 32, 105, 110, 116, 111, 32, 108, 105, 109, 105, 116, 32, 109, 97, 120, 32, 109, 105, 110, 32, 111, 102, 32, 111, 114, 100, 101, 114, 32, 114, 101, 108, 101, 97, 115, 101, 32, 114, 111, 108, 108, 98, 97, 99, 107, 32, 115, 97, 118, 101, 112, 111, 105, 110, 116, 32, 115, 101, 108, 101, 99, 116, 32, 115, 101, 116, 32, 115, 117, 109, 32, 116, 111, 32, 117, 112, 100, 97, 116, 101, 32, 118, 97, 108, 117, 101, 115, 32, 119, 104, 101, 114, 101, 32, 119, 105, 116, 104, 32]⟩ : ByteArray), ((⟨#[32]⟩ : ByteArray) ++ x) ++ (⟨#[32]⟩ : ByteArray))).bind fun r1 =>
 some r1)
 else
 (none))
 else
 (none)
theorem f115.eq (n : Nat) (x : ByteArray) : runK TT E115 n ann (tabC C115) 1 115 (argsL [(false, .str)] x) [] (readL [(false, .bool)]) = f115.g n x := by
 kernel_rfl
theorem f115.codes : CodesOk Tryz.prog E115 ann (tabC C115) := tabC_ok (by intro p hp; simp only [C115, List.mem_cons, List.not_mem_nil, or_false] at hp; rcases hp with rfl <;> first | exact Tryz.func115) (by kernel_rfl)
theorem f115.ok (h : ∀ X Y, F115 X = some Y → ∃ n, f115.g n X = some Y) (e171 : ConOk Tryz.prog 171 con171) : ConOk Tryz.prog 115 (mkCon [(false, .str)] [(false, .bool)] true F115) :=
 mkCon_ok mixed TT_ok (envC_ok e171 env0_ok) f115.codes (fun _ => List.all_eq_true.1 rfl) fun X Y hF => (h X Y hF).imp fun n hn => (f115.eq n X).trans hn
def con115 : Con := mkCon [(false, .str)] [(false, .bool)] true F115
/-! ### vellum/schema.Name -/
def E62 : FuncId → Option Con := (envC 115 con115 env0)
noncomputable def C62 : List (FuncId × Func) := [(62, Tryz.f62), (114, Tryz.f114), (116, Tryz.f116)]
def f62.h1 (x : ByteArray) (r1 : Bool) (y2 : Int) : List AV × List Ob := ([.val false [.sc .str x], .undef, .undef, .undef, .undef, .undef, .undef, .undef, .undef, .undef, .undef, .undef, .undef, .undef, .undef, .undef, .undef, .undef, .undef, .undef, .undef, .undef, .val false [.sc (.int .i64) (x.size : Int)], .val false [.sc (.int .i64) y2]] ++ List.replicate 15 .undef, [])
def f62.L1 (n : Nat) (x : ByteArray) (r1 : Bool) (m2 : Nat) (y2 : Int) : Option (Bool) :=
 loopN (ann 62 4).keep 0 (fun fr H k => execK TT 0 E62 (inlD TT E62 n ann (tabC C62) 3) n (ann 62) (subC [1, 1, 0, 1, 0, 0] (bodyOf Tryz.f62)) fr H k) m2 (f62.h1 x r1 y2).1 (f62.h1 x r1 y2).2 (kont TT 0 E62 (inlD TT E62 n ann (tabC C62) 3) n (ann 62) [1, 1, 0, 1, 0] (bodyOf Tryz.f62) (endK TT Tryz.f62 (readL [(false, .bool)])))
def f62.s1 (n : Nat) (x : ByteArray) (r1 : Bool) (S2 : Int → Option (Bool)) (y2 : Int) : Option (Bool) :=
 bif decide (y2 < (x.size : Int)) then
 (bif decide (0 ≤ y2) && decide (y2 < (x.size : Int)) then
 (bif !(bif (byteAt x y2 == (95 : Int)) then true else (bif (decide (byteAt x y2 ≥ (97 : Int))) then (decide (byteAt x y2 ≤ (122 : Int))) else false)) then
 (bif decide (0 ≤ y2) && decide (y2 < (x.size : Int)) then
 (bif !(bif (decide (byteAt x y2 ≥ (48 : Int))) then (decide (byteAt x y2 ≤ (57 : Int))) else false) then
 (some false)
 else
 (S2 (IntKind.wrap .i64 (y2 + (1 : Int)))))
 else
 (none))
 else
 (S2 (IntKind.wrap .i64 (y2 + (1 : Int)))))
 else
 (none))
 else
 (some true)
theorem f62.k1 (n : Nat) (x : ByteArray) (r1 : Bool) (m : Nat) (y : Int) : f62.L1 n x r1 (m + 1) y = f62.s1 n x r1 (f62.L1 n x r1 m) y := by kernel_rfl
theorem f62.l1 (n : Nat) (x : ByteArray) (r1 : Bool) : ∀ (m : Nat) (y2 : Int), f62.L1 n x r1 m y2 = iter (f62.s1 n x r1) m y2 :=
 loop_of (L := f62.L1 n x r1) (step := f62.s1 n x r1) (fun _ => rfl) (f62.k1 n x r1)
def f62.g (n : Nat) (x : ByteArray) : Option (Bool) :=
 bif bif (strEq x (⟨#[]⟩ : ByteArray)) then true else (decide ((x.size : Int) > (63 : Int))) then
 (some false)
 else
 (bif decide (0 ≤ (0 : Int)) && decide ((0 : Int) < (x.size : Int)) then
 (bif !(bif (byteAt x (0 : Int) == (95 : Int)) then true else (bif (decide (byteAt x (0 : Int) ≥ (97 : Int))) then (decide (byteAt x (0 : Int) ≤ (122 : Int))) else false)) then
 (some false)
 else
 ((F115 x).bind fun r1 =>
 bif r1 then
 (some false)
 else
 (iter (f62.s1 n x r1) n (0 : Int))))
 else
 (none))
def f62.q (n : Nat) (x : ByteArray) : Option (Bool) :=
 bif bif (strEq x (⟨#[]⟩ : ByteArray)) then true else (decide ((x.size : Int) > (63 : Int))) then
 (some false)
 else
 (bif decide (0 ≤ (0 : Int)) && decide ((0 : Int) < (x.size : Int)) then
 (bif !(bif (byteAt x (0 : Int) == (95 : Int)) then true else (bif (decide (byteAt x (0 : Int) ≥ (97 : Int))) then (decide (byteAt x (0 : Int) ≤ (122 : Int))) else false)) then
 (some false)
 else
 ((F115 x).bind fun r1 =>
 bif r1 then
 (some false)
 else
 (f62.L1 n x r1 n (0 : Int))))
 else
 (none))
theorem f62.eq (n : Nat) (x : ByteArray) : runK TT E62 n ann (tabC C62) 3 62 (argsL [(false, .str)] x) [] (readL [(false, .bool)]) = f62.g n x := by
 have h : runK TT E62 n ann (tabC C62) 3 62 (argsL [(false, .str)] x) [] (readL [(false, .bool)]) = f62.q n x := by kernel_rfl
 rw [h]
 simp only [f62.q, f62.g, f62.l1]
theorem f62.codes : CodesOk Tryz.prog E62 ann (tabC C62) := tabC_ok (by intro p hp; simp only [C62, List.mem_cons, List.not_mem_nil, or_false] at hp; rcases hp with rfl | rfl | rfl <;> first | exact Tryz.func62 | exact Tryz.func114 | exact Tryz.func116) (by kernel_rfl)
theorem f62.ok (h : ∀ X Y, F62 X = some Y → ∃ n, f62.g n X = some Y) (e115 : ConOk Tryz.prog 115 con115) : ConOk Tryz.prog 62 (mkCon [(false, .str)] [(false, .bool)] true F62) :=
 mkCon_ok mixed TT_ok (envC_ok e115 env0_ok) f62.codes (fun _ => List.all_eq_true.1 rfl) fun X Y hF => (h X Y hF).imp fun n hn => (f62.eq n X).trans hn
def con62 : Con := mkCon [(false, .str)] [(false, .bool)] true F62
/-! ### vellum/vellumref03.in -/
def E123 : FuncId → Option Con := env0
noncomputable def C123 : List (FuncId × Func) := [(123, Tryz.f123)]
def f123.h1 (x : (List ByteArray) × ByteArray) (y1 : Int) : List AV × List Ob := ([.val false [.sc (.sl .str) x.1], .val false [.sc .str x.2], .undef, .undef, .undef, .val false [.sc (.int .i64) y1]] ++ List.replicate 12 .undef, [])
def f123.L1 (n : Nat) (x : (List ByteArray) × ByteArray) (m1 : Nat) (y1 : Int) : Option (Bool) :=
 loopN (ann 123 2).keep 0 (fun fr H k => execK TT 0 E123 (inlD TT E123 n ann (tabC C123) 1) n (ann 123) (subC [1, 0, 1, 0, 0] (bodyOf Tryz.f123)) fr H k) m1 (f123.h1 x y1).1 (f123.h1 x y1).2 (kont TT 0 E123 (inlD TT E123 n ann (tabC C123) 1) n (ann 123) [1, 0, 1, 0] (bodyOf Tryz.f123) (endK TT Tryz.f123 (readL [(false, .bool)])))
def f123.s1 (n : Nat) (x : (List ByteArray) × ByteArray) (S1 : Int → Option (Bool)) (y1 : Int) : Option (Bool) :=
 bif decide (y1 < (x.1.length : Int)) then
 (bif decide (0 ≤ y1) && decide (y1 < (x.1.length : Int)) then
 (bif strEq (x.1.getD y1.toNat (Ty.dflt .str)) x.2 then
 (some true)
 else
 (S1 (IntKind.wrap .i64 (y1 + (1 : Int)))))
 else
 (none))
 else
 (some false)
theorem f123.k1 (n : Nat) (x : (List ByteArray) × ByteArray) (m : Nat) (y : Int) : f123.L1 n x (m + 1) y = f123.s1 n x (f123.L1 n x m) y := by kernel_rfl
theorem f123.l1 (n : Nat) (x : (List ByteArray) × ByteArray) : ∀ (m : Nat) (y1 : Int), f123.L1 n x m y1 = iter (f123.s1 n x) m y1 :=
 loop_of (L := f123.L1 n x) (step := f123.s1 n x) (fun _ => rfl) (f123.k1 n x)
def f123.g (n : Nat) (x : (List ByteArray) × ByteArray) : Option (Bool) :=
 iter (f123.s1 n x) n (0 : Int)
def f123.q (n : Nat) (x : (List ByteArray) × ByteArray) : Option (Bool) :=
 f123.L1 n x n (0 : Int)
theorem f123.eq (n : Nat) (x : (List ByteArray) × ByteArray) : runK TT E123 n ann (tabC C123) 1 123 (argsL [(false, .sl .str), (false, .str)] x) [] (readL [(false, .bool)]) = f123.g n x := by
 have h : runK TT E123 n ann (tabC C123) 1 123 (argsL [(false, .sl .str), (false, .str)] x) [] (readL [(false, .bool)]) = f123.q n x := by kernel_rfl
 rw [h]
 simp only [f123.q, f123.g, f123.l1]
theorem f123.codes : CodesOk Tryz.prog E123 ann (tabC C123) := tabC_ok (by intro p hp; simp only [C123, List.mem_cons, List.not_mem_nil, or_false] at hp; rcases hp with rfl <;> first | exact Tryz.func123) (by kernel_rfl)
theorem f123.ok (h : ∀ X Y, F123 X = some Y → ∃ n, f123.g n X = some Y)  : ConOk Tryz.prog 123 (mkCon [(false, .sl .str), (false, .str)] [(false, .bool)] true F123) :=
 mkCon_ok mixed TT_ok env0_ok f123.codes (fun _ => List.all_eq_true.1 rfl) fun X Y hF => (h X Y hF).imp fun n hn => (f123.eq n X).trans hn
def con123 : Con := mkCon [(false, .sl .str), (false, .str)] [(false, .bool)] true F123
/-! ### vellum/vellumref03.words -/
def E124 : FuncId → Option Con := env0
noncomputable def C124 : List (FuncId × Func) := [(124, Tryz.f124)]
def f124.g (n : Nat) (x : Unit) : Option ((List ByteArray)) :=
 some (List.take 55 ([(⟨#[97, 110, 100]⟩ : ByteArray), (⟨#[98, 111, 111, 108]⟩ : ByteArray), (⟨#[98, 121, 116, 101, 115]⟩ : ByteArray), (⟨#[99, 114, 101, 97, 116, 101]⟩ : ByteArray), (⟨#[100, 101, 102, 97, 117, 108, 116]⟩ : ByteArray), (⟨#[102, 97, 108, 115, 101]⟩ : ByteArray), (⟨#[102, 108, 111, 97, 116]⟩ : ByteArray), (⟨#[102, 111, 114, 101, 105, 103, 110]⟩ : ByteArray), (⟨#[105, 110]⟩ : ByteArray), (⟨#[105, 110, 100, 101, 120]⟩ : ByteArray), (⟨#[105, 110, 116]⟩ : ByteArray), (⟨#[105, 115]⟩ : ByteArray), (⟨#[107, 101, 121]⟩ : ByteArray), (⟨#[110, 111, 116]⟩ : ByteArray), (⟨#[110, 117, 108, 108]⟩ : ByteArray), (⟨#[111, 114]⟩ : ByteArray), (⟨#[112, 114, 105, 109, 97, 114, 121]⟩ : ByteArray), (⟨#[114, 101, 102, 101, 114, 101, 110, 99, 101, 115]⟩ : ByteArray), (⟨#[116, 97, 98, 108, 101]⟩ : ByteArray), (⟨#[116, 101, 120, 116]⟩ : ByteArray), (⟨#[116, 114, 117, 101]⟩ : ByteArray), (⟨#[117, 110, 105, 113, 117, 101]⟩ : ByteArray), (⟨#[97, 98, 111, 114, 116]⟩ : ByteArray), (⟨#[97, 115]⟩ : ByteArray), (⟨#[97, 115, 99]⟩ : ByteArray), (⟨#[97, 116]⟩ : ByteArray), (⟨#[97, 118, 103]⟩ : ByteArray), (⟨#[98, 101, 103, 105, 110]⟩ : ByteArray), (⟨#[98, 101, 116, 119, 101, 101, 110]⟩ : ByteArray), (⟨#[98, 121]⟩ : ByteArray), (⟨#[99, 111, 109, 109, 105, 116]⟩ : ByteArray), (⟨#[99, 111, 117, 110, 116]⟩ : ByteArray), (⟨#[100, 101, 108, 101, 116, 101]⟩ : ByteArray), (⟨#[100, 101, 115, 99]⟩ : ByteArray), (⟨#[100, 114, 111, 112]⟩ : ByteArray), (⟨#[102, 114, 111, 109]⟩ : ByteArray), (⟨#[103, 114, 111, 117, 112]⟩ : ByteArray), (⟨#[105, 110, 115, 101, 114, 116]⟩ : ByteArray), (⟨#[105, 110, 116, 111]⟩ : ByteArray), (⟨#[108, 105, 109, 105, 116]⟩ : ByteArray), (⟨#[109, 97, 120]⟩ : ByteArray), (⟨#[109, 105, 110]⟩ : ByteArray), (⟨#[111, 102]⟩ : ByteArray), (⟨#[111, 114, 100, 101, 114]⟩ : ByteArray), (⟨#[114, 101, 108, 101, 97, 115, 101]⟩ : ByteArray), (⟨#[114, 111, 108, 108, 98, 97, 99, 107]⟩ : ByteArray), (⟨#[115, 97, 118, 101, 112, 111, 105, 110, 116]⟩ : ByteArray), (⟨#[115, 101, 108, 101, 99, 116]⟩ : ByteArray), (⟨#[115, 101, 116]⟩ : ByteArray), (⟨#[115, 117, 109]⟩ : ByteArray), (⟨#[116, 111]⟩ : ByteArray), (⟨#[117, 112, 100, 97, 116, 101]⟩ : ByteArray), (⟨#[118, 97, 108, 117, 101, 115]⟩ : ByteArray), (⟨#[119, 104, 101, 114, 101]⟩ : ByteArray), (⟨#[119, 105, 116, 104]⟩ : ByteArray)]))
theorem f124.eq (n : Nat) (x : Unit) : runK TT E124 n ann (tabC C124) 1 124 (argsL [] x) [] (readL [(false, .sl .str)]) = f124.g n x := by
 kernel_rfl
theorem f124.codes : CodesOk Tryz.prog E124 ann (tabC C124) := tabC_ok (by intro p hp; simp only [C124, List.mem_cons, List.not_mem_nil, or_false] at hp; rcases hp with rfl <;> first | exact Tryz.func124) (by kernel_rfl)
theorem f124.ok (h : ∀ X Y, F124 X = some Y → ∃ n, f124.g n X = some Y)  : ConOk Tryz.prog 124 (mkCon [] [(false, .sl .str)] false F124) :=
 mkCon_ok mixed TT_ok env0_ok f124.codes (fun h => by cases h) fun X Y hF => (h X Y hF).imp fun n hn => (f124.eq n X).trans hn
def con124 : Con := mkCon [] [(false, .sl .str)] false F124
/-! ### vellum/vellumref03.Name -/
def E74 : FuncId → Option Con := (envC 124 con124 (envC 123 con123 env0))
noncomputable def C74 : List (FuncId × Func) := [(74, Tryz.f74), (122, Tryz.f122), (125, Tryz.f125)]
def f74.h1 (x : ByteArray) (r1 : (List ByteArray)) (r2 : Bool) (y3 : Int) : List AV × List Ob := ([.val false [.sc .str x], .undef, .undef, .val false [.sc (.int .i64) y3]] ++ List.replicate 37 .undef, [])
def f74.L1 (n : Nat) (x : ByteArray) (r1 : (List ByteArray)) (r2 : Bool) (m3 : Nat) (y3 : Int) : Option (Bool) :=
 loopN (ann 74 4).keep 0 (fun fr H k => execK TT 0 E74 (inlD TT E74 n ann (tabC C74) 3) n (ann 74) (subC [1, 1, 0, 1, 0, 0] (bodyOf Tryz.f74)) fr H k) m3 (f74.h1 x r1 r2 y3).1 (f74.h1 x r1 r2 y3).2 (kont TT 0 E74 (inlD TT E74 n ann (tabC C74) 3) n (ann 74) [1, 1, 0, 1, 0] (bodyOf Tryz.f74) (endK TT Tryz.f74 (readL [(false, .bool)])))
def f74.s1 (n : Nat) (x : ByteArray) (r1 : (List ByteArray)) (r2 : Bool) (S3 : Int → Option (Bool)) (y3 : Int) : Option (Bool) :=
 bif decide (y3 < (x.size : Int)) then
 (bif decide (0 ≤ y3) && decide (y3 < (x.size : Int)) then
 (bif !(bif (bif (decide (byteAt x y3 ≥ (97 : Int))) then (decide (byteAt x y3 ≤ (122 : Int))) else false) then true else (byteAt x y3 == (95 : Int))) then
 (bif decide (0 ≤ y3) && decide (y3 < (x.size : Int)) then
 (bif !(bif (decide (byteAt x y3 ≥ (48 : Int))) then (decide (byteAt x y3 ≤ (57 : Int))) else false) then
 (some false)
 else
 (S3 (IntKind.wrap .i64 (y3 + (1 : Int)))))
 else
 (none))
 else
 (S3 (IntKind.wrap .i64 (y3 + (1 : Int)))))
 else
 (none))
 else
 (some true)
theorem f74.k1 (n : Nat) (x : ByteArray) (r1 : (List ByteArray)) (r2 : Bool) (m : Nat) (y : Int) : f74.L1 n x r1 r2 (m + 1) y = f74.s1 n x r1 r2 (f74.L1 n x r1 r2 m) y := by kernel_rfl
theorem f74.l1 (n : Nat) (x : ByteArray) (r1 : (List ByteArray)) (r2 : Bool) : ∀ (m : Nat) (y3 : Int), f74.L1 n x r1 r2 m y3 = iter (f74.s1 n x r1 r2) m y3 :=
 loop_of (L := f74.L1 n x r1 r2) (step := f74.s1 n x r1 r2) (fun _ => rfl) (f74.k1 n x r1 r2)
def f74.g (n : Nat) (x : ByteArray) : Option (Bool) :=
 bif bif (decide ((x.size : Int) < (1 : Int))) then true else (decide ((x.size : Int) > (63 : Int))) then
 (some false)
 else
 (bif decide (0 ≤ (0 : Int)) && decide ((0 : Int) < (x.size : Int)) then
 (bif !(bif (bif (decide (byteAt x (0 : Int) ≥ (97 : Int))) then (decide (byteAt x (0 : Int) ≤ (122 : Int))) else false) then true else (byteAt x (0 : Int) == (95 : Int))) then
 (some false)
 else
 ((F124 ()).bind fun r1 =>
 (F123 (r1, x)).bind fun r2 =>
 bif r2 then
 (some false)
 else
 (iter (f74.s1 n x r1 r2) n (0 : Int))))
 else
 (none))
def f74.q (n : Nat) (x : ByteArray) : Option (Bool) :=
 bif bif (decide ((x.size : Int) < (1 : Int))) then true else (decide ((x.size : Int) > (63 : Int))) then
 (some false)
 else
 (bif decide (0 ≤ (0 : Int)) && decide ((0 : Int) < (x.size : Int)) then
 (bif !(bif (bif (decide (byteAt x (0 : Int) ≥ (97 : Int))) then (decide (byteAt x (0 : Int) ≤ (122 : Int))) else false) then true else (byteAt x (0 : Int) == (95 : Int))) then
 (some false)
 else
 ((F124 ()).bind fun r1 =>
 (F123 (r1, x)).bind fun r2 =>
 bif r2 then
 (some false)
 else
 (f74.L1 n x r1 r2 n (0 : Int))))
 else
 (none))
theorem f74.eq (n : Nat) (x : ByteArray) : runK TT E74 n ann (tabC C74) 3 74 (argsL [(false, .str)] x) [] (readL [(false, .bool)]) = f74.g n x := by
 have h : runK TT E74 n ann (tabC C74) 3 74 (argsL [(false, .str)] x) [] (readL [(false, .bool)]) = f74.q n x := by kernel_rfl
 rw [h]
 simp only [f74.q, f74.g, f74.l1]
theorem f74.codes : CodesOk Tryz.prog E74 ann (tabC C74) := tabC_ok (by intro p hp; simp only [C74, List.mem_cons, List.not_mem_nil, or_false] at hp; rcases hp with rfl | rfl | rfl <;> first | exact Tryz.func74 | exact Tryz.func122 | exact Tryz.func125) (by kernel_rfl)
theorem f74.ok (h : ∀ X Y, F74 X = some Y → ∃ n, f74.g n X = some Y) (e123 : ConOk Tryz.prog 123 con123) (e124 : ConOk Tryz.prog 124 con124) : ConOk Tryz.prog 74 (mkCon [(false, .str)] [(false, .bool)] true F74) :=
 mkCon_ok mixed TT_ok (envC_ok e124 (envC_ok e123 env0_ok)) f74.codes (fun _ => List.all_eq_true.1 rfl) fun X Y hF => (h X Y hF).imp fun n hn => (f74.eq n X).trans hn
def con74 : Con := mkCon [(false, .str)] [(false, .bool)] true F74
/-! ### slices.Index[[]int,int] -/
def E173 : FuncId → Option Con := env0
noncomputable def C173 : List (FuncId × Func) := [(173, Tryz.f173)]
def f173.h1 (x : (List Int) × Int) (y1 : Int) : List AV × List Ob := ([.val false [.sc (.sl (.int .i64)) x.1], .val false [.sc (.int .i64) x.2], .undef, .undef, .undef, .undef, .undef, .val false [.sc (.int .i64) (x.1.length : Int)], .val false [.sc (.int .i64) y1]] ++ List.replicate 10 .undef, [])
def f173.L1 (n : Nat) (x : (List Int) × Int) (m1 : Nat) (y1 : Int) : Option (Int) :=
 loopN (ann 173 2).keep 0 (fun fr H k => execK TT 0 E173 (inlD TT E173 n ann (tabC C173) 1) n (ann 173) (subC [1, 0, 1, 0, 0] (bodyOf Tryz.f173)) fr H k) m1 (f173.h1 x y1).1 (f173.h1 x y1).2 (kont TT 0 E173 (inlD TT E173 n ann (tabC C173) 1) n (ann 173) [1, 0, 1, 0] (bodyOf Tryz.f173) (endK TT Tryz.f173 (readL [(false, .int .i64)])))
def f173.s1 (n : Nat) (x : (List Int) × Int) (S1 : Int → Option (Int)) (y1 : Int) : Option (Int) :=
 bif decide (y1 < (x.1.length : Int)) then
 (bif decide (0 ≤ y1) && decide (y1 < (x.1.length : Int)) then
 (bif x.2 == x.1.getD y1.toNat (Ty.dflt (.int .i64)) then
 (some y1)
 else
 (S1 (IntKind.wrap .i64 (y1 + (1 : Int)))))
 else
 (none))
 else
 (some (-1 : Int))
theorem f173.k1 (n : Nat) (x : (List Int) × Int) (m : Nat) (y : Int) : f173.L1 n x (m + 1) y = f173.s1 n x (f173.L1 n x m) y := by kernel_rfl
theorem f173.l1 (n : Nat) (x : (List Int) × Int) : ∀ (m : Nat) (y1 : Int), f173.L1 n x m y1 = iter (f173.s1 n x) m y1 :=
 loop_of (L := f173.L1 n x) (step := f173.s1 n x) (fun _ => rfl) (f173.k1 n x)
def f173.g (n : Nat) (x : (List Int) × Int) : Option (Int) :=
 iter (f173.s1 n x) n (0 : Int)
def f173.q (n : Nat) (x : (List Int) × Int) : Option (Int) :=
 f173.L1 n x n (0 : Int)
theorem f173.eq (n : Nat) (x : (List Int) × Int) : runK TT E173 n ann (tabC C173) 1 173 (argsL [(false, .sl (.int .i64)), (false, .int .i64)] x) [] (readL [(false, .int .i64)]) = f173.g n x := by
 have h : runK TT E173 n ann (tabC C173) 1 173 (argsL [(false, .sl (.int .i64)), (false, .int .i64)] x) [] (readL [(false, .int .i64)]) = f173.q n x := by kernel_rfl
 rw [h]
 simp only [f173.q, f173.g, f173.l1]
theorem f173.codes : CodesOk Tryz.prog E173 ann (tabC C173) := tabC_ok (by intro p hp; simp only [C173, List.mem_cons, List.not_mem_nil, or_false] at hp; rcases hp with rfl <;> first | exact Tryz.func173) (by kernel_rfl)
theorem f173.ok (h : ∀ X Y, F173 X = some Y → ∃ n, f173.g n X = some Y)  : ConOk Tryz.prog 173 (mkCon [(false, .sl (.int .i64)), (false, .int .i64)] [(false, .int .i64)] true F173) :=
 mkCon_ok mixed TT_ok env0_ok f173.codes (fun _ => List.all_eq_true.1 rfl) fun X Y hF => (h X Y hF).imp fun n hn => (f173.eq n X).trans hn
def con173 : Con := mkCon [(false, .sl (.int .i64)), (false, .int .i64)] [(false, .int .i64)] true F173
/-! ### slices.Contains[[]int,int] -/
def E119 : FuncId → Option Con := (envC 173 con173 env0)
noncomputable def C119 : List (FuncId × Func) := [(119, Tryz.f119)]
def f119.g (n : Nat) (x : (List Int) × Int) : Option (Bool) :=
 (F173 x).bind fun r1 =>
 some (decide (r1 ≥ (0 : Int)))
theorem f119.eq (n : Nat) (x : (List Int) × Int) : runK TT E119 n ann (tabC C119) 1 119 (argsL [(false, .sl (.int .i64)), (false, .int .i64)] x) [] (readL [(false, .bool)]) = f119.g n x := by
 kernel_rfl
theorem f119.codes : CodesOk Tryz.prog E119 ann (tabC C119) := tabC_ok (by intro p hp; simp only [C119, List.mem_cons, List.not_mem_nil, or_false] at hp; rcases hp with rfl <;> first | exact Tryz.func119) (by kernel_rfl)
theorem f119.ok (h : ∀ X Y, F119 X = some Y → ∃ n, f119.g n X = some Y) (e173 : ConOk Tryz.prog 173 con173) : ConOk Tryz.prog 119 (mkCon [(false, .sl (.int .i64)), (false, .int .i64)] [(false, .bool)] true F119) :=
 mkCon_ok mixed TT_ok (envC_ok e173 env0_ok) f119.codes (fun _ => List.all_eq_true.1 rfl) fun X Y hF => (h X Y hF).imp fun n hn => (f119.eq n X).trans hn
def con119 : Con := mkCon [(false, .sl (.int .i64)), (false, .int .i64)] [(false, .bool)] true F119
/-! ### vellum/schema.columnsOf -/
def E64 : FuncId → Option Con := (envC 119 con119 env0)
noncomputable def C64 : List (FuncId × Func) := [(64, Tryz.f64)]
def f64.h1 (x : dTable × (List Int)) (y1 : Int) : List AV × List Ob := ([.undef, .val false [.sc (.sl (.int .i64)) x.2], .val false [.ptr 0 0], .undef, .undef, .undef, .undef, .undef, .undef, .undef, .undef, .undef, .undef, .undef, .undef, .val false [.sc (.sl (.int .i64)) x.2], .val false [.sc (.int .i64) (x.2.length : Int)], .val false [.sc (.int .i64) y1]] ++ List.replicate 21 .undef, [.box [.sc .str x.1.1, .sc (.sl tColumn) x.1.2.1, .sc (.sl (.int .i64)) x.1.2.2.1, .sc (.sl tIndex) x.1.2.2.2.1, .sc (.sl tRef) x.1.2.2.2.2]])
def f64.L1 (n : Nat) (x : dTable × (List Int)) (m1 : Nat) (y1 : Int) : Option (Bool) :=
 loopN (ann 64 4).keep 1 (fun fr H k => execK TT 0 E64 (inlD TT E64 n ann (tabC C64) 1) n (ann 64) (subC [1, 1, 0, 1, 0, 0] (bodyOf Tryz.f64)) fr H k) m1 (f64.h1 x y1).1 (f64.h1 x y1).2 (kont TT 0 E64 (inlD TT E64 n ann (tabC C64) 1) n (ann 64) [1, 1, 0, 1, 0] (bodyOf Tryz.f64) (endK TT Tryz.f64 (readL [(false, .bool)])))
def f64.s1 (n : Nat) (x : dTable × (List Int)) (S1 : Int → Option (Bool)) (y1 : Int) : Option (Bool) :=
 bif decide (y1 < (x.2.length : Int)) then
 (bif decide (0 ≤ y1) && decide (y1 < (x.2.length : Int)) then
 (bif bif (decide (x.2.getD y1.toNat (Ty.dflt (.int .i64)) < (0 : Int))) then true else (decide (x.2.getD y1.toNat (Ty.dflt (.int .i64)) ≥ (x.1.2.1.length : Int))) then
 (some false)
 else
 (bif decide (0 ≤ y1) && decide (y1 ≤ (x.2.length : Int)) then
 ((F119 (List.take y1.toNat x.2, x.2.getD y1.toNat (Ty.dflt (.int .i64)))).bind fun r2 =>
 bif r2 then
 (some false)
 else
 (S1 (IntKind.wrap .i64 (y1 + (1 : Int)))))
 else
 (none)))
 else
 (none))
 else
 (some true)
theorem f64.k1 (n : Nat) (x : dTable × (List Int)) (m : Nat) (y : Int) : f64.L1 n x (m + 1) y = f64.s1 n x (f64.L1 n x m) y := by kernel_rfl
theorem f64.l1 (n : Nat) (x : dTable × (List Int)) : ∀ (m : Nat) (y1 : Int), f64.L1 n x m y1 = iter (f64.s1 n x) m y1 :=
 loop_of (L := f64.L1 n x) (step := f64.s1 n x) (fun _ => rfl) (f64.k1 n x)
def f64.g (n : Nat) (x : dTable × (List Int)) : Option (Bool) :=
 bif bif (decide ((x.2.length : Int) < (1 : Int))) then true else (decide ((x.2.length : Int) > (64 : Int))) then
 (some false)
 else
 (iter (f64.s1 n x) n (0 : Int))
def f64.q (n : Nat) (x : dTable × (List Int)) : Option (Bool) :=
 bif bif (decide ((x.2.length : Int) < (1 : Int))) then true else (decide ((x.2.length : Int) > (64 : Int))) then
 (some false)
 else
 (f64.L1 n x n (0 : Int))
theorem f64.eq (n : Nat) (x : dTable × (List Int)) : runK TT E64 n ann (tabC C64) 1 64 (argsL [(true, tTable), (false, .sl (.int .i64))] x) [] (readL [(false, .bool)]) = f64.g n x := by
 have h : runK TT E64 n ann (tabC C64) 1 64 (argsL [(true, tTable), (false, .sl (.int .i64))] x) [] (readL [(false, .bool)]) = f64.q n x := by kernel_rfl
 rw [h]
 simp only [f64.q, f64.g, f64.l1]
theorem f64.codes : CodesOk Tryz.prog E64 ann (tabC C64) := tabC_ok (by intro p hp; simp only [C64, List.mem_cons, List.not_mem_nil, or_false] at hp; rcases hp with rfl <;> first | exact Tryz.func64) (by kernel_rfl)
theorem f64.ok (h : ∀ X Y, F64 X = some Y → ∃ n, f64.g n X = some Y) (e119 : ConOk Tryz.prog 119 con119) : ConOk Tryz.prog 64 (mkCon [(true, tTable), (false, .sl (.int .i64))] [(false, .bool)] true F64) :=
 mkCon_ok mixed TT_ok (envC_ok e119 env0_ok) f64.codes (fun _ => List.all_eq_true.1 rfl) fun X Y hF => (h X Y hF).imp fun n hn => (f64.eq n X).trans hn
def con64 : Con := mkCon [(true, tTable), (false, .sl (.int .i64))] [(false, .bool)] true F64
/-! ### slices.IndexFunc[[]vellum/api.Column,vellum/api.Column] -/
def E172a : FuncId → Option Con := env0
noncomputable def C172a : List (FuncId × Func) := [(172, Tryz.f172), (282, Tryz.f282)]
def f172a.h1 (x : (List dColumn) × ByteArray) (y1 : Int) : List AV × List Ob := ([.val false [.sc (.sl tColumn) x.1], .val false [.fnr 282 [⟨.str, x.2⟩]], .undef, .undef, .undef, .undef, .undef, .val false [.sc (.int .i64) (x.1.length : Int)], .val false [.sc (.int .i64) y1]] ++ List.replicate 10 .undef, [])
def f172a.L1 (n : Nat) (x : (List dColumn) × ByteArray) (m1 : Nat) (y1 : Int) : Option (Int) :=
 loopN (ann 172 2).keep 0 (fun fr H k => execK TT 0 E172a (inlD TT E172a n ann (tabC C172a) 2) n (ann 172) (subC [1, 0, 1, 0, 0] (bodyOf Tryz.f172)) fr H k) m1 (f172a.h1 x y1).1 (f172a.h1 x y1).2 (kont TT 0 E172a (inlD TT E172a n ann (tabC C172a) 2) n (ann 172) [1, 0, 1, 0] (bodyOf Tryz.f172) (endK TT Tryz.f172 (readL [(false, .int .i64)])))
def f172a.s1 (n : Nat) (x : (List dColumn) × ByteArray) (S1 : Int → Option (Int)) (y1 : Int) : Option (Int) :=
 bif decide (y1 < (x.1.length : Int)) then
 (bif decide (0 ≤ y1) && decide (y1 < (x.1.length : Int)) then
 (bif strEq (x.1.getD y1.toNat tColumn.dflt).1 x.2 then
 (some y1)
 else
 (S1 (IntKind.wrap .i64 (y1 + (1 : Int)))))
 else
 (none))
 else
 (some (-1 : Int))
theorem f172a.k1 (n : Nat) (x : (List dColumn) × ByteArray) (m : Nat) (y : Int) : f172a.L1 n x (m + 1) y = f172a.s1 n x (f172a.L1 n x m) y := by kernel_rfl
theorem f172a.l1 (n : Nat) (x : (List dColumn) × ByteArray) : ∀ (m : Nat) (y1 : Int), f172a.L1 n x m y1 = iter (f172a.s1 n x) m y1 :=
 loop_of (L := f172a.L1 n x) (step := f172a.s1 n x) (fun _ => rfl) (f172a.k1 n x)
def f172a.g (n : Nat) (x : (List dColumn) × ByteArray) : Option (Int) :=
 iter (f172a.s1 n x) n (0 : Int)
def f172a.q (n : Nat) (x : (List dColumn) × ByteArray) : Option (Int) :=
 f172a.L1 n x n (0 : Int)
theorem f172a.eq (n : Nat) (x : (List dColumn) × ByteArray) : runK TT E172a n ann (tabC C172a) 2 172 (avL [.dat false (.sl tColumn), .clo 282 [(true, .str)]] x) [] (readL [(false, .int .i64)]) = f172a.g n x := by
 have h : runK TT E172a n ann (tabC C172a) 2 172 (avL [.dat false (.sl tColumn), .clo 282 [(true, .str)]] x) [] (readL [(false, .int .i64)]) = f172a.q n x := by kernel_rfl
 rw [h]
 simp only [f172a.q, f172a.g, f172a.l1]
theorem f172a.codes : CodesOk Tryz.prog E172a ann (tabC C172a) := tabC_ok (by intro p hp; simp only [C172a, List.mem_cons, List.not_mem_nil, or_false] at hp; rcases hp with rfl | rfl <;> first | exact Tryz.func172 | exact Tryz.func282) (by kernel_rfl)
theorem f172a.ok (h : ∀ X Y, F172a X = some Y → ∃ n, f172a.g n X = some Y)  : ConOk Tryz.prog 172 (gCon [(false, .int .i64)] (PmL [.dat false (.sl tColumn), .clo 282 [(true, .str)]]) (fun l H => lookPL H [.dat false (.sl tColumn), .clo 282 [(true, .str)]] l) F172a) :=
 mkConF_ok mixed TT_ok env0_ok f172a.codes (List.all_eq_true.1 rfl) fun X Y hF => (h X Y hF).imp fun n hn => (f172a.eq n X).trans hn
/-! ### slices.IndexFunc[[]vellum/api.Column,vellum/api.Column] -/
def E172b : FuncId → Option Con := env0
noncomputable def C172b : List (FuncId × Func) := [(172, Tryz.f172), (118, Tryz.f118)]
def f172b.h1 (x : (List dColumn) × dColumn) (y1 : Int) : List AV × List Ob := ([.val false [.sc (.sl tColumn) x.1], .val false [.fnr 118 [⟨tColumn, x.2⟩]], .undef, .undef, .undef, .undef, .undef, .val false [.sc (.int .i64) (x.1.length : Int)], .val false [.sc (.int .i64) y1]] ++ List.replicate 10 .undef, [])
def f172b.L1 (n : Nat) (x : (List dColumn) × dColumn) (m1 : Nat) (y1 : Int) : Option (Int) :=
 loopN (ann 172 2).keep 0 (fun fr H k => execK TT 0 E172b (inlD TT E172b n ann (tabC C172b) 2) n (ann 172) (subC [1, 0, 1, 0, 0] (bodyOf Tryz.f172)) fr H k) m1 (f172b.h1 x y1).1 (f172b.h1 x y1).2 (kont TT 0 E172b (inlD TT E172b n ann (tabC C172b) 2) n (ann 172) [1, 0, 1, 0] (bodyOf Tryz.f172) (endK TT Tryz.f172 (readL [(false, .int .i64)])))
def f172b.s1 (n : Nat) (x : (List dColumn) × dColumn) (S1 : Int → Option (Int)) (y1 : Int) : Option (Int) :=
 bif decide (y1 < (x.1.length : Int)) then
 (bif decide (0 ≤ y1) && decide (y1 < (x.1.length : Int)) then
 (bif strEq (x.1.getD y1.toNat tColumn.dflt).1 x.2.1 then
 (some y1)
 else
 (S1 (IntKind.wrap .i64 (y1 + (1 : Int)))))
 else
 (none))
 else
 (some (-1 : Int))
theorem f172b.k1 (n : Nat) (x : (List dColumn) × dColumn) (m : Nat) (y : Int) : f172b.L1 n x (m + 1) y = f172b.s1 n x (f172b.L1 n x m) y := by kernel_rfl
theorem f172b.l1 (n : Nat) (x : (List dColumn) × dColumn) : ∀ (m : Nat) (y1 : Int), f172b.L1 n x m y1 = iter (f172b.s1 n x) m y1 :=
 loop_of (L := f172b.L1 n x) (step := f172b.s1 n x) (fun _ => rfl) (f172b.k1 n x)
def f172b.g (n : Nat) (x : (List dColumn) × dColumn) : Option (Int) :=
 iter (f172b.s1 n x) n (0 : Int)
def f172b.q (n : Nat) (x : (List dColumn) × dColumn) : Option (Int) :=
 f172b.L1 n x n (0 : Int)
theorem f172b.eq (n : Nat) (x : (List dColumn) × dColumn) : runK TT E172b n ann (tabC C172b) 2 172 (avL [.dat false (.sl tColumn), .clo 118 [(true, tColumn)]] x) [] (readL [(false, .int .i64)]) = f172b.g n x := by
 have h : runK TT E172b n ann (tabC C172b) 2 172 (avL [.dat false (.sl tColumn), .clo 118 [(true, tColumn)]] x) [] (readL [(false, .int .i64)]) = f172b.q n x := by kernel_rfl
 rw [h]
 simp only [f172b.q, f172b.g, f172b.l1]
theorem f172b.codes : CodesOk Tryz.prog E172b ann (tabC C172b) := tabC_ok (by intro p hp; simp only [C172b, List.mem_cons, List.not_mem_nil, or_false] at hp; rcases hp with rfl | rfl <;> first | exact Tryz.func172 | exact Tryz.func118) (by kernel_rfl)
theorem f172b.ok (h : ∀ X Y, F172b X = some Y → ∃ n, f172b.g n X = some Y)  : ConOk Tryz.prog 172 (gCon [(false, .int .i64)] (PmL [.dat false (.sl tColumn), .clo 118 [(true, tColumn)]]) (fun l H => lookPL H [.dat false (.sl tColumn), .clo 118 [(true, tColumn)]] l) F172b) :=
 mkConF_ok mixed TT_ok env0_ok f172b.codes (List.all_eq_true.1 rfl) fun X Y hF => (h X Y hF).imp fun n hn => (f172b.eq n X).trans hn
def con172 : Con := gCon [(false, .int .i64)] ((PmL [.dat false (.sl tColumn), .clo 282 [(true, .str)]]) ⊕ (PmL [.dat false (.sl tColumn), .clo 118 [(true, tColumn)]])) (orLook 282 (fun l H => lookPL H [.dat false (.sl tColumn), .clo 282 [(true, .str)]] l) (fun l H => lookPL H [.dat false (.sl tColumn), .clo 118 [(true, tColumn)]] l)) (orF F172a F172b)
/-! ### slices.ContainsFunc[[]vellum/api.Column,vellum/api.Column] -/
def E117 : FuncId → Option Con := (envC 172 con172 env0)
noncomputable def C117 : List (FuncId × Func) := [(117, Tryz.f117), (118, Tryz.f118)]
def f117.g (n : Nat) (x : (List dColumn) × dColumn) : Option (Bool) :=
 (F172b x).bind fun r1 =>
 some (decide (r1 ≥ (0 : Int)))
theorem f117.eq (n : Nat) (x : (List dColumn) × dColumn) : runK TT E117 n ann (tabC C117) 2 117 (avL [.dat false (.sl tColumn), .clo 118 [(true, tColumn)]] x) [] (readL [(false, .bool)]) = f117.g n x := by
 kernel_rfl
theorem f117.codes : CodesOk Tryz.prog E117 ann (tabC C117) := tabC_ok (by intro p hp; simp only [C117, List.mem_cons, List.not_mem_nil, or_false] at hp; rcases hp with rfl | rfl <;> first | exact Tryz.func117 | exact Tryz.func118) (by kernel_rfl)
theorem f117.ok (h : ∀ X Y, F117 X = some Y → ∃ n, f117.g n X = some Y) (e172 : ConOk Tryz.prog 172 con172) : ConOk Tryz.prog 117 (mkConF [.dat false (.sl tColumn), .clo 118 [(true, tColumn)]] [(false, .bool)] F117) :=
 mkConF_ok mixed TT_ok (envC_ok e172 env0_ok) f117.codes (List.all_eq_true.1 rfl) fun X Y hF => (h X Y hF).imp fun n hn => (f117.eq n X).trans hn
def con117 : Con := mkConF [.dat false (.sl tColumn), .clo 118 [(true, tColumn)]] [(false, .bool)] F117
/-! ### vellum/pred.number -/
def E72 : FuncId → Option Con := env0
noncomputable def C72 : List (FuncId × Func) := [(72, Tryz.f72)]
def f72.g (n : Nat) (x : Int) : Option (Bool) :=
 some (bif (x == (2 : Int)) then true else (x == (3 : Int)))
theorem f72.eq (n : Nat) (x : Int) : runK TT E72 n ann (tabC C72) 1 72 (argsL [(false, .int .i64)] x) [] (readL [(false, .bool)]) = f72.g n x := by
 kernel_rfl
theorem f72.codes : CodesOk Tryz.prog E72 ann (tabC C72) := tabC_ok (by intro p hp; simp only [C72, List.mem_cons, List.not_mem_nil, or_false] at hp; rcases hp with rfl <;> first | exact Tryz.func72) (by kernel_rfl)
theorem f72.ok (h : ∀ X Y, F72 X = some Y → ∃ n, f72.g n X = some Y)  : ConOk Tryz.prog 72 (mkCon [(false, .int .i64)] [(false, .bool)] true F72) :=
 mkCon_ok mixed TT_ok env0_ok f72.codes (fun _ => List.all_eq_true.1 rfl) fun X Y hF => (h X Y hF).imp fun n hn => (f72.eq n X).trans hn
def con72 : Con := mkCon [(false, .int .i64)] [(false, .bool)] true F72
/-! ### vellum/pred.logical -/
def E49 : FuncId → Option Con := env0
noncomputable def C49 : List (FuncId × Func) := [(49, Tryz.f49)]
def f49.g (n : Nat) (x : Int) : Option (Bool) :=
 some (bif (x == (1 : Int)) then true else (x == (0 : Int)))
theorem f49.eq (n : Nat) (x : Int) : runK TT E49 n ann (tabC C49) 1 49 (argsL [(false, .int .i64)] x) [] (readL [(false, .bool)]) = f49.g n x := by
 kernel_rfl
theorem f49.codes : CodesOk Tryz.prog E49 ann (tabC C49) := tabC_ok (by intro p hp; simp only [C49, List.mem_cons, List.not_mem_nil, or_false] at hp; rcases hp with rfl <;> first | exact Tryz.func49) (by kernel_rfl)
theorem f49.ok (h : ∀ X Y, F49 X = some Y → ∃ n, f49.g n X = some Y)  : ConOk Tryz.prog 49 (mkCon [(false, .int .i64)] [(false, .bool)] true F49) :=
 mkCon_ok mixed TT_ok env0_ok f49.codes (fun _ => List.all_eq_true.1 rfl) fun X Y hF => (h X Y hF).imp fun n hn => (f49.eq n X).trans hn
def con49 : Con := mkCon [(false, .int .i64)] [(false, .bool)] true F49
/-! ### vellum/pred.fit -/
def E71 : FuncId → Option Con := (envC 72 con72 env0)
noncomputable def C71 : List (FuncId × Func) := [(71, Tryz.f71)]
def f71.g (n : Nat) (x : Int × Int) : Option (Bool) :=
 bif x.1 == x.2 then
 (some true)
 else
 ((F72 x.1).bind fun r1 =>
 bif r1 then
 ((F72 x.2).bind fun r2 =>
 some (bif (bif r2 then true else (x.1 == (0 : Int))) then true else (x.2 == (0 : Int))))
 else
 (some (bif (x.1 == (0 : Int)) then true else (x.2 == (0 : Int)))))
theorem f71.eq (n : Nat) (x : Int × Int) : runK TT E71 n ann (tabC C71) 1 71 (argsL [(false, .int .i64), (false, .int .i64)] x) [] (readL [(false, .bool)]) = f71.g n x := by
 kernel_rfl
theorem f71.codes : CodesOk Tryz.prog E71 ann (tabC C71) := tabC_ok (by intro p hp; simp only [C71, List.mem_cons, List.not_mem_nil, or_false] at hp; rcases hp with rfl <;> first | exact Tryz.func71) (by kernel_rfl)
theorem f71.ok (h : ∀ X Y, F71 X = some Y → ∃ n, f71.g n X = some Y) (e72 : ConOk Tryz.prog 72 con72) : ConOk Tryz.prog 71 (mkCon [(false, .int .i64), (false, .int .i64)] [(false, .bool)] true F71) :=
 mkCon_ok mixed TT_ok (envC_ok e72 env0_ok) f71.codes (fun _ => List.all_eq_true.1 rfl) fun X Y hF => (h X Y hF).imp fun n hn => (f71.eq n X).trans hn
def con71 : Con := mkCon [(false, .int .i64), (false, .int .i64)] [(false, .bool)] true F71
/-! ### slices.IndexFunc[[]int,int] -/
def E120a : FuncId → Option Con := env0
noncomputable def C120a : List (FuncId × Func) := [(120, Tryz.f120), (66, Tryz.f66)]
def f120a.h1 (x : (List Int) × dTable) (y1 : Int) : List AV × List Ob := ([.val false [.sc (.sl (.int .i64)) x.1], .val false [.fnr 66 [⟨tTable, x.2⟩]], .undef, .undef, .undef, .undef, .undef, .val false [.sc (.int .i64) (x.1.length : Int)], .val false [.sc (.int .i64) y1]] ++ List.replicate 10 .undef, [])
def f120a.L1 (n : Nat) (x : (List Int) × dTable) (m1 : Nat) (y1 : Int) : Option (Int) :=
 loopN (ann 120 2).keep 0 (fun fr H k => execK TT 0 E120a (inlD TT E120a n ann (tabC C120a) 2) n (ann 120) (subC [1, 0, 1, 0, 0] (bodyOf Tryz.f120)) fr H k) m1 (f120a.h1 x y1).1 (f120a.h1 x y1).2 (kont TT 0 E120a (inlD TT E120a n ann (tabC C120a) 2) n (ann 120) [1, 0, 1, 0] (bodyOf Tryz.f120) (endK TT Tryz.f120 (readL [(false, .int .i64)])))
def f120a.s1 (n : Nat) (x : (List Int) × dTable) (S1 : Int → Option (Int)) (y1 : Int) : Option (Int) :=
 bif decide (y1 < (x.1.length : Int)) then
 (bif decide (0 ≤ y1) && decide (y1 < (x.1.length : Int)) then
 (bif decide (0 ≤ x.1.getD y1.toNat (Ty.dflt (.int .i64))) && decide (x.1.getD y1.toNat (Ty.dflt (.int .i64)) < (x.2.2.1.length : Int)) then
 (bif (x.2.2.1.getD ((x.1.getD y1.toNat (Ty.dflt (.int .i64))).toNat) tColumn.dflt).2.2.1 then
 (some y1)
 else
 (S1 (IntKind.wrap .i64 (y1 + (1 : Int)))))
 else
 (none))
 else
 (none))
 else
 (some (-1 : Int))
theorem f120a.k1 (n : Nat) (x : (List Int) × dTable) (m : Nat) (y : Int) : f120a.L1 n x (m + 1) y = f120a.s1 n x (f120a.L1 n x m) y := by kernel_rfl
theorem f120a.l1 (n : Nat) (x : (List Int) × dTable) : ∀ (m : Nat) (y1 : Int), f120a.L1 n x m y1 = iter (f120a.s1 n x) m y1 :=
 loop_of (L := f120a.L1 n x) (step := f120a.s1 n x) (fun _ => rfl) (f120a.k1 n x)
def f120a.g (n : Nat) (x : (List Int) × dTable) : Option (Int) :=
 iter (f120a.s1 n x) n (0 : Int)
def f120a.q (n : Nat) (x : (List Int) × dTable) : Option (Int) :=
 f120a.L1 n x n (0 : Int)
theorem f120a.eq (n : Nat) (x : (List Int) × dTable) : runK TT E120a n ann (tabC C120a) 2 120 (avL [.dat false (.sl (.int .i64)), .clo 66 [(true, tTable)]] x) [] (readL [(false, .int .i64)]) = f120a.g n x := by
 have h : runK TT E120a n ann (tabC C120a) 2 120 (avL [.dat false (.sl (.int .i64)), .clo 66 [(true, tTable)]] x) [] (readL [(false, .int .i64)]) = f120a.q n x := by kernel_rfl
 rw [h]
 simp only [f120a.q, f120a.g, f120a.l1]
theorem f120a.codes : CodesOk Tryz.prog E120a ann (tabC C120a) := tabC_ok (by intro p hp; simp only [C120a, List.mem_cons, List.not_mem_nil, or_false] at hp; rcases hp with rfl | rfl <;> first | exact Tryz.func120 | exact Tryz.func66) (by kernel_rfl)
theorem f120a.ok (h : ∀ X Y, F120a X = some Y → ∃ n, f120a.g n X = some Y)  : ConOk Tryz.prog 120 (gCon [(false, .int .i64)] (PmL [.dat false (.sl (.int .i64)), .clo 66 [(true, tTable)]]) (fun l H => lookPL H [.dat false (.sl (.int .i64)), .clo 66 [(true, tTable)]] l) F120a) :=
 mkConF_ok mixed TT_ok env0_ok f120a.codes (List.all_eq_true.1 rfl) fun X Y hF => (h X Y hF).imp fun n hn => (f120a.eq n X).trans hn
/-! ### slices.IndexFunc[[]int,int] -/
def E120b : FuncId → Option Con := (envC 71 con71 env0)
noncomputable def C120b : List (FuncId × Func) := [(120, Tryz.f120), (70, Tryz.f70)]
def f120b.h1 (x : (List Int) × (List Int)) (y1 : Int) : List AV × List Ob := ([.val false [.sc (.sl (.int .i64)) x.1], .val false [.fnr 70 [⟨.sl (.int .i64), x.2⟩]], .undef, .undef, .undef, .undef, .undef, .val false [.sc (.int .i64) (x.1.length : Int)], .val false [.sc (.int .i64) y1]] ++ List.replicate 10 .undef, [])
def f120b.L1 (n : Nat) (x : (List Int) × (List Int)) (m1 : Nat) (y1 : Int) : Option (Int) :=
 loopN (ann 120 2).keep 0 (fun fr H k => execK TT 0 E120b (inlD TT E120b n ann (tabC C120b) 2) n (ann 120) (subC [1, 0, 1, 0, 0] (bodyOf Tryz.f120)) fr H k) m1 (f120b.h1 x y1).1 (f120b.h1 x y1).2 (kont TT 0 E120b (inlD TT E120b n ann (tabC C120b) 2) n (ann 120) [1, 0, 1, 0] (bodyOf Tryz.f120) (endK TT Tryz.f120 (readL [(false, .int .i64)])))
def f120b.s1 (n : Nat) (x : (List Int) × (List Int)) (S1 : Int → Option (Int)) (y1 : Int) : Option (Int) :=
 bif decide (y1 < (x.1.length : Int)) then
 (bif decide (0 ≤ y1) && decide (y1 < (x.1.length : Int)) then
 (bif decide (0 ≤ (0 : Int)) && decide ((0 : Int) < (x.2.length : Int)) then
 ((F71 (x.2.getD 0 (Ty.dflt (.int .i64)), x.1.getD y1.toNat (Ty.dflt (.int .i64)))).bind fun r2 =>
 bif !r2 then
 (some y1)
 else
 (S1 (IntKind.wrap .i64 (y1 + (1 : Int)))))
 else
 (none))
 else
 (none))
 else
 (some (-1 : Int))
theorem f120b.k1 (n : Nat) (x : (List Int) × (List Int)) (m : Nat) (y : Int) : f120b.L1 n x (m + 1) y = f120b.s1 n x (f120b.L1 n x m) y := by kernel_rfl
theorem f120b.l1 (n : Nat) (x : (List Int) × (List Int)) : ∀ (m : Nat) (y1 : Int), f120b.L1 n x m y1 = iter (f120b.s1 n x) m y1 :=
 loop_of (L := f120b.L1 n x) (step := f120b.s1 n x) (fun _ => rfl) (f120b.k1 n x)
def f120b.g (n : Nat) (x : (List Int) × (List Int)) : Option (Int) :=
 iter (f120b.s1 n x) n (0 : Int)
def f120b.q (n : Nat) (x : (List Int) × (List Int)) : Option (Int) :=
 f120b.L1 n x n (0 : Int)
theorem f120b.eq (n : Nat) (x : (List Int) × (List Int)) : runK TT E120b n ann (tabC C120b) 2 120 (avL [.dat false (.sl (.int .i64)), .clo 70 [(true, .sl (.int .i64))]] x) [] (readL [(false, .int .i64)]) = f120b.g n x := by
 have h : runK TT E120b n ann (tabC C120b) 2 120 (avL [.dat false (.sl (.int .i64)), .clo 70 [(true, .sl (.int .i64))]] x) [] (readL [(false, .int .i64)]) = f120b.q n x := by kernel_rfl
 rw [h]
 simp only [f120b.q, f120b.g, f120b.l1]
theorem f120b.codes : CodesOk Tryz.prog E120b ann (tabC C120b) := tabC_ok (by intro p hp; simp only [C120b, List.mem_cons, List.not_mem_nil, or_false] at hp; rcases hp with rfl | rfl <;> first | exact Tryz.func120 | exact Tryz.func70) (by kernel_rfl)
theorem f120b.ok (h : ∀ X Y, F120b X = some Y → ∃ n, f120b.g n X = some Y) (e71 : ConOk Tryz.prog 71 con71) : ConOk Tryz.prog 120 (gCon [(false, .int .i64)] (PmL [.dat false (.sl (.int .i64)), .clo 70 [(true, .sl (.int .i64))]]) (fun l H => lookPL H [.dat false (.sl (.int .i64)), .clo 70 [(true, .sl (.int .i64))]] l) F120b) :=
 mkConF_ok mixed TT_ok (envC_ok e71 env0_ok) f120b.codes (List.all_eq_true.1 rfl) fun X Y hF => (h X Y hF).imp fun n hn => (f120b.eq n X).trans hn
def con120 : Con := gCon [(false, .int .i64)] ((PmL [.dat false (.sl (.int .i64)), .clo 66 [(true, tTable)]]) ⊕ (PmL [.dat false (.sl (.int .i64)), .clo 70 [(true, .sl (.int .i64))]])) (orLook 66 (fun l H => lookPL H [.dat false (.sl (.int .i64)), .clo 66 [(true, tTable)]] l) (fun l H => lookPL H [.dat false (.sl (.int .i64)), .clo 70 [(true, .sl (.int .i64))]] l)) (orF F120a F120b)
/-! ### slices.ContainsFunc[[]int,int] -/
def E65a : FuncId → Option Con := (envC 120 con120 env0)
noncomputable def C65a : List (FuncId × Func) := [(65, Tryz.f65), (66, Tryz.f66)]
def f65a.g (n : Nat) (x : (List Int) × dTable) : Option (Bool) :=
 (F120a x).bind fun r1 =>
 some (decide (r1 ≥ (0 : Int)))
theorem f65a.eq (n : Nat) (x : (List Int) × dTable) : runK TT E65a n ann (tabC C65a) 2 65 (avL [.dat false (.sl (.int .i64)), .clo 66 [(true, tTable)]] x) [] (readL [(false, .bool)]) = f65a.g n x := by
 kernel_rfl
theorem f65a.codes : CodesOk Tryz.prog E65a ann (tabC C65a) := tabC_ok (by intro p hp; simp only [C65a, List.mem_cons, List.not_mem_nil, or_false] at hp; rcases hp with rfl | rfl <;> first | exact Tryz.func65 | exact Tryz.func66) (by kernel_rfl)
theorem f65a.ok (h : ∀ X Y, F65a X = some Y → ∃ n, f65a.g n X = some Y) (e120 : ConOk Tryz.prog 120 con120) : ConOk Tryz.prog 65 (gCon [(false, .bool)] (PmL [.dat false (.sl (.int .i64)), .clo 66 [(true, tTable)]]) (fun l H => lookPL H [.dat false (.sl (.int .i64)), .clo 66 [(true, tTable)]] l) F65a) :=
 mkConF_ok mixed TT_ok (envC_ok e120 env0_ok) f65a.codes (List.all_eq_true.1 rfl) fun X Y hF => (h X Y hF).imp fun n hn => (f65a.eq n X).trans hn
/-! ### slices.ContainsFunc[[]int,int] -/
def E65b : FuncId → Option Con := (envC 120 con120 (envC 71 con71 env0))
noncomputable def C65b : List (FuncId × Func) := [(65, Tryz.f65), (70, Tryz.f70)]
def f65b.g (n : Nat) (x : (List Int) × (List Int)) : Option (Bool) :=
 (F120b x).bind fun r1 =>
 some (decide (r1 ≥ (0 : Int)))
theorem f65b.eq (n : Nat) (x : (List Int) × (List Int)) : runK TT E65b n ann (tabC C65b) 2 65 (avL [.dat false (.sl (.int .i64)), .clo 70 [(true, .sl (.int .i64))]] x) [] (readL [(false, .bool)]) = f65b.g n x := by
 kernel_rfl
theorem f65b.codes : CodesOk Tryz.prog E65b ann (tabC C65b) := tabC_ok (by intro p hp; simp only [C65b, List.mem_cons, List.not_mem_nil, or_false] at hp; rcases hp with rfl | rfl <;> first | exact Tryz.func65 | exact Tryz.func70) (by kernel_rfl)
theorem f65b.ok (h : ∀ X Y, F65b X = some Y → ∃ n, f65b.g n X = some Y) (e71 : ConOk Tryz.prog 71 con71) (e120 : ConOk Tryz.prog 120 con120) : ConOk Tryz.prog 65 (gCon [(false, .bool)] (PmL [.dat false (.sl (.int .i64)), .clo 70 [(true, .sl (.int .i64))]]) (fun l H => lookPL H [.dat false (.sl (.int .i64)), .clo 70 [(true, .sl (.int .i64))]] l) F65b) :=
 mkConF_ok mixed TT_ok (envC_ok e120 (envC_ok e71 env0_ok)) f65b.codes (List.all_eq_true.1 rfl) fun X Y hF => (h X Y hF).imp fun n hn => (f65b.eq n X).trans hn
def con65 : Con := gCon [(false, .bool)] ((PmL [.dat false (.sl (.int .i64)), .clo 66 [(true, tTable)]]) ⊕ (PmL [.dat false (.sl (.int .i64)), .clo 70 [(true, .sl (.int .i64))]])) (orLook 66 (fun l H => lookPL H [.dat false (.sl (.int .i64)), .clo 66 [(true, tTable)]] l) (fun l H => lookPL H [.dat false (.sl (.int .i64)), .clo 70 [(true, .sl (.int .i64))]] l)) (orF F65a F65b)
/-! ### slices.IndexFunc[[]vellum/api.Index,vellum/api.Index] -/
def E121 : FuncId → Option Con := env0
noncomputable def C121 : List (FuncId × Func) := [(121, Tryz.f121), (68, Tryz.f68)]
def f121.h1 (x : (List dIndex) × dIndex) (y1 : Int) : List AV × List Ob := ([.val false [.sc (.sl tIndex) x.1], .val false [.fnr 68 [⟨tIndex, x.2⟩]], .undef, .undef, .undef, .undef, .undef, .val false [.sc (.int .i64) (x.1.length : Int)], .val false [.sc (.int .i64) y1]] ++ List.replicate 10 .undef, [])
def f121.L1 (n : Nat) (x : (List dIndex) × dIndex) (m1 : Nat) (y1 : Int) : Option (Int) :=
 loopN (ann 121 2).keep 0 (fun fr H k => execK TT 0 E121 (inlD TT E121 n ann (tabC C121) 2) n (ann 121) (subC [1, 0, 1, 0, 0] (bodyOf Tryz.f121)) fr H k) m1 (f121.h1 x y1).1 (f121.h1 x y1).2 (kont TT 0 E121 (inlD TT E121 n ann (tabC C121) 2) n (ann 121) [1, 0, 1, 0] (bodyOf Tryz.f121) (endK TT Tryz.f121 (readL [(false, .int .i64)])))
def f121.s1 (n : Nat) (x : (List dIndex) × dIndex) (S1 : Int → Option (Int)) (y1 : Int) : Option (Int) :=
 bif decide (y1 < (x.1.length : Int)) then
 (bif decide (0 ≤ y1) && decide (y1 < (x.1.length : Int)) then
 (bif strEq (x.1.getD y1.toNat tIndex.dflt).1 x.2.1 then
 (some y1)
 else
 (S1 (IntKind.wrap .i64 (y1 + (1 : Int)))))
 else
 (none))
 else
 (some (-1 : Int))
theorem f121.k1 (n : Nat) (x : (List dIndex) × dIndex) (m : Nat) (y : Int) : f121.L1 n x (m + 1) y = f121.s1 n x (f121.L1 n x m) y := by kernel_rfl
theorem f121.l1 (n : Nat) (x : (List dIndex) × dIndex) : ∀ (m : Nat) (y1 : Int), f121.L1 n x m y1 = iter (f121.s1 n x) m y1 :=
 loop_of (L := f121.L1 n x) (step := f121.s1 n x) (fun _ => rfl) (f121.k1 n x)
def f121.g (n : Nat) (x : (List dIndex) × dIndex) : Option (Int) :=
 iter (f121.s1 n x) n (0 : Int)
def f121.q (n : Nat) (x : (List dIndex) × dIndex) : Option (Int) :=
 f121.L1 n x n (0 : Int)
theorem f121.eq (n : Nat) (x : (List dIndex) × dIndex) : runK TT E121 n ann (tabC C121) 2 121 (avL [.dat false (.sl tIndex), .clo 68 [(true, tIndex)]] x) [] (readL [(false, .int .i64)]) = f121.g n x := by
 have h : runK TT E121 n ann (tabC C121) 2 121 (avL [.dat false (.sl tIndex), .clo 68 [(true, tIndex)]] x) [] (readL [(false, .int .i64)]) = f121.q n x := by kernel_rfl
 rw [h]
 simp only [f121.q, f121.g, f121.l1]
theorem f121.codes : CodesOk Tryz.prog E121 ann (tabC C121) := tabC_ok (by intro p hp; simp only [C121, List.mem_cons, List.not_mem_nil, or_false] at hp; rcases hp with rfl | rfl <;> first | exact Tryz.func121 | exact Tryz.func68) (by kernel_rfl)
theorem f121.ok (h : ∀ X Y, F121 X = some Y → ∃ n, f121.g n X = some Y)  : ConOk Tryz.prog 121 (mkConF [.dat false (.sl tIndex), .clo 68 [(true, tIndex)]] [(false, .int .i64)] F121) :=
 mkConF_ok mixed TT_ok env0_ok f121.codes (List.all_eq_true.1 rfl) fun X Y hF => (h X Y hF).imp fun n hn => (f121.eq n X).trans hn
def con121 : Con := mkConF [.dat false (.sl tIndex), .clo 68 [(true, tIndex)]] [(false, .int .i64)] F121
/-! ### slices.ContainsFunc[[]vellum/api.Index,vellum/api.Index] -/
def E67 : FuncId → Option Con := (envC 121 con121 env0)
noncomputable def C67 : List (FuncId × Func) := [(67, Tryz.f67), (68, Tryz.f68)]
def f67.g (n : Nat) (x : (List dIndex) × dIndex) : Option (Bool) :=
 (F121 x).bind fun r1 =>
 some (decide (r1 ≥ (0 : Int)))
theorem f67.eq (n : Nat) (x : (List dIndex) × dIndex) : runK TT E67 n ann (tabC C67) 2 67 (avL [.dat false (.sl tIndex), .clo 68 [(true, tIndex)]] x) [] (readL [(false, .bool)]) = f67.g n x := by
 kernel_rfl
theorem f67.codes : CodesOk Tryz.prog E67 ann (tabC C67) := tabC_ok (by intro p hp; simp only [C67, List.mem_cons, List.not_mem_nil, or_false] at hp; rcases hp with rfl | rfl <;> first | exact Tryz.func67 | exact Tryz.func68) (by kernel_rfl)
theorem f67.ok (h : ∀ X Y, F67 X = some Y → ∃ n, f67.g n X = some Y) (e121 : ConOk Tryz.prog 121 con121) : ConOk Tryz.prog 67 (mkConF [.dat false (.sl tIndex), .clo 68 [(true, tIndex)]] [(false, .bool)] F67) :=
 mkConF_ok mixed TT_ok (envC_ok e121 env0_ok) f67.codes (List.all_eq_true.1 rfl) fun X Y hF => (h X Y hF).imp fun n hn => (f67.eq n X).trans hn
def con67 : Con := mkConF [.dat false (.sl tIndex), .clo 68 [(true, tIndex)]] [(false, .bool)] F67
/-! ### vellum/schema.checkColumns -/
def E63 : FuncId → Option Con := (envC 117 con117 (envC 62 con62 (envC 50 con50 env0)))
noncomputable def C63 : List (FuncId × Func) := [(63, Tryz.f63)]
def f63.h1 (x : dTable) (y1 : Int) : List AV × List Ob := ([.undef, .val false [.ptr 0 0], .undef, .undef, .undef, .undef, .undef, .val false [.sc (.sl tColumn) x.2.1], .val false [.sc (.int .i64) (x.2.1.length : Int)], .val false [.sc (.int .i64) y1]] ++ List.replicate 43 .undef, [.box [.sc .str x.1, .sc (.sl tColumn) x.2.1, .sc (.sl (.int .i64)) x.2.2.1, .sc (.sl tIndex) x.2.2.2.1, .sc (.sl tRef) x.2.2.2.2]])
def f63.L1 (n : Nat) (x : dTable) (m1 : Nat) (y1 : Int) : Option (Int) :=
 loopN (ann 63 2).keep 1 (fun fr H k => execK TT 0 E63 (inlD TT E63 n ann (tabC C63) 1) n (ann 63) (subC [1, 0, 1, 0, 0] (bodyOf Tryz.f63)) fr H k) m1 (f63.h1 x y1).1 (f63.h1 x y1).2 (kont TT 0 E63 (inlD TT E63 n ann (tabC C63) 1) n (ann 63) [1, 0, 1, 0] (bodyOf Tryz.f63) (endK TT Tryz.f63 (readL [(false, .int .i64)])))
def f63.s1 (n : Nat) (x : dTable) (S1 : Int → Option (Int)) (y1 : Int) : Option (Int) :=
 bif decide (y1 < (x.2.1.length : Int)) then
 (bif decide (0 ≤ y1) && decide (y1 < (x.2.1.length : Int)) then
 (bif decide (0 ≤ y1) && decide (y1 ≤ (x.2.1.length : Int)) then
 ((F117 (List.take y1.toNat x.2.1, x.2.1.getD y1.toNat tColumn.dflt)).bind fun r2 =>
 (F62 (x.2.1.getD y1.toNat tColumn.dflt).1).bind fun r3 =>
 bif !r3 then
 (some (30 : Int))
 else
 (bif r2 then
 (some (31 : Int))
 else
 (bif bif (decide ((x.2.1.getD y1.toNat tColumn.dflt).2.1 < (1 : Int))) then true else (decide ((x.2.1.getD y1.toNat tColumn.dflt).2.1 > (5 : Int))) then
 (bif bif (decide ((x.2.1.getD y1.toNat tColumn.dflt).2.1 < (1 : Int))) then true else (decide ((x.2.1.getD y1.toNat tColumn.dflt).2.1 > (5 : Int))) then
 (some (32 : Int))
 else
 (S1 (IntKind.wrap .i64 (y1 + (1 : Int)))))
 else
 ((F50 (x.2.1.getD y1.toNat tColumn.dflt).2.2.2).bind fun r4 =>
 bif r4 != (0 : Int) then
 (bif r4 != (0 : Int) then
 (some (32 : Int))
 else
 (S1 (IntKind.wrap .i64 (y1 + (1 : Int)))))
 else
 (bif bif ((x.2.1.getD y1.toNat tColumn.dflt).2.2.2.1 != (0 : Int)) then ((x.2.1.getD y1.toNat tColumn.dflt).2.2.2.1 != (x.2.1.getD y1.toNat tColumn.dflt).2.1) else false then
 (some (32 : Int))
 else
 (S1 (IntKind.wrap .i64 (y1 + (1 : Int)))))))))
 else
 (none))
 else
 (none))
 else
 (some (0 : Int))
theorem f63.k1 (n : Nat) (x : dTable) (m : Nat) (y : Int) : f63.L1 n x (m + 1) y = f63.s1 n x (f63.L1 n x m) y := by kernel_rfl
theorem f63.l1 (n : Nat) (x : dTable) : ∀ (m : Nat) (y1 : Int), f63.L1 n x m y1 = iter (f63.s1 n x) m y1 :=
 loop_of (L := f63.L1 n x) (step := f63.s1 n x) (fun _ => rfl) (f63.k1 n x)
def f63.g (n : Nat) (x : dTable) : Option (Int) :=
 iter (f63.s1 n x) n (0 : Int)
def f63.q (n : Nat) (x : dTable) : Option (Int) :=
 f63.L1 n x n (0 : Int)
theorem f63.eq (n : Nat) (x : dTable) : runK TT E63 n ann (tabC C63) 1 63 (argsL [(true, tTable)] x) [] (readL [(false, .int .i64)]) = f63.g n x := by
 have h : runK TT E63 n ann (tabC C63) 1 63 (argsL [(true, tTable)] x) [] (readL [(false, .int .i64)]) = f63.q n x := by kernel_rfl
 rw [h]
 simp only [f63.q, f63.g, f63.l1]
theorem f63.codes : CodesOk Tryz.prog E63 ann (tabC C63) := tabC_ok (by intro p hp; simp only [C63, List.mem_cons, List.not_mem_nil, or_false] at hp; rcases hp with rfl <;> first | exact Tryz.func63) (by kernel_rfl)
theorem f63.ok (h : ∀ X Y, F63 X = some Y → ∃ n, f63.g n X = some Y) (e50 : ConOk Tryz.prog 50 con50) (e62 : ConOk Tryz.prog 62 con62) (e117 : ConOk Tryz.prog 117 con117) : ConOk Tryz.prog 63 (mkCon [(true, tTable)] [(false, .int .i64)] true F63) :=
 mkCon_ok mixed TT_ok (envC_ok e117 (envC_ok e62 (envC_ok e50 env0_ok))) f63.codes (fun _ => List.all_eq_true.1 rfl) fun X Y hF => (h X Y hF).imp fun n hn => (f63.eq n X).trans hn
def con63 : Con := mkCon [(true, tTable)] [(false, .int .i64)] true F63
/-! ### vellum/schema.Check -/
def E33 : FuncId → Option Con := (envC 67 con67 (envC 65 con65 (envC 64 con64 (envC 63 con63 (envC 62 con62 env0)))))
noncomputable def C33 : List (FuncId × Func) := [(33, Tryz.f33)]
def f33.h1 (x : dTable) (r1 : Bool) (r2 : Int) (r3 : Bool) (r4 : Bool) (y5 : Int) (y9 : Int) : List AV × List Ob := ([.undef, .val false [.ptr 0 0], .undef, .undef, .undef, .undef, .undef, .undef, .undef, .undef, .undef, .undef, .undef, .undef, .undef, .undef, .undef, .undef, .undef, .undef, .undef, .undef, .undef, .undef, .undef, .undef, .undef, .undef, .undef, .undef, .undef, .undef, .undef, .undef, .undef, .undef, .undef, .undef, .undef, .undef, .undef, .undef, .undef, .undef, .undef, .undef, .undef, .undef, .undef, .undef, .undef, .undef, .undef, .undef, .undef, .undef, .undef, .undef, .undef, .undef, .undef, .undef, .undef, .undef, .undef, .undef, .undef, .undef, .undef, .undef, .undef, .undef, .undef, .undef, .undef, .undef, .undef, .undef, .undef, .undef, .undef, .undef, .val false [.sc (.sl tRef) x.2.2.2.2], .val false [.sc (.int .i64) (x.2.2.2.2.length : Int)], .val false [.sc (.int .i64) y9]] ++ List.replicate 15 .undef, [.box [.sc .str x.1, .sc (.sl tColumn) x.2.1, .sc (.sl (.int .i64)) x.2.2.1, .sc (.sl tIndex) x.2.2.2.1, .sc (.sl tRef) x.2.2.2.2]])
def f33.h2 (x : dTable) (r1 : Bool) (r2 : Int) (r3 : Bool) (r4 : Bool) (y5 : Int) : List AV × List Ob := ([.undef, .val false [.ptr 0 0], .undef, .undef, .undef, .undef, .undef, .undef, .undef, .undef, .undef, .undef, .undef, .undef, .undef, .undef, .undef, .undef, .undef, .undef, .undef, .undef, .undef, .undef, .undef, .undef, .undef, .undef, .undef, .undef, .undef, .undef, .undef, .undef, .undef, .undef, .undef, .undef, .undef, .undef, .undef, .undef, .undef, .undef, .undef, .undef, .undef, .undef, .undef, .undef, .undef, .undef, .undef, .undef, .val false [.sc (.sl tIndex) x.2.2.2.1], .val false [.sc (.int .i64) (x.2.2.2.1.length : Int)], .val false [.sc (.int .i64) y5]] ++ List.replicate 43 .undef, [.box [.sc .str x.1, .sc (.sl tColumn) x.2.1, .sc (.sl (.int .i64)) x.2.2.1, .sc (.sl tIndex) x.2.2.2.1, .sc (.sl tRef) x.2.2.2.2]])
def f33.L1 (n : Nat) (x : dTable) (r1 : Bool) (r2 : Int) (r3 : Bool) (r4 : Bool) (y5 : Int) (m9 : Nat) (y9 : Int) : Option (Int) :=
 loopN (ann 33 23).keep 1 (fun fr H k => execK TT 0 E33 (inlD TT E33 n ann (tabC C33) 1) n (ann 33) (subC [1, 1, 1, 1, 1, 1, 0, 1, 0, 0] (bodyOf Tryz.f33)) fr H k) m9 (f33.h1 x r1 r2 r3 r4 y5 y9).1 (f33.h1 x r1 r2 r3 r4 y5 y9).2 (kont TT 0 E33 (inlD TT E33 n ann (tabC C33) 1) n (ann 33) [1, 1, 1, 1, 1, 1, 0, 1, 0] (bodyOf Tryz.f33) (endK TT Tryz.f33 (readL [(false, .int .i64)])))
def f33.L2 (n : Nat) (x : dTable) (r1 : Bool) (r2 : Int) (r3 : Bool) (r4 : Bool) (m5 : Nat) (y5 : Int) : Option (Int) :=
 loopN (ann 33 12).keep 1 (fun fr H k => execK TT 0 E33 (inlD TT E33 n ann (tabC C33) 1) n (ann 33) (subC [1, 1, 1, 1, 1, 0, 1, 0, 0] (bodyOf Tryz.f33)) fr H k) m5 (f33.h2 x r1 r2 r3 r4 y5).1 (f33.h2 x r1 r2 r3 r4 y5).2 (kont TT 0 E33 (inlD TT E33 n ann (tabC C33) 1) n (ann 33) [1, 1, 1, 1, 1, 0, 1, 0] (bodyOf Tryz.f33) (endK TT Tryz.f33 (readL [(false, .int .i64)])))
def f33.s1 (n : Nat) (x : dTable) (r1 : Bool) (r2 : Int) (r3 : Bool) (r4 : Bool) (y5 : Int) (S9 : Int → Option (Int)) (y9 : Int) : Option (Int) :=
 bif decide (y9 < (x.2.2.2.2.length : Int)) then
 (bif decide (0 ≤ y9) && decide (y9 < (x.2.2.2.2.length : Int)) then
 ((F62 (x.2.2.2.2.getD y9.toNat tRef.dflt).2).bind fun r10 =>
 bif !r10 then
 (some (30 : Int))
 else
 ((F64 (x, (x.2.2.2.2.getD y9.toNat tRef.dflt).1)).bind fun r11 =>
 bif !r11 then
 (some (33 : Int))
 else
 (S9 (IntKind.wrap .i64 (y9 + (1 : Int))))))
 else
 (none))
 else
 (some (0 : Int))
theorem f33.k1 (n : Nat) (x : dTable) (r1 : Bool) (r2 : Int) (r3 : Bool) (r4 : Bool) (y5 : Int) (m : Nat) (y : Int) : f33.L1 n x r1 r2 r3 r4 y5 (m + 1) y = f33.s1 n x r1 r2 r3 r4 y5 (f33.L1 n x r1 r2 r3 r4 y5 m) y := by kernel_rfl
theorem f33.l1 (n : Nat) (x : dTable) (r1 : Bool) (r2 : Int) (r3 : Bool) (r4 : Bool) (y5 : Int) : ∀ (m : Nat) (y9 : Int), f33.L1 n x r1 r2 r3 r4 y5 m y9 = iter (f33.s1 n x r1 r2 r3 r4 y5) m y9 :=
 loop_of (L := f33.L1 n x r1 r2 r3 r4 y5) (step := f33.s1 n x r1 r2 r3 r4 y5) (fun _ => rfl) (f33.k1 n x r1 r2 r3 r4 y5)
def f33.s2 (n : Nat) (x : dTable) (r1 : Bool) (r2 : Int) (r3 : Bool) (r4 : Bool) (S5 : Int → Option (Int)) (y5 : Int) : Option (Int) :=
 bif decide (y5 < (x.2.2.2.1.length : Int)) then
 (bif decide (0 ≤ y5) && decide (y5 < (x.2.2.2.1.length : Int)) then
 (bif decide (0 ≤ y5) && decide (y5 ≤ (x.2.2.2.1.length : Int)) then
 ((F67 (List.take y5.toNat x.2.2.2.1, x.2.2.2.1.getD y5.toNat tIndex.dflt)).bind fun r6 =>
 (F62 (x.2.2.2.1.getD y5.toNat tIndex.dflt).1).bind fun r7 =>
 bif !r7 then
 (some (30 : Int))
 else
 (bif r6 then
 (some (31 : Int))
 else
 ((F64 (x, (x.2.2.2.1.getD y5.toNat tIndex.dflt).2.1)).bind fun r8 =>
 bif !r8 then
 (some (33 : Int))
 else
 (S5 (IntKind.wrap .i64 (y5 + (1 : Int)))))))
 else
 (none))
 else
 (none))
 else
 (iter (f33.s1 n x r1 r2 r3 r4 y5) n (0 : Int))
def f33.r2 (n : Nat) (x : dTable) (r1 : Bool) (r2 : Int) (r3 : Bool) (r4 : Bool) (m5 : Nat) (S5 : Int → Option (Int)) (y5 : Int) : Option (Int) :=
 bif decide (y5 < (x.2.2.2.1.length : Int)) then
 (bif decide (0 ≤ y5) && decide (y5 < (x.2.2.2.1.length : Int)) then
 (bif decide (0 ≤ y5) && decide (y5 ≤ (x.2.2.2.1.length : Int)) then
 ((F67 (List.take y5.toNat x.2.2.2.1, x.2.2.2.1.getD y5.toNat tIndex.dflt)).bind fun r6 =>
 (F62 (x.2.2.2.1.getD y5.toNat tIndex.dflt).1).bind fun r7 =>
 bif !r7 then
 (some (30 : Int))
 else
 (bif r6 then
 (some (31 : Int))
 else
 ((F64 (x, (x.2.2.2.1.getD y5.toNat tIndex.dflt).2.1)).bind fun r8 =>
 bif !r8 then
 (some (33 : Int))
 else
 (S5 (IntKind.wrap .i64 (y5 + (1 : Int)))))))
 else
 (none))
 else
 (none))
 else
 (f33.L1 n x r1 r2 r3 r4 y5 n (0 : Int))
theorem f33.k2 (n : Nat) (x : dTable) (r1 : Bool) (r2 : Int) (r3 : Bool) (r4 : Bool) (m : Nat) (y : Int) : f33.L2 n x r1 r2 r3 r4 (m + 1) y = f33.s2 n x r1 r2 r3 r4 (f33.L2 n x r1 r2 r3 r4 m) y := by
 have h : f33.L2 n x r1 r2 r3 r4 (m + 1) y = f33.r2 n x r1 r2 r3 r4 m (f33.L2 n x r1 r2 r3 r4 m) y := by kernel_rfl
 rw [h]
 simp only [f33.r2, f33.s2, f33.l1]
theorem f33.l2 (n : Nat) (x : dTable) (r1 : Bool) (r2 : Int) (r3 : Bool) (r4 : Bool) : ∀ (m : Nat) (y5 : Int), f33.L2 n x r1 r2 r3 r4 m y5 = iter (f33.s2 n x r1 r2 r3 r4) m y5 :=
 loop_of (L := f33.L2 n x r1 r2 r3 r4) (step := f33.s2 n x r1 r2 r3 r4) (fun _ => rfl) (f33.k2 n x r1 r2 r3 r4)
def f33.g (n : Nat) (x : dTable) : Option (Int) :=
 (F62 x.1).bind fun r1 =>
 bif !r1 then
 (some (30 : Int))
 else
 (bif bif (bif (bif (decide ((x.2.1.length : Int) < (1 : Int))) then true else (decide ((x.2.1.length : Int) > (64 : Int)))) then true else (decide ((x.2.2.2.1.length : Int) > (16 : Int)))) then true else (decide ((x.2.2.2.2.length : Int) > (16 : Int))) then
 (some (2 : Int))
 else
 ((F63 x).bind fun r2 =>
 bif r2 != (0 : Int) then
 (some r2)
 else
 ((F64 (x, x.2.2.1)).bind fun r3 =>
 bif !r3 then
 (some (33 : Int))
 else
 ((F65a (x.2.2.1, x)).bind fun r4 =>
 bif r4 then
 (some (33 : Int))
 else
 (iter (f33.s2 n x r1 r2 r3 r4) n (0 : Int))))))
def f33.q (n : Nat) (x : dTable) : Option (Int) :=
 (F62 x.1).bind fun r1 =>
 bif !r1 then
 (some (30 : Int))
 else
 (bif bif (bif (bif (decide ((x.2.1.length : Int) < (1 : Int))) then true else (decide ((x.2.1.length : Int) > (64 : Int)))) then true else (decide ((x.2.2.2.1.length : Int) > (16 : Int)))) then true else (decide ((x.2.2.2.2.length : Int) > (16 : Int))) then
 (some (2 : Int))
 else
 ((F63 x).bind fun r2 =>
 bif r2 != (0 : Int) then
 (some r2)
 else
 ((F64 (x, x.2.2.1)).bind fun r3 =>
 bif !r3 then
 (some (33 : Int))
 else
 ((F65a (x.2.2.1, x)).bind fun r4 =>
 bif r4 then
 (some (33 : Int))
 else
 (f33.L2 n x r1 r2 r3 r4 n (0 : Int))))))
theorem f33.eq (n : Nat) (x : dTable) : runK TT E33 n ann (tabC C33) 1 33 (argsL [(true, tTable)] x) [] (readL [(false, .int .i64)]) = f33.g n x := by
 have h : runK TT E33 n ann (tabC C33) 1 33 (argsL [(true, tTable)] x) [] (readL [(false, .int .i64)]) = f33.q n x := by kernel_rfl
 rw [h]
 simp only [f33.q, f33.g, f33.l1, f33.l2]
theorem f33.codes : CodesOk Tryz.prog E33 ann (tabC C33) := tabC_ok (by intro p hp; simp only [C33, List.mem_cons, List.not_mem_nil, or_false] at hp; rcases hp with rfl <;> first | exact Tryz.func33) (by kernel_rfl)
theorem f33.ok (h : ∀ X Y, F33 X = some Y → ∃ n, f33.g n X = some Y) (e62 : ConOk Tryz.prog 62 con62) (e63 : ConOk Tryz.prog 63 con63) (e64 : ConOk Tryz.prog 64 con64) (e65 : ConOk Tryz.prog 65 con65) (e67 : ConOk Tryz.prog 67 con67) : ConOk Tryz.prog 33 (mkCon [(true, tTable)] [(false, .int .i64)] true F33) :=
 mkCon_ok mixed TT_ok (envC_ok e67 (envC_ok e65 (envC_ok e64 (envC_ok e63 (envC_ok e62 env0_ok))))) f33.codes (fun _ => List.all_eq_true.1 rfl) fun X Y hF => (h X Y hF).imp fun n hn => (f33.eq n X).trans hn
def con33 : Con := mkCon [(true, tTable)] [(false, .int .i64)] true F33
/-! ### vellum/schema.Column -/
def E260 : FuncId → Option Con := (envC 172 con172 env0)
noncomputable def C260 : List (FuncId × Func) := [(260, Tryz.f260)]
def f260.g (n : Nat) (x : dTable × ByteArray) : Option (Int × Int) :=
 (F172a (x.1.2.1, x.2)).bind fun r1 =>
 bif decide (r1 < (0 : Int)) then
 (some ((0 : Int), (5 : Int)))
 else
 (some (r1, (0 : Int)))
theorem f260.eq (n : Nat) (x : dTable × ByteArray) : runK TT E260 n ann (tabC C260) 1 260 (argsL [(true, tTable), (false, .str)] x) [] (readL [(false, .int .i64), (false, .int .i64)]) = f260.g n x := by
 kernel_rfl
theorem f260.codes : CodesOk Tryz.prog E260 ann (tabC C260) := tabC_ok (by intro p hp; simp only [C260, List.mem_cons, List.not_mem_nil, or_false] at hp; rcases hp with rfl <;> first | exact Tryz.func260) (by kernel_rfl)
theorem f260.ok (h : ∀ X Y, F260 X = some Y → ∃ n, f260.g n X = some Y) (e172 : ConOk Tryz.prog 172 con172) : ConOk Tryz.prog 260 (mkCon [(true, tTable), (false, .str)] [(false, .int .i64), (false, .int .i64)] true F260) :=
 mkCon_ok mixed TT_ok (envC_ok e172 env0_ok) f260.codes (fun _ => List.all_eq_true.1 rfl) fun X Y hF => (h X Y hF).imp fun n hn => (f260.eq n X).trans hn
def con260 : Con := mkCon [(true, tTable), (false, .str)] [(false, .int .i64), (false, .int .i64)] true F260
/-! ### vellum/vellumref03.copied -/
def E36 : FuncId → Option Con := env0
noncomputable def C36 : List (FuncId × Func) := [(36, Tryz.f36)]
def f36.h1 (x : (List Int)) (y1 : Nat × Int × (List Int)) : List AV × List Ob := ([.val false [.sc (.sl (.int .i64)) x], .undef, .undef, .val false [.own 0 y1.1], .val false [.sc (.int .i64) y1.2.1]] ++ List.replicate 15 .undef, [.arr 3 (.int .i64) y1.2.2])
def f36.L1 (n : Nat) (x : (List Int)) (m1 : Nat) (y1 : Nat × Int × (List Int)) : Option ((List Int)) :=
 loopN (ann 36 3).keep 1 (fun fr H k => execK TT 0 E36 (inlD TT E36 n ann (tabC C36) 1) n (ann 36) (subC [1, 1, 0, 1, 0, 0] (bodyOf Tryz.f36)) fr H k) m1 (f36.h1 x y1).1 (f36.h1 x y1).2 (kont TT 0 E36 (inlD TT E36 n ann (tabC C36) 1) n (ann 36) [1, 1, 0, 1, 0] (bodyOf Tryz.f36) (endK TT Tryz.f36 (readL [(false, .sl (.int .i64))])))
def f36.s1 (n : Nat) (x : (List Int)) (S1 : (Nat × Int × (List Int)) → Option ((List Int))) (y1 : Nat × Int × (List Int)) : Option ((List Int)) :=
 bif decide (y1.2.1 < (x.length : Int)) then
 (bif decide (0 ≤ y1.2.1) && decide (y1.2.1 < (x.length : Int)) then
 (bif decide ((y1.1 + 1) * 8 ≤ boundN) then
 (S1 (y1.1 + 1, (IntKind.wrap .i64 (y1.2.1 + (1 : Int)), List.take y1.1 y1.2.2 ++ ([x.getD y1.2.1.toNat (Ty.dflt (.int .i64))]))))
 else
 (none))
 else
 (none))
 else
 (some (List.take y1.1 y1.2.2))
theorem f36.k1 (n : Nat) (x : (List Int)) (m : Nat) (y : Nat × Int × (List Int)) : f36.L1 n x (m + 1) y = f36.s1 n x (f36.L1 n x m) y := by kernel_rfl
theorem f36.l1 (n : Nat) (x : (List Int)) : ∀ (m : Nat) (y1 : Nat × Int × (List Int)), f36.L1 n x m y1 = iter (f36.s1 n x) m y1 :=
 loop_of (L := f36.L1 n x) (step := f36.s1 n x) (fun _ => rfl) (f36.k1 n x)
def f36.g (n : Nat) (x : (List Int)) : Option ((List Int)) :=
 iter (f36.s1 n x) n (0, ((0 : Int), []))
def f36.q (n : Nat) (x : (List Int)) : Option ((List Int)) :=
 f36.L1 n x n (0, ((0 : Int), []))
theorem f36.eq (n : Nat) (x : (List Int)) : runK TT E36 n ann (tabC C36) 1 36 (argsL [(false, .sl (.int .i64))] x) [] (readL [(false, .sl (.int .i64))]) = f36.g n x := by
 have h : runK TT E36 n ann (tabC C36) 1 36 (argsL [(false, .sl (.int .i64))] x) [] (readL [(false, .sl (.int .i64))]) = f36.q n x := by kernel_rfl
 rw [h]
 simp only [f36.q, f36.g, f36.l1]
theorem f36.codes : CodesOk Tryz.prog E36 ann (tabC C36) := tabC_ok (by intro p hp; simp only [C36, List.mem_cons, List.not_mem_nil, or_false] at hp; rcases hp with rfl <;> first | exact Tryz.func36) (by kernel_rfl)
theorem f36.ok (h : ∀ X Y, F36 X = some Y → ∃ n, f36.g n X = some Y)  : ConOk Tryz.prog 36 (mkCon [(false, .sl (.int .i64))] [(false, .sl (.int .i64))] false F36) :=
 mkCon_ok mixed TT_ok env0_ok f36.codes (fun h => by cases h) fun X Y hF => (h X Y hF).imp fun n hn => (f36.eq n X).trans hn
def con36 : Con := mkCon [(false, .sl (.int .i64))] [(false, .sl (.int .i64))] false F36
/-! ### vellum/vellumref03.Copy -/
def E15 : FuncId → Option Con := (envC 36 con36 env0)
noncomputable def C15 : List (FuncId × Func) := [(15, Tryz.f15)]
def f15.h1 (x : dTable) (r1 : (List Int)) (y2 : Int × Nat × (List dColumn)) (y3 : Int × Nat × (List dIndex)) (y5 : Int × Nat × (List dRef)) : List AV × List Ob := ([.undef, .val false [.ptr 0 0], .val false [.ptr 1 0], .val false [.ptr 2 0], .undef, .undef, .val false [.sc (.int .i64) y5.1]] ++ List.replicate 82 .undef, [.box [.sc .str x.1, .sc (.sl tColumn) x.2.1, .sc (.sl (.int .i64)) x.2.2.1, .sc (.sl tIndex) x.2.2.2.1, .sc (.sl tRef) x.2.2.2.2], .box [.sc .str (⟨#[]⟩ : ByteArray), .nils, .nils, .nils, .nils], .box [.sc .str x.1, .own 3 y2.2.1, .sc (.sl (.int .i64)) r1, .own 4 y3.2.1, .own 5 y5.2.1], .arr 74 tColumn y2.2.2, .arr 76 tIndex y3.2.2, .arr 78 tRef y5.2.2])
def f15.h2 (x : dTable) (r1 : (List Int)) (y2 : Int × Nat × (List dColumn)) (y3 : Int × Nat × (List dIndex)) : List AV × List Ob := ([.undef, .val false [.ptr 0 0], .val false [.ptr 1 0], .val false [.ptr 2 0], .undef, .val false [.sc (.int .i64) y3.1]] ++ List.replicate 83 .undef, [.box [.sc .str x.1, .sc (.sl tColumn) x.2.1, .sc (.sl (.int .i64)) x.2.2.1, .sc (.sl tIndex) x.2.2.2.1, .sc (.sl tRef) x.2.2.2.2], .box [.sc .str (⟨#[]⟩ : ByteArray), .nils, .nils, .nils, .nils], .box [.sc .str x.1, .own 3 y2.2.1, .sc (.sl (.int .i64)) r1, .own 4 y3.2.1, .nils], .arr 74 tColumn y2.2.2, .arr 76 tIndex y3.2.2])
def f15.h3 (x : dTable) (r1 : (List Int)) (y2 : Int × Nat × (List dColumn)) : List AV × List Ob := ([.undef, .val false [.ptr 0 0], .val false [.ptr 1 0], .val false [.ptr 2 0], .val false [.sc (.int .i64) y2.1]] ++ List.replicate 84 .undef, [.box [.sc .str x.1, .sc (.sl tColumn) x.2.1, .sc (.sl (.int .i64)) x.2.2.1, .sc (.sl tIndex) x.2.2.2.1, .sc (.sl tRef) x.2.2.2.2], .box [.sc .str (⟨#[]⟩ : ByteArray), .nils, .nils, .nils, .nils], .box [.sc .str x.1, .own 3 y2.2.1, .sc (.sl (.int .i64)) r1, .nils, .nils], .arr 74 tColumn y2.2.2])
def f15.L1 (n : Nat) (x : dTable) (r1 : (List Int)) (y2 : Int × Nat × (List dColumn)) (y3 : Int × Nat × (List dIndex)) (m5 : Nat) (y5 : Int × Nat × (List dRef)) : Option (dTable) :=
 loopN (ann 15 11).keep 6 (fun fr H k => execK TT 0 E15 (inlD TT E15 n ann (tabC C15) 1) n (ann 15) (subC [1, 1, 1, 1, 0, 1, 0, 0] (bodyOf Tryz.f15)) fr H k) m5 (f15.h1 x r1 y2 y3 y5).1 (f15.h1 x r1 y2 y3 y5).2 (kont TT 0 E15 (inlD TT E15 n ann (tabC C15) 1) n (ann 15) [1, 1, 1, 1, 0, 1, 0] (bodyOf Tryz.f15) (endK TT Tryz.f15 (readL [(true, tTable)])))
def f15.L2 (n : Nat) (x : dTable) (r1 : (List Int)) (y2 : Int × Nat × (List dColumn)) (m3 : Nat) (y3 : Int × Nat × (List dIndex)) : Option (dTable) :=
 loopN (ann 15 7).keep 5 (fun fr H k => execK TT 0 E15 (inlD TT E15 n ann (tabC C15) 1) n (ann 15) (subC [1, 1, 1, 0, 1, 0, 0] (bodyOf Tryz.f15)) fr H k) m3 (f15.h2 x r1 y2 y3).1 (f15.h2 x r1 y2 y3).2 (kont TT 0 E15 (inlD TT E15 n ann (tabC C15) 1) n (ann 15) [1, 1, 1, 0, 1, 0] (bodyOf Tryz.f15) (endK TT Tryz.f15 (readL [(true, tTable)])))
def f15.L3 (n : Nat) (x : dTable) (r1 : (List Int)) (m2 : Nat) (y2 : Int × Nat × (List dColumn)) : Option (dTable) :=
 loopN (ann 15 3).keep 4 (fun fr H k => execK TT 0 E15 (inlD TT E15 n ann (tabC C15) 1) n (ann 15) (subC [1, 1, 0, 1, 0, 0] (bodyOf Tryz.f15)) fr H k) m2 (f15.h3 x r1 y2).1 (f15.h3 x r1 y2).2 (kont TT 0 E15 (inlD TT E15 n ann (tabC C15) 1) n (ann 15) [1, 1, 0, 1, 0] (bodyOf Tryz.f15) (endK TT Tryz.f15 (readL [(true, tTable)])))
def f15.s1 (n : Nat) (x : dTable) (r1 : (List Int)) (y2 : Int × Nat × (List dColumn)) (y3 : Int × Nat × (List dIndex)) (S5 : (Int × Nat × (List dRef)) → Option (dTable)) (y5 : Int × Nat × (List dRef)) : Option (dTable) :=
 bif decide (y5.1 < (x.2.2.2.2.length : Int)) then
 (bif decide (0 ≤ y5.1) && decide (y5.1 < (x.2.2.2.2.length : Int)) then
 ((F36 (x.2.2.2.2.getD y5.1.toNat tRef.dflt).1).bind fun r6 =>
 bif decide (0 ≤ y5.1) && decide (y5.1 < (x.2.2.2.2.length : Int)) then
 (bif decide ((y5.2.1 + 1) * 40 ≤ boundN) then
 (S5 (IntKind.wrap .i64 (y5.1 + (1 : Int)), (y5.2.1 + 1, List.take y5.2.1 y5.2.2 ++ ([(r6, (x.2.2.2.2.getD y5.1.toNat tRef.dflt).2)]))))
 else
 (none))
 else
 (none))
 else
 (none))
 else
 (some (x.1, (List.take y2.2.1 y2.2.2, (r1, (List.take y3.2.1 y3.2.2, List.take y5.2.1 y5.2.2)))))
theorem f15.k1 (n : Nat) (x : dTable) (r1 : (List Int)) (y2 : Int × Nat × (List dColumn)) (y3 : Int × Nat × (List dIndex)) (m : Nat) (y : Int × Nat × (List dRef)) : f15.L1 n x r1 y2 y3 (m + 1) y = f15.s1 n x r1 y2 y3 (f15.L1 n x r1 y2 y3 m) y := by kernel_rfl
theorem f15.l1 (n : Nat) (x : dTable) (r1 : (List Int)) (y2 : Int × Nat × (List dColumn)) (y3 : Int × Nat × (List dIndex)) : ∀ (m : Nat) (y5 : Int × Nat × (List dRef)), f15.L1 n x r1 y2 y3 m y5 = iter (f15.s1 n x r1 y2 y3) m y5 :=
 loop_of (L := f15.L1 n x r1 y2 y3) (step := f15.s1 n x r1 y2 y3) (fun _ => rfl) (f15.k1 n x r1 y2 y3)
def f15.s2 (n : Nat) (x : dTable) (r1 : (List Int)) (y2 : Int × Nat × (List dColumn)) (S3 : (Int × Nat × (List dIndex)) → Option (dTable)) (y3 : Int × Nat × (List dIndex)) : Option (dTable) :=
 bif decide (y3.1 < (x.2.2.2.1.length : Int)) then
 (bif decide (0 ≤ y3.1) && decide (y3.1 < (x.2.2.2.1.length : Int)) then
 (bif decide (0 ≤ y3.1) && decide (y3.1 < (x.2.2.2.1.length : Int)) then
 ((F36 (x.2.2.2.1.getD y3.1.toNat tIndex.dflt).2.1).bind fun r4 =>
 bif decide (0 ≤ y3.1) && decide (y3.1 < (x.2.2.2.1.length : Int)) then
 (bif decide ((y3.2.1 + 1) * 48 ≤ boundN) then
 (S3 (IntKind.wrap .i64 (y3.1 + (1 : Int)), (y3.2.1 + 1, List.take y3.2.1 y3.2.2 ++ ([((x.2.2.2.1.getD y3.1.toNat tIndex.dflt).1, (r4, (x.2.2.2.1.getD y3.1.toNat tIndex.dflt).2.2))]))))
 else
 (none))
 else
 (none))
 else
 (none))
 else
 (none))
 else
 (iter (f15.s1 n x r1 y2 y3) n ((0 : Int), (0, [])))
def f15.r2 (n : Nat) (x : dTable) (r1 : (List Int)) (y2 : Int × Nat × (List dColumn)) (m3 : Nat) (S3 : (Int × Nat × (List dIndex)) → Option (dTable)) (y3 : Int × Nat × (List dIndex)) : Option (dTable) :=
 bif decide (y3.1 < (x.2.2.2.1.length : Int)) then
 (bif decide (0 ≤ y3.1) && decide (y3.1 < (x.2.2.2.1.length : Int)) then
 (bif decide (0 ≤ y3.1) && decide (y3.1 < (x.2.2.2.1.length : Int)) then
 ((F36 (x.2.2.2.1.getD y3.1.toNat tIndex.dflt).2.1).bind fun r4 =>
 bif decide (0 ≤ y3.1) && decide (y3.1 < (x.2.2.2.1.length : Int)) then
 (bif decide ((y3.2.1 + 1) * 48 ≤ boundN) then
 (S3 (IntKind.wrap .i64 (y3.1 + (1 : Int)), (y3.2.1 + 1, List.take y3.2.1 y3.2.2 ++ ([((x.2.2.2.1.getD y3.1.toNat tIndex.dflt).1, (r4, (x.2.2.2.1.getD y3.1.toNat tIndex.dflt).2.2))]))))
 else
 (none))
 else
 (none))
 else
 (none))
 else
 (none))
 else
 (f15.L1 n x r1 y2 y3 n ((0 : Int), (0, [])))
theorem f15.k2 (n : Nat) (x : dTable) (r1 : (List Int)) (y2 : Int × Nat × (List dColumn)) (m : Nat) (y : Int × Nat × (List dIndex)) : f15.L2 n x r1 y2 (m + 1) y = f15.s2 n x r1 y2 (f15.L2 n x r1 y2 m) y := by
 have h : f15.L2 n x r1 y2 (m + 1) y = f15.r2 n x r1 y2 m (f15.L2 n x r1 y2 m) y := by kernel_rfl
 rw [h]
 simp only [f15.r2, f15.s2, f15.l1]
theorem f15.l2 (n : Nat) (x : dTable) (r1 : (List Int)) (y2 : Int × Nat × (List dColumn)) : ∀ (m : Nat) (y3 : Int × Nat × (List dIndex)), f15.L2 n x r1 y2 m y3 = iter (f15.s2 n x r1 y2) m y3 :=
 loop_of (L := f15.L2 n x r1 y2) (step := f15.s2 n x r1 y2) (fun _ => rfl) (f15.k2 n x r1 y2)
def f15.s3 (n : Nat) (x : dTable) (r1 : (List Int)) (S2 : (Int × Nat × (List dColumn)) → Option (dTable)) (y2 : Int × Nat × (List dColumn)) : Option (dTable) :=
 bif decide (y2.1 < (x.2.1.length : Int)) then
 (bif decide (0 ≤ y2.1) && decide (y2.1 < (x.2.1.length : Int)) then
 (bif decide ((y2.2.1 + 1) * 72 ≤ boundN) then
 (S2 (IntKind.wrap .i64 (y2.1 + (1 : Int)), (y2.2.1 + 1, List.take y2.2.1 y2.2.2 ++ ([x.2.1.getD y2.1.toNat tColumn.dflt]))))
 else
 (none))
 else
 (none))
 else
 (iter (f15.s2 n x r1 y2) n ((0 : Int), (0, [])))
def f15.r3 (n : Nat) (x : dTable) (r1 : (List Int)) (m2 : Nat) (S2 : (Int × Nat × (List dColumn)) → Option (dTable)) (y2 : Int × Nat × (List dColumn)) : Option (dTable) :=
 bif decide (y2.1 < (x.2.1.length : Int)) then
 (bif decide (0 ≤ y2.1) && decide (y2.1 < (x.2.1.length : Int)) then
 (bif decide ((y2.2.1 + 1) * 72 ≤ boundN) then
 (S2 (IntKind.wrap .i64 (y2.1 + (1 : Int)), (y2.2.1 + 1, List.take y2.2.1 y2.2.2 ++ ([x.2.1.getD y2.1.toNat tColumn.dflt]))))
 else
 (none))
 else
 (none))
 else
 (f15.L2 n x r1 y2 n ((0 : Int), (0, [])))
theorem f15.k3 (n : Nat) (x : dTable) (r1 : (List Int)) (m : Nat) (y : Int × Nat × (List dColumn)) : f15.L3 n x r1 (m + 1) y = f15.s3 n x r1 (f15.L3 n x r1 m) y := by
 have h : f15.L3 n x r1 (m + 1) y = f15.r3 n x r1 m (f15.L3 n x r1 m) y := by kernel_rfl
 rw [h]
 simp only [f15.r3, f15.s3, f15.l1, f15.l2]
theorem f15.l3 (n : Nat) (x : dTable) (r1 : (List Int)) : ∀ (m : Nat) (y2 : Int × Nat × (List dColumn)), f15.L3 n x r1 m y2 = iter (f15.s3 n x r1) m y2 :=
 loop_of (L := f15.L3 n x r1) (step := f15.s3 n x r1) (fun _ => rfl) (f15.k3 n x r1)
def f15.g (n : Nat) (x : dTable) : Option (dTable) :=
 (F36 x.2.2.1).bind fun r1 =>
 iter (f15.s3 n x r1) n ((0 : Int), (0, []))
def f15.q (n : Nat) (x : dTable) : Option (dTable) :=
 (F36 x.2.2.1).bind fun r1 =>
 f15.L3 n x r1 n ((0 : Int), (0, []))
theorem f15.eq (n : Nat) (x : dTable) : runK TT E15 n ann (tabC C15) 1 15 (argsL [(true, tTable)] x) [] (readL [(true, tTable)]) = f15.g n x := by
 have h : runK TT E15 n ann (tabC C15) 1 15 (argsL [(true, tTable)] x) [] (readL [(true, tTable)]) = f15.q n x := by kernel_rfl
 rw [h]
 simp only [f15.q, f15.g, f15.l1, f15.l2, f15.l3]
theorem f15.codes : CodesOk Tryz.prog E15 ann (tabC C15) := tabC_ok (by intro p hp; simp only [C15, List.mem_cons, List.not_mem_nil, or_false] at hp; rcases hp with rfl <;> first | exact Tryz.func15) (by kernel_rfl)
theorem f15.ok (h : ∀ X Y, F15 X = some Y → ∃ n, f15.g n X = some Y) (e36 : ConOk Tryz.prog 36 con36) : ConOk Tryz.prog 15 (mkCon [(true, tTable)] [(true, tTable)] false F15) :=
 mkCon_ok mixed TT_ok (envC_ok e36 env0_ok) f15.codes (fun h => by cases h) fun X Y hF => (h X Y hF).imp fun n hn => (f15.eq n X).trans hn
def con15 : Con := mkCon [(true, tTable)] [(true, tTable)] false F15
/-! ### vellum/vellumref03.some -/
def E76 : FuncId → Option Con := env0
noncomputable def C76 : List (FuncId × Func) := [(76, Tryz.f76)]
def f76.h1 (x : dTable × (List Int)) (y1 : Int) (y2 : Int) : List AV × List Ob := ([.undef, .val false [.sc (.sl (.int .i64)) x.2], .val false [.ptr 0 0], .undef, .undef, .val false [.sc (.int .i64) y1], .val false [.sc (.int .i64) y2], .undef, .undef, .undef, .undef, .undef, .undef, .undef, .undef, .undef, .undef, .undef, .undef, .undef, .undef, .undef, .undef, .undef, .undef, .undef, .undef, .val false [.sc (.sl (.int .i64)) x.2], .val false [.sc (.int .i64) y1], .val false [.elr (.int .i64) (x.2.getD y1.toNat (Ty.dflt (.int .i64))) 0], .val false [.sc (.int .i64) (x.2.getD y1.toNat (Ty.dflt (.int .i64)))], .val false [.ptr 0 1], .val false [.sc (.sl tColumn) x.1.2.1], .val false [.sc (.int .i64) (x.1.2.1.length : Int)], .val false [.sc .bool (decide (x.2.getD y1.toNat (Ty.dflt (.int .i64)) ≥ (x.1.2.1.length : Int)))]] ++ List.replicate 15 .undef, [.box [.sc .str x.1.1, .sc (.sl tColumn) x.1.2.1, .sc (.sl (.int .i64)) x.1.2.2.1, .sc (.sl tIndex) x.1.2.2.2.1, .sc (.sl tRef) x.1.2.2.2.2]])
def f76.h2 (x : dTable × (List Int)) (y1 : Int) : List AV × List Ob := ([.undef, .val false [.sc (.sl (.int .i64)) x.2], .val false [.ptr 0 0], .undef, .undef, .val false [.sc (.int .i64) y1]] ++ List.replicate 44 .undef, [.box [.sc .str x.1.1, .sc (.sl tColumn) x.1.2.1, .sc (.sl (.int .i64)) x.1.2.2.1, .sc (.sl tIndex) x.1.2.2.2.1, .sc (.sl tRef) x.1.2.2.2.2]])
def f76.L1 (n : Nat) (x : dTable × (List Int)) (y1 : Int) (m1 : Nat) (m2 : Nat) (y2 : Int) : Option (Bool) :=
 loopN (ann 76 9).keep 1 (fun fr H k => execK TT 0 E76 (inlD TT E76 n ann (tabC C76) 1) n (ann 76) (subC [1, 1, 0, 1, 0, 0, 1, 0, 0, 1, 1, 0, 0] (bodyOf Tryz.f76)) fr H k) m2 (f76.h1 x y1 y2).1 (f76.h1 x y1 y2).2 (kont TT 0 E76 (inlD TT E76 n ann (tabC C76) 1) n (ann 76) [1, 0, 0, 1, 1, 0] (subC [1, 1, 0, 1, 0, 0] (bodyOf Tryz.f76)) (loopK (ann 76 4).keep 1 (fun fr H k => execK TT 0 E76 (inlD TT E76 n ann (tabC C76) 1) n (ann 76) (subC [1, 1, 0, 1, 0, 0] (bodyOf Tryz.f76)) fr H k) m1 (kont TT 0 E76 (inlD TT E76 n ann (tabC C76) 1) n (ann 76) [1, 1, 0, 1, 0] (bodyOf Tryz.f76) (endK TT Tryz.f76 (readL [(false, .bool)])))))
def f76.L2 (n : Nat) (x : dTable × (List Int)) (m1 : Nat) (y1 : Int) : Option (Bool) :=
 loopN (ann 76 4).keep 1 (fun fr H k => execK TT 0 E76 (inlD TT E76 n ann (tabC C76) 1) n (ann 76) (subC [1, 1, 0, 1, 0, 0] (bodyOf Tryz.f76)) fr H k) m1 (f76.h2 x y1).1 (f76.h2 x y1).2 (kont TT 0 E76 (inlD TT E76 n ann (tabC C76) 1) n (ann 76) [1, 1, 0, 1, 0] (bodyOf Tryz.f76) (endK TT Tryz.f76 (readL [(false, .bool)])))
def f76.s1 (n : Nat) (x : dTable × (List Int)) (y1 : Int) (S1 : Int → Option (Bool)) (S2 : Int → Option (Bool)) (y2 : Int) : Option (Bool) :=
 bif decide (y2 < y1) then
 (bif decide (0 ≤ y2) && decide (y2 < (x.2.length : Int)) then
 (bif decide (0 ≤ y1) && decide (y1 < (x.2.length : Int)) then
 (bif x.2.getD y2.toNat (Ty.dflt (.int .i64)) == x.2.getD y1.toNat (Ty.dflt (.int .i64)) then
 (some false)
 else
 (S2 (IntKind.wrap .i64 (y2 + (1 : Int)))))
 else
 (none))
 else
 (none))
 else
 (S1 (IntKind.wrap .i64 (y1 + (1 : Int))))
def f76.r1 (n : Nat) (x : dTable × (List Int)) (y1 : Int) (m1 : Nat) (m2 : Nat) (S1 : Int → Option (Bool)) (S2 : Int → Option (Bool)) (y2 : Int) : Option (Bool) :=
 bif decide (y2 < y1) then
 (bif decide (0 ≤ y2) && decide (y2 < (x.2.length : Int)) then
 (bif decide (0 ≤ y1) && decide (y1 < (x.2.length : Int)) then
 (bif x.2.getD y2.toNat (Ty.dflt (.int .i64)) == x.2.getD y1.toNat (Ty.dflt (.int .i64)) then
 (some false)
 else
 (S2 (IntKind.wrap .i64 (y2 + (1 : Int)))))
 else
 (none))
 else
 (none))
 else
 (S1 (IntKind.wrap .i64 (y1 + (1 : Int))))
theorem f76.k1 (n : Nat) (x : dTable × (List Int)) (y1 : Int) (m1 : Nat) (m : Nat) (y : Int) : f76.L1 n x y1 m1 (m + 1) y = f76.s1 n x y1 (f76.L2 n x m1) (f76.L1 n x y1 m1 m) y := by
 have h : f76.L1 n x y1 m1 (m + 1) y = f76.r1 n x y1 m1 m (f76.L2 n x m1) (f76.L1 n x y1 m1 m) y := by kernel_rfl
 rw [h]
 simp only [f76.r1, f76.s1]
theorem f76.l1 (n : Nat) (x : dTable × (List Int)) (y1 : Int) (m1 : Nat) : ∀ (m : Nat) (y2 : Int), f76.L1 n x y1 m1 m y2 = iter (f76.s1 n x y1 (f76.L2 n x m1)) m y2 :=
 loop_of (L := f76.L1 n x y1 m1) (step := f76.s1 n x y1 (f76.L2 n x m1)) (fun _ => rfl) (f76.k1 n x y1 m1)
def f76.s2 (n : Nat) (x : dTable × (List Int)) (S1 : Int → Option (Bool)) (y1 : Int) : Option (Bool) :=
 bif decide (y1 < (x.2.length : Int)) then
 (bif decide (0 ≤ y1) && decide (y1 < (x.2.length : Int)) then
 (bif decide (x.2.getD y1.toNat (Ty.dflt (.int .i64)) < (0 : Int)) then
 (some false)
 else
 (bif decide (0 ≤ y1) && decide (y1 < (x.2.length : Int)) then
 (bif decide (x.2.getD y1.toNat (Ty.dflt (.int .i64)) ≥ (x.1.2.1.length : Int)) then
 (some false)
 else
 (iter (f76.s1 n x y1 S1) n (0 : Int)))
 else
 (none)))
 else
 (none))
 else
 (some true)
def f76.r2 (n : Nat) (x : dTable × (List Int)) (m1 : Nat) (S1 : Int → Option (Bool)) (y1 : Int) : Option (Bool) :=
 bif decide (y1 < (x.2.length : Int)) then
 (bif decide (0 ≤ y1) && decide (y1 < (x.2.length : Int)) then
 (bif decide (x.2.getD y1.toNat (Ty.dflt (.int .i64)) < (0 : Int)) then
 (some false)
 else
 (bif decide (0 ≤ y1) && decide (y1 < (x.2.length : Int)) then
 (bif decide (x.2.getD y1.toNat (Ty.dflt (.int .i64)) ≥ (x.1.2.1.length : Int)) then
 (some false)
 else
 (f76.L1 n x y1 m1 n (0 : Int)))
 else
 (none)))
 else
 (none))
 else
 (some true)
theorem f76.k2 (n : Nat) (x : dTable × (List Int)) (m : Nat) (y : Int) : f76.L2 n x (m + 1) y = f76.s2 n x (f76.L2 n x m) y := by
 have h : f76.L2 n x (m + 1) y = f76.r2 n x m (f76.L2 n x m) y := by kernel_rfl
 rw [h]
 simp only [f76.r2, f76.s2, f76.l1]
theorem f76.l2 (n : Nat) (x : dTable × (List Int)) : ∀ (m : Nat) (y1 : Int), f76.L2 n x m y1 = iter (f76.s2 n x) m y1 :=
 loop_of (L := f76.L2 n x) (step := f76.s2 n x) (fun _ => rfl) (f76.k2 n x)
def f76.g (n : Nat) (x : dTable × (List Int)) : Option (Bool) :=
 bif bif (decide ((x.2.length : Int) < (1 : Int))) then true else (decide ((x.2.length : Int) > (64 : Int))) then
 (some false)
 else
 (iter (f76.s2 n x) n (0 : Int))
def f76.q (n : Nat) (x : dTable × (List Int)) : Option (Bool) :=
 bif bif (decide ((x.2.length : Int) < (1 : Int))) then true else (decide ((x.2.length : Int) > (64 : Int))) then
 (some false)
 else
 (f76.L2 n x n (0 : Int))
theorem f76.eq (n : Nat) (x : dTable × (List Int)) : runK TT E76 n ann (tabC C76) 1 76 (argsL [(true, tTable), (false, .sl (.int .i64))] x) [] (readL [(false, .bool)]) = f76.g n x := by
 have h : runK TT E76 n ann (tabC C76) 1 76 (argsL [(true, tTable), (false, .sl (.int .i64))] x) [] (readL [(false, .bool)]) = f76.q n x := by kernel_rfl
 rw [h]
 simp only [f76.q, f76.g, f76.l1, f76.l2]
theorem f76.codes : CodesOk Tryz.prog E76 ann (tabC C76) := tabC_ok (by intro p hp; simp only [C76, List.mem_cons, List.not_mem_nil, or_false] at hp; rcases hp with rfl <;> first | exact Tryz.func76) (by kernel_rfl)
theorem f76.ok (h : ∀ X Y, F76 X = some Y → ∃ n, f76.g n X = some Y)  : ConOk Tryz.prog 76 (mkCon [(true, tTable), (false, .sl (.int .i64))] [(false, .bool)] true F76) :=
 mkCon_ok mixed TT_ok env0_ok f76.codes (fun _ => List.all_eq_true.1 rfl) fun X Y hF => (h X Y hF).imp fun n hn => (f76.eq n X).trans hn
def con76 : Con := mkCon [(true, tTable), (false, .sl (.int .i64))] [(false, .bool)] true F76
/-! ### vellum/vellumref03.columns -/
def E75 : FuncId → Option Con := (envC 78 con78 (envC 74 con74 env0))
noncomputable def C75 : List (FuncId × Func) := [(75, Tryz.f75)]
def f75.h1 (x : dTable) (y1 : Int) (r2 : Bool) (y3 : Int) : List AV × List Ob := ([.undef, .val false [.ptr 0 0], .undef, .val false [.sc (.int .i64) y1], .val false [.ptr 1 0], .val false [.sc (.int .i64) y3]] ++ List.replicate 58 .undef, [.box [.sc .str x.1, .sc (.sl tColumn) x.2.1, .sc (.sl (.int .i64)) x.2.2.1, .sc (.sl tIndex) x.2.2.2.1, .sc (.sl tRef) x.2.2.2.2], .box [.sc .str (x.2.1.getD y1.toNat tColumn.dflt).1, .sc (.int .i64) (x.2.1.getD y1.toNat tColumn.dflt).2.1, .sc .bool (x.2.1.getD y1.toNat tColumn.dflt).2.2.1, .sc (.int .i64) (x.2.1.getD y1.toNat tColumn.dflt).2.2.2.1, .sc (.int .i64) (x.2.1.getD y1.toNat tColumn.dflt).2.2.2.2.1, .sc (.float .f64) (x.2.1.getD y1.toNat tColumn.dflt).2.2.2.2.2.1, .sc .str (x.2.1.getD y1.toNat tColumn.dflt).2.2.2.2.2.2]])
def f75.h2 (x : dTable) (y1 : Int) : List AV × List Ob := ([.undef, .val false [.ptr 0 0], .undef, .val false [.sc (.int .i64) y1]] ++ List.replicate 60 .undef, [.box [.sc .str x.1, .sc (.sl tColumn) x.2.1, .sc (.sl (.int .i64)) x.2.2.1, .sc (.sl tIndex) x.2.2.2.1, .sc (.sl tRef) x.2.2.2.2]])
def f75.L1 (n : Nat) (x : dTable) (y1 : Int) (r2 : Bool) (m1 : Nat) (m3 : Nat) (y3 : Int) : Option (Int) :=
 loopN (ann 75 8).keep 2 (fun fr H k => execK TT 0 E75 (inlD TT E75 n ann (tabC C75) 1) n (ann 75) (subC [1, 0, 1, 0, 0, 1, 0, 0, 1, 1, 0, 1, 0, 0] (bodyOf Tryz.f75)) fr H k) m3 (f75.h1 x y1 r2 y3).1 (f75.h1 x y1 r2 y3).2 (kont TT 0 E75 (inlD TT E75 n ann (tabC C75) 1) n (ann 75) [1, 0, 0, 1, 1, 0, 1, 0] (subC [1, 0, 1, 0, 0] (bodyOf Tryz.f75)) (loopK (ann 75 2).keep 1 (fun fr H k => execK TT 0 E75 (inlD TT E75 n ann (tabC C75) 1) n (ann 75) (subC [1, 0, 1, 0, 0] (bodyOf Tryz.f75)) fr H k) m1 (kont TT 0 E75 (inlD TT E75 n ann (tabC C75) 1) n (ann 75) [1, 0, 1, 0] (bodyOf Tryz.f75) (endK TT Tryz.f75 (readL [(false, .int .i64)])))))
def f75.L2 (n : Nat) (x : dTable) (m1 : Nat) (y1 : Int) : Option (Int) :=
 loopN (ann 75 2).keep 1 (fun fr H k => execK TT 0 E75 (inlD TT E75 n ann (tabC C75) 1) n (ann 75) (subC [1, 0, 1, 0, 0] (bodyOf Tryz.f75)) fr H k) m1 (f75.h2 x y1).1 (f75.h2 x y1).2 (kont TT 0 E75 (inlD TT E75 n ann (tabC C75) 1) n (ann 75) [1, 0, 1, 0] (bodyOf Tryz.f75) (endK TT Tryz.f75 (readL [(false, .int .i64)])))
def f75.s1 (n : Nat) (x : dTable) (y1 : Int) (r2 : Bool) (S1 : Int → Option (Int)) (S3 : Int → Option (Int)) (y3 : Int) : Option (Int) :=
 bif decide (y3 < y1) then
 (bif decide (0 ≤ y3) && decide (y3 < (x.2.1.length : Int)) then
 (bif strEq (x.2.1.getD y3.toNat tColumn.dflt).1 (x.2.1.getD y1.toNat tColumn.dflt).1 then
 (some (31 : Int))
 else
 (S3 (IntKind.wrap .i64 (y3 + (1 : Int)))))
 else
 (none))
 else
 (bif bif (decide ((x.2.1.getD y1.toNat tColumn.dflt).2.1 < (1 : Int))) then true else (decide ((x.2.1.getD y1.toNat tColumn.dflt).2.1 > (5 : Int))) then
 (some (32 : Int))
 else
 ((F78 (x.2.1.getD y1.toNat tColumn.dflt).2.2.2).bind fun r4 =>
 bif bif (r4 != (0 : Int)) then true else (bif ((x.2.1.getD y1.toNat tColumn.dflt).2.2.2.1 != (x.2.1.getD y1.toNat tColumn.dflt).2.1) then ((x.2.1.getD y1.toNat tColumn.dflt).2.2.2.1 != (0 : Int)) else false) then
 (some (32 : Int))
 else
 (S1 (IntKind.wrap .i64 (y1 + (1 : Int))))))
def f75.r1 (n : Nat) (x : dTable) (y1 : Int) (r2 : Bool) (m1 : Nat) (m3 : Nat) (S1 : Int → Option (Int)) (S3 : Int → Option (Int)) (y3 : Int) : Option (Int) :=
 bif decide (y3 < y1) then
 (bif decide (0 ≤ y3) && decide (y3 < (x.2.1.length : Int)) then
 (bif strEq (x.2.1.getD y3.toNat tColumn.dflt).1 (x.2.1.getD y1.toNat tColumn.dflt).1 then
 (some (31 : Int))
 else
 (S3 (IntKind.wrap .i64 (y3 + (1 : Int)))))
 else
 (none))
 else
 (bif bif (decide ((x.2.1.getD y1.toNat tColumn.dflt).2.1 < (1 : Int))) then true else (decide ((x.2.1.getD y1.toNat tColumn.dflt).2.1 > (5 : Int))) then
 (some (32 : Int))
 else
 ((F78 (x.2.1.getD y1.toNat tColumn.dflt).2.2.2).bind fun r4 =>
 bif bif (r4 != (0 : Int)) then true else (bif ((x.2.1.getD y1.toNat tColumn.dflt).2.2.2.1 != (x.2.1.getD y1.toNat tColumn.dflt).2.1) then ((x.2.1.getD y1.toNat tColumn.dflt).2.2.2.1 != (0 : Int)) else false) then
 (some (32 : Int))
 else
 (S1 (IntKind.wrap .i64 (y1 + (1 : Int))))))
theorem f75.k1 (n : Nat) (x : dTable) (y1 : Int) (r2 : Bool) (m1 : Nat) (m : Nat) (y : Int) : f75.L1 n x y1 r2 m1 (m + 1) y = f75.s1 n x y1 r2 (f75.L2 n x m1) (f75.L1 n x y1 r2 m1 m) y := by
 have h : f75.L1 n x y1 r2 m1 (m + 1) y = f75.r1 n x y1 r2 m1 m (f75.L2 n x m1) (f75.L1 n x y1 r2 m1 m) y := by kernel_rfl
 rw [h]
 simp only [f75.r1, f75.s1]
theorem f75.l1 (n : Nat) (x : dTable) (y1 : Int) (r2 : Bool) (m1 : Nat) : ∀ (m : Nat) (y3 : Int), f75.L1 n x y1 r2 m1 m y3 = iter (f75.s1 n x y1 r2 (f75.L2 n x m1)) m y3 :=
 loop_of (L := f75.L1 n x y1 r2 m1) (step := f75.s1 n x y1 r2 (f75.L2 n x m1)) (fun _ => rfl) (f75.k1 n x y1 r2 m1)
def f75.s2 (n : Nat) (x : dTable) (S1 : Int → Option (Int)) (y1 : Int) : Option (Int) :=
 bif decide (y1 < (x.2.1.length : Int)) then
 (bif decide (0 ≤ y1) && decide (y1 < (x.2.1.length : Int)) then
 ((F74 (x.2.1.getD y1.toNat tColumn.dflt).1).bind fun r2 =>
 bif !r2 then
 (some (30 : Int))
 else
 (iter (f75.s1 n x y1 r2 S1) n (0 : Int)))
 else
 (none))
 else
 (some (0 : Int))
def f75.r2 (n : Nat) (x : dTable) (m1 : Nat) (S1 : Int → Option (Int)) (y1 : Int) : Option (Int) :=
 bif decide (y1 < (x.2.1.length : Int)) then
 (bif decide (0 ≤ y1) && decide (y1 < (x.2.1.length : Int)) then
 ((F74 (x.2.1.getD y1.toNat tColumn.dflt).1).bind fun r2 =>
 bif !r2 then
 (some (30 : Int))
 else
 (f75.L1 n x y1 r2 m1 n (0 : Int)))
 else
 (none))
 else
 (some (0 : Int))
theorem f75.k2 (n : Nat) (x : dTable) (m : Nat) (y : Int) : f75.L2 n x (m + 1) y = f75.s2 n x (f75.L2 n x m) y := by
 have h : f75.L2 n x (m + 1) y = f75.r2 n x m (f75.L2 n x m) y := by kernel_rfl
 rw [h]
 simp only [f75.r2, f75.s2, f75.l1]
theorem f75.l2 (n : Nat) (x : dTable) : ∀ (m : Nat) (y1 : Int), f75.L2 n x m y1 = iter (f75.s2 n x) m y1 :=
 loop_of (L := f75.L2 n x) (step := f75.s2 n x) (fun _ => rfl) (f75.k2 n x)
def f75.g (n : Nat) (x : dTable) : Option (Int) :=
 iter (f75.s2 n x) n (0 : Int)
def f75.q (n : Nat) (x : dTable) : Option (Int) :=
 f75.L2 n x n (0 : Int)
theorem f75.eq (n : Nat) (x : dTable) : runK TT E75 n ann (tabC C75) 1 75 (argsL [(true, tTable)] x) [] (readL [(false, .int .i64)]) = f75.g n x := by
 have h : runK TT E75 n ann (tabC C75) 1 75 (argsL [(true, tTable)] x) [] (readL [(false, .int .i64)]) = f75.q n x := by kernel_rfl
 rw [h]
 simp only [f75.q, f75.g, f75.l1, f75.l2]
theorem f75.codes : CodesOk Tryz.prog E75 ann (tabC C75) := tabC_ok (by intro p hp; simp only [C75, List.mem_cons, List.not_mem_nil, or_false] at hp; rcases hp with rfl <;> first | exact Tryz.func75) (by kernel_rfl)
theorem f75.ok (h : ∀ X Y, F75 X = some Y → ∃ n, f75.g n X = some Y) (e74 : ConOk Tryz.prog 74 con74) (e78 : ConOk Tryz.prog 78 con78) : ConOk Tryz.prog 75 (mkCon [(true, tTable)] [(false, .int .i64)] true F75) :=
 mkCon_ok mixed TT_ok (envC_ok e78 (envC_ok e74 env0_ok)) f75.codes (fun _ => List.all_eq_true.1 rfl) fun X Y hF => (h X Y hF).imp fun n hn => (f75.eq n X).trans hn
def con75 : Con := mkCon [(true, tTable)] [(false, .int .i64)] true F75
/-! ### vellum/vellumref03.indexes -/
def E77 : FuncId → Option Con := (envC 76 con76 (envC 74 con74 env0))
noncomputable def C77 : List (FuncId × Func) := [(77, Tryz.f77)]
def f77.h1 (x : dTable) (y1 : Int) (r2 : Bool) (y3 : Int) : List AV × List Ob := ([.undef, .val false [.ptr 0 0], .undef, .val false [.sc (.int .i64) y1], .val false [.ptr 1 0], .val false [.sc (.int .i64) y3]] ++ List.replicate 35 .undef, [.box [.sc .str x.1, .sc (.sl tColumn) x.2.1, .sc (.sl (.int .i64)) x.2.2.1, .sc (.sl tIndex) x.2.2.2.1, .sc (.sl tRef) x.2.2.2.2], .box [.sc .str (x.2.2.2.1.getD y1.toNat tIndex.dflt).1, .sc (.sl (.int .i64)) (x.2.2.2.1.getD y1.toNat tIndex.dflt).2.1, .sc .bool (x.2.2.2.1.getD y1.toNat tIndex.dflt).2.2]])
def f77.h2 (x : dTable) (y1 : Int) : List AV × List Ob := ([.undef, .val false [.ptr 0 0], .undef, .val false [.sc (.int .i64) y1]] ++ List.replicate 37 .undef, [.box [.sc .str x.1, .sc (.sl tColumn) x.2.1, .sc (.sl (.int .i64)) x.2.2.1, .sc (.sl tIndex) x.2.2.2.1, .sc (.sl tRef) x.2.2.2.2]])
def f77.L1 (n : Nat) (x : dTable) (y1 : Int) (r2 : Bool) (m1 : Nat) (m3 : Nat) (y3 : Int) : Option (Int) :=
 loopN (ann 77 8).keep 2 (fun fr H k => execK TT 0 E77 (inlD TT E77 n ann (tabC C77) 1) n (ann 77) (subC [1, 0, 1, 0, 0, 1, 0, 0, 1, 1, 0, 1, 0, 0] (bodyOf Tryz.f77)) fr H k) m3 (f77.h1 x y1 r2 y3).1 (f77.h1 x y1 r2 y3).2 (kont TT 0 E77 (inlD TT E77 n ann (tabC C77) 1) n (ann 77) [1, 0, 0, 1, 1, 0, 1, 0] (subC [1, 0, 1, 0, 0] (bodyOf Tryz.f77)) (loopK (ann 77 2).keep 1 (fun fr H k => execK TT 0 E77 (inlD TT E77 n ann (tabC C77) 1) n (ann 77) (subC [1, 0, 1, 0, 0] (bodyOf Tryz.f77)) fr H k) m1 (kont TT 0 E77 (inlD TT E77 n ann (tabC C77) 1) n (ann 77) [1, 0, 1, 0] (bodyOf Tryz.f77) (endK TT Tryz.f77 (readL [(false, .int .i64)])))))
def f77.L2 (n : Nat) (x : dTable) (m1 : Nat) (y1 : Int) : Option (Int) :=
 loopN (ann 77 2).keep 1 (fun fr H k => execK TT 0 E77 (inlD TT E77 n ann (tabC C77) 1) n (ann 77) (subC [1, 0, 1, 0, 0] (bodyOf Tryz.f77)) fr H k) m1 (f77.h2 x y1).1 (f77.h2 x y1).2 (kont TT 0 E77 (inlD TT E77 n ann (tabC C77) 1) n (ann 77) [1, 0, 1, 0] (bodyOf Tryz.f77) (endK TT Tryz.f77 (readL [(false, .int .i64)])))
def f77.s1 (n : Nat) (x : dTable) (y1 : Int) (r2 : Bool) (S1 : Int → Option (Int)) (S3 : Int → Option (Int)) (y3 : Int) : Option (Int) :=
 bif decide (y3 < y1) then
 (bif decide (0 ≤ y3) && decide (y3 < (x.2.2.2.1.length : Int)) then
 (bif strEq (x.2.2.2.1.getD y3.toNat tIndex.dflt).1 (x.2.2.2.1.getD y1.toNat tIndex.dflt).1 then
 (some (31 : Int))
 else
 (S3 (IntKind.wrap .i64 (y3 + (1 : Int)))))
 else
 (none))
 else
 ((F76 (x, (x.2.2.2.1.getD y1.toNat tIndex.dflt).2.1)).bind fun r4 =>
 bif !r4 then
 (some (33 : Int))
 else
 (S1 (IntKind.wrap .i64 (y1 + (1 : Int)))))
def f77.r1 (n : Nat) (x : dTable) (y1 : Int) (r2 : Bool) (m1 : Nat) (m3 : Nat) (S1 : Int → Option (Int)) (S3 : Int → Option (Int)) (y3 : Int) : Option (Int) :=
 bif decide (y3 < y1) then
 (bif decide (0 ≤ y3) && decide (y3 < (x.2.2.2.1.length : Int)) then
 (bif strEq (x.2.2.2.1.getD y3.toNat tIndex.dflt).1 (x.2.2.2.1.getD y1.toNat tIndex.dflt).1 then
 (some (31 : Int))
 else
 (S3 (IntKind.wrap .i64 (y3 + (1 : Int)))))
 else
 (none))
 else
 ((F76 (x, (x.2.2.2.1.getD y1.toNat tIndex.dflt).2.1)).bind fun r4 =>
 bif !r4 then
 (some (33 : Int))
 else
 (S1 (IntKind.wrap .i64 (y1 + (1 : Int)))))
theorem f77.k1 (n : Nat) (x : dTable) (y1 : Int) (r2 : Bool) (m1 : Nat) (m : Nat) (y : Int) : f77.L1 n x y1 r2 m1 (m + 1) y = f77.s1 n x y1 r2 (f77.L2 n x m1) (f77.L1 n x y1 r2 m1 m) y := by
 have h : f77.L1 n x y1 r2 m1 (m + 1) y = f77.r1 n x y1 r2 m1 m (f77.L2 n x m1) (f77.L1 n x y1 r2 m1 m) y := by kernel_rfl
 rw [h]
 simp only [f77.r1, f77.s1]
theorem f77.l1 (n : Nat) (x : dTable) (y1 : Int) (r2 : Bool) (m1 : Nat) : ∀ (m : Nat) (y3 : Int), f77.L1 n x y1 r2 m1 m y3 = iter (f77.s1 n x y1 r2 (f77.L2 n x m1)) m y3 :=
 loop_of (L := f77.L1 n x y1 r2 m1) (step := f77.s1 n x y1 r2 (f77.L2 n x m1)) (fun _ => rfl) (f77.k1 n x y1 r2 m1)
def f77.s2 (n : Nat) (x : dTable) (S1 : Int → Option (Int)) (y1 : Int) : Option (Int) :=
 bif decide (y1 < (x.2.2.2.1.length : Int)) then
 (bif decide (0 ≤ y1) && decide (y1 < (x.2.2.2.1.length : Int)) then
 ((F74 (x.2.2.2.1.getD y1.toNat tIndex.dflt).1).bind fun r2 =>
 bif !r2 then
 (some (30 : Int))
 else
 (iter (f77.s1 n x y1 r2 S1) n (0 : Int)))
 else
 (none))
 else
 (some (0 : Int))
def f77.r2 (n : Nat) (x : dTable) (m1 : Nat) (S1 : Int → Option (Int)) (y1 : Int) : Option (Int) :=
 bif decide (y1 < (x.2.2.2.1.length : Int)) then
 (bif decide (0 ≤ y1) && decide (y1 < (x.2.2.2.1.length : Int)) then
 ((F74 (x.2.2.2.1.getD y1.toNat tIndex.dflt).1).bind fun r2 =>
 bif !r2 then
 (some (30 : Int))
 else
 (f77.L1 n x y1 r2 m1 n (0 : Int)))
 else
 (none))
 else
 (some (0 : Int))
theorem f77.k2 (n : Nat) (x : dTable) (m : Nat) (y : Int) : f77.L2 n x (m + 1) y = f77.s2 n x (f77.L2 n x m) y := by
 have h : f77.L2 n x (m + 1) y = f77.r2 n x m (f77.L2 n x m) y := by kernel_rfl
 rw [h]
 simp only [f77.r2, f77.s2, f77.l1]
theorem f77.l2 (n : Nat) (x : dTable) : ∀ (m : Nat) (y1 : Int), f77.L2 n x m y1 = iter (f77.s2 n x) m y1 :=
 loop_of (L := f77.L2 n x) (step := f77.s2 n x) (fun _ => rfl) (f77.k2 n x)
def f77.g (n : Nat) (x : dTable) : Option (Int) :=
 iter (f77.s2 n x) n (0 : Int)
def f77.q (n : Nat) (x : dTable) : Option (Int) :=
 f77.L2 n x n (0 : Int)
theorem f77.eq (n : Nat) (x : dTable) : runK TT E77 n ann (tabC C77) 1 77 (argsL [(true, tTable)] x) [] (readL [(false, .int .i64)]) = f77.g n x := by
 have h : runK TT E77 n ann (tabC C77) 1 77 (argsL [(true, tTable)] x) [] (readL [(false, .int .i64)]) = f77.q n x := by kernel_rfl
 rw [h]
 simp only [f77.q, f77.g, f77.l1, f77.l2]
theorem f77.codes : CodesOk Tryz.prog E77 ann (tabC C77) := tabC_ok (by intro p hp; simp only [C77, List.mem_cons, List.not_mem_nil, or_false] at hp; rcases hp with rfl <;> first | exact Tryz.func77) (by kernel_rfl)
theorem f77.ok (h : ∀ X Y, F77 X = some Y → ∃ n, f77.g n X = some Y) (e74 : ConOk Tryz.prog 74 con74) (e76 : ConOk Tryz.prog 76 con76) : ConOk Tryz.prog 77 (mkCon [(true, tTable)] [(false, .int .i64)] true F77) :=
 mkCon_ok mixed TT_ok (envC_ok e76 (envC_ok e74 env0_ok)) f77.codes (fun _ => List.all_eq_true.1 rfl) fun X Y hF => (h X Y hF).imp fun n hn => (f77.eq n X).trans hn
def con77 : Con := mkCon [(true, tTable)] [(false, .int .i64)] true F77
/-! ### vellum/vellumref03.Check -/
def E37 : FuncId → Option Con := (envC 77 con77 (envC 76 con76 (envC 75 con75 (envC 74 con74 env0))))
noncomputable def C37 : List (FuncId × Func) := [(37, Tryz.f37)]
def f37.h1 (x : dTable) (r1 : Bool) (r2 : Int) (r3 : Bool) (y4 : Int) (r5 : Int) (y6 : Int) : List AV × List Ob := ([.undef, .val false [.ptr 0 0], .undef, .undef, .undef, .undef, .val false [.sc (.int .i64) y6]] ++ List.replicate 82 .undef, [.box [.sc .str x.1, .sc (.sl tColumn) x.2.1, .sc (.sl (.int .i64)) x.2.2.1, .sc (.sl tIndex) x.2.2.2.1, .sc (.sl tRef) x.2.2.2.2]])
def f37.h2 (x : dTable) (r1 : Bool) (r2 : Int) (r3 : Bool) (y4 : Int) : List AV × List Ob := ([.undef, .val false [.ptr 0 0], .undef, .undef, .val false [.sc (.int .i64) y4]] ++ List.replicate 84 .undef, [.box [.sc .str x.1, .sc (.sl tColumn) x.2.1, .sc (.sl (.int .i64)) x.2.2.1, .sc (.sl tIndex) x.2.2.2.1, .sc (.sl tRef) x.2.2.2.2]])
def f37.L1 (n : Nat) (x : dTable) (r1 : Bool) (r2 : Int) (r3 : Bool) (y4 : Int) (r5 : Int) (m6 : Nat) (y6 : Int) : Option (Int) :=
 loopN (ann 37 19).keep 1 (fun fr H k => execK TT 0 E37 (inlD TT E37 n ann (tabC C37) 1) n (ann 37) (subC [1, 1, 1, 1, 1, 1, 1, 0, 1, 0, 0] (bodyOf Tryz.f37)) fr H k) m6 (f37.h1 x r1 r2 r3 y4 r5 y6).1 (f37.h1 x r1 r2 r3 y4 r5 y6).2 (kont TT 0 E37 (inlD TT E37 n ann (tabC C37) 1) n (ann 37) [1, 1, 1, 1, 1, 1, 1, 0, 1, 0] (bodyOf Tryz.f37) (endK TT Tryz.f37 (readL [(false, .int .i64)])))
def f37.L2 (n : Nat) (x : dTable) (r1 : Bool) (r2 : Int) (r3 : Bool) (m4 : Nat) (y4 : Int) : Option (Int) :=
 loopN (ann 37 11).keep 1 (fun fr H k => execK TT 0 E37 (inlD TT E37 n ann (tabC C37) 1) n (ann 37) (subC [1, 1, 1, 1, 1, 0, 1, 0, 0] (bodyOf Tryz.f37)) fr H k) m4 (f37.h2 x r1 r2 r3 y4).1 (f37.h2 x r1 r2 r3 y4).2 (kont TT 0 E37 (inlD TT E37 n ann (tabC C37) 1) n (ann 37) [1, 1, 1, 1, 1, 0, 1, 0] (bodyOf Tryz.f37) (endK TT Tryz.f37 (readL [(false, .int .i64)])))
def f37.s1 (n : Nat) (x : dTable) (r1 : Bool) (r2 : Int) (r3 : Bool) (y4 : Int) (r5 : Int) (S6 : Int → Option (Int)) (y6 : Int) : Option (Int) :=
 bif decide (y6 < (x.2.2.2.2.length : Int)) then
 (bif decide (0 ≤ y6) && decide (y6 < (x.2.2.2.2.length : Int)) then
 ((F74 (x.2.2.2.2.getD y6.toNat tRef.dflt).2).bind fun r7 =>
 bif !r7 then
 (some (30 : Int))
 else
 (bif decide (0 ≤ y6) && decide (y6 < (x.2.2.2.2.length : Int)) then
 ((F76 (x, (x.2.2.2.2.getD y6.toNat tRef.dflt).1)).bind fun r8 =>
 bif !r8 then
 (some (33 : Int))
 else
 (S6 (IntKind.wrap .i64 (y6 + (1 : Int)))))
 else
 (none)))
 else
 (none))
 else
 (some (0 : Int))
theorem f37.k1 (n : Nat) (x : dTable) (r1 : Bool) (r2 : Int) (r3 : Bool) (y4 : Int) (r5 : Int) (m : Nat) (y : Int) : f37.L1 n x r1 r2 r3 y4 r5 (m + 1) y = f37.s1 n x r1 r2 r3 y4 r5 (f37.L1 n x r1 r2 r3 y4 r5 m) y := by kernel_rfl
theorem f37.l1 (n : Nat) (x : dTable) (r1 : Bool) (r2 : Int) (r3 : Bool) (y4 : Int) (r5 : Int) : ∀ (m : Nat) (y6 : Int), f37.L1 n x r1 r2 r3 y4 r5 m y6 = iter (f37.s1 n x r1 r2 r3 y4 r5) m y6 :=
 loop_of (L := f37.L1 n x r1 r2 r3 y4 r5) (step := f37.s1 n x r1 r2 r3 y4 r5) (fun _ => rfl) (f37.k1 n x r1 r2 r3 y4 r5)
def f37.s2 (n : Nat) (x : dTable) (r1 : Bool) (r2 : Int) (r3 : Bool) (S4 : Int → Option (Int)) (y4 : Int) : Option (Int) :=
 bif decide (y4 < (x.2.2.1.length : Int)) then
 (bif decide (0 ≤ y4) && decide (y4 < (x.2.2.1.length : Int)) then
 (bif decide (0 ≤ x.2.2.1.getD y4.toNat (Ty.dflt (.int .i64))) && decide (x.2.2.1.getD y4.toNat (Ty.dflt (.int .i64)) < (x.2.1.length : Int)) then
 (bif (x.2.1.getD ((x.2.2.1.getD y4.toNat (Ty.dflt (.int .i64))).toNat) tColumn.dflt).2.2.1 then
 (some (33 : Int))
 else
 (S4 (IntKind.wrap .i64 (y4 + (1 : Int)))))
 else
 (none))
 else
 (none))
 else
 ((F77 x).bind fun r5 =>
 bif r5 != (0 : Int) then
 (some r5)
 else
 (iter (f37.s1 n x r1 r2 r3 y4 r5) n (0 : Int)))
def f37.r2 (n : Nat) (x : dTable) (r1 : Bool) (r2 : Int) (r3 : Bool) (m4 : Nat) (S4 : Int → Option (Int)) (y4 : Int) : Option (Int) :=
 bif decide (y4 < (x.2.2.1.length : Int)) then
 (bif decide (0 ≤ y4) && decide (y4 < (x.2.2.1.length : Int)) then
 (bif decide (0 ≤ x.2.2.1.getD y4.toNat (Ty.dflt (.int .i64))) && decide (x.2.2.1.getD y4.toNat (Ty.dflt (.int .i64)) < (x.2.1.length : Int)) then
 (bif (x.2.1.getD ((x.2.2.1.getD y4.toNat (Ty.dflt (.int .i64))).toNat) tColumn.dflt).2.2.1 then
 (some (33 : Int))
 else
 (S4 (IntKind.wrap .i64 (y4 + (1 : Int)))))
 else
 (none))
 else
 (none))
 else
 ((F77 x).bind fun r5 =>
 bif r5 != (0 : Int) then
 (some r5)
 else
 (f37.L1 n x r1 r2 r3 y4 r5 n (0 : Int)))
theorem f37.k2 (n : Nat) (x : dTable) (r1 : Bool) (r2 : Int) (r3 : Bool) (m : Nat) (y : Int) : f37.L2 n x r1 r2 r3 (m + 1) y = f37.s2 n x r1 r2 r3 (f37.L2 n x r1 r2 r3 m) y := by
 have h : f37.L2 n x r1 r2 r3 (m + 1) y = f37.r2 n x r1 r2 r3 m (f37.L2 n x r1 r2 r3 m) y := by kernel_rfl
 rw [h]
 simp only [f37.r2, f37.s2, f37.l1]
theorem f37.l2 (n : Nat) (x : dTable) (r1 : Bool) (r2 : Int) (r3 : Bool) : ∀ (m : Nat) (y4 : Int), f37.L2 n x r1 r2 r3 m y4 = iter (f37.s2 n x r1 r2 r3) m y4 :=
 loop_of (L := f37.L2 n x r1 r2 r3) (step := f37.s2 n x r1 r2 r3) (fun _ => rfl) (f37.k2 n x r1 r2 r3)
def f37.g (n : Nat) (x : dTable) : Option (Int) :=
 (F74 x.1).bind fun r1 =>
 bif !r1 then
 (some (30 : Int))
 else
 (bif bif (bif (bif (decide ((x.2.1.length : Int) < (1 : Int))) then true else (decide ((x.2.1.length : Int) > (64 : Int)))) then true else (decide ((x.2.2.2.1.length : Int) > (16 : Int)))) then true else (decide ((x.2.2.2.2.length : Int) > (16 : Int))) then
 (some (2 : Int))
 else
 ((F75 x).bind fun r2 =>
 bif r2 != (0 : Int) then
 (some r2)
 else
 ((F76 (x, x.2.2.1)).bind fun r3 =>
 bif !r3 then
 (some (33 : Int))
 else
 (iter (f37.s2 n x r1 r2 r3) n (0 : Int)))))
def f37.q (n : Nat) (x : dTable) : Option (Int) :=
 (F74 x.1).bind fun r1 =>
 bif !r1 then
 (some (30 : Int))
 else
 (bif bif (bif (bif (decide ((x.2.1.length : Int) < (1 : Int))) then true else (decide ((x.2.1.length : Int) > (64 : Int)))) then true else (decide ((x.2.2.2.1.length : Int) > (16 : Int)))) then true else (decide ((x.2.2.2.2.length : Int) > (16 : Int))) then
 (some (2 : Int))
 else
 ((F75 x).bind fun r2 =>
 bif r2 != (0 : Int) then
 (some r2)
 else
 ((F76 (x, x.2.2.1)).bind fun r3 =>
 bif !r3 then
 (some (33 : Int))
 else
 (f37.L2 n x r1 r2 r3 n (0 : Int)))))
theorem f37.eq (n : Nat) (x : dTable) : runK TT E37 n ann (tabC C37) 1 37 (argsL [(true, tTable)] x) [] (readL [(false, .int .i64)]) = f37.g n x := by
 have h : runK TT E37 n ann (tabC C37) 1 37 (argsL [(true, tTable)] x) [] (readL [(false, .int .i64)]) = f37.q n x := by kernel_rfl
 rw [h]
 simp only [f37.q, f37.g, f37.l1, f37.l2]
theorem f37.codes : CodesOk Tryz.prog E37 ann (tabC C37) := tabC_ok (by intro p hp; simp only [C37, List.mem_cons, List.not_mem_nil, or_false] at hp; rcases hp with rfl <;> first | exact Tryz.func37) (by kernel_rfl)
theorem f37.ok (h : ∀ X Y, F37 X = some Y → ∃ n, f37.g n X = some Y) (e74 : ConOk Tryz.prog 74 con74) (e75 : ConOk Tryz.prog 75 con75) (e76 : ConOk Tryz.prog 76 con76) (e77 : ConOk Tryz.prog 77 con77) : ConOk Tryz.prog 37 (mkCon [(true, tTable)] [(false, .int .i64)] true F37) :=
 mkCon_ok mixed TT_ok (envC_ok e77 (envC_ok e76 (envC_ok e75 (envC_ok e74 env0_ok)))) f37.codes (fun _ => List.all_eq_true.1 rfl) fun X Y hF => (h X Y hF).imp fun n hn => (f37.eq n X).trans hn
def con37 : Con := mkCon [(true, tTable)] [(false, .int .i64)] true F37
/-! ### vellum/schema.Admits -/
def E27 : FuncId → Option Con := (envC 50 con50 (envC 33 con33 env0))
noncomputable def C27 : List (FuncId × Func) := [(27, Tryz.f27)]
def f27.h1 (x : dTable × (List dValue)) (r1 : Int) (y2 : Int) : List AV × List Ob := ([.undef, .val false [.sc (.sl tValue) x.2], .undef, .undef, .undef, .undef, .undef, .undef, .undef, .undef, .undef, .undef, .undef, .undef, .undef, .undef, .undef, .undef, .undef, .undef, .undef, .undef, .val false [.sc (.sl tColumn) x.1.2.1], .val false [.sc (.int .i64) (x.1.2.1.length : Int)], .val false [.sc (.int .i64) y2]] ++ List.replicate 39 .undef, [.box [.sc .str x.1.1, .sc (.sl tColumn) x.1.2.1, .sc (.sl (.int .i64)) x.1.2.2.1, .sc (.sl tIndex) x.1.2.2.2.1, .sc (.sl tRef) x.1.2.2.2.2]])
def f27.L1 (n : Nat) (x : dTable × (List dValue)) (r1 : Int) (m2 : Nat) (y2 : Int) : Option (Int) :=
 loopN (ann 27 7).keep 1 (fun fr H k => execK TT 0 E27 (inlD TT E27 n ann (tabC C27) 1) n (ann 27) (subC [1, 1, 1, 0, 1, 0, 0] (bodyOf Tryz.f27)) fr H k) m2 (f27.h1 x r1 y2).1 (f27.h1 x r1 y2).2 (kont TT 0 E27 (inlD TT E27 n ann (tabC C27) 1) n (ann 27) [1, 1, 1, 0, 1, 0] (bodyOf Tryz.f27) (endK TT Tryz.f27 (readL [(false, .int .i64)])))
def f27.s1 (n : Nat) (x : dTable × (List dValue)) (r1 : Int) (S2 : Int → Option (Int)) (y2 : Int) : Option (Int) :=
 bif decide (y2 < (x.1.2.1.length : Int)) then
 (bif decide (0 ≤ y2) && decide (y2 < (x.1.2.1.length : Int)) then
 (bif decide (0 ≤ y2) && decide (y2 < (x.2.length : Int)) then
 ((F50 (x.2.getD y2.toNat tValue.dflt)).bind fun r3 =>
 bif r3 != (0 : Int) then
 (some r3)
 else
 (bif decide (0 ≤ y2) && decide (y2 < (x.2.length : Int)) then
 (bif bif ((x.2.getD y2.toNat tValue.dflt).1 == (0 : Int)) then (!(x.1.2.1.getD y2.toNat tColumn.dflt).2.2.1) else false then
 (some (35 : Int))
 else
 (bif !((x.2.getD y2.toNat tValue.dflt).1 == (0 : Int)) then
 (bif decide (0 ≤ y2) && decide (y2 < (x.2.length : Int)) then
 (bif (x.2.getD y2.toNat tValue.dflt).1 != (x.1.2.1.getD y2.toNat tColumn.dflt).2.1 then
 (some (32 : Int))
 else
 (S2 (IntKind.wrap .i64 (y2 + (1 : Int)))))
 else
 (none))
 else
 (S2 (IntKind.wrap .i64 (y2 + (1 : Int))))))
 else
 (none)))
 else
 (none))
 else
 (none))
 else
 (some (0 : Int))
theorem f27.k1 (n : Nat) (x : dTable × (List dValue)) (r1 : Int) (m : Nat) (y : Int) : f27.L1 n x r1 (m + 1) y = f27.s1 n x r1 (f27.L1 n x r1 m) y := by kernel_rfl
theorem f27.l1 (n : Nat) (x : dTable × (List dValue)) (r1 : Int) : ∀ (m : Nat) (y2 : Int), f27.L1 n x r1 m y2 = iter (f27.s1 n x r1) m y2 :=
 loop_of (L := f27.L1 n x r1) (step := f27.s1 n x r1) (fun _ => rfl) (f27.k1 n x r1)
def f27.g (n : Nat) (x : dTable × (List dValue)) : Option (Int) :=
 (F33 x.1).bind fun r1 =>
 bif r1 != (0 : Int) then
 (some r1)
 else
 (bif (x.2.length : Int) != (x.1.2.1.length : Int) then
 (some (1 : Int))
 else
 (iter (f27.s1 n x r1) n (0 : Int)))
def f27.q (n : Nat) (x : dTable × (List dValue)) : Option (Int) :=
 (F33 x.1).bind fun r1 =>
 bif r1 != (0 : Int) then
 (some r1)
 else
 (bif (x.2.length : Int) != (x.1.2.1.length : Int) then
 (some (1 : Int))
 else
 (f27.L1 n x r1 n (0 : Int)))
theorem f27.eq (n : Nat) (x : dTable × (List dValue)) : runK TT E27 n ann (tabC C27) 1 27 (argsL [(true, tTable), (false, .sl tValue)] x) [] (readL [(false, .int .i64)]) = f27.g n x := by
 have h : runK TT E27 n ann (tabC C27) 1 27 (argsL [(true, tTable), (false, .sl tValue)] x) [] (readL [(false, .int .i64)]) = f27.q n x := by kernel_rfl
 rw [h]
 simp only [f27.q, f27.g, f27.l1]
theorem f27.codes : CodesOk Tryz.prog E27 ann (tabC C27) := tabC_ok (by intro p hp; simp only [C27, List.mem_cons, List.not_mem_nil, or_false] at hp; rcases hp with rfl <;> first | exact Tryz.func27) (by kernel_rfl)
theorem f27.ok (h : ∀ X Y, F27 X = some Y → ∃ n, f27.g n X = some Y) (e33 : ConOk Tryz.prog 33 con33) (e50 : ConOk Tryz.prog 50 con50) : ConOk Tryz.prog 27 (mkCon [(true, tTable), (false, .sl tValue)] [(false, .int .i64)] true F27) :=
 mkCon_ok mixed TT_ok (envC_ok e50 (envC_ok e33 env0_ok)) f27.codes (fun _ => List.all_eq_true.1 rfl) fun X Y hF => (h X Y hF).imp fun n hn => (f27.eq n X).trans hn
def con27 : Con := mkCon [(true, tTable), (false, .sl tValue)] [(false, .int .i64)] true F27
/-! ### vellum/vellumref03.Admits -/
/-! ### vellum/vellumref01.Row -/
end
end Go.Proofs.YtfccofgchjieeaaGreatDoor.AI
