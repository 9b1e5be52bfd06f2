/- Runs of the program's functions over plain data. Printed by aipr.py; Lean checks them. -/
import Derived.Test.YtiolbhmbobelcaaGreatDoorBb
set_option linter.unusedVariables false
set_option linter.unusedSimpArgs false
set_option linter.unusedSectionVars false
namespace Go.Proofs.YtiolbhmbobelcaaGreatDoor.AI
open Go
noncomputable section
def con13 : Con := mkCon [(false, .float .f64)] [(false, .int .u64)] true F13
def con14 : Con := mkCon [(false, .str)] [(false, .bool)] true F14
def con36 : Con := mkCon [(false, .str), (false, .str)] [(false, .int .i64)] true F36
def con66 : Con := mkCon [(false, .int .u64)] [(false, .float .f64)] true F66
/-! ### cmp.Compare[int] -/
def E33 : FuncId → Option Con := env0
noncomputable def C33 : List (FuncId × Func) := [(33, Tryz.f33), (53, Tryz.f53)]
def f33.g (n : Nat) (x : Int × Int) : Option (Int) :=
  bif x.1 != x.1 then
    (bif x.2 != x.2 then
      (some (0 : Int))
    else
      (some (-1 : Int)))
  else
    (bif x.2 != x.2 then
      (some (1 : Int))
    else
      (bif decide (x.1 < x.2) then
        (some (-1 : Int))
      else
        (bif decide (x.1 > x.2) then
          (some (1 : Int))
        else
          (some (0 : Int)))))
set_option maxRecDepth 100000 in
theorem f33.eq (n : Nat) (x : Int × Int) : runK TT E33 n ann (tabC C33) 2 33 (argsL [(false, .int .i64), (false, .int .i64)] x) [] (readL [(false, .int .i64)]) = f33.g n x := by
  kernel_rfl
set_option maxRecDepth 100000 in
theorem f33.codes : CodesOk Tryz.prog E33 ann (tabC C33) := tabC_ok (by intro p hp; simp only [C33, List.mem_cons, List.not_mem_nil, or_false] at hp; rcases hp with rfl | rfl <;> first | exact Tryz.func33 | exact Tryz.func53) (by kernel_rfl)
theorem f33.ok (h : ∀ X Y, F33 X = some Y → ∃ n, f33.g n X = some Y)  : ConOk Tryz.prog 33 (mkCon [(false, .int .i64), (false, .int .i64)] [(false, .int .i64)] true F33) :=
  mkCon_ok mixed TT_ok env0_ok f33.codes (fun _ => List.all_eq_true.1 rfl) fun X Y hF => (h X Y hF).imp fun n hn => (f33.eq n X).trans hn
def con33 : Con := mkCon [(false, .int .i64), (false, .int .i64)] [(false, .int .i64)] true F33
/-! ### cmp.Compare[int64] -/
def E34 : FuncId → Option Con := env0
noncomputable def C34 : List (FuncId × Func) := [(34, Tryz.f34), (54, Tryz.f54)]
def f34.g (n : Nat) (x : Int × Int) : Option (Int) :=
  bif x.1 != x.1 then
    (bif x.2 != x.2 then
      (some (0 : Int))
    else
      (some (-1 : Int)))
  else
    (bif x.2 != x.2 then
      (some (1 : Int))
    else
      (bif decide (x.1 < x.2) then
        (some (-1 : Int))
      else
        (bif decide (x.1 > x.2) then
          (some (1 : Int))
        else
          (some (0 : Int)))))
set_option maxRecDepth 100000 in
theorem f34.eq (n : Nat) (x : Int × Int) : runK TT E34 n ann (tabC C34) 2 34 (argsL [(false, .int .i64), (false, .int .i64)] x) [] (readL [(false, .int .i64)]) = f34.g n x := by
  kernel_rfl
set_option maxRecDepth 100000 in
theorem f34.codes : CodesOk Tryz.prog E34 ann (tabC C34) := tabC_ok (by intro p hp; simp only [C34, List.mem_cons, List.not_mem_nil, or_false] at hp; rcases hp with rfl | rfl <;> first | exact Tryz.func34 | exact Tryz.func54) (by kernel_rfl)
theorem f34.ok (h : ∀ X Y, F34 X = some Y → ∃ n, f34.g n X = some Y)  : ConOk Tryz.prog 34 (mkCon [(false, .int .i64), (false, .int .i64)] [(false, .int .i64)] true F34) :=
  mkCon_ok mixed TT_ok env0_ok f34.codes (fun _ => List.all_eq_true.1 rfl) fun X Y hF => (h X Y hF).imp fun n hn => (f34.eq n X).trans hn
def con34 : Con := mkCon [(false, .int .i64), (false, .int .i64)] [(false, .int .i64)] true F34
/-! ### vellum/value.floats -/
def E35 : FuncId → Option Con := env0
noncomputable def C35 : List (FuncId × Func) := [(35, Tryz.f35), (51, Tryz.f51)]
def f35.g (n : Nat) (x : Nat × Nat) : Option (Int) :=
  bif FloatKind.f64.format.order x.1 x.1 != some .eq then
    (bif FloatKind.f64.format.order x.2 x.2 != some .eq then
      (some (0 : Int))
    else
      (bif FloatKind.f64.format.order x.1 x.1 != some .eq then
        (some (1 : Int))
      else
        (bif FloatKind.f64.format.order x.2 x.2 != some .eq then
          (bif FloatKind.f64.format.order x.2 x.2 != some .eq then
            (some (-1 : Int))
          else
            (bif FloatKind.f64.format.order x.1 x.2 == some .gt then
              (some (1 : Int))
            else
              (some (0 : Int))))
        else
          (bif FloatKind.f64.format.order x.1 x.2 == some .lt then
            (some (-1 : Int))
          else
            (bif FloatKind.f64.format.order x.1 x.2 == some .gt then
              (some (1 : Int))
            else
              (some (0 : Int)))))))
  else
    (bif FloatKind.f64.format.order x.1 x.1 != some .eq then
      (some (1 : Int))
    else
      (bif FloatKind.f64.format.order x.2 x.2 != some .eq then
        (bif FloatKind.f64.format.order x.2 x.2 != some .eq then
          (some (-1 : Int))
        else
          (bif FloatKind.f64.format.order x.1 x.2 == some .gt then
            (some (1 : Int))
          else
            (some (0 : Int))))
      else
        (bif FloatKind.f64.format.order x.1 x.2 == some .lt then
          (some (-1 : Int))
        else
          (bif FloatKind.f64.format.order x.1 x.2 == some .gt then
            (some (1 : Int))
          else
            (some (0 : Int))))))
set_option maxRecDepth 100000 in
theorem f35.eq (n : Nat) (x : Nat × Nat) : runK TT E35 n ann (tabC C35) 2 35 (argsL [(false, .float .f64), (false, .float .f64)] x) [] (readL [(false, .int .i64)]) = f35.g n x := by
  kernel_rfl
set_option maxRecDepth 100000 in
theorem f35.codes : CodesOk Tryz.prog E35 ann (tabC C35) := tabC_ok (by intro p hp; simp only [C35, List.mem_cons, List.not_mem_nil, or_false] at hp; rcases hp with rfl | rfl <;> first | exact Tryz.func35 | exact Tryz.func51) (by kernel_rfl)
theorem f35.ok (h : ∀ X Y, F35 X = some Y → ∃ n, f35.g n X = some Y)  : ConOk Tryz.prog 35 (mkCon [(false, .float .f64), (false, .float .f64)] [(false, .int .i64)] true F35) :=
  mkCon_ok mixed TT_ok env0_ok f35.codes (fun _ => List.all_eq_true.1 rfl) fun X Y hF => (h X Y hF).imp fun n hn => (f35.eq n X).trans hn
def con35 : Con := mkCon [(false, .float .f64), (false, .float .f64)] [(false, .int .i64)] true F35
/-! ### vellum/vellumref01.ints -/
def E18 : FuncId → Option Con := env0
noncomputable def C18 : List (FuncId × Func) := [(18, Tryz.f18)]
def f18.g (n : Nat) (x : Int × Int) : Option (Int) :=
  bif decide (x.1 < x.2) then
    (some (-1 : Int))
  else
    (bif decide (x.1 > x.2) then
      (some (1 : Int))
    else
      (some (0 : Int)))
set_option maxRecDepth 100000 in
theorem f18.eq (n : Nat) (x : Int × Int) : runK TT E18 n ann (tabC C18) 1 18 (argsL [(false, .int .i64), (false, .int .i64)] x) [] (readL [(false, .int .i64)]) = f18.g n x := by
  kernel_rfl
set_option maxRecDepth 100000 in
theorem f18.codes : CodesOk Tryz.prog E18 ann (tabC C18) := tabC_ok (by intro p hp; simp only [C18, List.mem_cons, List.not_mem_nil, or_false] at hp; rcases hp with rfl <;> first | exact Tryz.func18) (by kernel_rfl)
theorem f18.ok (h : ∀ X Y, F18 X = some Y → ∃ n, f18.g n X = some Y)  : ConOk Tryz.prog 18 (mkCon [(false, .int .i64), (false, .int .i64)] [(false, .int .i64)] true F18) :=
  mkCon_ok mixed TT_ok env0_ok f18.codes (fun _ => List.all_eq_true.1 rfl) fun X Y hF => (h X Y hF).imp fun n hn => (f18.eq n X).trans hn
def con18 : Con := mkCon [(false, .int .i64), (false, .int .i64)] [(false, .int .i64)] true F18
/-! ### vellum/vellumref01.floats -/
def E19 : FuncId → Option Con := env0
noncomputable def C19 : List (FuncId × Func) := [(19, Tryz.f19), (37, Tryz.f37)]
def f19.g (n : Nat) (x : Nat × Nat) : Option (Int) :=
  bif FloatKind.f64.format.order x.1 x.1 != some .eq then
    (bif FloatKind.f64.format.order x.1 x.1 != some .eq then
      (bif FloatKind.f64.format.order x.2 x.2 != some .eq then
        (some (0 : Int))
      else
        (bif FloatKind.f64.format.order x.1 x.1 != some .eq then
          (some (1 : Int))
        else
          (some (-1 : Int))))
    else
      (bif FloatKind.f64.format.order x.1 x.1 != some .eq then
        (some (1 : Int))
      else
        (some (-1 : Int))))
  else
    (bif FloatKind.f64.format.order x.2 x.2 != some .eq then
      (bif FloatKind.f64.format.order x.1 x.1 != some .eq then
        (bif FloatKind.f64.format.order x.2 x.2 != some .eq then
          (some (0 : Int))
        else
          (bif FloatKind.f64.format.order x.1 x.1 != some .eq then
            (some (1 : Int))
          else
            (some (-1 : Int))))
      else
        (bif FloatKind.f64.format.order x.1 x.1 != some .eq then
          (some (1 : Int))
        else
          (some (-1 : Int))))
    else
      (bif FloatKind.f64.format.order x.1 x.2 == some .lt then
        (some (-1 : Int))
      else
        (bif FloatKind.f64.format.order x.1 x.2 == some .gt then
          (some (1 : Int))
        else
          (some (0 : Int)))))
set_option maxRecDepth 100000 in
theorem f19.eq (n : Nat) (x : Nat × Nat) : runK TT E19 n ann (tabC C19) 2 19 (argsL [(false, .float .f64), (false, .float .f64)] x) [] (readL [(false, .int .i64)]) = f19.g n x := by
  kernel_rfl
set_option maxRecDepth 100000 in
theorem f19.codes : CodesOk Tryz.prog E19 ann (tabC C19) := tabC_ok (by intro p hp; simp only [C19, List.mem_cons, List.not_mem_nil, or_false] at hp; rcases hp with rfl | rfl <;> first | exact Tryz.func19 | exact Tryz.func37) (by kernel_rfl)
theorem f19.ok (h : ∀ X Y, F19 X = some Y → ∃ n, f19.g n X = some Y)  : ConOk Tryz.prog 19 (mkCon [(false, .float .f64), (false, .float .f64)] [(false, .int .i64)] true F19) :=
  mkCon_ok mixed TT_ok env0_ok f19.codes (fun _ => List.all_eq_true.1 rfl) fun X Y hF => (h X Y hF).imp fun n hn => (f19.eq n X).trans hn
def con19 : Con := mkCon [(false, .float .f64), (false, .float .f64)] [(false, .int .i64)] true F19
/-! ### vellum/vellumref01.Strings -/
def E20 : FuncId → Option Con := env0
noncomputable def C20 : List (FuncId × Func) := [(20, Tryz.f20)]
def f20.g (n : Nat) (x : ByteArray × ByteArray) : Option (Int) :=
  bif strLt x.1 x.2 then
    (some (-1 : Int))
  else
    (bif !(strLt x.1 x.2 || strEq x.1 x.2) then
      (some (1 : Int))
    else
      (some (0 : Int)))
set_option maxRecDepth 100000 in
theorem f20.eq (n : Nat) (x : ByteArray × ByteArray) : runK TT E20 n ann (tabC C20) 1 20 (argsL [(false, .str), (false, .str)] x) [] (readL [(false, .int .i64)]) = f20.g n x := by
  kernel_rfl
set_option maxRecDepth 100000 in
theorem f20.codes : CodesOk Tryz.prog E20 ann (tabC C20) := tabC_ok (by intro p hp; simp only [C20, List.mem_cons, List.not_mem_nil, or_false] at hp; rcases hp with rfl <;> first | exact Tryz.func20) (by kernel_rfl)
theorem f20.ok (h : ∀ X Y, F20 X = some Y → ∃ n, f20.g n X = some Y)  : ConOk Tryz.prog 20 (mkCon [(false, .str), (false, .str)] [(false, .int .i64)] true F20) :=
  mkCon_ok mixed TT_ok env0_ok f20.codes (fun _ => List.all_eq_true.1 rfl) fun X Y hF => (h X Y hF).imp fun n hn => (f20.eq n X).trans hn
def con20 : Con := mkCon [(false, .str), (false, .str)] [(false, .int .i64)] true F20
/-! ### vellum/value.Compare -/
def E17 : FuncId → Option Con := (envC 36 con36 (envC 35 con35 (envC 34 con34 (envC 33 con33 env0))))
noncomputable def C17 : List (FuncId × Func) := [(17, Tryz.f17)]
def f17.g (n : Nat) (x : dValue × dValue) : Option (Int) :=
  (F33 (x.1.1, x.2.1)).bind fun r1 =>
    bif r1 != (0 : Int) then
      (some r1)
    else
      (bif x.1.1 == (1 : Int) then
        (bif x.1.1 == (1 : Int) then
          ((F34 (x.1.2.1, x.2.2.1)).bind fun r2 =>
            some r2)
        else
          (bif x.1.1 == (3 : Int) then
            ((F35 (x.1.2.2.1, x.2.2.2.1)).bind fun r3 =>
              some r3)
          else
            (bif x.1.1 == (4 : Int) then
              (bif x.1.1 == (4 : Int) then
                ((F36 (x.1.2.2.2, x.2.2.2.2)).bind fun r4 =>
                  some r4)
              else
                (some (0 : Int)))
            else
              (bif x.1.1 == (5 : Int) then
                ((F36 (x.1.2.2.2, x.2.2.2.2)).bind fun r5 =>
                  some r5)
              else
                (some (0 : Int))))))
      else
        (bif x.1.1 == (2 : Int) then
          ((F34 (x.1.2.1, x.2.2.1)).bind fun r6 =>
            some r6)
        else
          (bif x.1.1 == (3 : Int) then
            ((F35 (x.1.2.2.1, x.2.2.2.1)).bind fun r7 =>
              some r7)
          else
            (bif x.1.1 == (4 : Int) then
              (bif x.1.1 == (4 : Int) then
                ((F36 (x.1.2.2.2, x.2.2.2.2)).bind fun r8 =>
                  some r8)
              else
                (some (0 : Int)))
            else
              (bif x.1.1 == (5 : Int) then
                ((F36 (x.1.2.2.2, x.2.2.2.2)).bind fun r9 =>
                  some r9)
              else
                (some (0 : Int)))))))
set_option maxRecDepth 100000 in
theorem f17.eq (n : Nat) (x : dValue × dValue) : runK TT E17 n ann (tabC C17) 1 17 (argsL [(true, tValue), (true, tValue)] x) [] (readL [(false, .int .i64)]) = f17.g n x := by
  kernel_rfl
set_option maxRecDepth 100000 in
theorem f17.codes : CodesOk Tryz.prog E17 ann (tabC C17) := tabC_ok (by intro p hp; simp only [C17, List.mem_cons, List.not_mem_nil, or_false] at hp; rcases hp with rfl <;> first | exact Tryz.func17) (by kernel_rfl)
theorem f17.ok (h : ∀ X Y, F17 X = some Y → ∃ n, f17.g n X = some Y) (e33 : ConOk Tryz.prog 33 con33) (e34 : ConOk Tryz.prog 34 con34) (e35 : ConOk Tryz.prog 35 con35) (e36 : ConOk Tryz.prog 36 con36) : ConOk Tryz.prog 17 (mkCon [(true, tValue), (true, tValue)] [(false, .int .i64)] true F17) :=
  mkCon_ok mixed TT_ok (envC_ok e36 (envC_ok e35 (envC_ok e34 (envC_ok e33 env0_ok)))) f17.codes (fun _ => List.all_eq_true.1 rfl) fun X Y hF => (h X Y hF).imp fun n hn => (f17.eq n X).trans hn
def con17 : Con := mkCon [(true, tValue), (true, tValue)] [(false, .int .i64)] true F17
/-! ### vellum/vellumref01.Compare -/
def E8 : FuncId → Option Con := (envC 20 con20 (envC 19 con19 (envC 18 con18 env0)))
noncomputable def C8 : List (FuncId × Func) := [(8, Tryz.f8)]
def f8.g (n : Nat) (x : dValue × dValue) : Option (Int) :=
  bif x.1.1 != x.2.1 then
    ((F18 (x.1.1, x.2.1)).bind fun r1 =>
      some r1)
  else
    (bif x.1.1 == (1 : Int) then
      (bif x.1.1 == (1 : Int) then
        ((F18 (x.1.2.1, x.2.2.1)).bind fun r2 =>
          some r2)
      else
        (bif x.1.1 == (3 : Int) then
          ((F19 (x.1.2.2.1, x.2.2.2.1)).bind fun r3 =>
            some r3)
        else
          (bif x.1.1 == (4 : Int) then
            (bif x.1.1 == (4 : Int) then
              ((F20 (x.1.2.2.2, x.2.2.2.2)).bind fun r4 =>
                some r4)
            else
              (some (0 : Int)))
          else
            (bif x.1.1 == (5 : Int) then
              ((F20 (x.1.2.2.2, x.2.2.2.2)).bind fun r5 =>
                some r5)
            else
              (some (0 : Int))))))
    else
      (bif x.1.1 == (2 : Int) then
        ((F18 (x.1.2.1, x.2.2.1)).bind fun r6 =>
          some r6)
      else
        (bif x.1.1 == (3 : Int) then
          ((F19 (x.1.2.2.1, x.2.2.2.1)).bind fun r7 =>
            some r7)
        else
          (bif x.1.1 == (4 : Int) then
            (bif x.1.1 == (4 : Int) then
              ((F20 (x.1.2.2.2, x.2.2.2.2)).bind fun r8 =>
                some r8)
            else
              (some (0 : Int)))
          else
            (bif x.1.1 == (5 : Int) then
              ((F20 (x.1.2.2.2, x.2.2.2.2)).bind fun r9 =>
                some r9)
            else
              (some (0 : Int)))))))
set_option maxRecDepth 100000 in
theorem f8.eq (n : Nat) (x : dValue × dValue) : runK TT E8 n ann (tabC C8) 1 8 (argsL [(true, tValue), (true, tValue)] x) [] (readL [(false, .int .i64)]) = f8.g n x := by
  kernel_rfl
set_option maxRecDepth 100000 in
theorem f8.codes : CodesOk Tryz.prog E8 ann (tabC C8) := tabC_ok (by intro p hp; simp only [C8, List.mem_cons, List.not_mem_nil, or_false] at hp; rcases hp with rfl <;> first | exact Tryz.func8) (by kernel_rfl)
theorem f8.ok (h : ∀ X Y, F8 X = some Y → ∃ n, f8.g n X = some Y) (e18 : ConOk Tryz.prog 18 con18) (e19 : ConOk Tryz.prog 19 con19) (e20 : ConOk Tryz.prog 20 con20) : ConOk Tryz.prog 8 (mkCon [(true, tValue), (true, tValue)] [(false, .int .i64)] true F8) :=
  mkCon_ok mixed TT_ok (envC_ok e20 (envC_ok e19 (envC_ok e18 env0_ok))) f8.codes (fun _ => List.all_eq_true.1 rfl) fun X Y hF => (h X Y hF).imp fun n hn => (f8.eq n X).trans hn
def con8 : Con := mkCon [(true, tValue), (true, tValue)] [(false, .int .i64)] true F8
/-! ### vellum/value.Check -/
def E15 : FuncId → Option Con := (envC 14 con14 (envC 13 con13 env0))
noncomputable def C15 : List (FuncId × Func) := [(15, Tryz.f15)]
def f15.g (n : Nat) (x : dValue) : Option (Int) :=
  bif bif (decide (x.1 < (0 : Int))) then true else (decide (x.1 > (5 : Int))) then
    (bif bif (decide (x.1 < (0 : Int))) then true else (decide (x.1 > (5 : Int))) then
      (some (10 : Int))
    else
      (bif decide ((x.2.2.2.size : Int) > (65536 : Int)) then
        (some (3 : Int))
      else
        (some (0 : Int))))
  else
    (bif bif (bif (x.1 == (1 : Int)) then (x.2.1 != (0 : Int)) else false) then (x.2.1 != (1 : Int)) else false then
      (bif bif (bif (x.1 == (1 : Int)) then (x.2.1 != (0 : Int)) else false) then (x.2.1 != (1 : Int)) else false then
        (some (10 : Int))
      else
        (bif decide ((x.2.2.2.size : Int) > (65536 : Int)) then
          (some (3 : Int))
        else
          (some (0 : Int))))
    else
      (bif bif (bif (x.1 != (1 : Int)) then (x.1 != (2 : Int)) else false) then (x.2.1 != (0 : Int)) else false then
        (bif bif (bif (x.1 != (1 : Int)) then (x.1 != (2 : Int)) else false) then (x.2.1 != (0 : Int)) else false then
          (some (10 : Int))
        else
          (bif decide ((x.2.2.2.size : Int) > (65536 : Int)) then
            (some (3 : Int))
          else
            (some (0 : Int))))
      else
        (bif x.1 != (3 : Int) then
          ((F13 x.2.2.1).bind fun r1 =>
            bif r1 != (0 : Int) then
              (bif r1 != (0 : Int) then
                (some (10 : Int))
              else
                (bif decide ((x.2.2.2.size : Int) > (65536 : Int)) then
                  (some (3 : Int))
                else
                  (some (0 : Int))))
            else
              (bif bif (!(bif (x.1 == (4 : Int)) then true else (x.1 == (5 : Int)))) then (!(strEq x.2.2.2 (⟨#[]⟩ : ByteArray))) else false then
                (bif bif (!(bif (x.1 == (4 : Int)) then true else (x.1 == (5 : Int)))) then (!(strEq x.2.2.2 (⟨#[]⟩ : ByteArray))) else false then
                  (some (10 : Int))
                else
                  (bif decide ((x.2.2.2.size : Int) > (65536 : Int)) then
                    (some (3 : Int))
                  else
                    (some (0 : Int))))
              else
                (bif x.1 == (4 : Int) then
                  ((F14 x.2.2.2).bind fun r2 =>
                    bif !r2 then
                      (some (10 : Int))
                    else
                      (bif decide ((x.2.2.2.size : Int) > (65536 : Int)) then
                        (some (3 : Int))
                      else
                        (some (0 : Int))))
                else
                  (bif decide ((x.2.2.2.size : Int) > (65536 : Int)) then
                    (some (3 : Int))
                  else
                    (some (0 : Int))))))
        else
          (bif bif (!(bif (x.1 == (4 : Int)) then true else (x.1 == (5 : Int)))) then (!(strEq x.2.2.2 (⟨#[]⟩ : ByteArray))) else false then
            (bif bif (!(bif (x.1 == (4 : Int)) then true else (x.1 == (5 : Int)))) then (!(strEq x.2.2.2 (⟨#[]⟩ : ByteArray))) else false then
              (some (10 : Int))
            else
              (bif decide ((x.2.2.2.size : Int) > (65536 : Int)) then
                (some (3 : Int))
              else
                (some (0 : Int))))
          else
            (bif x.1 == (4 : Int) then
              ((F14 x.2.2.2).bind fun r3 =>
                bif !r3 then
                  (some (10 : Int))
                else
                  (bif decide ((x.2.2.2.size : Int) > (65536 : Int)) then
                    (some (3 : Int))
                  else
                    (some (0 : Int))))
            else
              (bif decide ((x.2.2.2.size : Int) > (65536 : Int)) then
                (some (3 : Int))
              else
                (some (0 : Int))))))))
set_option maxRecDepth 100000 in
theorem f15.eq (n : Nat) (x : dValue) : runK TT E15 n ann (tabC C15) 1 15 (argsL [(true, tValue)] x) [] (readL [(false, .int .i64)]) = f15.g n x := by
  kernel_rfl
set_option maxRecDepth 100000 in
theorem f15.codes : CodesOk Tryz.prog E15 ann (tabC C15) := tabC_ok (by intro p hp; simp only [C15, List.mem_cons, List.not_mem_nil, or_false] at hp; rcases hp with rfl <;> first | exact Tryz.func15) (by kernel_rfl)
theorem f15.ok (h : ∀ X Y, F15 X = some Y → ∃ n, f15.g n X = some Y) (e13 : ConOk Tryz.prog 13 con13) (e14 : ConOk Tryz.prog 14 con14) : ConOk Tryz.prog 15 (mkCon [(true, tValue)] [(false, .int .i64)] true F15) :=
  mkCon_ok mixed TT_ok (envC_ok e14 (envC_ok e13 env0_ok)) f15.codes (fun _ => List.all_eq_true.1 rfl) fun X Y hF => (h X Y hF).imp fun n hn => (f15.eq n X).trans hn
def con15 : Con := mkCon [(true, tValue)] [(false, .int .i64)] true F15
/-! ### vellum/vellumref01.Check -/
def E5 : FuncId → Option Con := (envC 14 con14 (envC 13 con13 env0))
noncomputable def C5 : List (FuncId × Func) := [(5, Tryz.f5)]
def f5.g (n : Nat) (x : dValue) : Option (Int) :=
  bif bif (decide (x.1 < (0 : Int))) then true else (decide (x.1 > (5 : Int))) then
    (some (10 : Int))
  else
    (bif bif (bif (bif (x.1 == (1 : Int)) then (x.2.1 != (0 : Int)) else false) then (x.2.1 != (1 : Int)) else false) then true else (bif (bif (x.1 != (1 : Int)) then (x.1 != (2 : Int)) else false) then (x.2.1 != (0 : Int)) else false) then
      (some (10 : Int))
    else
      (bif x.1 != (3 : Int) then
        ((F13 x.2.2.1).bind fun r1 =>
          bif r1 != (0 : Int) then
            (some (10 : Int))
          else
            (bif bif (bif (x.1 != (4 : Int)) then (x.1 != (5 : Int)) else false) then (!(strEq x.2.2.2 (⟨#[]⟩ : ByteArray))) else false then
              (some (10 : Int))
            else
              (bif x.1 == (4 : Int) then
                ((F14 x.2.2.2).bind fun r2 =>
                  bif !r2 then
                    (some (10 : Int))
                  else
                    (bif decide ((x.2.2.2.size : Int) > (65536 : Int)) then
                      (some (3 : Int))
                    else
                      (some (0 : Int))))
              else
                (bif decide ((x.2.2.2.size : Int) > (65536 : Int)) then
                  (some (3 : Int))
                else
                  (some (0 : Int))))))
      else
        (bif bif (bif (x.1 != (4 : Int)) then (x.1 != (5 : Int)) else false) then (!(strEq x.2.2.2 (⟨#[]⟩ : ByteArray))) else false then
          (some (10 : Int))
        else
          (bif x.1 == (4 : Int) then
            ((F14 x.2.2.2).bind fun r3 =>
              bif !r3 then
                (some (10 : Int))
              else
                (bif decide ((x.2.2.2.size : Int) > (65536 : Int)) then
                  (some (3 : Int))
                else
                  (some (0 : Int))))
          else
            (bif decide ((x.2.2.2.size : Int) > (65536 : Int)) then
              (some (3 : Int))
            else
              (some (0 : Int)))))))
set_option maxRecDepth 100000 in
theorem f5.eq (n : Nat) (x : dValue) : runK TT E5 n ann (tabC C5) 1 5 (argsL [(true, tValue)] x) [] (readL [(false, .int .i64)]) = f5.g n x := by
  kernel_rfl
set_option maxRecDepth 100000 in
theorem f5.codes : CodesOk Tryz.prog E5 ann (tabC C5) := tabC_ok (by intro p hp; simp only [C5, List.mem_cons, List.not_mem_nil, or_false] at hp; rcases hp with rfl <;> first | exact Tryz.func5) (by kernel_rfl)
theorem f5.ok (h : ∀ X Y, F5 X = some Y → ∃ n, f5.g n X = some Y) (e13 : ConOk Tryz.prog 13 con13) (e14 : ConOk Tryz.prog 14 con14) : ConOk Tryz.prog 5 (mkCon [(true, tValue)] [(false, .int .i64)] true F5) :=
  mkCon_ok mixed TT_ok (envC_ok e14 (envC_ok e13 env0_ok)) f5.codes (fun _ => List.all_eq_true.1 rfl) fun X Y hF => (h X Y hF).imp fun n hn => (f5.eq n X).trans hn
def con5 : Con := mkCon [(true, tValue)] [(false, .int .i64)] true F5
/-! ### vellum/value.Plain -/
def E52 : FuncId → Option Con := (envC 66 con66 env0)
noncomputable def C52 : List (FuncId × Func) := [(52, Tryz.f52), (51, Tryz.f51)]
def f52.g (n : Nat) (x : dValue) : Option (dValue) :=
  bif x.1 != (3 : Int) then
    (some x)
  else
    (bif FloatKind.f64.format.order x.2.2.1 0 == some .eq then
      (bif FloatKind.f64.format.order 0 0 != some .eq then
        ((F66 (9221120237041090560 : Int)).bind fun r1 =>
          some (x.1, (x.2.1, (r1, x.2.2.2))))
      else
        (some (x.1, (x.2.1, (0, x.2.2.2)))))
    else
      (bif FloatKind.f64.format.order x.2.2.1 x.2.2.1 != some .eq then
        ((F66 (9221120237041090560 : Int)).bind fun r2 =>
          some (x.1, (x.2.1, (r2, x.2.2.2))))
      else
        (some x)))
set_option maxRecDepth 100000 in
theorem f52.eq (n : Nat) (x : dValue) : runK TT E52 n ann (tabC C52) 2 52 (argsL [(true, tValue)] x) [] (readL [(true, tValue)]) = f52.g n x := by
  kernel_rfl
set_option maxRecDepth 100000 in
theorem f52.codes : CodesOk Tryz.prog E52 ann (tabC C52) := tabC_ok (by intro p hp; simp only [C52, List.mem_cons, List.not_mem_nil, or_false] at hp; rcases hp with rfl | rfl <;> first | exact Tryz.func52 | exact Tryz.func51) (by kernel_rfl)
theorem f52.ok (h : ∀ X Y, F52 X = some Y → ∃ n, f52.g n X = some Y) (e66 : ConOk Tryz.prog 66 con66) : ConOk Tryz.prog 52 (mkCon [(true, tValue)] [(true, tValue)] true F52) :=
  mkCon_ok mixed TT_ok (envC_ok e66 env0_ok) f52.codes (fun _ => List.all_eq_true.1 rfl) fun X Y hF => (h X Y hF).imp fun n hn => (f52.eq n X).trans hn
def con52 : Con := mkCon [(true, tValue)] [(true, tValue)] true F52
/-! ### vellum/vellumref01.Plain -/
def E46 : FuncId → Option Con := (envC 66 con66 env0)
noncomputable def C46 : List (FuncId × Func) := [(46, Tryz.f46), (37, Tryz.f37)]
def f46.g (n : Nat) (x : dValue) : Option (dValue) :=
  bif x.1 == (3 : Int) then
    (bif FloatKind.f64.format.order x.2.2.1 x.2.2.1 != some .eq then
      ((F66 (9221120237041090560 : Int)).bind fun r1 =>
        bif bif (x.1 == (3 : Int)) then (FloatKind.f64.format.order r1 0 == some .eq) else false then
          (some (x.1, (x.2.1, (0, x.2.2.2))))
        else
          (some (x.1, (x.2.1, (r1, x.2.2.2)))))
    else
      (bif bif (x.1 == (3 : Int)) then (FloatKind.f64.format.order x.2.2.1 0 == some .eq) else false then
        (some (x.1, (x.2.1, (0, x.2.2.2))))
      else
        (some x)))
  else
    (bif bif (x.1 == (3 : Int)) then (FloatKind.f64.format.order x.2.2.1 0 == some .eq) else false then
      (some (x.1, (x.2.1, (0, x.2.2.2))))
    else
      (some x))
set_option maxRecDepth 100000 in
theorem f46.eq (n : Nat) (x : dValue) : runK TT E46 n ann (tabC C46) 2 46 (argsL [(true, tValue)] x) [] (readL [(true, tValue)]) = f46.g n x := by
  kernel_rfl
set_option maxRecDepth 100000 in
theorem f46.codes : CodesOk Tryz.prog E46 ann (tabC C46) := tabC_ok (by intro p hp; simp only [C46, List.mem_cons, List.not_mem_nil, or_false] at hp; rcases hp with rfl | rfl <;> first | exact Tryz.func46 | exact Tryz.func37) (by kernel_rfl)
theorem f46.ok (h : ∀ X Y, F46 X = some Y → ∃ n, f46.g n X = some Y) (e66 : ConOk Tryz.prog 66 con66) : ConOk Tryz.prog 46 (mkCon [(true, tValue)] [(true, tValue)] true F46) :=
  mkCon_ok mixed TT_ok (envC_ok e66 env0_ok) f46.codes (fun _ => List.all_eq_true.1 rfl) fun X Y hF => (h X Y hF).imp fun n hn => (f46.eq n X).trans hn
def con46 : Con := mkCon [(true, tValue)] [(true, tValue)] true F46
/-! ### vellum/vellumref01.Same -/
def E12 : FuncId → Option Con := (envC 13 con13 env0)
noncomputable def C12 : List (FuncId × Func) := [(12, Tryz.f12)]
def f12.g (n : Nat) (x : dValue × dValue) : Option (Bool) :=
  bif bif (x.1.1 == x.2.1) then (x.1.2.1 == x.2.2.1) else false then
    ((F13 x.1.2.2.1).bind fun r1 =>
      (F13 x.2.2.2.1).bind fun r2 =>
        some (bif (r1 == r2) then (strEq x.1.2.2.2 x.2.2.2.2) else false))
  else
    (some false)
set_option maxRecDepth 100000 in
theorem f12.eq (n : Nat) (x : dValue × dValue) : runK TT E12 n ann (tabC C12) 1 12 (argsL [(true, tValue), (true, tValue)] x) [] (readL [(false, .bool)]) = f12.g n x := by
  kernel_rfl
set_option maxRecDepth 100000 in
theorem f12.codes : CodesOk Tryz.prog E12 ann (tabC C12) := tabC_ok (by intro p hp; simp only [C12, List.mem_cons, List.not_mem_nil, or_false] at hp; rcases hp with rfl <;> first | exact Tryz.func12) (by kernel_rfl)
theorem f12.ok (h : ∀ X Y, F12 X = some Y → ∃ n, f12.g n X = some Y) (e13 : ConOk Tryz.prog 13 con13) : ConOk Tryz.prog 12 (mkCon [(true, tValue), (true, tValue)] [(false, .bool)] true F12) :=
  mkCon_ok mixed TT_ok (envC_ok e13 env0_ok) f12.codes (fun _ => List.all_eq_true.1 rfl) fun X Y hF => (h X Y hF).imp fun n hn => (f12.eq n X).trans hn
def con12 : Con := mkCon [(true, tValue), (true, tValue)] [(false, .bool)] true F12
def con49 : Con := mkCon [(false, .int .u64), (false, .int .u64), (false, .int .u64)] [(false, .int .u64), (false, .int .u64)] true F49
def con85 : Con := mkCon [(false, .str)] [(true, tValue), (false, .int .i64)] true F85
def con26 : Con := mkCon [(false, .int .i64), (false, .sl tValue)] [(true, tValue), (false, .int .i64)] true F26
def con27 : Con := mkCon [(false, .int .i64), (false, .sl tValue)] [(true, tValue), (false, .int .i64)] true F27
/-! ### vellum/cursor.real -/
def E31 : FuncId → Option Con := (envC 85 con85 (envC 52 con52 (envC 15 con15 env0)))
noncomputable def C31 : List (FuncId × Func) := [(31, Tryz.f31), (50, Tryz.f50), (51, Tryz.f51), (68, Tryz.f68), (86, Tryz.f86)]
def f31.g (n : Nat) (x : dValue) : Option (Nat) :=
  (F15 x).bind fun r1 =>
    bif r1 != (0 : Int) then
      (some 0)
    else
      (bif bif (x.1 == (3 : Int)) then true else (x.1 == (0 : Int)) then
        (some x.2.2.1)
      else
        (bif x.1 == (1 : Int) then
          (bif x.1 == (1 : Int) then
            (some (FloatKind.f64.nearest x.2.1))
          else
            (bif x.1 == (4 : Int) then
              ((F85 x.2.2.2).bind fun r2 =>
                bif bif (r2.2 == (0 : Int)) then (r2.1.1 == (2 : Int)) else false then
                  (some (FloatKind.f64.nearest r2.1.2.1))
                else
                  (none))
            else
              (some 0)))
        else
          (bif x.1 == (2 : Int) then
            (some (FloatKind.f64.nearest x.2.1))
          else
            (bif x.1 == (4 : Int) then
              ((F85 x.2.2.2).bind fun r3 =>
                bif bif (r3.2 == (0 : Int)) then (r3.1.1 == (2 : Int)) else false then
                  (some (FloatKind.f64.nearest r3.1.2.1))
                else
                  (none))
            else
              (some 0)))))
set_option maxRecDepth 100000 in
theorem f31.eq (n : Nat) (x : dValue) : runK TT E31 n ann (tabC C31) 5 31 (argsL [(true, tValue)] x) [] (readL [(false, .float .f64)]) = f31.g n x := by
  kernel_rfl
set_option maxRecDepth 100000 in
theorem f31.codes : CodesOk Tryz.prog E31 ann (tabC C31) := tabC_ok (by intro p hp; simp only [C31, List.mem_cons, List.not_mem_nil, or_false] at hp; rcases hp with rfl | rfl | rfl | rfl | rfl <;> first | exact Tryz.func31 | exact Tryz.func50 | exact Tryz.func51 | exact Tryz.func68 | exact Tryz.func86) (by kernel_rfl)
theorem f31.ok (h : ∀ X Y, F31 X = some Y → ∃ n, f31.g n X = some Y) (e15 : ConOk Tryz.prog 15 con15) (e52 : ConOk Tryz.prog 52 con52) (e85 : ConOk Tryz.prog 85 con85) : ConOk Tryz.prog 31 (mkCon [(true, tValue)] [(false, .float .f64)] true F31) :=
  mkCon_ok mixed TT_ok (envC_ok e85 (envC_ok e52 (envC_ok e15 env0_ok))) f31.codes (fun _ => List.all_eq_true.1 rfl) fun X Y hF => (h X Y hF).imp fun n hn => (f31.eq n X).trans hn
def con31 : Con := mkCon [(true, tValue)] [(false, .float .f64)] true F31
/-! ### vellum/cursor.sum -/
def E16 : FuncId → Option Con := (envC 66 con66 (envC 49 con49 (envC 31 con31 env0)))
noncomputable def C16 : List (FuncId × Func) := [(16, Tryz.f16), (29, Tryz.f29), (30, Tryz.f30), (32, Tryz.f32), (51, Tryz.f51), (52, Tryz.f52)]
def f16.h1 (x : (List dValue) × Bool) (y1 : Bool × Int × Int × Int) (r10 : Nat) (y11 : (Option Nat) × Int) : List AV × List Ob := ([.val false [.sc (.sl tValue) x.1], .val false [.sc .bool x.2], .undef, .undef, .val false [.ptr 0 0], .undef, .undef, .undef, .undef, .undef, .val false [.nf y11.1], .undef, .undef, .undef, .undef, .undef, .undef, .undef, .undef, .undef, .undef, .undef, .undef, .undef, .undef, .undef, .undef, .undef, .undef, .undef, .undef, .undef, .undef, .undef, .undef, .undef, .undef, .undef, .undef, .undef, .undef, .undef, .undef, .undef, .undef, .undef, .undef, .undef, .undef, .undef, .undef, .undef, .undef, .undef, .val false [.sc (.sl tValue) (List.drop 1 x.1)], .val false [.sc (.int .i64) ((List.drop 1 x.1).length : Int)], .val false [.sc (.int .i64) y11.2]] ++ List.replicate 16 .undef, [.box [.sc (.int .i64) (0 : Int), .sc (.int .i64) (0 : Int), .sc (.float .f64) 0, .sc .str (⟨#[]⟩ : ByteArray)], .box [.sc (.int .u64) y1.2.2.1, .sc (.int .u64) y1.2.2.2]])
def f16.h2 (x : (List dValue) × Bool) (y1 : Bool × Int × Int × Int) : List AV × List Ob := ([.val false [.sc (.sl tValue) x.1], .val false [.sc .bool x.2], .undef, .undef, .val false [.ptr 0 0], .undef, .val false [.sc .bool y1.1], .val false [.ptr 1 0], .undef, .undef, .undef, .undef, .undef, .undef, .undef, .undef, .val false [.sc (.sl tValue) x.1], .val false [.sc (.int .i64) (x.1.length : Int)], .val false [.sc (.int .i64) y1.2.1]] ++ List.replicate 54 .undef, [.box [.sc (.int .i64) (0 : Int), .sc (.int .i64) (0 : Int), .sc (.float .f64) 0, .sc .str (⟨#[]⟩ : ByteArray)], .box [.sc (.int .u64) y1.2.2.1, .sc (.int .u64) y1.2.2.2]])
def f16.L1 (n : Nat) (x : (List dValue) × Bool) (y1 : Bool × Int × Int × Int) (r10 : Nat) (m11 : Nat) (y11 : (Option Nat) × Int) : Option (dValue × Int) :=
  loopN (ann 16 22).keep 2 (fun fr H k => execK TT 0 E16 (inlD TT E16 n ann (tabC C16) 6) n (ann 16) (subC [1, 1, 1, 1, 0, 1, 1, 1, 1, 0, 0] (bodyOf Tryz.f16)) fr H k) m11 (f16.h1 x y1 r10 y11).1 (f16.h1 x y1 r10 y11).2 (kont TT 0 E16 (inlD TT E16 n ann (tabC C16) 6) n (ann 16) [1, 1, 1, 1, 0, 1, 1, 1, 1, 0] (bodyOf Tryz.f16) (endK TT Tryz.f16 (readL [(true, tValue), (false, .int .i64)])))
def f16.L2 (n : Nat) (x : (List dValue) × Bool) (m1 : Nat) (y1 : Bool × Int × Int × Int) : Option (dValue × Int) :=
  loopN (ann 16 3).keep 2 (fun fr H k => execK TT 0 E16 (inlD TT E16 n ann (tabC C16) 6) n (ann 16) (subC [1, 1, 0, 1, 0, 0] (bodyOf Tryz.f16)) fr H k) m1 (f16.h2 x y1).1 (f16.h2 x y1).2 (kont TT 0 E16 (inlD TT E16 n ann (tabC C16) 6) n (ann 16) [1, 1, 0, 1, 0] (bodyOf Tryz.f16) (endK TT Tryz.f16 (readL [(true, tValue), (false, .int .i64)])))
def f16.s1 (n : Nat) (x : (List dValue) × Bool) (y1 : Bool × Int × Int × Int) (r10 : Nat) (S11 : ((Option Nat) × Int) → Option (dValue × Int)) (y11 : (Option Nat) × Int) : Option (dValue × Int) :=
  bif decide (y11.2 < ((List.drop 1 x.1).length : Int)) then
    (bif decide (0 ≤ y11.2) && decide (y11.2 < ((List.drop 1 x.1).length : Int)) then
      (fltB y11.1 (fun r12 =>
        (F31 ((List.drop 1 x.1).getD y11.2.toNat tValue.dflt)).bind fun r13 =>
          fltB (FloatKind.f64.format.add r12 r13) (fun r14 =>
            S11 ((some r14), IntKind.wrap .i64 (y11.2 + (1 : Int))))
            (S11 (none, IntKind.wrap .i64 (y11.2 + (1 : Int))))) (
        (F31 ((List.drop 1 x.1).getD y11.2.toNat tValue.dflt)).bind fun r15 =>
          S11 (none, IntKind.wrap .i64 (y11.2 + (1 : Int)))))
    else
      (none))
  else
    (fltB y11.1 (fun r16 =>
      bif x.2 then
        (fltB (FloatKind.f64.format.div r16 (FloatKind.f64.nearest (x.1.length : Int))) (fun r17 =>
          bif FloatKind.f64.format.order r17 r17 != some .eq then
            (bif FloatKind.f64.format.order r17 0 == some .eq then
              (bif FloatKind.f64.format.order 0 0 != some .eq then
                ((F66 (9221120237041090560 : Int)).bind fun r18 =>
                  some (((3 : Int), ((0 : Int), (r18, (⟨#[]⟩ : ByteArray)))), (0 : Int)))
              else
                (some (((3 : Int), ((0 : Int), (0, (⟨#[]⟩ : ByteArray)))), (0 : Int))))
            else
              (bif FloatKind.f64.format.order r17 r17 != some .eq then
                ((F66 (9221120237041090560 : Int)).bind fun r19 =>
                  some (((3 : Int), ((0 : Int), (r19, (⟨#[]⟩ : ByteArray)))), (0 : Int)))
              else
                (some (((3 : Int), ((0 : Int), (r17, (⟨#[]⟩ : ByteArray)))), (0 : Int)))))
          else
            (some (((3 : Int), ((0 : Int), (r17, (⟨#[]⟩ : ByteArray)))), (0 : Int))))
          ((F66 (9221120237041090560 : Int)).bind fun r20 =>
            some (((3 : Int), ((0 : Int), (r20, (⟨#[]⟩ : ByteArray)))), (0 : Int))))
      else
        (bif FloatKind.f64.format.order r16 r16 != some .eq then
          (bif FloatKind.f64.format.order r16 0 == some .eq then
            (bif FloatKind.f64.format.order 0 0 != some .eq then
              ((F66 (9221120237041090560 : Int)).bind fun r21 =>
                some (((3 : Int), ((0 : Int), (r21, (⟨#[]⟩ : ByteArray)))), (0 : Int)))
            else
              (some (((3 : Int), ((0 : Int), (0, (⟨#[]⟩ : ByteArray)))), (0 : Int))))
          else
            (bif FloatKind.f64.format.order r16 r16 != some .eq then
              ((F66 (9221120237041090560 : Int)).bind fun r22 =>
                some (((3 : Int), ((0 : Int), (r22, (⟨#[]⟩ : ByteArray)))), (0 : Int)))
            else
              (some (((3 : Int), ((0 : Int), (r16, (⟨#[]⟩ : ByteArray)))), (0 : Int)))))
        else
          (some (((3 : Int), ((0 : Int), (r16, (⟨#[]⟩ : ByteArray)))), (0 : Int))))) (
      bif x.2 then
        ((F66 (9221120237041090560 : Int)).bind fun r23 =>
          some (((3 : Int), ((0 : Int), (r23, (⟨#[]⟩ : ByteArray)))), (0 : Int)))
      else
        ((F66 (9221120237041090560 : Int)).bind fun r24 =>
          some (((3 : Int), ((0 : Int), (r24, (⟨#[]⟩ : ByteArray)))), (0 : Int)))))
set_option maxRecDepth 100000 in
theorem f16.k1 (n : Nat) (x : (List dValue) × Bool) (y1 : Bool × Int × Int × Int) (r10 : Nat) (m : Nat) (y : (Option Nat) × Int) : f16.L1 n x y1 r10 (m + 1) y = f16.s1 n x y1 r10 (f16.L1 n x y1 r10 m) y := by kernel_rfl
theorem f16.l1 (n : Nat) (x : (List dValue) × Bool) (y1 : Bool × Int × Int × Int) (r10 : Nat) : ∀ (m : Nat) (y11 : (Option Nat) × Int), f16.L1 n x y1 r10 m y11 = iter (f16.s1 n x y1 r10) m y11 :=
  loop_of (L := f16.L1 n x y1 r10) (step := f16.s1 n x y1 r10) (fun _ => rfl) (f16.k1 n x y1 r10)
def f16.s2 (n : Nat) (x : (List dValue) × Bool) (S1 : (Bool × Int × Int × Int) → Option (dValue × Int)) (y1 : Bool × Int × Int × Int) : Option (dValue × Int) :=
  bif decide (y1.2.1 < (x.1.length : Int)) then
    (bif decide (0 ≤ y1.2.1) && decide (y1.2.1 < (x.1.length : Int)) then
      (bif (x.1.getD y1.2.1.toNat tValue.dflt).1 == (2 : Int) then
        ((F49 (y1.2.2.2, (IntKind.wrap .u64 (x.1.getD y1.2.1.toNat tValue.dflt).2.1, (0 : Int)))).bind fun r2 =>
          (F49 (y1.2.2.1, (IntKind.wrap .u64 (shiftI .shr .i64 (x.1.getD y1.2.1.toNat tValue.dflt).2.1 (63 : Int)), r2.2))).bind fun r3 =>
            S1 (y1.1, (IntKind.wrap .i64 (y1.2.1 + (1 : Int)), (r3.1, r2.1))))
      else
        (bif (x.1.getD y1.2.1.toNat tValue.dflt).1 == (3 : Int) then
          (S1 (false, (IntKind.wrap .i64 (y1.2.1 + (1 : Int)), y1.2.2)))
        else
          (some (((0 : Int), ((0 : Int), (0, (⟨#[]⟩ : ByteArray)))), (151 : Int)))))
    else
      (none))
  else
    (bif y1.1 then
      (bif !(y1.2.2.1 == IntKind.wrap .u64 (shiftI .shr .i64 (IntKind.wrap .i64 y1.2.2.2) (63 : Int))) then
        (some (((0 : Int), ((0 : Int), (0, (⟨#[]⟩ : ByteArray)))), (152 : Int)))
      else
        (bif !x.2 then
          (some (((2 : Int), (IntKind.wrap .i64 y1.2.2.2, (0, (⟨#[]⟩ : ByteArray)))), (0 : Int)))
        else
          (bif x.2 then
            (fltB (FloatKind.f64.format.div (FloatKind.f64.nearest (IntKind.wrap .i64 y1.2.2.2)) (FloatKind.f64.nearest (x.1.length : Int))) (fun r4 =>
              bif FloatKind.f64.format.order r4 r4 != some .eq then
                (bif FloatKind.f64.format.order r4 0 == some .eq then
                  (bif FloatKind.f64.format.order 0 0 != some .eq then
                    ((F66 (9221120237041090560 : Int)).bind fun r5 =>
                      some (((3 : Int), ((0 : Int), (r5, (⟨#[]⟩ : ByteArray)))), (0 : Int)))
                  else
                    (some (((3 : Int), ((0 : Int), (0, (⟨#[]⟩ : ByteArray)))), (0 : Int))))
                else
                  (bif FloatKind.f64.format.order r4 r4 != some .eq then
                    ((F66 (9221120237041090560 : Int)).bind fun r6 =>
                      some (((3 : Int), ((0 : Int), (r6, (⟨#[]⟩ : ByteArray)))), (0 : Int)))
                  else
                    (some (((3 : Int), ((0 : Int), (r4, (⟨#[]⟩ : ByteArray)))), (0 : Int)))))
              else
                (some (((3 : Int), ((0 : Int), (r4, (⟨#[]⟩ : ByteArray)))), (0 : Int))))
              ((F66 (9221120237041090560 : Int)).bind fun r7 =>
                some (((3 : Int), ((0 : Int), (r7, (⟨#[]⟩ : ByteArray)))), (0 : Int))))
          else
            (bif FloatKind.f64.format.order (FloatKind.f64.nearest (IntKind.wrap .i64 y1.2.2.2)) (FloatKind.f64.nearest (IntKind.wrap .i64 y1.2.2.2)) != some .eq then
              (bif FloatKind.f64.format.order (FloatKind.f64.nearest (IntKind.wrap .i64 y1.2.2.2)) 0 == some .eq then
                (bif FloatKind.f64.format.order 0 0 != some .eq then
                  ((F66 (9221120237041090560 : Int)).bind fun r8 =>
                    some (((3 : Int), ((0 : Int), (r8, (⟨#[]⟩ : ByteArray)))), (0 : Int)))
                else
                  (some (((3 : Int), ((0 : Int), (0, (⟨#[]⟩ : ByteArray)))), (0 : Int))))
              else
                (bif FloatKind.f64.format.order (FloatKind.f64.nearest (IntKind.wrap .i64 y1.2.2.2)) (FloatKind.f64.nearest (IntKind.wrap .i64 y1.2.2.2)) != some .eq then
                  ((F66 (9221120237041090560 : Int)).bind fun r9 =>
                    some (((3 : Int), ((0 : Int), (r9, (⟨#[]⟩ : ByteArray)))), (0 : Int)))
                else
                  (some (((3 : Int), ((0 : Int), (FloatKind.f64.nearest (IntKind.wrap .i64 y1.2.2.2), (⟨#[]⟩ : ByteArray)))), (0 : Int)))))
            else
              (some (((3 : Int), ((0 : Int), (FloatKind.f64.nearest (IntKind.wrap .i64 y1.2.2.2), (⟨#[]⟩ : ByteArray)))), (0 : Int)))))))
    else
      (bif decide (0 ≤ (0 : Int)) && decide ((0 : Int) < (x.1.length : Int)) then
        ((F31 (x.1.getD 0 tValue.dflt)).bind fun r10 =>
          bif decide (0 ≤ (1 : Int)) && decide ((1 : Int) ≤ (x.1.length : Int)) then
            (iter (f16.s1 n x y1 r10) n ((some r10), (0 : Int)))
          else
            (none))
      else
        (none)))
def f16.r2 (n : Nat) (x : (List dValue) × Bool) (m1 : Nat) (S1 : (Bool × Int × Int × Int) → Option (dValue × Int)) (y1 : Bool × Int × Int × Int) : Option (dValue × Int) :=
  bif decide (y1.2.1 < (x.1.length : Int)) then
    (bif decide (0 ≤ y1.2.1) && decide (y1.2.1 < (x.1.length : Int)) then
      (bif (x.1.getD y1.2.1.toNat tValue.dflt).1 == (2 : Int) then
        ((F49 (y1.2.2.2, (IntKind.wrap .u64 (x.1.getD y1.2.1.toNat tValue.dflt).2.1, (0 : Int)))).bind fun r2 =>
          (F49 (y1.2.2.1, (IntKind.wrap .u64 (shiftI .shr .i64 (x.1.getD y1.2.1.toNat tValue.dflt).2.1 (63 : Int)), r2.2))).bind fun r3 =>
            S1 (y1.1, (IntKind.wrap .i64 (y1.2.1 + (1 : Int)), (r3.1, r2.1))))
      else
        (bif (x.1.getD y1.2.1.toNat tValue.dflt).1 == (3 : Int) then
          (S1 (false, (IntKind.wrap .i64 (y1.2.1 + (1 : Int)), y1.2.2)))
        else
          (some (((0 : Int), ((0 : Int), (0, (⟨#[]⟩ : ByteArray)))), (151 : Int)))))
    else
      (none))
  else
    (bif y1.1 then
      (bif !(y1.2.2.1 == IntKind.wrap .u64 (shiftI .shr .i64 (IntKind.wrap .i64 y1.2.2.2) (63 : Int))) then
        (some (((0 : Int), ((0 : Int), (0, (⟨#[]⟩ : ByteArray)))), (152 : Int)))
      else
        (bif !x.2 then
          (some (((2 : Int), (IntKind.wrap .i64 y1.2.2.2, (0, (⟨#[]⟩ : ByteArray)))), (0 : Int)))
        else
          (bif x.2 then
            (fltB (FloatKind.f64.format.div (FloatKind.f64.nearest (IntKind.wrap .i64 y1.2.2.2)) (FloatKind.f64.nearest (x.1.length : Int))) (fun r4 =>
              bif FloatKind.f64.format.order r4 r4 != some .eq then
                (bif FloatKind.f64.format.order r4 0 == some .eq then
                  (bif FloatKind.f64.format.order 0 0 != some .eq then
                    ((F66 (9221120237041090560 : Int)).bind fun r5 =>
                      some (((3 : Int), ((0 : Int), (r5, (⟨#[]⟩ : ByteArray)))), (0 : Int)))
                  else
                    (some (((3 : Int), ((0 : Int), (0, (⟨#[]⟩ : ByteArray)))), (0 : Int))))
                else
                  (bif FloatKind.f64.format.order r4 r4 != some .eq then
                    ((F66 (9221120237041090560 : Int)).bind fun r6 =>
                      some (((3 : Int), ((0 : Int), (r6, (⟨#[]⟩ : ByteArray)))), (0 : Int)))
                  else
                    (some (((3 : Int), ((0 : Int), (r4, (⟨#[]⟩ : ByteArray)))), (0 : Int)))))
              else
                (some (((3 : Int), ((0 : Int), (r4, (⟨#[]⟩ : ByteArray)))), (0 : Int))))
              ((F66 (9221120237041090560 : Int)).bind fun r7 =>
                some (((3 : Int), ((0 : Int), (r7, (⟨#[]⟩ : ByteArray)))), (0 : Int))))
          else
            (bif FloatKind.f64.format.order (FloatKind.f64.nearest (IntKind.wrap .i64 y1.2.2.2)) (FloatKind.f64.nearest (IntKind.wrap .i64 y1.2.2.2)) != some .eq then
              (bif FloatKind.f64.format.order (FloatKind.f64.nearest (IntKind.wrap .i64 y1.2.2.2)) 0 == some .eq then
                (bif FloatKind.f64.format.order 0 0 != some .eq then
                  ((F66 (9221120237041090560 : Int)).bind fun r8 =>
                    some (((3 : Int), ((0 : Int), (r8, (⟨#[]⟩ : ByteArray)))), (0 : Int)))
                else
                  (some (((3 : Int), ((0 : Int), (0, (⟨#[]⟩ : ByteArray)))), (0 : Int))))
              else
                (bif FloatKind.f64.format.order (FloatKind.f64.nearest (IntKind.wrap .i64 y1.2.2.2)) (FloatKind.f64.nearest (IntKind.wrap .i64 y1.2.2.2)) != some .eq then
                  ((F66 (9221120237041090560 : Int)).bind fun r9 =>
                    some (((3 : Int), ((0 : Int), (r9, (⟨#[]⟩ : ByteArray)))), (0 : Int)))
                else
                  (some (((3 : Int), ((0 : Int), (FloatKind.f64.nearest (IntKind.wrap .i64 y1.2.2.2), (⟨#[]⟩ : ByteArray)))), (0 : Int)))))
            else
              (some (((3 : Int), ((0 : Int), (FloatKind.f64.nearest (IntKind.wrap .i64 y1.2.2.2), (⟨#[]⟩ : ByteArray)))), (0 : Int)))))))
    else
      (bif decide (0 ≤ (0 : Int)) && decide ((0 : Int) < (x.1.length : Int)) then
        ((F31 (x.1.getD 0 tValue.dflt)).bind fun r10 =>
          bif decide (0 ≤ (1 : Int)) && decide ((1 : Int) ≤ (x.1.length : Int)) then
            (f16.L1 n x y1 r10 n ((some r10), (0 : Int)))
          else
            (none))
      else
        (none)))
set_option maxRecDepth 100000 in
theorem f16.k2 (n : Nat) (x : (List dValue) × Bool) (m : Nat) (y : Bool × Int × Int × Int) : f16.L2 n x (m + 1) y = f16.s2 n x (f16.L2 n x m) y := by
  have h : f16.L2 n x (m + 1) y = f16.r2 n x m (f16.L2 n x m) y := by kernel_rfl
  rw [h]
  simp only [f16.r2, f16.s2, f16.l1]
theorem f16.l2 (n : Nat) (x : (List dValue) × Bool) : ∀ (m : Nat) (y1 : Bool × Int × Int × Int), f16.L2 n x m y1 = iter (f16.s2 n x) m y1 :=
  loop_of (L := f16.L2 n x) (step := f16.s2 n x) (fun _ => rfl) (f16.k2 n x)
def f16.g (n : Nat) (x : (List dValue) × Bool) : Option (dValue × Int) :=
  iter (f16.s2 n x) n (true, ((0 : Int), ((0 : Int), (0 : Int))))
def f16.q (n : Nat) (x : (List dValue) × Bool) : Option (dValue × Int) :=
  f16.L2 n x n (true, ((0 : Int), ((0 : Int), (0 : Int))))
set_option maxRecDepth 100000 in
theorem f16.eq (n : Nat) (x : (List dValue) × Bool) : runK TT E16 n ann (tabC C16) 6 16 (argsL [(false, .sl tValue), (false, .bool)] x) [] (readL [(true, tValue), (false, .int .i64)]) = f16.g n x := by
  have h : runK TT E16 n ann (tabC C16) 6 16 (argsL [(false, .sl tValue), (false, .bool)] x) [] (readL [(true, tValue), (false, .int .i64)]) = f16.q n x := by kernel_rfl
  rw [h]
  simp only [f16.q, f16.g, f16.l1, f16.l2]
set_option maxRecDepth 100000 in
theorem f16.codes : CodesOk Tryz.prog E16 ann (tabC C16) := tabC_ok (by intro p hp; simp only [C16, List.mem_cons, List.not_mem_nil, or_false] at hp; rcases hp with rfl | rfl | rfl | rfl | rfl | rfl <;> first | exact Tryz.func16 | exact Tryz.func29 | exact Tryz.func30 | exact Tryz.func32 | exact Tryz.func51 | exact Tryz.func52) (by kernel_rfl)
theorem f16.ok (h : ∀ X Y, F16 X = some Y → ∃ n, f16.g n X = some Y) (e31 : ConOk Tryz.prog 31 con31) (e49 : ConOk Tryz.prog 49 con49) (e66 : ConOk Tryz.prog 66 con66) : ConOk Tryz.prog 16 (mkCon [(false, .sl tValue), (false, .bool)] [(true, tValue), (false, .int .i64)] true F16) :=
  mkCon_ok mixed TT_ok (envC_ok e66 (envC_ok e49 (envC_ok e31 env0_ok))) f16.codes (fun _ => List.all_eq_true.1 rfl) fun X Y hF => (h X Y hF).imp fun n hn => (f16.eq n X).trans hn
def con16 : Con := mkCon [(false, .sl tValue), (false, .bool)] [(true, tValue), (false, .int .i64)] true F16
/-! ### vellum/cursor.Fold -/
def E7 : FuncId → Option Con := (envC 17 con17 (envC 16 con16 (envC 15 con15 env0)))
noncomputable def C7 : List (FuncId × Func) := [(7, Tryz.f7)]
def f7.h1 (x : Int × (List dValue)) (y1 : Nat × Int × (List dValue)) (y4 : Int × Int × Int × Nat × ByteArray) : List AV × List Ob := ([.val false [.sc (.int .i64) x.1], .undef, .undef, .undef, .val false [.ptr 0 0], .undef, .undef, .undef, .undef, .undef, .val false [.ptr 2 0], .undef, .undef, .undef, .undef, .undef, .undef, .undef, .undef, .undef, .undef, .undef, .undef, .undef, .undef, .undef, .undef, .undef, .undef, .undef, .undef, .undef, .undef, .undef, .undef, .undef, .undef, .undef, .undef, .undef, .undef, .undef, .undef, .undef, .undef, .undef, .undef, .undef, .undef, .undef, .undef, .undef, .undef, .undef, .undef, .undef, .undef, .undef, .undef, .undef, .undef, .undef, .undef, .undef, .undef, .undef, .val false [.sc (.sl tValue) (List.drop 1 (List.take y1.1 y1.2.2))], .val false [.sc (.int .i64) ((List.drop 1 (List.take y1.1 y1.2.2)).length : Int)], .val false [.sc (.int .i64) y4.1]] ++ List.replicate 23 .undef, [.box [.sc (.int .i64) (0 : Int), .sc (.int .i64) (0 : Int), .sc (.float .f64) 0, .sc .str (⟨#[]⟩ : ByteArray)], .dead, .box [.sc (.int .i64) y4.2.1, .sc (.int .i64) y4.2.2.1, .sc (.float .f64) y4.2.2.2.1, .sc .str y4.2.2.2.2]])
def f7.h2 (x : Int × (List dValue)) (y1 : Nat × Int × (List dValue)) : List AV × List Ob := ([.val false [.sc (.int .i64) x.1], .undef, .undef, .undef, .val false [.ptr 0 0], .undef, .val false [.own 1 y1.1], .undef, .undef, .undef, .undef, .undef, .undef, .undef, .undef, .undef, .undef, .undef, .undef, .undef, .undef, .val false [.sc (.sl tValue) x.2], .val false [.sc (.int .i64) (x.2.length : Int)], .val false [.sc (.int .i64) y1.2.1]] ++ List.replicate 68 .undef, [.box [.sc (.int .i64) (0 : Int), .sc (.int .i64) (0 : Int), .sc (.float .f64) 0, .sc .str (⟨#[]⟩ : ByteArray)], .arr 26 tValue y1.2.2])
def f7.L1 (n : Nat) (x : Int × (List dValue)) (y1 : Nat × Int × (List dValue)) (m4 : Nat) (y4 : Int × Int × Int × Nat × ByteArray) : Option (dValue × Int) :=
  loopN (ann 7 21).keep 3 (fun fr H k => execK TT 0 E7 (inlD TT E7 n ann (tabC C7) 1) n (ann 7) (subC [1, 1, 1, 1, 1, 1, 1, 1, 0, 1, 0, 0] (bodyOf Tryz.f7)) fr H k) m4 (f7.h1 x y1 y4).1 (f7.h1 x y1 y4).2 (kont TT 0 E7 (inlD TT E7 n ann (tabC C7) 1) n (ann 7) [1, 1, 1, 1, 1, 1, 1, 1, 0, 1, 0] (bodyOf Tryz.f7) (endK TT Tryz.f7 (readL [(true, tValue), (false, .int .i64)])))
def f7.L2 (n : Nat) (x : Int × (List dValue)) (m1 : Nat) (y1 : Nat × Int × (List dValue)) : Option (dValue × Int) :=
  loopN (ann 7 5).keep 2 (fun fr H k => execK TT 0 E7 (inlD TT E7 n ann (tabC C7) 1) n (ann 7) (subC [1, 1, 1, 0, 1, 0, 0] (bodyOf Tryz.f7)) fr H k) m1 (f7.h2 x y1).1 (f7.h2 x y1).2 (kont TT 0 E7 (inlD TT E7 n ann (tabC C7) 1) n (ann 7) [1, 1, 1, 0, 1, 0] (bodyOf Tryz.f7) (endK TT Tryz.f7 (readL [(true, tValue), (false, .int .i64)])))
def f7.s1 (n : Nat) (x : Int × (List dValue)) (y1 : Nat × Int × (List dValue)) (S4 : (Int × Int × Int × Nat × ByteArray) → Option (dValue × Int)) (y4 : Int × Int × Int × Nat × ByteArray) : Option (dValue × Int) :=
  bif decide (y4.1 < ((List.drop 1 (List.take y1.1 y1.2.2)).length : Int)) then
    (bif decide (0 ≤ y4.1) && decide (y4.1 < ((List.drop 1 (List.take y1.1 y1.2.2)).length : Int)) then
      ((F17 ((List.drop 1 (List.take y1.1 y1.2.2)).getD y4.1.toNat tValue.dflt, y4.2)).bind fun r5 =>
        bif bif (bif (x.1 == (3 : Int)) then (decide (r5 < (0 : Int))) else false) then true else (bif (x.1 == (4 : Int)) then (decide (r5 > (0 : Int))) else false) then
          (S4 (IntKind.wrap .i64 (y4.1 + (1 : Int)), (List.drop 1 (List.take y1.1 y1.2.2)).getD y4.1.toNat tValue.dflt))
        else
          (S4 (IntKind.wrap .i64 (y4.1 + (1 : Int)), y4.2)))
    else
      (none))
  else
    (some (y4.2, (0 : Int)))
set_option maxRecDepth 100000 in
theorem f7.k1 (n : Nat) (x : Int × (List dValue)) (y1 : Nat × Int × (List dValue)) (m : Nat) (y : Int × Int × Int × Nat × ByteArray) : f7.L1 n x y1 (m + 1) y = f7.s1 n x y1 (f7.L1 n x y1 m) y := by kernel_rfl
theorem f7.l1 (n : Nat) (x : Int × (List dValue)) (y1 : Nat × Int × (List dValue)) : ∀ (m : Nat) (y4 : Int × Int × Int × Nat × ByteArray), f7.L1 n x y1 m y4 = iter (f7.s1 n x y1) m y4 :=
  loop_of (L := f7.L1 n x y1) (step := f7.s1 n x y1) (fun _ => rfl) (f7.k1 n x y1)
def f7.s2 (n : Nat) (x : Int × (List dValue)) (S1 : (Nat × Int × (List dValue)) → Option (dValue × Int)) (y1 : Nat × Int × (List dValue)) : Option (dValue × Int) :=
  bif decide (y1.2.1 < (x.2.length : Int)) then
    (bif decide (0 ≤ y1.2.1) && decide (y1.2.1 < (x.2.length : Int)) then
      ((F15 (x.2.getD y1.2.1.toNat tValue.dflt)).bind fun r2 =>
        bif r2 != (0 : Int) then
          (some (((0 : Int), ((0 : Int), (0, (⟨#[]⟩ : ByteArray)))), r2))
        else
          (bif (x.2.getD y1.2.1.toNat tValue.dflt).1 != (0 : Int) then
            (bif decide ((y1.1 + 1) * 40 ≤ boundN) then
              (S1 (y1.1 + 1, (IntKind.wrap .i64 (y1.2.1 + (1 : Int)), List.take y1.1 y1.2.2 ++ ([x.2.getD y1.2.1.toNat tValue.dflt]))))
            else
              (none))
          else
            (S1 (y1.1, (IntKind.wrap .i64 (y1.2.1 + (1 : Int)), y1.2.2)))))
    else
      (none))
  else
    (bif x.1 == (1 : Int) then
      (some (((2 : Int), (((y1.1 : Nat) : Int), (0, (⟨#[]⟩ : ByteArray)))), (0 : Int)))
    else
      (bif ((y1.1 : Nat) : Int) == (0 : Int) then
        (some (((0 : Int), ((0 : Int), (0, (⟨#[]⟩ : ByteArray)))), (0 : Int)))
      else
        (bif bif (x.1 == (2 : Int)) then true else (x.1 == (5 : Int)) then
          ((F16 (List.take y1.1 y1.2.2, x.1 == (5 : Int))).bind fun r3 =>
            some r3)
        else
          (bif decide (0 ≤ (0 : Int)) && decide ((0 : Int) < ((y1.1 : Nat) : Int)) then
            (bif decide (0 ≤ (1 : Int)) && decide ((1 : Int) ≤ ((List.take y1.1 y1.2.2).length : Int)) then
              (iter (f7.s1 n x y1) n ((0 : Int), y1.2.2.getD 0 tValue.dflt))
            else
              (none))
          else
            (none)))))
def f7.r2 (n : Nat) (x : Int × (List dValue)) (m1 : Nat) (S1 : (Nat × Int × (List dValue)) → Option (dValue × Int)) (y1 : Nat × Int × (List dValue)) : Option (dValue × Int) :=
  bif decide (y1.2.1 < (x.2.length : Int)) then
    (bif decide (0 ≤ y1.2.1) && decide (y1.2.1 < (x.2.length : Int)) then
      ((F15 (x.2.getD y1.2.1.toNat tValue.dflt)).bind fun r2 =>
        bif r2 != (0 : Int) then
          (some (((0 : Int), ((0 : Int), (0, (⟨#[]⟩ : ByteArray)))), r2))
        else
          (bif (x.2.getD y1.2.1.toNat tValue.dflt).1 != (0 : Int) then
            (bif decide ((y1.1 + 1) * 40 ≤ boundN) then
              (S1 (y1.1 + 1, (IntKind.wrap .i64 (y1.2.1 + (1 : Int)), List.take y1.1 y1.2.2 ++ ([x.2.getD y1.2.1.toNat tValue.dflt]))))
            else
              (none))
          else
            (S1 (y1.1, (IntKind.wrap .i64 (y1.2.1 + (1 : Int)), y1.2.2)))))
    else
      (none))
  else
    (bif x.1 == (1 : Int) then
      (some (((2 : Int), (((y1.1 : Nat) : Int), (0, (⟨#[]⟩ : ByteArray)))), (0 : Int)))
    else
      (bif ((y1.1 : Nat) : Int) == (0 : Int) then
        (some (((0 : Int), ((0 : Int), (0, (⟨#[]⟩ : ByteArray)))), (0 : Int)))
      else
        (bif bif (x.1 == (2 : Int)) then true else (x.1 == (5 : Int)) then
          ((F16 (List.take y1.1 y1.2.2, x.1 == (5 : Int))).bind fun r3 =>
            some r3)
        else
          (bif decide (0 ≤ (0 : Int)) && decide ((0 : Int) < ((y1.1 : Nat) : Int)) then
            (bif decide (0 ≤ (1 : Int)) && decide ((1 : Int) ≤ ((List.take y1.1 y1.2.2).length : Int)) then
              (f7.L1 n x y1 n ((0 : Int), y1.2.2.getD 0 tValue.dflt))
            else
              (none))
          else
            (none)))))
set_option maxRecDepth 100000 in
theorem f7.k2 (n : Nat) (x : Int × (List dValue)) (m : Nat) (y : Nat × Int × (List dValue)) : f7.L2 n x (m + 1) y = f7.s2 n x (f7.L2 n x m) y := by
  have h : f7.L2 n x (m + 1) y = f7.r2 n x m (f7.L2 n x m) y := by kernel_rfl
  rw [h]
  simp only [f7.r2, f7.s2, f7.l1]
theorem f7.l2 (n : Nat) (x : Int × (List dValue)) : ∀ (m : Nat) (y1 : Nat × Int × (List dValue)), f7.L2 n x m y1 = iter (f7.s2 n x) m y1 :=
  loop_of (L := f7.L2 n x) (step := f7.s2 n x) (fun _ => rfl) (f7.k2 n x)
def f7.g (n : Nat) (x : Int × (List dValue)) : Option (dValue × Int) :=
  bif bif (decide (x.1 < (1 : Int))) then true else (decide (x.1 > (5 : Int))) then
    (some (((0 : Int), ((0 : Int), (0, (⟨#[]⟩ : ByteArray)))), (1 : Int)))
  else
    (iter (f7.s2 n x) n (0, ((0 : Int), [])))
def f7.q (n : Nat) (x : Int × (List dValue)) : Option (dValue × Int) :=
  bif bif (decide (x.1 < (1 : Int))) then true else (decide (x.1 > (5 : Int))) then
    (some (((0 : Int), ((0 : Int), (0, (⟨#[]⟩ : ByteArray)))), (1 : Int)))
  else
    (f7.L2 n x n (0, ((0 : Int), [])))
set_option maxRecDepth 100000 in
theorem f7.eq (n : Nat) (x : Int × (List dValue)) : runK TT E7 n ann (tabC C7) 1 7 (argsL [(false, .int .i64), (false, .sl tValue)] x) [] (readL [(true, tValue), (false, .int .i64)]) = f7.g n x := by
  have h : runK TT E7 n ann (tabC C7) 1 7 (argsL [(false, .int .i64), (false, .sl tValue)] x) [] (readL [(true, tValue), (false, .int .i64)]) = f7.q n x := by kernel_rfl
  rw [h]
  simp only [f7.q, f7.g, f7.l1, f7.l2]
set_option maxRecDepth 100000 in
theorem f7.codes : CodesOk Tryz.prog E7 ann (tabC C7) := tabC_ok (by intro p hp; simp only [C7, List.mem_cons, List.not_mem_nil, or_false] at hp; rcases hp with rfl <;> first | exact Tryz.func7) (by kernel_rfl)
theorem f7.ok (h : ∀ X Y, F7 X = some Y → ∃ n, f7.g n X = some Y) (e15 : ConOk Tryz.prog 15 con15) (e16 : ConOk Tryz.prog 16 con16) (e17 : ConOk Tryz.prog 17 con17) : ConOk Tryz.prog 7 (mkCon [(false, .int .i64), (false, .sl tValue)] [(true, tValue), (false, .int .i64)] true F7) :=
  mkCon_ok mixed TT_ok (envC_ok e17 (envC_ok e16 (envC_ok e15 env0_ok))) f7.codes (fun _ => List.all_eq_true.1 rfl) fun X Y hF => (h X Y hF).imp fun n hn => (f7.eq n X).trans hn
def con7 : Con := mkCon [(false, .int .i64), (false, .sl tValue)] [(true, tValue), (false, .int .i64)] true F7
/-! ### vellum/vellumref16.Fold -/
def E11 : FuncId → Option Con := (envC 27 con27 (envC 26 con26 (envC 8 con8 (envC 5 con5 env0))))
noncomputable def C11 : List (FuncId × Func) := [(11, Tryz.f11), (25, Tryz.f25)]
def f11.h1 (x : Int × (List dValue)) (y1 : Nat × Bool × Bool × Int × (List dValue)) (y3 : Int × Int × Int × Nat × ByteArray) : List AV × List Ob := ([.val false [.sc (.int .i64) x.1], .undef, .undef, .undef, .val false [.ptr 0 0], .undef, .val false [.own 1 y1.1], .undef, .undef, .undef, .undef, .val false [.ptr 2 0], .val false [.sc (.int .i64) y3.1]] ++ List.replicate 125 .undef, [.box [.sc (.int .i64) (0 : Int), .sc (.int .i64) (0 : Int), .sc (.float .f64) 0, .sc .str (⟨#[]⟩ : ByteArray)], .arr 26 tValue y1.2.2.2.2, .box [.sc (.int .i64) y3.2.1, .sc (.int .i64) y3.2.2.1, .sc (.float .f64) y3.2.2.2.1, .sc .str y3.2.2.2.2]])
def f11.h2 (x : Int × (List dValue)) (y1 : Nat × Bool × Bool × Int × (List dValue)) : List AV × List Ob := ([.val false [.sc (.int .i64) x.1], .val false [.sc (.sl tValue) x.2], .undef, .undef, .val false [.ptr 0 0], .undef, .val false [.own 1 y1.1], .val false [.sc .bool y1.2.1], .val false [.sc .bool y1.2.2.1], .val false [.sc (.int .i64) y1.2.2.2.1]] ++ List.replicate 128 .undef, [.box [.sc (.int .i64) (0 : Int), .sc (.int .i64) (0 : Int), .sc (.float .f64) 0, .sc .str (⟨#[]⟩ : ByteArray)], .arr 26 tValue y1.2.2.2.2])
def f11.L1 (n : Nat) (x : Int × (List dValue)) (y1 : Nat × Bool × Bool × Int × (List dValue)) (m3 : Nat) (y3 : Int × Int × Int × Nat × ByteArray) : Option (dValue × Int) :=
  loopN (ann 11 23).keep 3 (fun fr H k => execK TT 0 E11 (inlD TT E11 n ann (tabC C11) 2) n (ann 11) (subC [1, 1, 1, 1, 1, 1, 1, 1, 0, 1, 0, 1, 0, 1, 0, 0] (bodyOf Tryz.f11)) fr H k) m3 (f11.h1 x y1 y3).1 (f11.h1 x y1 y3).2 (kont TT 0 E11 (inlD TT E11 n ann (tabC C11) 2) n (ann 11) [1, 1, 1, 1, 1, 1, 1, 1, 0, 1, 0, 1, 0, 1, 0] (bodyOf Tryz.f11) (endK TT Tryz.f11 (readL [(true, tValue), (false, .int .i64)])))
def f11.L2 (n : Nat) (x : Int × (List dValue)) (m1 : Nat) (y1 : Nat × Bool × Bool × Int × (List dValue)) : Option (dValue × Int) :=
  loopN (ann 11 7).keep 2 (fun fr H k => execK TT 0 E11 (inlD TT E11 n ann (tabC C11) 2) n (ann 11) (subC [1, 1, 1, 1, 1, 0, 1, 0, 0] (bodyOf Tryz.f11)) fr H k) m1 (f11.h2 x y1).1 (f11.h2 x y1).2 (kont TT 0 E11 (inlD TT E11 n ann (tabC C11) 2) n (ann 11) [1, 1, 1, 1, 1, 0, 1, 0] (bodyOf Tryz.f11) (endK TT Tryz.f11 (readL [(true, tValue), (false, .int .i64)])))
def f11.s1 (n : Nat) (x : Int × (List dValue)) (y1 : Nat × Bool × Bool × Int × (List dValue)) (S3 : (Int × Int × Int × Nat × ByteArray) → Option (dValue × Int)) (y3 : Int × Int × Int × Nat × ByteArray) : Option (dValue × Int) :=
  bif decide (y3.1 < ((y1.1 : Nat) : Int)) then
    (bif decide (0 ≤ y3.1) && decide (y3.1 < ((y1.1 : Nat) : Int)) then
      ((F8 (y1.2.2.2.2.getD y3.1.toNat tValue.dflt, y3.2)).bind fun r4 =>
        bif bif (bif (x.1 == (3 : Int)) then (decide (r4 < (0 : Int))) else false) then true else (bif (x.1 == (4 : Int)) then (decide (r4 > (0 : Int))) else false) then
          (bif decide (0 ≤ y3.1) && decide (y3.1 < ((y1.1 : Nat) : Int)) then
            (S3 (IntKind.wrap .i64 (y3.1 + (1 : Int)), y1.2.2.2.2.getD y3.1.toNat tValue.dflt))
          else
            (none))
        else
          (S3 (IntKind.wrap .i64 (y3.1 + (1 : Int)), y3.2)))
    else
      (none))
  else
    (some (y3.2, (0 : Int)))
set_option maxRecDepth 100000 in
theorem f11.k1 (n : Nat) (x : Int × (List dValue)) (y1 : Nat × Bool × Bool × Int × (List dValue)) (m : Nat) (y : Int × Int × Int × Nat × ByteArray) : f11.L1 n x y1 (m + 1) y = f11.s1 n x y1 (f11.L1 n x y1 m) y := by kernel_rfl
theorem f11.l1 (n : Nat) (x : Int × (List dValue)) (y1 : Nat × Bool × Bool × Int × (List dValue)) : ∀ (m : Nat) (y3 : Int × Int × Int × Nat × ByteArray), f11.L1 n x y1 m y3 = iter (f11.s1 n x y1) m y3 :=
  loop_of (L := f11.L1 n x y1) (step := f11.s1 n x y1) (fun _ => rfl) (f11.k1 n x y1)
def f11.s2 (n : Nat) (x : Int × (List dValue)) (S1 : (Nat × Bool × Bool × Int × (List dValue)) → Option (dValue × Int)) (y1 : Nat × Bool × Bool × Int × (List dValue)) : Option (dValue × Int) :=
  bif decide (y1.2.2.2.1 < (x.2.length : Int)) then
    (bif decide (0 ≤ y1.2.2.2.1) && decide (y1.2.2.2.1 < (x.2.length : Int)) then
      ((F5 (x.2.getD y1.2.2.2.1.toNat tValue.dflt)).bind fun r2 =>
        bif r2 != (0 : Int) then
          (some (((0 : Int), ((0 : Int), (0, (⟨#[]⟩ : ByteArray)))), r2))
        else
          (bif decide (0 ≤ y1.2.2.2.1) && decide (y1.2.2.2.1 < (x.2.length : Int)) then
            (bif (x.2.getD y1.2.2.2.1.toNat tValue.dflt).1 == (0 : Int) then
              (S1 (y1.1, (y1.2.1, (y1.2.2.1, (IntKind.wrap .i64 (y1.2.2.2.1 + (1 : Int)), y1.2.2.2.2)))))
            else
              (bif decide (0 ≤ y1.2.2.2.1) && decide (y1.2.2.2.1 < (x.2.length : Int)) then
                (bif decide ((y1.1 + 1) * 40 ≤ boundN) then
                  (bif y1.2.1 then
                    (bif decide (0 ≤ y1.2.2.2.1) && decide (y1.2.2.2.1 < (x.2.length : Int)) then
                      (bif y1.2.2.1 then
                        (bif decide (0 ≤ y1.2.2.2.1) && decide (y1.2.2.2.1 < (x.2.length : Int)) then
                          (bif (x.2.getD y1.2.2.2.1.toNat tValue.dflt).1 == (2 : Int) then
                            (S1 (y1.1 + 1, ((x.2.getD y1.2.2.2.1.toNat tValue.dflt).1 == (2 : Int), (true, (IntKind.wrap .i64 (y1.2.2.2.1 + (1 : Int)), List.take y1.1 y1.2.2.2.2 ++ ([x.2.getD y1.2.2.2.1.toNat tValue.dflt]))))))
                          else
                            (bif decide (0 ≤ y1.2.2.2.1) && decide (y1.2.2.2.1 < (x.2.length : Int)) then
                              (S1 (y1.1 + 1, ((x.2.getD y1.2.2.2.1.toNat tValue.dflt).1 == (2 : Int), ((x.2.getD y1.2.2.2.1.toNat tValue.dflt).1 == (3 : Int), (IntKind.wrap .i64 (y1.2.2.2.1 + (1 : Int)), List.take y1.1 y1.2.2.2.2 ++ ([x.2.getD y1.2.2.2.1.toNat tValue.dflt]))))))
                            else
                              (none)))
                        else
                          (none))
                      else
                        (S1 (y1.1 + 1, ((x.2.getD y1.2.2.2.1.toNat tValue.dflt).1 == (2 : Int), (false, (IntKind.wrap .i64 (y1.2.2.2.1 + (1 : Int)), List.take y1.1 y1.2.2.2.2 ++ ([x.2.getD y1.2.2.2.1.toNat tValue.dflt])))))))
                    else
                      (none))
                  else
                    (bif y1.2.2.1 then
                      (bif decide (0 ≤ y1.2.2.2.1) && decide (y1.2.2.2.1 < (x.2.length : Int)) then
                        (bif (x.2.getD y1.2.2.2.1.toNat tValue.dflt).1 == (2 : Int) then
                          (S1 (y1.1 + 1, (false, (true, (IntKind.wrap .i64 (y1.2.2.2.1 + (1 : Int)), List.take y1.1 y1.2.2.2.2 ++ ([x.2.getD y1.2.2.2.1.toNat tValue.dflt]))))))
                        else
                          (bif decide (0 ≤ y1.2.2.2.1) && decide (y1.2.2.2.1 < (x.2.length : Int)) then
                            (S1 (y1.1 + 1, (false, ((x.2.getD y1.2.2.2.1.toNat tValue.dflt).1 == (3 : Int), (IntKind.wrap .i64 (y1.2.2.2.1 + (1 : Int)), List.take y1.1 y1.2.2.2.2 ++ ([x.2.getD y1.2.2.2.1.toNat tValue.dflt]))))))
                          else
                            (none)))
                      else
                        (none))
                    else
                      (S1 (y1.1 + 1, (false, (false, (IntKind.wrap .i64 (y1.2.2.2.1 + (1 : Int)), List.take y1.1 y1.2.2.2.2 ++ ([x.2.getD y1.2.2.2.1.toNat tValue.dflt]))))))))
                else
                  (none))
              else
                (none)))
          else
            (none)))
    else
      (none))
  else
    (bif x.1 == (1 : Int) then
      (some (((2 : Int), (((y1.1 : Nat) : Int), (0, (⟨#[]⟩ : ByteArray)))), (0 : Int)))
    else
      (bif ((y1.1 : Nat) : Int) == (0 : Int) then
        (some (((0 : Int), ((0 : Int), (0, (⟨#[]⟩ : ByteArray)))), (0 : Int)))
      else
        (bif bif (x.1 == (3 : Int)) then true else (x.1 == (4 : Int)) then
          (bif decide (0 ≤ (0 : Int)) && decide ((0 : Int) < ((y1.1 : Nat) : Int)) then
            (iter (f11.s1 n x y1) n ((0 : Int), y1.2.2.2.2.getD 0 tValue.dflt))
          else
            (none))
        else
          (bif !y1.2.2.1 then
            (some (((0 : Int), ((0 : Int), (0, (⟨#[]⟩ : ByteArray)))), (151 : Int)))
          else
            (bif y1.2.1 then
              ((F26 (x.1, List.take y1.1 y1.2.2.2.2)).bind fun r5 =>
                some r5)
            else
              ((F27 (x.1, List.take y1.1 y1.2.2.2.2)).bind fun r6 =>
                some r6))))))
def f11.r2 (n : Nat) (x : Int × (List dValue)) (m1 : Nat) (S1 : (Nat × Bool × Bool × Int × (List dValue)) → Option (dValue × Int)) (y1 : Nat × Bool × Bool × Int × (List dValue)) : Option (dValue × Int) :=
  bif decide (y1.2.2.2.1 < (x.2.length : Int)) then
    (bif decide (0 ≤ y1.2.2.2.1) && decide (y1.2.2.2.1 < (x.2.length : Int)) then
      ((F5 (x.2.getD y1.2.2.2.1.toNat tValue.dflt)).bind fun r2 =>
        bif r2 != (0 : Int) then
          (some (((0 : Int), ((0 : Int), (0, (⟨#[]⟩ : ByteArray)))), r2))
        else
          (bif decide (0 ≤ y1.2.2.2.1) && decide (y1.2.2.2.1 < (x.2.length : Int)) then
            (bif (x.2.getD y1.2.2.2.1.toNat tValue.dflt).1 == (0 : Int) then
              (S1 (y1.1, (y1.2.1, (y1.2.2.1, (IntKind.wrap .i64 (y1.2.2.2.1 + (1 : Int)), y1.2.2.2.2)))))
            else
              (bif decide (0 ≤ y1.2.2.2.1) && decide (y1.2.2.2.1 < (x.2.length : Int)) then
                (bif decide ((y1.1 + 1) * 40 ≤ boundN) then
                  (bif y1.2.1 then
                    (bif decide (0 ≤ y1.2.2.2.1) && decide (y1.2.2.2.1 < (x.2.length : Int)) then
                      (bif y1.2.2.1 then
                        (bif decide (0 ≤ y1.2.2.2.1) && decide (y1.2.2.2.1 < (x.2.length : Int)) then
                          (bif (x.2.getD y1.2.2.2.1.toNat tValue.dflt).1 == (2 : Int) then
                            (S1 (y1.1 + 1, ((x.2.getD y1.2.2.2.1.toNat tValue.dflt).1 == (2 : Int), (true, (IntKind.wrap .i64 (y1.2.2.2.1 + (1 : Int)), List.take y1.1 y1.2.2.2.2 ++ ([x.2.getD y1.2.2.2.1.toNat tValue.dflt]))))))
                          else
                            (bif decide (0 ≤ y1.2.2.2.1) && decide (y1.2.2.2.1 < (x.2.length : Int)) then
                              (S1 (y1.1 + 1, ((x.2.getD y1.2.2.2.1.toNat tValue.dflt).1 == (2 : Int), ((x.2.getD y1.2.2.2.1.toNat tValue.dflt).1 == (3 : Int), (IntKind.wrap .i64 (y1.2.2.2.1 + (1 : Int)), List.take y1.1 y1.2.2.2.2 ++ ([x.2.getD y1.2.2.2.1.toNat tValue.dflt]))))))
                            else
                              (none)))
                        else
                          (none))
                      else
                        (S1 (y1.1 + 1, ((x.2.getD y1.2.2.2.1.toNat tValue.dflt).1 == (2 : Int), (false, (IntKind.wrap .i64 (y1.2.2.2.1 + (1 : Int)), List.take y1.1 y1.2.2.2.2 ++ ([x.2.getD y1.2.2.2.1.toNat tValue.dflt])))))))
                    else
                      (none))
                  else
                    (bif y1.2.2.1 then
                      (bif decide (0 ≤ y1.2.2.2.1) && decide (y1.2.2.2.1 < (x.2.length : Int)) then
                        (bif (x.2.getD y1.2.2.2.1.toNat tValue.dflt).1 == (2 : Int) then
                          (S1 (y1.1 + 1, (false, (true, (IntKind.wrap .i64 (y1.2.2.2.1 + (1 : Int)), List.take y1.1 y1.2.2.2.2 ++ ([x.2.getD y1.2.2.2.1.toNat tValue.dflt]))))))
                        else
                          (bif decide (0 ≤ y1.2.2.2.1) && decide (y1.2.2.2.1 < (x.2.length : Int)) then
                            (S1 (y1.1 + 1, (false, ((x.2.getD y1.2.2.2.1.toNat tValue.dflt).1 == (3 : Int), (IntKind.wrap .i64 (y1.2.2.2.1 + (1 : Int)), List.take y1.1 y1.2.2.2.2 ++ ([x.2.getD y1.2.2.2.1.toNat tValue.dflt]))))))
                          else
                            (none)))
                      else
                        (none))
                    else
                      (S1 (y1.1 + 1, (false, (false, (IntKind.wrap .i64 (y1.2.2.2.1 + (1 : Int)), List.take y1.1 y1.2.2.2.2 ++ ([x.2.getD y1.2.2.2.1.toNat tValue.dflt]))))))))
                else
                  (none))
              else
                (none)))
          else
            (none)))
    else
      (none))
  else
    (bif x.1 == (1 : Int) then
      (some (((2 : Int), (((y1.1 : Nat) : Int), (0, (⟨#[]⟩ : ByteArray)))), (0 : Int)))
    else
      (bif ((y1.1 : Nat) : Int) == (0 : Int) then
        (some (((0 : Int), ((0 : Int), (0, (⟨#[]⟩ : ByteArray)))), (0 : Int)))
      else
        (bif bif (x.1 == (3 : Int)) then true else (x.1 == (4 : Int)) then
          (bif decide (0 ≤ (0 : Int)) && decide ((0 : Int) < ((y1.1 : Nat) : Int)) then
            (f11.L1 n x y1 n ((0 : Int), y1.2.2.2.2.getD 0 tValue.dflt))
          else
            (none))
        else
          (bif !y1.2.2.1 then
            (some (((0 : Int), ((0 : Int), (0, (⟨#[]⟩ : ByteArray)))), (151 : Int)))
          else
            (bif y1.2.1 then
              ((F26 (x.1, List.take y1.1 y1.2.2.2.2)).bind fun r5 =>
                some r5)
            else
              ((F27 (x.1, List.take y1.1 y1.2.2.2.2)).bind fun r6 =>
                some r6))))))
set_option maxRecDepth 100000 in
theorem f11.k2 (n : Nat) (x : Int × (List dValue)) (m : Nat) (y : Nat × Bool × Bool × Int × (List dValue)) : f11.L2 n x (m + 1) y = f11.s2 n x (f11.L2 n x m) y := by
  have h : f11.L2 n x (m + 1) y = f11.r2 n x m (f11.L2 n x m) y := by kernel_rfl
  rw [h]
  simp only [f11.r2, f11.s2, f11.l1]
theorem f11.l2 (n : Nat) (x : Int × (List dValue)) : ∀ (m : Nat) (y1 : Nat × Bool × Bool × Int × (List dValue)), f11.L2 n x m y1 = iter (f11.s2 n x) m y1 :=
  loop_of (L := f11.L2 n x) (step := f11.s2 n x) (fun _ => rfl) (f11.k2 n x)
def f11.g (n : Nat) (x : Int × (List dValue)) : Option (dValue × Int) :=
  bif bif (decide (x.1 < (1 : Int))) then true else (decide (x.1 > (5 : Int))) then
    (some (((0 : Int), ((0 : Int), (0, (⟨#[]⟩ : ByteArray)))), (1 : Int)))
  else
    (iter (f11.s2 n x) n (0, (true, (true, ((0 : Int), [])))))
def f11.q (n : Nat) (x : Int × (List dValue)) : Option (dValue × Int) :=
  bif bif (decide (x.1 < (1 : Int))) then true else (decide (x.1 > (5 : Int))) then
    (some (((0 : Int), ((0 : Int), (0, (⟨#[]⟩ : ByteArray)))), (1 : Int)))
  else
    (f11.L2 n x n (0, (true, (true, ((0 : Int), [])))))
set_option maxRecDepth 100000 in
theorem f11.eq (n : Nat) (x : Int × (List dValue)) : runK TT E11 n ann (tabC C11) 2 11 (argsL [(false, .int .i64), (false, .sl tValue)] x) [] (readL [(true, tValue), (false, .int .i64)]) = f11.g n x := by
  have h : runK TT E11 n ann (tabC C11) 2 11 (argsL [(false, .int .i64), (false, .sl tValue)] x) [] (readL [(true, tValue), (false, .int .i64)]) = f11.q n x := by kernel_rfl
  rw [h]
  simp only [f11.q, f11.g, f11.l1, f11.l2]
set_option maxRecDepth 100000 in
theorem f11.codes : CodesOk Tryz.prog E11 ann (tabC C11) := tabC_ok (by intro p hp; simp only [C11, List.mem_cons, List.not_mem_nil, or_false] at hp; rcases hp with rfl | rfl <;> first | exact Tryz.func11 | exact Tryz.func25) (by kernel_rfl)
theorem f11.ok (h : ∀ X Y, F11 X = some Y → ∃ n, f11.g n X = some Y) (e5 : ConOk Tryz.prog 5 con5) (e8 : ConOk Tryz.prog 8 con8) (e26 : ConOk Tryz.prog 26 con26) (e27 : ConOk Tryz.prog 27 con27) : ConOk Tryz.prog 11 (mkCon [(false, .int .i64), (false, .sl tValue)] [(true, tValue), (false, .int .i64)] true F11) :=
  mkCon_ok mixed TT_ok (envC_ok e27 (envC_ok e26 (envC_ok e8 (envC_ok e5 env0_ok)))) f11.codes (fun _ => List.all_eq_true.1 rfl) fun X Y hF => (h X Y hF).imp fun n hn => (f11.eq n X).trans hn
def con11 : Con := mkCon [(false, .int .i64), (false, .sl tValue)] [(true, tValue), (false, .int .i64)] true F11
/-! ### vellum/vellumlaw16.awake -/
def E6 : FuncId → Option Con := (envC 7 con7 env0)
noncomputable def C6 : List (FuncId × Func) := [(6, Tryz.f6)]
def f6.g (n : Nat) (x : Unit) : Option (Bool) :=
  (F7 ((2 : Int), List.take 2 ([((2 : Int), ((2 : Int), (0, (⟨#[]⟩ : ByteArray)))), ((2 : Int), ((5 : Int), (0, (⟨#[]⟩ : ByteArray))))]))).bind fun r1 =>
    some (bif (bif (r1.2 == (0 : Int)) then (r1.1.1 == (2 : Int)) else false) then (r1.1.2.1 == (7 : Int)) else false)
set_option maxRecDepth 100000 in
theorem f6.eq (n : Nat) (x : Unit) : runK TT E6 n ann (tabC C6) 1 6 (argsL [] x) [] (readL [(false, .bool)]) = f6.g n x := by
  kernel_rfl
set_option maxRecDepth 100000 in
theorem f6.codes : CodesOk Tryz.prog E6 ann (tabC C6) := tabC_ok (by intro p hp; simp only [C6, List.mem_cons, List.not_mem_nil, or_false] at hp; rcases hp with rfl <;> first | exact Tryz.func6) (by kernel_rfl)
theorem f6.ok (h : ∀ X Y, F6 X = some Y → ∃ n, f6.g n X = some Y) (e7 : ConOk Tryz.prog 7 con7) : ConOk Tryz.prog 6 (mkCon [] [(false, .bool)] true F6) :=
  mkCon_ok mixed TT_ok (envC_ok e7 env0_ok) f6.codes (fun _ => List.all_eq_true.1 rfl) fun X Y hF => (h X Y hF).imp fun n hn => (f6.eq n X).trans hn
def con6 : Con := mkCon [] [(false, .bool)] true F6
/-! ### vellum/vellumlaw16.CursorTurned -/
def E3 : FuncId → Option Con := (envC 8 con8 (envC 7 con7 (envC 6 con6 (envC 5 con5 env0))))
noncomputable def C3 : List (FuncId × Func) := [(3, Tryz.f3)]
def f3.h1 (x : (List dValue) × Int) (y1 : Nat × Int × (List dValue)) (y2 : Int × (List dValue)) (y3 : Bool × Int) (y6 : Int) : List AV × List Ob := ([.val false [.sc (.sl tValue) x.1], .undef, .undef, .undef, .undef, .val false [.own 0 y1.1], .undef, .undef, .val false [.sc .bool y3.1], .undef, .val false [.sc (.int .i64) y6]] ++ List.replicate 126 .undef, [.arr 26 tValue y2.2])
def f3.h2 (x : (List dValue) × Int) (y1 : Nat × Int × (List dValue)) (y2 : Int × (List dValue)) (y3 : Bool × Int) : List AV × List Ob := ([.val false [.sc (.sl tValue) x.1], .undef, .undef, .undef, .undef, .val false [.own 0 y1.1], .undef, .undef, .val false [.sc .bool y3.1], .val false [.sc (.int .i64) y3.2]] ++ List.replicate 127 .undef, [.arr 26 tValue y2.2])
def f3.h3 (x : (List dValue) × Int) (y1 : Nat × Int × (List dValue)) (y2 : Int × (List dValue)) : List AV × List Ob := ([.val false [.sc (.sl tValue) x.1], .val false [.sc (.int .u16) x.2], .undef, .undef, .undef, .val false [.own 0 y1.1], .undef, .val false [.sc (.int .i64) y2.1]] ++ List.replicate 129 .undef, [.arr 26 tValue y2.2])
def f3.h4 (x : (List dValue) × Int) (y1 : Nat × Int × (List dValue)) : List AV × List Ob := ([.val false [.sc (.sl tValue) x.1], .val false [.sc (.int .u16) x.2], .undef, .undef, .undef, .val false [.own 0 y1.1], .val false [.sc (.int .i64) y1.2.1]] ++ List.replicate 130 .undef, [.arr 26 tValue y1.2.2])
def f3.L1 (n : Nat) (x : (List dValue) × Int) (y1 : Nat × Int × (List dValue)) (y2 : Int × (List dValue)) (y3 : Bool × Int) (m6 : Nat) (y6 : Int) : Option (Bool) :=
  loopN (ann 3 19).keep 1 (fun fr H k => execK TT 0 E3 (inlD TT E3 n ann (tabC C3) 1) n (ann 3) (subC [1, 1, 1, 1, 1, 1, 0, 1, 0, 0] (bodyOf Tryz.f3)) fr H k) m6 (f3.h1 x y1 y2 y3 y6).1 (f3.h1 x y1 y2 y3 y6).2 (kont TT 0 E3 (inlD TT E3 n ann (tabC C3) 1) n (ann 3) [1, 1, 1, 1, 1, 1, 0, 1, 0] (bodyOf Tryz.f3) (endK TT Tryz.f3 (readL [(false, .bool)])))
def f3.L2 (n : Nat) (x : (List dValue) × Int) (y1 : Nat × Int × (List dValue)) (y2 : Int × (List dValue)) (m3 : Nat) (y3 : Bool × Int) : Option (Bool) :=
  loopN (ann 3 13).keep 1 (fun fr H k => execK TT 0 E3 (inlD TT E3 n ann (tabC C3) 1) n (ann 3) (subC [1, 1, 1, 1, 1, 0, 1, 0, 0] (bodyOf Tryz.f3)) fr H k) m3 (f3.h2 x y1 y2 y3).1 (f3.h2 x y1 y2 y3).2 (kont TT 0 E3 (inlD TT E3 n ann (tabC C3) 1) n (ann 3) [1, 1, 1, 1, 1, 0, 1, 0] (bodyOf Tryz.f3) (endK TT Tryz.f3 (readL [(false, .bool)])))
def f3.L3 (n : Nat) (x : (List dValue) × Int) (y1 : Nat × Int × (List dValue)) (m2 : Nat) (y2 : Int × (List dValue)) : Option (Bool) :=
  loopN (ann 3 7).keep 1 (fun fr H k => execK TT 0 E3 (inlD TT E3 n ann (tabC C3) 1) n (ann 3) (subC [1, 1, 1, 0, 1, 0, 0] (bodyOf Tryz.f3)) fr H k) m2 (f3.h3 x y1 y2).1 (f3.h3 x y1 y2).2 (kont TT 0 E3 (inlD TT E3 n ann (tabC C3) 1) n (ann 3) [1, 1, 1, 0, 1, 0] (bodyOf Tryz.f3) (endK TT Tryz.f3 (readL [(false, .bool)])))
def f3.L4 (n : Nat) (x : (List dValue) × Int) (m1 : Nat) (y1 : Nat × Int × (List dValue)) : Option (Bool) :=
  loopN (ann 3 3).keep 1 (fun fr H k => execK TT 0 E3 (inlD TT E3 n ann (tabC C3) 1) n (ann 3) (subC [1, 1, 0, 1, 0, 0] (bodyOf Tryz.f3)) fr H k) m1 (f3.h4 x y1).1 (f3.h4 x y1).2 (kont TT 0 E3 (inlD TT E3 n ann (tabC C3) 1) n (ann 3) [1, 1, 0, 1, 0] (bodyOf Tryz.f3) (endK TT Tryz.f3 (readL [(false, .bool)])))
def f3.s1 (n : Nat) (x : (List dValue) × Int) (y1 : Nat × Int × (List dValue)) (y2 : Int × (List dValue)) (y3 : Bool × Int) (S6 : Int → Option (Bool)) (y6 : Int) : Option (Bool) :=
  bif decide (y6 ≤ (5 : Int)) then
    ((F7 (y6, x.1)).bind fun r7 =>
      (F7 (y6, List.take y1.1 y2.2)).bind fun r8 =>
        bif r7.2 != r8.2 then
          (some false)
        else
          ((F8 (r7.1, r8.1)).bind fun r9 =>
            bif bif (r9 != (0 : Int)) then (bif (bif (bif y3.1 then true else (y6 == (1 : Int))) then true else (y6 == (3 : Int))) then true else (y6 == (4 : Int))) else false then
              (some false)
            else
              (S6 (IntKind.wrap .i64 (y6 + (1 : Int))))))
  else
    ((F6 ()).bind fun r10 =>
      some r10)
set_option maxRecDepth 100000 in
theorem f3.k1 (n : Nat) (x : (List dValue) × Int) (y1 : Nat × Int × (List dValue)) (y2 : Int × (List dValue)) (y3 : Bool × Int) (m : Nat) (y : Int) : f3.L1 n x y1 y2 y3 (m + 1) y = f3.s1 n x y1 y2 y3 (f3.L1 n x y1 y2 y3 m) y := by kernel_rfl
theorem f3.l1 (n : Nat) (x : (List dValue) × Int) (y1 : Nat × Int × (List dValue)) (y2 : Int × (List dValue)) (y3 : Bool × Int) : ∀ (m : Nat) (y6 : Int), f3.L1 n x y1 y2 y3 m y6 = iter (f3.s1 n x y1 y2 y3) m y6 :=
  loop_of (L := f3.L1 n x y1 y2 y3) (step := f3.s1 n x y1 y2 y3) (fun _ => rfl) (f3.k1 n x y1 y2 y3)
def f3.s2 (n : Nat) (x : (List dValue) × Int) (y1 : Nat × Int × (List dValue)) (y2 : Int × (List dValue)) (S3 : (Bool × Int) → Option (Bool)) (y3 : Bool × Int) : Option (Bool) :=
  bif decide (y3.2 < (x.1.length : Int)) then
    (bif decide (0 ≤ y3.2) && decide (y3.2 < (x.1.length : Int)) then
      ((F5 (x.1.getD y3.2.toNat tValue.dflt)).bind fun r4 =>
        bif r4 != (0 : Int) then
          ((F6 ()).bind fun r5 =>
            some r5)
        else
          (bif y3.1 then
            (bif decide (0 ≤ y3.2) && decide (y3.2 < (x.1.length : Int)) then
              (bif (x.1.getD y3.2.toNat tValue.dflt).1 == (2 : Int) then
                (S3 (true, IntKind.wrap .i64 (y3.2 + (1 : Int))))
              else
                (bif decide (0 ≤ y3.2) && decide (y3.2 < (x.1.length : Int)) then
                  (S3 ((x.1.getD y3.2.toNat tValue.dflt).1 == (0 : Int), IntKind.wrap .i64 (y3.2 + (1 : Int))))
                else
                  (none)))
            else
              (none))
          else
            (S3 (false, IntKind.wrap .i64 (y3.2 + (1 : Int))))))
    else
      (none))
  else
    (iter (f3.s1 n x y1 y2 y3) n (1 : Int))
def f3.r2 (n : Nat) (x : (List dValue) × Int) (y1 : Nat × Int × (List dValue)) (y2 : Int × (List dValue)) (m3 : Nat) (S3 : (Bool × Int) → Option (Bool)) (y3 : Bool × Int) : Option (Bool) :=
  bif decide (y3.2 < (x.1.length : Int)) then
    (bif decide (0 ≤ y3.2) && decide (y3.2 < (x.1.length : Int)) then
      ((F5 (x.1.getD y3.2.toNat tValue.dflt)).bind fun r4 =>
        bif r4 != (0 : Int) then
          ((F6 ()).bind fun r5 =>
            some r5)
        else
          (bif y3.1 then
            (bif decide (0 ≤ y3.2) && decide (y3.2 < (x.1.length : Int)) then
              (bif (x.1.getD y3.2.toNat tValue.dflt).1 == (2 : Int) then
                (S3 (true, IntKind.wrap .i64 (y3.2 + (1 : Int))))
              else
                (bif decide (0 ≤ y3.2) && decide (y3.2 < (x.1.length : Int)) then
                  (S3 ((x.1.getD y3.2.toNat tValue.dflt).1 == (0 : Int), IntKind.wrap .i64 (y3.2 + (1 : Int))))
                else
                  (none)))
            else
              (none))
          else
            (S3 (false, IntKind.wrap .i64 (y3.2 + (1 : Int))))))
    else
      (none))
  else
    (f3.L1 n x y1 y2 y3 n (1 : Int))
set_option maxRecDepth 100000 in
theorem f3.k2 (n : Nat) (x : (List dValue) × Int) (y1 : Nat × Int × (List dValue)) (y2 : Int × (List dValue)) (m : Nat) (y : Bool × Int) : f3.L2 n x y1 y2 (m + 1) y = f3.s2 n x y1 y2 (f3.L2 n x y1 y2 m) y := by
  have h : f3.L2 n x y1 y2 (m + 1) y = f3.r2 n x y1 y2 m (f3.L2 n x y1 y2 m) y := by kernel_rfl
  rw [h]
  simp only [f3.r2, f3.s2, f3.l1]
theorem f3.l2 (n : Nat) (x : (List dValue) × Int) (y1 : Nat × Int × (List dValue)) (y2 : Int × (List dValue)) : ∀ (m : Nat) (y3 : Bool × Int), f3.L2 n x y1 y2 m y3 = iter (f3.s2 n x y1 y2) m y3 :=
  loop_of (L := f3.L2 n x y1 y2) (step := f3.s2 n x y1 y2) (fun _ => rfl) (f3.k2 n x y1 y2)
def f3.s3 (n : Nat) (x : (List dValue) × Int) (y1 : Nat × Int × (List dValue)) (S2 : (Int × (List dValue)) → Option (Bool)) (y2 : Int × (List dValue)) : Option (Bool) :=
  bif decide (y2.1 < IntKind.wrap .i64 (Int.tdiv ((y1.1 : Nat) : Int) (2 : Int))) then
    (bif Int.tmod x.2 (2 : Int) == (1 : Int) then
      (bif decide (0 ≤ IntKind.wrap .i64 (IntKind.wrap .i64 (((y1.1 : Nat) : Int) - (1 : Int)) - y2.1)) && decide (IntKind.wrap .i64 (IntKind.wrap .i64 (((y1.1 : Nat) : Int) - (1 : Int)) - y2.1) < ((y1.1 : Nat) : Int)) then
        (bif decide (0 ≤ y2.1) && decide (y2.1 < ((y1.1 : Nat) : Int)) then
          (bif decide (0 ≤ y2.1) && decide (y2.1 < ((y1.1 : Nat) : Int)) then
            (bif decide (0 ≤ IntKind.wrap .i64 (IntKind.wrap .i64 (((y1.1 : Nat) : Int) - (1 : Int)) - y2.1)) && decide (IntKind.wrap .i64 (IntKind.wrap .i64 (((y1.1 : Nat) : Int) - (1 : Int)) - y2.1) < ((y1.1 : Nat) : Int)) then
              (S2 (IntKind.wrap .i64 (y2.1 + (1 : Int)), List.set (List.set y2.2 y2.1.toNat (y2.2.getD ((IntKind.wrap .i64 (IntKind.wrap .i64 (((y1.1 : Nat) : Int) - (1 : Int)) - y2.1)).toNat) tValue.dflt)) ((IntKind.wrap .i64 (IntKind.wrap .i64 (((y1.1 : Nat) : Int) - (1 : Int)) - y2.1)).toNat) (y2.2.getD y2.1.toNat tValue.dflt)))
            else
              (none))
          else
            (none))
        else
          (none))
      else
        (none))
    else
      (S2 (IntKind.wrap .i64 (y2.1 + (1 : Int)), y2.2)))
  else
    (iter (f3.s2 n x y1 y2) n (true, (0 : Int)))
def f3.r3 (n : Nat) (x : (List dValue) × Int) (y1 : Nat × Int × (List dValue)) (m2 : Nat) (S2 : (Int × (List dValue)) → Option (Bool)) (y2 : Int × (List dValue)) : Option (Bool) :=
  bif decide (y2.1 < IntKind.wrap .i64 (Int.tdiv ((y1.1 : Nat) : Int) (2 : Int))) then
    (bif Int.tmod x.2 (2 : Int) == (1 : Int) then
      (bif decide (0 ≤ IntKind.wrap .i64 (IntKind.wrap .i64 (((y1.1 : Nat) : Int) - (1 : Int)) - y2.1)) && decide (IntKind.wrap .i64 (IntKind.wrap .i64 (((y1.1 : Nat) : Int) - (1 : Int)) - y2.1) < ((y1.1 : Nat) : Int)) then
        (bif decide (0 ≤ y2.1) && decide (y2.1 < ((y1.1 : Nat) : Int)) then
          (bif decide (0 ≤ y2.1) && decide (y2.1 < ((y1.1 : Nat) : Int)) then
            (bif decide (0 ≤ IntKind.wrap .i64 (IntKind.wrap .i64 (((y1.1 : Nat) : Int) - (1 : Int)) - y2.1)) && decide (IntKind.wrap .i64 (IntKind.wrap .i64 (((y1.1 : Nat) : Int) - (1 : Int)) - y2.1) < ((y1.1 : Nat) : Int)) then
              (S2 (IntKind.wrap .i64 (y2.1 + (1 : Int)), List.set (List.set y2.2 y2.1.toNat (y2.2.getD ((IntKind.wrap .i64 (IntKind.wrap .i64 (((y1.1 : Nat) : Int) - (1 : Int)) - y2.1)).toNat) tValue.dflt)) ((IntKind.wrap .i64 (IntKind.wrap .i64 (((y1.1 : Nat) : Int) - (1 : Int)) - y2.1)).toNat) (y2.2.getD y2.1.toNat tValue.dflt)))
            else
              (none))
          else
            (none))
        else
          (none))
      else
        (none))
    else
      (S2 (IntKind.wrap .i64 (y2.1 + (1 : Int)), y2.2)))
  else
    (f3.L2 n x y1 y2 n (true, (0 : Int)))
set_option maxRecDepth 100000 in
theorem f3.k3 (n : Nat) (x : (List dValue) × Int) (y1 : Nat × Int × (List dValue)) (m : Nat) (y : Int × (List dValue)) : f3.L3 n x y1 (m + 1) y = f3.s3 n x y1 (f3.L3 n x y1 m) y := by
  have h : f3.L3 n x y1 (m + 1) y = f3.r3 n x y1 m (f3.L3 n x y1 m) y := by kernel_rfl
  rw [h]
  simp only [f3.r3, f3.s3, f3.l1, f3.l2]
theorem f3.l3 (n : Nat) (x : (List dValue) × Int) (y1 : Nat × Int × (List dValue)) : ∀ (m : Nat) (y2 : Int × (List dValue)), f3.L3 n x y1 m y2 = iter (f3.s3 n x y1) m y2 :=
  loop_of (L := f3.L3 n x y1) (step := f3.s3 n x y1) (fun _ => rfl) (f3.k3 n x y1)
def f3.s4 (n : Nat) (x : (List dValue) × Int) (S1 : (Nat × Int × (List dValue)) → Option (Bool)) (y1 : Nat × Int × (List dValue)) : Option (Bool) :=
  bif decide (y1.2.1 < (x.1.length : Int)) then
    (bif (x.1.length : Int) == (0 : Int) then
      (none)
    else
      (bif decide (0 ≤ Int.tmod (IntKind.wrap .i64 (y1.2.1 + IntKind.wrap .i64 x.2)) (x.1.length : Int)) && decide (Int.tmod (IntKind.wrap .i64 (y1.2.1 + IntKind.wrap .i64 x.2)) (x.1.length : Int) < (x.1.length : Int)) then
        (bif decide ((y1.1 + 1) * 40 ≤ boundN) then
          (S1 (y1.1 + 1, (IntKind.wrap .i64 (y1.2.1 + (1 : Int)), List.take y1.1 y1.2.2 ++ ([x.1.getD ((Int.tmod (IntKind.wrap .i64 (y1.2.1 + IntKind.wrap .i64 x.2)) (x.1.length : Int)).toNat) tValue.dflt]))))
        else
          (none))
      else
        (none)))
  else
    (iter (f3.s3 n x y1) n ((0 : Int), y1.2.2))
def f3.r4 (n : Nat) (x : (List dValue) × Int) (m1 : Nat) (S1 : (Nat × Int × (List dValue)) → Option (Bool)) (y1 : Nat × Int × (List dValue)) : Option (Bool) :=
  bif decide (y1.2.1 < (x.1.length : Int)) then
    (bif (x.1.length : Int) == (0 : Int) then
      (none)
    else
      (bif decide (0 ≤ Int.tmod (IntKind.wrap .i64 (y1.2.1 + IntKind.wrap .i64 x.2)) (x.1.length : Int)) && decide (Int.tmod (IntKind.wrap .i64 (y1.2.1 + IntKind.wrap .i64 x.2)) (x.1.length : Int) < (x.1.length : Int)) then
        (bif decide ((y1.1 + 1) * 40 ≤ boundN) then
          (S1 (y1.1 + 1, (IntKind.wrap .i64 (y1.2.1 + (1 : Int)), List.take y1.1 y1.2.2 ++ ([x.1.getD ((Int.tmod (IntKind.wrap .i64 (y1.2.1 + IntKind.wrap .i64 x.2)) (x.1.length : Int)).toNat) tValue.dflt]))))
        else
          (none))
      else
        (none)))
  else
    (f3.L3 n x y1 n ((0 : Int), y1.2.2))
set_option maxRecDepth 100000 in
theorem f3.k4 (n : Nat) (x : (List dValue) × Int) (m : Nat) (y : Nat × Int × (List dValue)) : f3.L4 n x (m + 1) y = f3.s4 n x (f3.L4 n x m) y := by
  have h : f3.L4 n x (m + 1) y = f3.r4 n x m (f3.L4 n x m) y := by kernel_rfl
  rw [h]
  simp only [f3.r4, f3.s4, f3.l1, f3.l2, f3.l3]
theorem f3.l4 (n : Nat) (x : (List dValue) × Int) : ∀ (m : Nat) (y1 : Nat × Int × (List dValue)), f3.L4 n x m y1 = iter (f3.s4 n x) m y1 :=
  loop_of (L := f3.L4 n x) (step := f3.s4 n x) (fun _ => rfl) (f3.k4 n x)
def f3.g (n : Nat) (x : (List dValue) × Int) : Option (Bool) :=
  iter (f3.s4 n x) n (0, ((0 : Int), []))
def f3.q (n : Nat) (x : (List dValue) × Int) : Option (Bool) :=
  f3.L4 n x n (0, ((0 : Int), []))
set_option maxRecDepth 100000 in
theorem f3.eq (n : Nat) (x : (List dValue) × Int) : runK TT E3 n ann (tabC C3) 1 3 (argsL [(false, .sl tValue), (false, .int .u16)] x) [] (readL [(false, .bool)]) = f3.g n x := by
  have h : runK TT E3 n ann (tabC C3) 1 3 (argsL [(false, .sl tValue), (false, .int .u16)] x) [] (readL [(false, .bool)]) = f3.q n x := by kernel_rfl
  rw [h]
  simp only [f3.q, f3.g, f3.l1, f3.l2, f3.l3, f3.l4]
set_option maxRecDepth 100000 in
theorem f3.codes : CodesOk Tryz.prog E3 ann (tabC C3) := tabC_ok (by intro p hp; simp only [C3, List.mem_cons, List.not_mem_nil, or_false] at hp; rcases hp with rfl <;> first | exact Tryz.func3) (by kernel_rfl)
theorem f3.ok (h : ∀ X Y, (FLB 1048576 [(false, .sl tValue), (false, .int .u16)]) X = some Y → ∃ n, f3.g n X = some Y) (e5 : ConOk Tryz.prog 5 con5) (e6 : ConOk Tryz.prog 6 con6) (e7 : ConOk Tryz.prog 7 con7) (e8 : ConOk Tryz.prog 8 con8) : ConOk Tryz.prog 3 (mkCon [(false, .sl tValue), (false, .int .u16)] [(false, .bool)] true (FLB 1048576 [(false, .sl tValue), (false, .int .u16)])) :=
  mkCon_ok mixed TT_ok (envC_ok e8 (envC_ok e7 (envC_ok e6 (envC_ok e5 env0_ok)))) f3.codes (fun _ => List.all_eq_true.1 rfl) fun X Y hF => (h X Y hF).imp fun n hn => (f3.eq n X).trans hn
def con3 : Con := mkCon [(false, .sl tValue), (false, .int .u16)] [(false, .bool)] true (FLB 1048576 [(false, .sl tValue), (false, .int .u16)])
/-! ### vellum/vellumlaw16.CursorNobody -/
def E4 : FuncId → Option Con := (envC 12 con12 (envC 11 con11 (envC 7 con7 (envC 6 con6 env0))))
noncomputable def C4 : List (FuncId × Func) := [(4, Tryz.f4), (9, Tryz.f9), (10, Tryz.f10)]
def f4.h1 (x : Int) (y1 : Int) : List AV × List Ob := ([.val false [.sc (.int .i64) x], .undef, .undef, .val false [.sc (.int .i64) y1]] ++ List.replicate 70 .undef, [])
def f4.L1 (n : Nat) (x : Int) (m1 : Nat) (y1 : Int) : Option (Bool) :=
  loopN (ann 4 2).keep 0 (fun fr H k => execK TT 0 E4 (inlD TT E4 n ann (tabC C4) 3) n (ann 4) (subC [1, 0, 1, 0, 0] (bodyOf Tryz.f4)) fr H k) m1 (f4.h1 x y1).1 (f4.h1 x y1).2 (kont TT 0 E4 (inlD TT E4 n ann (tabC C4) 3) n (ann 4) [1, 0, 1, 0] (bodyOf Tryz.f4) (endK TT Tryz.f4 (readL [(false, .bool)])))
def f4.s1 (n : Nat) (x : Int) (S1 : Int → Option (Bool)) (y1 : Int) : Option (Bool) :=
  bif decide (y1 < (2 : Int)) then
    (bif y1 == (1 : Int) then
      (bif bif (bif (bif (!(strEq (⟨#[]⟩ : ByteArray) (⟨#[]⟩ : ByteArray))) then true else false) then true else false) then true else false then
        (some false)
      else
        (bif !((.pair .str (.pair .str .bool) : Ty).eqB ((⟨#[]⟩ : ByteArray), ((⟨#[]⟩ : ByteArray), false)) ((⟨#[]⟩ : ByteArray), ((⟨#[]⟩ : ByteArray), false))) then
          (some false)
        else
          (S1 (IntKind.wrap .i64 (y1 + (1 : Int))))))
    else
      (bif bif (bif (bif (!(strEq (⟨#[]⟩ : ByteArray) (⟨#[]⟩ : ByteArray))) then true else false) then true else false) then true else false then
        (some false)
      else
        (bif !((.pair .str (.pair .str .bool) : Ty).eqB ((⟨#[]⟩ : ByteArray), ((⟨#[]⟩ : ByteArray), false)) ((⟨#[]⟩ : ByteArray), ((⟨#[]⟩ : ByteArray), false))) then
          (some false)
        else
          (S1 (IntKind.wrap .i64 (y1 + (1 : Int)))))))
  else
    ((F7 (x, [])).bind fun r2 =>
      (F11 (x, [])).bind fun r3 =>
        bif r2.2 == r3.2 then
          ((F12 (r2.1, r3.1)).bind fun r4 =>
            bif r4 then
              ((F6 ()).bind fun r5 =>
                some r5)
            else
              (some false))
        else
          (some false))
set_option maxRecDepth 100000 in
theorem f4.k1 (n : Nat) (x : Int) (m : Nat) (y : Int) : f4.L1 n x (m + 1) y = f4.s1 n x (f4.L1 n x m) y := by kernel_rfl
theorem f4.l1 (n : Nat) (x : Int) : ∀ (m : Nat) (y1 : Int), f4.L1 n x m y1 = iter (f4.s1 n x) m y1 :=
  loop_of (L := f4.L1 n x) (step := f4.s1 n x) (fun _ => rfl) (f4.k1 n x)
def f4.g (n : Nat) (x : Int) : Option (Bool) :=
  iter (f4.s1 n x) n (0 : Int)
def f4.q (n : Nat) (x : Int) : Option (Bool) :=
  f4.L1 n x n (0 : Int)
set_option maxRecDepth 100000 in
theorem f4.eq (n : Nat) (x : Int) : runK TT E4 n ann (tabC C4) 3 4 (argsL [(false, .int .i64)] x) [] (readL [(false, .bool)]) = f4.g n x := by
  have h : runK TT E4 n ann (tabC C4) 3 4 (argsL [(false, .int .i64)] x) [] (readL [(false, .bool)]) = f4.q n x := by kernel_rfl
  rw [h]
  simp only [f4.q, f4.g, f4.l1]
set_option maxRecDepth 100000 in
theorem f4.codes : CodesOk Tryz.prog E4 ann (tabC C4) := tabC_ok (by intro p hp; simp only [C4, List.mem_cons, List.not_mem_nil, or_false] at hp; rcases hp with rfl | rfl | rfl <;> first | exact Tryz.func4 | exact Tryz.func9 | exact Tryz.func10) (by kernel_rfl)
theorem f4.ok (h : ∀ X Y, (FL [(false, .int .i64)]) X = some Y → ∃ n, f4.g n X = some Y) (e6 : ConOk Tryz.prog 6 con6) (e7 : ConOk Tryz.prog 7 con7) (e11 : ConOk Tryz.prog 11 con11) (e12 : ConOk Tryz.prog 12 con12) : ConOk Tryz.prog 4 (mkCon [(false, .int .i64)] [(false, .bool)] true (FL [(false, .int .i64)])) :=
  mkCon_ok mixed TT_ok (envC_ok e12 (envC_ok e11 (envC_ok e7 (envC_ok e6 env0_ok)))) f4.codes (fun _ => List.all_eq_true.1 rfl) fun X Y hF => (h X Y hF).imp fun n hn => (f4.eq n X).trans hn
def con4 : Con := mkCon [(false, .int .i64)] [(false, .bool)] true (FL [(false, .int .i64)])
end
end Go.Proofs.YtiolbhmbobelcaaGreatDoor.AI
