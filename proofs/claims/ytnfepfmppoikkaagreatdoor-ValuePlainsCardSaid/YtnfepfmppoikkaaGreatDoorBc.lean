/- Runs of the program's functions over plain data. Printed by aipr.py; Lean checks them. -/
import Derived.Test.YtnfepfmppoikkaaGreatDoorBb
set_option linter.unusedVariables false
set_option linter.unusedSimpArgs false
namespace Go.Proofs.YtnfepfmppoikkaaGreatDoor.AI
open Go
noncomputable section
def con20 : Con := mkCon [(false, .float .f64)] [(false, .int .u64)] true F20
def con21 : Con := mkCon [(false, .str)] [(false, .bool)] true F21
def con28 : Con := mkCon [(false, .str), (false, .str)] [(false, .int .i64)] true F28
def con35 : Con := mkCon [(false, .int .u64)] [(false, .float .f64)] true F35
def con39 : Con := mkCon [(false, .int .i64), (false, .int .i64)] [(false, .str)] true F39
def con57 : Con := mkCon [(false, .float .f64)] [(false, .float .f64)] true F57
/-! ### cmp.Compare[int] -/
def E25 : FuncId → Option Con := env0
noncomputable def C25 : List (FuncId × Func) := [(25, Tryz.f25), (45, Tryz.f45)]
def f25.g (n : Nat) (x : Int × Int) : Option (Int) :=
  bif x.1 != x.1 then
    (bif x.2 != x.2 then
      (some (0 : Int))
    else
      (some (-1 : Int)))
  else
    (bif x.2 != x.2 then
      (some (1 : Int))
    else
      (bif decide (x.1 < x.2) then
        (some (-1 : Int))
      else
        (bif decide (x.1 > x.2) then
          (some (1 : Int))
        else
          (some (0 : Int)))))
set_option maxRecDepth 100000 in
theorem f25.eq (n : Nat) (x : Int × Int) : runK TT E25 n ann (tabC C25) 2 25 (argsL [(false, .int .i64), (false, .int .i64)] x) [] (readL [(false, .int .i64)]) = f25.g n x := by
  kernel_rfl
set_option maxRecDepth 100000 in
theorem f25.codes : CodesOk Tryz.prog E25 ann (tabC C25) := tabC_ok (by intro p hp; simp only [C25, List.mem_cons, List.not_mem_nil, or_false] at hp; rcases hp with rfl | rfl <;> first | exact Tryz.func25 | exact Tryz.func45) (by kernel_rfl)
theorem f25.ok (h : ∀ X Y, F25 X = some Y → ∃ n, f25.g n X = some Y)  : ConOk Tryz.prog 25 (mkCon [(false, .int .i64), (false, .int .i64)] [(false, .int .i64)] true F25) :=
  mkCon_ok mixed TT_ok env0_ok f25.codes (fun _ => List.all_eq_true.1 rfl) fun X Y hF => (h X Y hF).imp fun n hn => (f25.eq n X).trans hn
def con25 : Con := mkCon [(false, .int .i64), (false, .int .i64)] [(false, .int .i64)] true F25
/-! ### cmp.Compare[int64] -/
def E26 : FuncId → Option Con := env0
noncomputable def C26 : List (FuncId × Func) := [(26, Tryz.f26), (46, Tryz.f46)]
def f26.g (n : Nat) (x : Int × Int) : Option (Int) :=
  bif x.1 != x.1 then
    (bif x.2 != x.2 then
      (some (0 : Int))
    else
      (some (-1 : Int)))
  else
    (bif x.2 != x.2 then
      (some (1 : Int))
    else
      (bif decide (x.1 < x.2) then
        (some (-1 : Int))
      else
        (bif decide (x.1 > x.2) then
          (some (1 : Int))
        else
          (some (0 : Int)))))
set_option maxRecDepth 100000 in
theorem f26.eq (n : Nat) (x : Int × Int) : runK TT E26 n ann (tabC C26) 2 26 (argsL [(false, .int .i64), (false, .int .i64)] x) [] (readL [(false, .int .i64)]) = f26.g n x := by
  kernel_rfl
set_option maxRecDepth 100000 in
theorem f26.codes : CodesOk Tryz.prog E26 ann (tabC C26) := tabC_ok (by intro p hp; simp only [C26, List.mem_cons, List.not_mem_nil, or_false] at hp; rcases hp with rfl | rfl <;> first | exact Tryz.func26 | exact Tryz.func46) (by kernel_rfl)
theorem f26.ok (h : ∀ X Y, F26 X = some Y → ∃ n, f26.g n X = some Y)  : ConOk Tryz.prog 26 (mkCon [(false, .int .i64), (false, .int .i64)] [(false, .int .i64)] true F26) :=
  mkCon_ok mixed TT_ok env0_ok f26.codes (fun _ => List.all_eq_true.1 rfl) fun X Y hF => (h X Y hF).imp fun n hn => (f26.eq n X).trans hn
def con26 : Con := mkCon [(false, .int .i64), (false, .int .i64)] [(false, .int .i64)] true F26
/-! ### vellum/value.floats -/
def E27 : FuncId → Option Con := env0
noncomputable def C27 : List (FuncId × Func) := [(27, Tryz.f27), (34, Tryz.f34)]
def f27.g (n : Nat) (x : Nat × Nat) : Option (Int) :=
  bif FloatKind.f64.format.order x.1 x.1 != some .eq then
    (bif FloatKind.f64.format.order x.2 x.2 != some .eq then
      (some (0 : Int))
    else
      (bif FloatKind.f64.format.order x.1 x.1 != some .eq then
        (some (1 : Int))
      else
        (bif FloatKind.f64.format.order x.2 x.2 != some .eq then
          (bif FloatKind.f64.format.order x.2 x.2 != some .eq then
            (some (-1 : Int))
          else
            (bif FloatKind.f64.format.order x.1 x.2 == some .gt then
              (some (1 : Int))
            else
              (some (0 : Int))))
        else
          (bif FloatKind.f64.format.order x.1 x.2 == some .lt then
            (some (-1 : Int))
          else
            (bif FloatKind.f64.format.order x.1 x.2 == some .gt then
              (some (1 : Int))
            else
              (some (0 : Int)))))))
  else
    (bif FloatKind.f64.format.order x.1 x.1 != some .eq then
      (some (1 : Int))
    else
      (bif FloatKind.f64.format.order x.2 x.2 != some .eq then
        (bif FloatKind.f64.format.order x.2 x.2 != some .eq then
          (some (-1 : Int))
        else
          (bif FloatKind.f64.format.order x.1 x.2 == some .gt then
            (some (1 : Int))
          else
            (some (0 : Int))))
      else
        (bif FloatKind.f64.format.order x.1 x.2 == some .lt then
          (some (-1 : Int))
        else
          (bif FloatKind.f64.format.order x.1 x.2 == some .gt then
            (some (1 : Int))
          else
            (some (0 : Int))))))
set_option maxRecDepth 100000 in
theorem f27.eq (n : Nat) (x : Nat × Nat) : runK TT E27 n ann (tabC C27) 2 27 (argsL [(false, .float .f64), (false, .float .f64)] x) [] (readL [(false, .int .i64)]) = f27.g n x := by
  kernel_rfl
set_option maxRecDepth 100000 in
theorem f27.codes : CodesOk Tryz.prog E27 ann (tabC C27) := tabC_ok (by intro p hp; simp only [C27, List.mem_cons, List.not_mem_nil, or_false] at hp; rcases hp with rfl | rfl <;> first | exact Tryz.func27 | exact Tryz.func34) (by kernel_rfl)
theorem f27.ok (h : ∀ X Y, F27 X = some Y → ∃ n, f27.g n X = some Y)  : ConOk Tryz.prog 27 (mkCon [(false, .float .f64), (false, .float .f64)] [(false, .int .i64)] true F27) :=
  mkCon_ok mixed TT_ok env0_ok f27.codes (fun _ => List.all_eq_true.1 rfl) fun X Y hF => (h X Y hF).imp fun n hn => (f27.eq n X).trans hn
def con27 : Con := mkCon [(false, .float .f64), (false, .float .f64)] [(false, .int .i64)] true F27
/-! ### vellum/vellumref01.ints -/
def E29 : FuncId → Option Con := env0
noncomputable def C29 : List (FuncId × Func) := [(29, Tryz.f29)]
def f29.g (n : Nat) (x : Int × Int) : Option (Int) :=
  bif decide (x.1 < x.2) then
    (some (-1 : Int))
  else
    (bif decide (x.1 > x.2) then
      (some (1 : Int))
    else
      (some (0 : Int)))
set_option maxRecDepth 100000 in
theorem f29.eq (n : Nat) (x : Int × Int) : runK TT E29 n ann (tabC C29) 1 29 (argsL [(false, .int .i64), (false, .int .i64)] x) [] (readL [(false, .int .i64)]) = f29.g n x := by
  kernel_rfl
set_option maxRecDepth 100000 in
theorem f29.codes : CodesOk Tryz.prog E29 ann (tabC C29) := tabC_ok (by intro p hp; simp only [C29, List.mem_cons, List.not_mem_nil, or_false] at hp; rcases hp with rfl <;> first | exact Tryz.func29) (by kernel_rfl)
theorem f29.ok (h : ∀ X Y, F29 X = some Y → ∃ n, f29.g n X = some Y)  : ConOk Tryz.prog 29 (mkCon [(false, .int .i64), (false, .int .i64)] [(false, .int .i64)] true F29) :=
  mkCon_ok mixed TT_ok env0_ok f29.codes (fun _ => List.all_eq_true.1 rfl) fun X Y hF => (h X Y hF).imp fun n hn => (f29.eq n X).trans hn
def con29 : Con := mkCon [(false, .int .i64), (false, .int .i64)] [(false, .int .i64)] true F29
/-! ### vellum/vellumref01.floats -/
def E30 : FuncId → Option Con := env0
noncomputable def C30 : List (FuncId × Func) := [(30, Tryz.f30), (36, Tryz.f36)]
def f30.g (n : Nat) (x : Nat × Nat) : Option (Int) :=
  bif FloatKind.f64.format.order x.1 x.1 != some .eq then
    (bif FloatKind.f64.format.order x.1 x.1 != some .eq then
      (bif FloatKind.f64.format.order x.2 x.2 != some .eq then
        (some (0 : Int))
      else
        (bif FloatKind.f64.format.order x.1 x.1 != some .eq then
          (some (1 : Int))
        else
          (some (-1 : Int))))
    else
      (bif FloatKind.f64.format.order x.1 x.1 != some .eq then
        (some (1 : Int))
      else
        (some (-1 : Int))))
  else
    (bif FloatKind.f64.format.order x.2 x.2 != some .eq then
      (bif FloatKind.f64.format.order x.1 x.1 != some .eq then
        (bif FloatKind.f64.format.order x.2 x.2 != some .eq then
          (some (0 : Int))
        else
          (bif FloatKind.f64.format.order x.1 x.1 != some .eq then
            (some (1 : Int))
          else
            (some (-1 : Int))))
      else
        (bif FloatKind.f64.format.order x.1 x.1 != some .eq then
          (some (1 : Int))
        else
          (some (-1 : Int))))
    else
      (bif FloatKind.f64.format.order x.1 x.2 == some .lt then
        (some (-1 : Int))
      else
        (bif FloatKind.f64.format.order x.1 x.2 == some .gt then
          (some (1 : Int))
        else
          (some (0 : Int)))))
set_option maxRecDepth 100000 in
theorem f30.eq (n : Nat) (x : Nat × Nat) : runK TT E30 n ann (tabC C30) 2 30 (argsL [(false, .float .f64), (false, .float .f64)] x) [] (readL [(false, .int .i64)]) = f30.g n x := by
  kernel_rfl
set_option maxRecDepth 100000 in
theorem f30.codes : CodesOk Tryz.prog E30 ann (tabC C30) := tabC_ok (by intro p hp; simp only [C30, List.mem_cons, List.not_mem_nil, or_false] at hp; rcases hp with rfl | rfl <;> first | exact Tryz.func30 | exact Tryz.func36) (by kernel_rfl)
theorem f30.ok (h : ∀ X Y, F30 X = some Y → ∃ n, f30.g n X = some Y)  : ConOk Tryz.prog 30 (mkCon [(false, .float .f64), (false, .float .f64)] [(false, .int .i64)] true F30) :=
  mkCon_ok mixed TT_ok env0_ok f30.codes (fun _ => List.all_eq_true.1 rfl) fun X Y hF => (h X Y hF).imp fun n hn => (f30.eq n X).trans hn
def con30 : Con := mkCon [(false, .float .f64), (false, .float .f64)] [(false, .int .i64)] true F30
/-! ### vellum/vellumref01.Strings -/
def E31 : FuncId → Option Con := env0
noncomputable def C31 : List (FuncId × Func) := [(31, Tryz.f31)]
def f31.g (n : Nat) (x : ByteArray × ByteArray) : Option (Int) :=
  bif strLt x.1 x.2 then
    (some (-1 : Int))
  else
    (bif !(strLt x.1 x.2 || strEq x.1 x.2) then
      (some (1 : Int))
    else
      (some (0 : Int)))
set_option maxRecDepth 100000 in
theorem f31.eq (n : Nat) (x : ByteArray × ByteArray) : runK TT E31 n ann (tabC C31) 1 31 (argsL [(false, .str), (false, .str)] x) [] (readL [(false, .int .i64)]) = f31.g n x := by
  kernel_rfl
set_option maxRecDepth 100000 in
theorem f31.codes : CodesOk Tryz.prog E31 ann (tabC C31) := tabC_ok (by intro p hp; simp only [C31, List.mem_cons, List.not_mem_nil, or_false] at hp; rcases hp with rfl <;> first | exact Tryz.func31) (by kernel_rfl)
theorem f31.ok (h : ∀ X Y, F31 X = some Y → ∃ n, f31.g n X = some Y)  : ConOk Tryz.prog 31 (mkCon [(false, .str), (false, .str)] [(false, .int .i64)] true F31) :=
  mkCon_ok mixed TT_ok env0_ok f31.codes (fun _ => List.all_eq_true.1 rfl) fun X Y hF => (h X Y hF).imp fun n hn => (f31.eq n X).trans hn
def con31 : Con := mkCon [(false, .str), (false, .str)] [(false, .int .i64)] true F31
/-! ### vellum/value.Compare -/
def E12 : FuncId → Option Con := (envC 28 con28 (envC 27 con27 (envC 26 con26 (envC 25 con25 env0))))
noncomputable def C12 : List (FuncId × Func) := [(12, Tryz.f12)]
def f12.g (n : Nat) (x : dValue × dValue) : Option (Int) :=
  (F25 (x.1.1, x.2.1)).bind fun r1 =>
    bif r1 != (0 : Int) then
      (some r1)
    else
      (bif x.1.1 == (1 : Int) then
        (bif x.1.1 == (1 : Int) then
          ((F26 (x.1.2.1, x.2.2.1)).bind fun r2 =>
            some r2)
        else
          (bif x.1.1 == (3 : Int) then
            ((F27 (x.1.2.2.1, x.2.2.2.1)).bind fun r3 =>
              some r3)
          else
            (bif x.1.1 == (4 : Int) then
              (bif x.1.1 == (4 : Int) then
                ((F28 (x.1.2.2.2, x.2.2.2.2)).bind fun r4 =>
                  some r4)
              else
                (some (0 : Int)))
            else
              (bif x.1.1 == (5 : Int) then
                ((F28 (x.1.2.2.2, x.2.2.2.2)).bind fun r5 =>
                  some r5)
              else
                (some (0 : Int))))))
      else
        (bif x.1.1 == (2 : Int) then
          ((F26 (x.1.2.1, x.2.2.1)).bind fun r6 =>
            some r6)
        else
          (bif x.1.1 == (3 : Int) then
            ((F27 (x.1.2.2.1, x.2.2.2.1)).bind fun r7 =>
              some r7)
          else
            (bif x.1.1 == (4 : Int) then
              (bif x.1.1 == (4 : Int) then
                ((F28 (x.1.2.2.2, x.2.2.2.2)).bind fun r8 =>
                  some r8)
              else
                (some (0 : Int)))
            else
              (bif x.1.1 == (5 : Int) then
                ((F28 (x.1.2.2.2, x.2.2.2.2)).bind fun r9 =>
                  some r9)
              else
                (some (0 : Int)))))))
set_option maxRecDepth 100000 in
theorem f12.eq (n : Nat) (x : dValue × dValue) : runK TT E12 n ann (tabC C12) 1 12 (argsL [(true, tValue), (true, tValue)] x) [] (readL [(false, .int .i64)]) = f12.g n x := by
  kernel_rfl
set_option maxRecDepth 100000 in
theorem f12.codes : CodesOk Tryz.prog E12 ann (tabC C12) := tabC_ok (by intro p hp; simp only [C12, List.mem_cons, List.not_mem_nil, or_false] at hp; rcases hp with rfl <;> first | exact Tryz.func12) (by kernel_rfl)
theorem f12.ok (h : ∀ X Y, F12 X = some Y → ∃ n, f12.g n X = some Y) (e25 : ConOk Tryz.prog 25 con25) (e26 : ConOk Tryz.prog 26 con26) (e27 : ConOk Tryz.prog 27 con27) (e28 : ConOk Tryz.prog 28 con28) : ConOk Tryz.prog 12 (mkCon [(true, tValue), (true, tValue)] [(false, .int .i64)] true F12) :=
  mkCon_ok mixed TT_ok (envC_ok e28 (envC_ok e27 (envC_ok e26 (envC_ok e25 env0_ok)))) f12.codes (fun _ => List.all_eq_true.1 rfl) fun X Y hF => (h X Y hF).imp fun n hn => (f12.eq n X).trans hn
def con12 : Con := mkCon [(true, tValue), (true, tValue)] [(false, .int .i64)] true F12
/-! ### vellum/vellumref01.Compare -/
def E13 : FuncId → Option Con := (envC 31 con31 (envC 30 con30 (envC 29 con29 env0)))
noncomputable def C13 : List (FuncId × Func) := [(13, Tryz.f13)]
def f13.g (n : Nat) (x : dValue × dValue) : Option (Int) :=
  bif x.1.1 != x.2.1 then
    ((F29 (x.1.1, x.2.1)).bind fun r1 =>
      some r1)
  else
    (bif x.1.1 == (1 : Int) then
      (bif x.1.1 == (1 : Int) then
        ((F29 (x.1.2.1, x.2.2.1)).bind fun r2 =>
          some r2)
      else
        (bif x.1.1 == (3 : Int) then
          ((F30 (x.1.2.2.1, x.2.2.2.1)).bind fun r3 =>
            some r3)
        else
          (bif x.1.1 == (4 : Int) then
            (bif x.1.1 == (4 : Int) then
              ((F31 (x.1.2.2.2, x.2.2.2.2)).bind fun r4 =>
                some r4)
            else
              (some (0 : Int)))
          else
            (bif x.1.1 == (5 : Int) then
              ((F31 (x.1.2.2.2, x.2.2.2.2)).bind fun r5 =>
                some r5)
            else
              (some (0 : Int))))))
    else
      (bif x.1.1 == (2 : Int) then
        ((F29 (x.1.2.1, x.2.2.1)).bind fun r6 =>
          some r6)
      else
        (bif x.1.1 == (3 : Int) then
          ((F30 (x.1.2.2.1, x.2.2.2.1)).bind fun r7 =>
            some r7)
        else
          (bif x.1.1 == (4 : Int) then
            (bif x.1.1 == (4 : Int) then
              ((F31 (x.1.2.2.2, x.2.2.2.2)).bind fun r8 =>
                some r8)
            else
              (some (0 : Int)))
          else
            (bif x.1.1 == (5 : Int) then
              ((F31 (x.1.2.2.2, x.2.2.2.2)).bind fun r9 =>
                some r9)
            else
              (some (0 : Int)))))))
set_option maxRecDepth 100000 in
theorem f13.eq (n : Nat) (x : dValue × dValue) : runK TT E13 n ann (tabC C13) 1 13 (argsL [(true, tValue), (true, tValue)] x) [] (readL [(false, .int .i64)]) = f13.g n x := by
  kernel_rfl
set_option maxRecDepth 100000 in
theorem f13.codes : CodesOk Tryz.prog E13 ann (tabC C13) := tabC_ok (by intro p hp; simp only [C13, List.mem_cons, List.not_mem_nil, or_false] at hp; rcases hp with rfl <;> first | exact Tryz.func13) (by kernel_rfl)
theorem f13.ok (h : ∀ X Y, F13 X = some Y → ∃ n, f13.g n X = some Y) (e29 : ConOk Tryz.prog 29 con29) (e30 : ConOk Tryz.prog 30 con30) (e31 : ConOk Tryz.prog 31 con31) : ConOk Tryz.prog 13 (mkCon [(true, tValue), (true, tValue)] [(false, .int .i64)] true F13) :=
  mkCon_ok mixed TT_ok (envC_ok e31 (envC_ok e30 (envC_ok e29 env0_ok))) f13.codes (fun _ => List.all_eq_true.1 rfl) fun X Y hF => (h X Y hF).imp fun n hn => (f13.eq n X).trans hn
def con13 : Con := mkCon [(true, tValue), (true, tValue)] [(false, .int .i64)] true F13
/-! ### vellum/value.Same -/
def E16 : FuncId → Option Con := (envC 20 con20 env0)
noncomputable def C16 : List (FuncId × Func) := [(16, Tryz.f16)]
def f16.g (n : Nat) (x : dValue × dValue) : Option (Bool) :=
  bif bif (x.1.1 == x.2.1) then (x.1.2.1 == x.2.2.1) else false then
    ((F20 x.1.2.2.1).bind fun r1 =>
      (F20 x.2.2.2.1).bind fun r2 =>
        some (bif (r1 == r2) then (strEq x.1.2.2.2 x.2.2.2.2) else false))
  else
    (some false)
set_option maxRecDepth 100000 in
theorem f16.eq (n : Nat) (x : dValue × dValue) : runK TT E16 n ann (tabC C16) 1 16 (argsL [(true, tValue), (true, tValue)] x) [] (readL [(false, .bool)]) = f16.g n x := by
  kernel_rfl
set_option maxRecDepth 100000 in
theorem f16.codes : CodesOk Tryz.prog E16 ann (tabC C16) := tabC_ok (by intro p hp; simp only [C16, List.mem_cons, List.not_mem_nil, or_false] at hp; rcases hp with rfl <;> first | exact Tryz.func16) (by kernel_rfl)
theorem f16.ok (h : ∀ X Y, F16 X = some Y → ∃ n, f16.g n X = some Y) (e20 : ConOk Tryz.prog 20 con20) : ConOk Tryz.prog 16 (mkCon [(true, tValue), (true, tValue)] [(false, .bool)] true F16) :=
  mkCon_ok mixed TT_ok (envC_ok e20 env0_ok) f16.codes (fun _ => List.all_eq_true.1 rfl) fun X Y hF => (h X Y hF).imp fun n hn => (f16.eq n X).trans hn
def con16 : Con := mkCon [(true, tValue), (true, tValue)] [(false, .bool)] true F16
/-! ### vellum/vellumref01.Same -/
def E17 : FuncId → Option Con := (envC 20 con20 env0)
noncomputable def C17 : List (FuncId × Func) := [(17, Tryz.f17)]
def f17.g (n : Nat) (x : dValue × dValue) : Option (Bool) :=
  bif bif (x.1.1 == x.2.1) then (x.1.2.1 == x.2.2.1) else false then
    ((F20 x.1.2.2.1).bind fun r1 =>
      (F20 x.2.2.2.1).bind fun r2 =>
        some (bif (r1 == r2) then (strEq x.1.2.2.2 x.2.2.2.2) else false))
  else
    (some false)
set_option maxRecDepth 100000 in
theorem f17.eq (n : Nat) (x : dValue × dValue) : runK TT E17 n ann (tabC C17) 1 17 (argsL [(true, tValue), (true, tValue)] x) [] (readL [(false, .bool)]) = f17.g n x := by
  kernel_rfl
set_option maxRecDepth 100000 in
theorem f17.codes : CodesOk Tryz.prog E17 ann (tabC C17) := tabC_ok (by intro p hp; simp only [C17, List.mem_cons, List.not_mem_nil, or_false] at hp; rcases hp with rfl <;> first | exact Tryz.func17) (by kernel_rfl)
theorem f17.ok (h : ∀ X Y, F17 X = some Y → ∃ n, f17.g n X = some Y) (e20 : ConOk Tryz.prog 20 con20) : ConOk Tryz.prog 17 (mkCon [(true, tValue), (true, tValue)] [(false, .bool)] true F17) :=
  mkCon_ok mixed TT_ok (envC_ok e20 env0_ok) f17.codes (fun _ => List.all_eq_true.1 rfl) fun X Y hF => (h X Y hF).imp fun n hn => (f17.eq n X).trans hn
def con17 : Con := mkCon [(true, tValue), (true, tValue)] [(false, .bool)] true F17
/-! ### vellum/value.Check -/
def E9 : FuncId → Option Con := (envC 21 con21 (envC 20 con20 env0))
noncomputable def C9 : List (FuncId × Func) := [(9, Tryz.f9)]
def f9.g (n : Nat) (x : dValue) : Option (Int) :=
  bif bif (decide (x.1 < (0 : Int))) then true else (decide (x.1 > (5 : Int))) then
    (bif bif (decide (x.1 < (0 : Int))) then true else (decide (x.1 > (5 : Int))) then
      (some (10 : Int))
    else
      (bif decide ((x.2.2.2.size : Int) > (65536 : Int)) then
        (some (3 : Int))
      else
        (some (0 : Int))))
  else
    (bif bif (bif (x.1 == (1 : Int)) then (x.2.1 != (0 : Int)) else false) then (x.2.1 != (1 : Int)) else false then
      (bif bif (bif (x.1 == (1 : Int)) then (x.2.1 != (0 : Int)) else false) then (x.2.1 != (1 : Int)) else false then
        (some (10 : Int))
      else
        (bif decide ((x.2.2.2.size : Int) > (65536 : Int)) then
          (some (3 : Int))
        else
          (some (0 : Int))))
    else
      (bif bif (bif (x.1 != (1 : Int)) then (x.1 != (2 : Int)) else false) then (x.2.1 != (0 : Int)) else false then
        (bif bif (bif (x.1 != (1 : Int)) then (x.1 != (2 : Int)) else false) then (x.2.1 != (0 : Int)) else false then
          (some (10 : Int))
        else
          (bif decide ((x.2.2.2.size : Int) > (65536 : Int)) then
            (some (3 : Int))
          else
            (some (0 : Int))))
      else
        (bif x.1 != (3 : Int) then
          ((F20 x.2.2.1).bind fun r1 =>
            bif r1 != (0 : Int) then
              (bif r1 != (0 : Int) then
                (some (10 : Int))
              else
                (bif decide ((x.2.2.2.size : Int) > (65536 : Int)) then
                  (some (3 : Int))
                else
                  (some (0 : Int))))
            else
              (bif bif (!(bif (x.1 == (4 : Int)) then true else (x.1 == (5 : Int)))) then (!(strEq x.2.2.2 (⟨#[]⟩ : ByteArray))) else false then
                (bif bif (!(bif (x.1 == (4 : Int)) then true else (x.1 == (5 : Int)))) then (!(strEq x.2.2.2 (⟨#[]⟩ : ByteArray))) else false then
                  (some (10 : Int))
                else
                  (bif decide ((x.2.2.2.size : Int) > (65536 : Int)) then
                    (some (3 : Int))
                  else
                    (some (0 : Int))))
              else
                (bif x.1 == (4 : Int) then
                  ((F21 x.2.2.2).bind fun r2 =>
                    bif !r2 then
                      (some (10 : Int))
                    else
                      (bif decide ((x.2.2.2.size : Int) > (65536 : Int)) then
                        (some (3 : Int))
                      else
                        (some (0 : Int))))
                else
                  (bif decide ((x.2.2.2.size : Int) > (65536 : Int)) then
                    (some (3 : Int))
                  else
                    (some (0 : Int))))))
        else
          (bif bif (!(bif (x.1 == (4 : Int)) then true else (x.1 == (5 : Int)))) then (!(strEq x.2.2.2 (⟨#[]⟩ : ByteArray))) else false then
            (bif bif (!(bif (x.1 == (4 : Int)) then true else (x.1 == (5 : Int)))) then (!(strEq x.2.2.2 (⟨#[]⟩ : ByteArray))) else false then
              (some (10 : Int))
            else
              (bif decide ((x.2.2.2.size : Int) > (65536 : Int)) then
                (some (3 : Int))
              else
                (some (0 : Int))))
          else
            (bif x.1 == (4 : Int) then
              ((F21 x.2.2.2).bind fun r3 =>
                bif !r3 then
                  (some (10 : Int))
                else
                  (bif decide ((x.2.2.2.size : Int) > (65536 : Int)) then
                    (some (3 : Int))
                  else
                    (some (0 : Int))))
            else
              (bif decide ((x.2.2.2.size : Int) > (65536 : Int)) then
                (some (3 : Int))
              else
                (some (0 : Int))))))))
set_option maxRecDepth 100000 in
theorem f9.eq (n : Nat) (x : dValue) : runK TT E9 n ann (tabC C9) 1 9 (argsL [(true, tValue)] x) [] (readL [(false, .int .i64)]) = f9.g n x := by
  kernel_rfl
set_option maxRecDepth 100000 in
theorem f9.codes : CodesOk Tryz.prog E9 ann (tabC C9) := tabC_ok (by intro p hp; simp only [C9, List.mem_cons, List.not_mem_nil, or_false] at hp; rcases hp with rfl <;> first | exact Tryz.func9) (by kernel_rfl)
theorem f9.ok (h : ∀ X Y, F9 X = some Y → ∃ n, f9.g n X = some Y) (e20 : ConOk Tryz.prog 20 con20) (e21 : ConOk Tryz.prog 21 con21) : ConOk Tryz.prog 9 (mkCon [(true, tValue)] [(false, .int .i64)] true F9) :=
  mkCon_ok mixed TT_ok (envC_ok e21 (envC_ok e20 env0_ok)) f9.codes (fun _ => List.all_eq_true.1 rfl) fun X Y hF => (h X Y hF).imp fun n hn => (f9.eq n X).trans hn
def con9 : Con := mkCon [(true, tValue)] [(false, .int .i64)] true F9
/-! ### vellum/vellumref01.Check -/
def E10 : FuncId → Option Con := (envC 21 con21 (envC 20 con20 env0))
noncomputable def C10 : List (FuncId × Func) := [(10, Tryz.f10)]
def f10.g (n : Nat) (x : dValue) : Option (Int) :=
  bif bif (decide (x.1 < (0 : Int))) then true else (decide (x.1 > (5 : Int))) then
    (some (10 : Int))
  else
    (bif bif (bif (bif (x.1 == (1 : Int)) then (x.2.1 != (0 : Int)) else false) then (x.2.1 != (1 : Int)) else false) then true else (bif (bif (x.1 != (1 : Int)) then (x.1 != (2 : Int)) else false) then (x.2.1 != (0 : Int)) else false) then
      (some (10 : Int))
    else
      (bif x.1 != (3 : Int) then
        ((F20 x.2.2.1).bind fun r1 =>
          bif r1 != (0 : Int) then
            (some (10 : Int))
          else
            (bif bif (bif (x.1 != (4 : Int)) then (x.1 != (5 : Int)) else false) then (!(strEq x.2.2.2 (⟨#[]⟩ : ByteArray))) else false then
              (some (10 : Int))
            else
              (bif x.1 == (4 : Int) then
                ((F21 x.2.2.2).bind fun r2 =>
                  bif !r2 then
                    (some (10 : Int))
                  else
                    (bif decide ((x.2.2.2.size : Int) > (65536 : Int)) then
                      (some (3 : Int))
                    else
                      (some (0 : Int))))
              else
                (bif decide ((x.2.2.2.size : Int) > (65536 : Int)) then
                  (some (3 : Int))
                else
                  (some (0 : Int))))))
      else
        (bif bif (bif (x.1 != (4 : Int)) then (x.1 != (5 : Int)) else false) then (!(strEq x.2.2.2 (⟨#[]⟩ : ByteArray))) else false then
          (some (10 : Int))
        else
          (bif x.1 == (4 : Int) then
            ((F21 x.2.2.2).bind fun r3 =>
              bif !r3 then
                (some (10 : Int))
              else
                (bif decide ((x.2.2.2.size : Int) > (65536 : Int)) then
                  (some (3 : Int))
                else
                  (some (0 : Int))))
          else
            (bif decide ((x.2.2.2.size : Int) > (65536 : Int)) then
              (some (3 : Int))
            else
              (some (0 : Int)))))))
set_option maxRecDepth 100000 in
theorem f10.eq (n : Nat) (x : dValue) : runK TT E10 n ann (tabC C10) 1 10 (argsL [(true, tValue)] x) [] (readL [(false, .int .i64)]) = f10.g n x := by
  kernel_rfl
set_option maxRecDepth 100000 in
theorem f10.codes : CodesOk Tryz.prog E10 ann (tabC C10) := tabC_ok (by intro p hp; simp only [C10, List.mem_cons, List.not_mem_nil, or_false] at hp; rcases hp with rfl <;> first | exact Tryz.func10) (by kernel_rfl)
theorem f10.ok (h : ∀ X Y, F10 X = some Y → ∃ n, f10.g n X = some Y) (e20 : ConOk Tryz.prog 20 con20) (e21 : ConOk Tryz.prog 21 con21) : ConOk Tryz.prog 10 (mkCon [(true, tValue)] [(false, .int .i64)] true F10) :=
  mkCon_ok mixed TT_ok (envC_ok e21 (envC_ok e20 env0_ok)) f10.codes (fun _ => List.all_eq_true.1 rfl) fun X Y hF => (h X Y hF).imp fun n hn => (f10.eq n X).trans hn
def con10 : Con := mkCon [(true, tValue)] [(false, .int .i64)] true F10
/-! ### vellum/value.Plain -/
def E18 : FuncId → Option Con := (envC 35 con35 env0)
noncomputable def C18 : List (FuncId × Func) := [(18, Tryz.f18), (34, Tryz.f34)]
def f18.g (n : Nat) (x : dValue) : Option (dValue) :=
  bif x.1 != (3 : Int) then
    (some x)
  else
    (bif FloatKind.f64.format.order x.2.2.1 0 == some .eq then
      (bif FloatKind.f64.format.order 0 0 != some .eq then
        ((F35 (9221120237041090560 : Int)).bind fun r1 =>
          some (x.1, (x.2.1, (r1, x.2.2.2))))
      else
        (some (x.1, (x.2.1, (0, x.2.2.2)))))
    else
      (bif FloatKind.f64.format.order x.2.2.1 x.2.2.1 != some .eq then
        ((F35 (9221120237041090560 : Int)).bind fun r2 =>
          some (x.1, (x.2.1, (r2, x.2.2.2))))
      else
        (some x)))
set_option maxRecDepth 100000 in
theorem f18.eq (n : Nat) (x : dValue) : runK TT E18 n ann (tabC C18) 2 18 (argsL [(true, tValue)] x) [] (readL [(true, tValue)]) = f18.g n x := by
  kernel_rfl
set_option maxRecDepth 100000 in
theorem f18.codes : CodesOk Tryz.prog E18 ann (tabC C18) := tabC_ok (by intro p hp; simp only [C18, List.mem_cons, List.not_mem_nil, or_false] at hp; rcases hp with rfl | rfl <;> first | exact Tryz.func18 | exact Tryz.func34) (by kernel_rfl)
theorem f18.ok (h : ∀ X Y, F18 X = some Y → ∃ n, f18.g n X = some Y) (e35 : ConOk Tryz.prog 35 con35) : ConOk Tryz.prog 18 (mkCon [(true, tValue)] [(true, tValue)] true F18) :=
  mkCon_ok mixed TT_ok (envC_ok e35 env0_ok) f18.codes (fun _ => List.all_eq_true.1 rfl) fun X Y hF => (h X Y hF).imp fun n hn => (f18.eq n X).trans hn
def con18 : Con := mkCon [(true, tValue)] [(true, tValue)] true F18
/-! ### vellum/vellumref01.Plain -/
def E19 : FuncId → Option Con := (envC 35 con35 env0)
noncomputable def C19 : List (FuncId × Func) := [(19, Tryz.f19), (36, Tryz.f36)]
def f19.g (n : Nat) (x : dValue) : Option (dValue) :=
  bif x.1 == (3 : Int) then
    (bif FloatKind.f64.format.order x.2.2.1 x.2.2.1 != some .eq then
      ((F35 (9221120237041090560 : Int)).bind fun r1 =>
        bif bif (x.1 == (3 : Int)) then (FloatKind.f64.format.order r1 0 == some .eq) else false then
          (some (x.1, (x.2.1, (0, x.2.2.2))))
        else
          (some (x.1, (x.2.1, (r1, x.2.2.2)))))
    else
      (bif bif (x.1 == (3 : Int)) then (FloatKind.f64.format.order x.2.2.1 0 == some .eq) else false then
        (some (x.1, (x.2.1, (0, x.2.2.2))))
      else
        (some x)))
  else
    (bif bif (x.1 == (3 : Int)) then (FloatKind.f64.format.order x.2.2.1 0 == some .eq) else false then
      (some (x.1, (x.2.1, (0, x.2.2.2))))
    else
      (some x))
set_option maxRecDepth 100000 in
theorem f19.eq (n : Nat) (x : dValue) : runK TT E19 n ann (tabC C19) 2 19 (argsL [(true, tValue)] x) [] (readL [(true, tValue)]) = f19.g n x := by
  kernel_rfl
set_option maxRecDepth 100000 in
theorem f19.codes : CodesOk Tryz.prog E19 ann (tabC C19) := tabC_ok (by intro p hp; simp only [C19, List.mem_cons, List.not_mem_nil, or_false] at hp; rcases hp with rfl | rfl <;> first | exact Tryz.func19 | exact Tryz.func36) (by kernel_rfl)
theorem f19.ok (h : ∀ X Y, F19 X = some Y → ∃ n, f19.g n X = some Y) (e35 : ConOk Tryz.prog 35 con35) : ConOk Tryz.prog 19 (mkCon [(true, tValue)] [(true, tValue)] true F19) :=
  mkCon_ok mixed TT_ok (envC_ok e35 env0_ok) f19.codes (fun _ => List.all_eq_true.1 rfl) fun X Y hF => (h X Y hF).imp fun n hn => (f19.eq n X).trans hn
def con19 : Con := mkCon [(true, tValue)] [(true, tValue)] true F19
/-! ### vellum/value.Text -/
def E22 : FuncId → Option Con := (envC 39 con39 (envC 9 con9 env0))
noncomputable def C22 : List (FuncId × Func) := [(22, Tryz.f22)]
def f22.g (n : Nat) (x : dValue) : Option (ByteArray × Int) :=
  (F9 ((2 : Int), ((-7 : Int), (0, (⟨#[]⟩ : ByteArray))))).bind fun r1 =>
    bif r1 != (0 : Int) then
      (some ((⟨#[]⟩ : ByteArray), r1))
    else
      ((F39 ((-7 : Int), (10 : Int))).bind fun r2 =>
        some (r2, (0 : Int)))
def f22.at : dValue := ((2 : Int), ((-7 : Int), (0, (⟨#[]⟩ : ByteArray))))
set_option maxRecDepth 100000 in
theorem f22.eq (n : Nat) (x : dValue) : runK TT E22 n ann (tabC C22) 1 22 (argsL [(true, tValue)] f22.at) [] (readL [(false, .str), (false, .int .i64)]) = f22.g n x := by
  kernel_rfl
set_option maxRecDepth 100000 in
theorem f22.codes : CodesOk Tryz.prog E22 ann (tabC C22) := tabC_ok (by intro p hp; simp only [C22, List.mem_cons, List.not_mem_nil, or_false] at hp; rcases hp with rfl <;> first | exact Tryz.func22) (by kernel_rfl)
theorem f22.ok (h : ∀ X Y, F22 X = some Y → X = f22.at ∧ ∃ n, f22.g n X = some Y) (e9 : ConOk Tryz.prog 9 con9) (e39 : ConOk Tryz.prog 39 con39) : ConOk Tryz.prog 22 (mkCon [(true, tValue)] [(false, .str), (false, .int .i64)] true F22) :=
  mkCon_ok mixed TT_ok (envC_ok e39 (envC_ok e9 env0_ok)) f22.codes (fun _ => List.all_eq_true.1 rfl) fun X Y hF => by
    obtain ⟨e, n, hn⟩ := h X Y hF
    subst e
    exact ⟨n, (f22.eq n f22.at).trans hn⟩
def con22 : Con := mkCon [(true, tValue)] [(false, .str), (false, .int .i64)] true F22
/-! ### vellum/value.mixed -/
def E32 : FuncId → Option Con := (envC 57 con57 (envC 26 con26 env0))
noncomputable def C32 : List (FuncId × Func) := [(32, Tryz.f32), (34, Tryz.f34), (48, Tryz.f48), (49, Tryz.f49), (59, Tryz.f59)]
def f32.g (n : Nat) (x : Int × Nat) : Option (Int) :=
  bif bif (FloatKind.f64.format.order x.2 x.2 != some .eq) then true else (FloatKind.f64.format.order x.2 4890909195324358656 == some .gt || FloatKind.f64.format.order x.2 4890909195324358656 == some .eq) then
    (some (-1 : Int))
  else
    (bif FloatKind.f64.format.order x.2 14114281232179134464 == some .lt then
      (some (1 : Int))
    else
      ((F57 x.2).bind fun r1 =>
        (fToI .f64 .i64 r1).bind fun r2 =>
          (F26 (x.1, r2)).bind fun r3 =>
            bif r3 != (0 : Int) then
              (some r3)
            else
              ((FloatKind.f64.format.sub x.2 r1).bind fun r4 =>
                bif FloatKind.f64.format.order 0 0 != some .eq then
                  (bif FloatKind.f64.format.order r4 r4 != some .eq then
                    (some (0 : Int))
                  else
                    (some (-1 : Int)))
                else
                  (bif FloatKind.f64.format.order r4 r4 != some .eq then
                    (some (1 : Int))
                  else
                    (bif FloatKind.f64.format.order 0 r4 == some .lt then
                      (some (-1 : Int))
                    else
                      (bif FloatKind.f64.format.order 0 r4 == some .gt then
                        (some (1 : Int))
                      else
                        (some (0 : Int))))))))
set_option maxRecDepth 100000 in
theorem f32.eq (n : Nat) (x : Int × Nat) : runK TT E32 n ann (tabC C32) 5 32 (argsL [(false, .int .i64), (false, .float .f64)] x) [] (readL [(false, .int .i64)]) = f32.g n x := by
  kernel_rfl
set_option maxRecDepth 100000 in
theorem f32.codes : CodesOk Tryz.prog E32 ann (tabC C32) := tabC_ok (by intro p hp; simp only [C32, List.mem_cons, List.not_mem_nil, or_false] at hp; rcases hp with rfl | rfl | rfl | rfl | rfl <;> first | exact Tryz.func32 | exact Tryz.func34 | exact Tryz.func48 | exact Tryz.func49 | exact Tryz.func59) (by kernel_rfl)
theorem f32.ok (h : ∀ X Y, F32 X = some Y → ∃ n, f32.g n X = some Y) (e26 : ConOk Tryz.prog 26 con26) (e57 : ConOk Tryz.prog 57 con57) : ConOk Tryz.prog 32 (mkCon [(false, .int .i64), (false, .float .f64)] [(false, .int .i64)] true F32) :=
  mkCon_ok mixed TT_ok (envC_ok e57 (envC_ok e26 env0_ok)) f32.codes (fun _ => List.all_eq_true.1 rfl) fun X Y hF => (h X Y hF).imp fun n hn => (f32.eq n X).trans hn
def con32 : Con := mkCon [(false, .int .i64), (false, .float .f64)] [(false, .int .i64)] true F32
/-! ### vellum/vellumref01.mixed -/
def E33 : FuncId → Option Con := (envC 29 con29 env0)
noncomputable def C33 : List (FuncId × Func) := [(33, Tryz.f33), (36, Tryz.f36)]
def f33.g (n : Nat) (x : Int × Nat) : Option (Int) :=
  bif bif (FloatKind.f64.format.order x.2 x.2 != some .eq) then true else (FloatKind.f64.format.order x.2 4890909195324358656 == some .gt || FloatKind.f64.format.order x.2 4890909195324358656 == some .eq) then
    (some (-1 : Int))
  else
    (bif FloatKind.f64.format.order x.2 14114281232179134464 == some .lt then
      (some (1 : Int))
    else
      ((fToI .f64 .i64 x.2).bind fun r1 =>
        bif x.1 != r1 then
          ((F29 (x.1, r1)).bind fun r2 =>
            some r2)
        else
          ((FloatKind.f64.format.sub x.2 (FloatKind.f64.nearest r1)).bind fun r3 =>
            bif FloatKind.f64.format.order r3 0 == some .gt then
              (some (-1 : Int))
            else
              (bif FloatKind.f64.format.order r3 0 == some .lt then
                (some (1 : Int))
              else
                (some (0 : Int))))))
set_option maxRecDepth 100000 in
theorem f33.eq (n : Nat) (x : Int × Nat) : runK TT E33 n ann (tabC C33) 2 33 (argsL [(false, .int .i64), (false, .float .f64)] x) [] (readL [(false, .int .i64)]) = f33.g n x := by
  kernel_rfl
set_option maxRecDepth 100000 in
theorem f33.codes : CodesOk Tryz.prog E33 ann (tabC C33) := tabC_ok (by intro p hp; simp only [C33, List.mem_cons, List.not_mem_nil, or_false] at hp; rcases hp with rfl | rfl <;> first | exact Tryz.func33 | exact Tryz.func36) (by kernel_rfl)
theorem f33.ok (h : ∀ X Y, F33 X = some Y → ∃ n, f33.g n X = some Y) (e29 : ConOk Tryz.prog 29 con29) : ConOk Tryz.prog 33 (mkCon [(false, .int .i64), (false, .float .f64)] [(false, .int .i64)] true F33) :=
  mkCon_ok mixed TT_ok (envC_ok e29 env0_ok) f33.codes (fun _ => List.all_eq_true.1 rfl) fun X Y hF => (h X Y hF).imp fun n hn => (f33.eq n X).trans hn
def con33 : Con := mkCon [(false, .int .i64), (false, .float .f64)] [(false, .int .i64)] true F33
/-! ### vellum/value.Numbers -/
def E14 : FuncId → Option Con := (envC 32 con32 (envC 27 con27 (envC 26 con26 env0)))
noncomputable def C14 : List (FuncId × Func) := [(14, Tryz.f14)]
def f14.g (n : Nat) (x : dValue × dValue) : Option (Int × Bool) :=
  bif x.1.1 == (2 : Int) then
    (bif x.2.1 == (2 : Int) then
      ((F26 (x.1.2.1, x.2.2.1)).bind fun r1 =>
        some (r1, true))
    else
      (bif x.1.1 == (3 : Int) then
        (bif x.2.1 == (3 : Int) then
          ((F27 (x.1.2.2.1, x.2.2.2.1)).bind fun r2 =>
            some (r2, true))
        else
          (bif x.1.1 == (2 : Int) then
            (bif x.2.1 == (3 : Int) then
              ((F32 (x.1.2.1, x.2.2.2.1)).bind fun r3 =>
                some (r3, true))
            else
              (bif x.1.1 == (3 : Int) then
                (bif x.2.1 == (2 : Int) then
                  ((F32 (x.2.2.1, x.1.2.2.1)).bind fun r4 =>
                    some (IntKind.wrap .i64 (0 - r4), true))
                else
                  (some ((0 : Int), false)))
              else
                (some ((0 : Int), false))))
          else
            (bif x.1.1 == (3 : Int) then
              (bif x.2.1 == (2 : Int) then
                ((F32 (x.2.2.1, x.1.2.2.1)).bind fun r5 =>
                  some (IntKind.wrap .i64 (0 - r5), true))
              else
                (some ((0 : Int), false)))
            else
              (some ((0 : Int), false)))))
      else
        (bif x.1.1 == (2 : Int) then
          (bif x.2.1 == (3 : Int) then
            ((F32 (x.1.2.1, x.2.2.2.1)).bind fun r6 =>
              some (r6, true))
          else
            (bif x.1.1 == (3 : Int) then
              (bif x.2.1 == (2 : Int) then
                ((F32 (x.2.2.1, x.1.2.2.1)).bind fun r7 =>
                  some (IntKind.wrap .i64 (0 - r7), true))
              else
                (some ((0 : Int), false)))
            else
              (some ((0 : Int), false))))
        else
          (bif x.1.1 == (3 : Int) then
            (bif x.2.1 == (2 : Int) then
              ((F32 (x.2.2.1, x.1.2.2.1)).bind fun r8 =>
                some (IntKind.wrap .i64 (0 - r8), true))
            else
              (some ((0 : Int), false)))
          else
            (some ((0 : Int), false))))))
  else
    (bif x.1.1 == (3 : Int) then
      (bif x.2.1 == (3 : Int) then
        ((F27 (x.1.2.2.1, x.2.2.2.1)).bind fun r9 =>
          some (r9, true))
      else
        (bif x.1.1 == (2 : Int) then
          (bif x.2.1 == (3 : Int) then
            ((F32 (x.1.2.1, x.2.2.2.1)).bind fun r10 =>
              some (r10, true))
          else
            (bif x.1.1 == (3 : Int) then
              (bif x.2.1 == (2 : Int) then
                ((F32 (x.2.2.1, x.1.2.2.1)).bind fun r11 =>
                  some (IntKind.wrap .i64 (0 - r11), true))
              else
                (some ((0 : Int), false)))
            else
              (some ((0 : Int), false))))
        else
          (bif x.1.1 == (3 : Int) then
            (bif x.2.1 == (2 : Int) then
              ((F32 (x.2.2.1, x.1.2.2.1)).bind fun r12 =>
                some (IntKind.wrap .i64 (0 - r12), true))
            else
              (some ((0 : Int), false)))
          else
            (some ((0 : Int), false)))))
    else
      (bif x.1.1 == (2 : Int) then
        (bif x.2.1 == (3 : Int) then
          ((F32 (x.1.2.1, x.2.2.2.1)).bind fun r13 =>
            some (r13, true))
        else
          (bif x.1.1 == (3 : Int) then
            (bif x.2.1 == (2 : Int) then
              ((F32 (x.2.2.1, x.1.2.2.1)).bind fun r14 =>
                some (IntKind.wrap .i64 (0 - r14), true))
            else
              (some ((0 : Int), false)))
          else
            (some ((0 : Int), false))))
      else
        (bif x.1.1 == (3 : Int) then
          (bif x.2.1 == (2 : Int) then
            ((F32 (x.2.2.1, x.1.2.2.1)).bind fun r15 =>
              some (IntKind.wrap .i64 (0 - r15), true))
          else
            (some ((0 : Int), false)))
        else
          (some ((0 : Int), false)))))
set_option maxRecDepth 100000 in
theorem f14.eq (n : Nat) (x : dValue × dValue) : runK TT E14 n ann (tabC C14) 1 14 (argsL [(true, tValue), (true, tValue)] x) [] (readL [(false, .int .i64), (false, .bool)]) = f14.g n x := by
  kernel_rfl
set_option maxRecDepth 100000 in
theorem f14.codes : CodesOk Tryz.prog E14 ann (tabC C14) := tabC_ok (by intro p hp; simp only [C14, List.mem_cons, List.not_mem_nil, or_false] at hp; rcases hp with rfl <;> first | exact Tryz.func14) (by kernel_rfl)
theorem f14.ok (h : ∀ X Y, F14 X = some Y → ∃ n, f14.g n X = some Y) (e26 : ConOk Tryz.prog 26 con26) (e27 : ConOk Tryz.prog 27 con27) (e32 : ConOk Tryz.prog 32 con32) : ConOk Tryz.prog 14 (mkCon [(true, tValue), (true, tValue)] [(false, .int .i64), (false, .bool)] true F14) :=
  mkCon_ok mixed TT_ok (envC_ok e32 (envC_ok e27 (envC_ok e26 env0_ok))) f14.codes (fun _ => List.all_eq_true.1 rfl) fun X Y hF => (h X Y hF).imp fun n hn => (f14.eq n X).trans hn
def con14 : Con := mkCon [(true, tValue), (true, tValue)] [(false, .int .i64), (false, .bool)] true F14
/-! ### vellum/vellumref01.Numbers -/
def E15 : FuncId → Option Con := (envC 33 con33 (envC 13 con13 env0))
noncomputable def C15 : List (FuncId × Func) := [(15, Tryz.f15)]
def f15.g (n : Nat) (x : dValue × dValue) : Option (Int × Bool) :=
  bif bif (!(bif (x.1.1 == (2 : Int)) then true else (x.1.1 == (3 : Int)))) then true else (!(bif (x.2.1 == (2 : Int)) then true else (x.2.1 == (3 : Int)))) then
    (some ((0 : Int), false))
  else
    (bif x.1.1 == x.2.1 then
      ((F13 x).bind fun r1 =>
        some (r1, true))
    else
      (bif x.1.1 == (2 : Int) then
        ((F33 (x.1.2.1, x.2.2.2.1)).bind fun r2 =>
          some (r2, true))
      else
        ((F33 (x.2.2.1, x.1.2.2.1)).bind fun r3 =>
          some (IntKind.wrap .i64 ((0 : Int) - r3), true))))
set_option maxRecDepth 100000 in
theorem f15.eq (n : Nat) (x : dValue × dValue) : runK TT E15 n ann (tabC C15) 1 15 (argsL [(true, tValue), (true, tValue)] x) [] (readL [(false, .int .i64), (false, .bool)]) = f15.g n x := by
  kernel_rfl
set_option maxRecDepth 100000 in
theorem f15.codes : CodesOk Tryz.prog E15 ann (tabC C15) := tabC_ok (by intro p hp; simp only [C15, List.mem_cons, List.not_mem_nil, or_false] at hp; rcases hp with rfl <;> first | exact Tryz.func15) (by kernel_rfl)
theorem f15.ok (h : ∀ X Y, F15 X = some Y → ∃ n, f15.g n X = some Y) (e13 : ConOk Tryz.prog 13 con13) (e33 : ConOk Tryz.prog 33 con33) : ConOk Tryz.prog 15 (mkCon [(true, tValue), (true, tValue)] [(false, .int .i64), (false, .bool)] true F15) :=
  mkCon_ok mixed TT_ok (envC_ok e33 (envC_ok e13 env0_ok)) f15.codes (fun _ => List.all_eq_true.1 rfl) fun X Y hF => (h X Y hF).imp fun n hn => (f15.eq n X).trans hn
def con15 : Con := mkCon [(true, tValue), (true, tValue)] [(false, .int .i64), (false, .bool)] true F15
/-! ### vellum/vellumlaw01.awake -/
def E11 : FuncId → Option Con := (envC 22 con22 (envC 14 con14 (envC 12 con12 env0)))
noncomputable def C11 : List (FuncId × Func) := [(11, Tryz.f11), (23, Tryz.f23), (24, Tryz.f24)]
def f11.g (n : Nat) (x : Unit) : Option (Bool) :=
  (F22 ((2 : Int), ((-7 : Int), (0, (⟨#[]⟩ : ByteArray))))).bind fun r1 =>
    (F14 (((2 : Int), ((1 : Int), (0, (⟨#[]⟩ : ByteArray)))), ((3 : Int), ((0 : Int), (4609434218613702656, (⟨#[]⟩ : ByteArray)))))).bind fun r2 =>
      bif bif (bif (bif (strEq r1.1 (⟨#[45, 55]⟩ : ByteArray)) then (r1.2 == (0 : Int)) else false) then (r2.1 == (-1 : Int)) else false) then r2.2 else false then
        ((F12 (((2 : Int), ((2 : Int), (0, (⟨#[]⟩ : ByteArray)))), ((2 : Int), ((1 : Int), (0, (⟨#[]⟩ : ByteArray)))))).bind fun r3 =>
          some (r3 == (1 : Int)))
      else
        (some false)
set_option maxRecDepth 100000 in
theorem f11.eq (n : Nat) (x : Unit) : runK TT E11 n ann (tabC C11) 3 11 (argsL [] x) [] (readL [(false, .bool)]) = f11.g n x := by
  kernel_rfl
set_option maxRecDepth 100000 in
theorem f11.codes : CodesOk Tryz.prog E11 ann (tabC C11) := tabC_ok (by intro p hp; simp only [C11, List.mem_cons, List.not_mem_nil, or_false] at hp; rcases hp with rfl | rfl | rfl <;> first | exact Tryz.func11 | exact Tryz.func23 | exact Tryz.func24) (by kernel_rfl)
theorem f11.ok (h : ∀ X Y, F11 X = some Y → ∃ n, f11.g n X = some Y) (e12 : ConOk Tryz.prog 12 con12) (e14 : ConOk Tryz.prog 14 con14) (e22 : ConOk Tryz.prog 22 con22) : ConOk Tryz.prog 11 (mkCon [] [(false, .bool)] true F11) :=
  mkCon_ok mixed TT_ok (envC_ok e22 (envC_ok e14 (envC_ok e12 env0_ok))) f11.codes (fun _ => List.all_eq_true.1 rfl) fun X Y hF => (h X Y hF).imp fun n hn => (f11.eq n X).trans hn
def con11 : Con := mkCon [] [(false, .bool)] true F11
/-! ### vellum/vellumlaw01.ValueChecks -/
def E3 : FuncId → Option Con := (envC 11 con11 (envC 10 con10 (envC 9 con9 env0)))
noncomputable def C3 : List (FuncId × Func) := [(3, Tryz.f3)]
def f3.g (n : Nat) (x : dValue) : Option (Bool) :=
  (F9 x).bind fun r1 =>
    (F10 x).bind fun r2 =>
      bif r1 == r2 then
        ((F11 ()).bind fun r3 =>
          some r3)
      else
        (some false)
set_option maxRecDepth 100000 in
theorem f3.eq (n : Nat) (x : dValue) : runK TT E3 n ann (tabC C3) 1 3 (argsL [(true, tValue)] x) [] (readL [(false, .bool)]) = f3.g n x := by
  kernel_rfl
set_option maxRecDepth 100000 in
theorem f3.codes : CodesOk Tryz.prog E3 ann (tabC C3) := tabC_ok (by intro p hp; simp only [C3, List.mem_cons, List.not_mem_nil, or_false] at hp; rcases hp with rfl <;> first | exact Tryz.func3) (by kernel_rfl)
theorem f3.ok (h : ∀ X Y, (FL [(true, tValue)]) X = some Y → ∃ n, f3.g n X = some Y) (e9 : ConOk Tryz.prog 9 con9) (e10 : ConOk Tryz.prog 10 con10) (e11 : ConOk Tryz.prog 11 con11) : ConOk Tryz.prog 3 (mkCon [(true, tValue)] [(false, .bool)] true (FL [(true, tValue)])) :=
  mkCon_ok mixed TT_ok (envC_ok e11 (envC_ok e10 (envC_ok e9 env0_ok))) f3.codes (fun _ => List.all_eq_true.1 rfl) fun X Y hF => (h X Y hF).imp fun n hn => (f3.eq n X).trans hn
def con3 : Con := mkCon [(true, tValue)] [(false, .bool)] true (FL [(true, tValue)])
/-! ### vellum/vellumlaw01.ValueOrders -/
def E4 : FuncId → Option Con := (envC 13 con13 (envC 12 con12 (envC 11 con11 env0)))
noncomputable def C4 : List (FuncId × Func) := [(4, Tryz.f4)]
def f4.g (n : Nat) (x : dValue × dValue) : Option (Bool) :=
  (F12 x).bind fun r1 =>
    (F13 x).bind fun r2 =>
      bif r1 == r2 then
        ((F12 (x.2, x.1)).bind fun r3 =>
          (F13 x).bind fun r4 =>
            bif r3 == IntKind.wrap .i64 ((0 : Int) - r4) then
              ((F12 (x.1, x.1)).bind fun r5 =>
                bif r5 == (0 : Int) then
                  ((F11 ()).bind fun r6 =>
                    some r6)
                else
                  (some false))
            else
              (some false))
      else
        (some false)
set_option maxRecDepth 100000 in
theorem f4.eq (n : Nat) (x : dValue × dValue) : runK TT E4 n ann (tabC C4) 1 4 (argsL [(true, tValue), (true, tValue)] x) [] (readL [(false, .bool)]) = f4.g n x := by
  kernel_rfl
set_option maxRecDepth 100000 in
theorem f4.codes : CodesOk Tryz.prog E4 ann (tabC C4) := tabC_ok (by intro p hp; simp only [C4, List.mem_cons, List.not_mem_nil, or_false] at hp; rcases hp with rfl <;> first | exact Tryz.func4) (by kernel_rfl)
theorem f4.ok (h : ∀ X Y, (FL [(true, tValue), (true, tValue)]) X = some Y → ∃ n, f4.g n X = some Y) (e11 : ConOk Tryz.prog 11 con11) (e12 : ConOk Tryz.prog 12 con12) (e13 : ConOk Tryz.prog 13 con13) : ConOk Tryz.prog 4 (mkCon [(true, tValue), (true, tValue)] [(false, .bool)] true (FL [(true, tValue), (true, tValue)])) :=
  mkCon_ok mixed TT_ok (envC_ok e13 (envC_ok e12 (envC_ok e11 env0_ok))) f4.codes (fun _ => List.all_eq_true.1 rfl) fun X Y hF => (h X Y hF).imp fun n hn => (f4.eq n X).trans hn
def con4 : Con := mkCon [(true, tValue), (true, tValue)] [(false, .bool)] true (FL [(true, tValue), (true, tValue)])
/-! ### vellum/vellumlaw01.ValueNumbers -/
def E5 : FuncId → Option Con := (envC 15 con15 (envC 14 con14 (envC 12 con12 (envC 11 con11 env0))))
noncomputable def C5 : List (FuncId × Func) := [(5, Tryz.f5)]
def f5.g (n : Nat) (x : dValue × dValue) : Option (Bool) :=
  (F14 x).bind fun r1 =>
    (F15 x).bind fun r2 =>
      (F14 (x.2, x.1)).bind fun r3 =>
        bif bif (r1.1 != r2.1) then true else (!(r1.2 == r2.2)) then
          (some false)
        else
          (bif bif (r3.1 != IntKind.wrap .i64 ((0 : Int) - r2.1)) then true else (!(r3.2 == r2.2)) then
            (some false)
          else
            (bif bif (!r1.2) then true else (x.1.1 != x.2.1) then
              ((F11 ()).bind fun r4 =>
                some r4)
            else
              ((F12 x).bind fun r5 =>
                bif r1.1 == r5 then
                  ((F11 ()).bind fun r6 =>
                    some r6)
                else
                  (some false))))
set_option maxRecDepth 100000 in
theorem f5.eq (n : Nat) (x : dValue × dValue) : runK TT E5 n ann (tabC C5) 1 5 (argsL [(true, tValue), (true, tValue)] x) [] (readL [(false, .bool)]) = f5.g n x := by
  kernel_rfl
set_option maxRecDepth 100000 in
theorem f5.codes : CodesOk Tryz.prog E5 ann (tabC C5) := tabC_ok (by intro p hp; simp only [C5, List.mem_cons, List.not_mem_nil, or_false] at hp; rcases hp with rfl <;> first | exact Tryz.func5) (by kernel_rfl)
theorem f5.ok (h : ∀ X Y, (FL [(true, tValue), (true, tValue)]) X = some Y → ∃ n, f5.g n X = some Y) (e11 : ConOk Tryz.prog 11 con11) (e12 : ConOk Tryz.prog 12 con12) (e14 : ConOk Tryz.prog 14 con14) (e15 : ConOk Tryz.prog 15 con15) : ConOk Tryz.prog 5 (mkCon [(true, tValue), (true, tValue)] [(false, .bool)] true (FL [(true, tValue), (true, tValue)])) :=
  mkCon_ok mixed TT_ok (envC_ok e15 (envC_ok e14 (envC_ok e12 (envC_ok e11 env0_ok)))) f5.codes (fun _ => List.all_eq_true.1 rfl) fun X Y hF => (h X Y hF).imp fun n hn => (f5.eq n X).trans hn
def con5 : Con := mkCon [(true, tValue), (true, tValue)] [(false, .bool)] true (FL [(true, tValue), (true, tValue)])
/-! ### vellum/vellumlaw01.ValueTotal -/
def E6 : FuncId → Option Con := (envC 16 con16 (envC 12 con12 (envC 11 con11 env0)))
noncomputable def C6 : List (FuncId × Func) := [(6, Tryz.f6)]
def f6.g (n : Nat) (x : dValue × dValue × dValue) : Option (Bool) :=
  (F12 (x.1, x.2.1)).bind fun r1 =>
    bif decide (r1 ≤ (0 : Int)) then
      ((F12 x.2).bind fun r2 =>
        bif decide (r2 ≤ (0 : Int)) then
          ((F12 (x.1, x.2.2)).bind fun r3 =>
            bif decide (r3 > (0 : Int)) then
              (some false)
            else
              ((F16 (x.1, x.2.1)).bind fun r4 =>
                bif r4 then
                  ((F12 (x.1, x.2.2)).bind fun r5 =>
                    (F12 x.2).bind fun r6 =>
                      bif r5 != r6 then
                        (some false)
                      else
                        ((F11 ()).bind fun r7 =>
                          some r7))
                else
                  ((F11 ()).bind fun r8 =>
                    some r8)))
        else
          ((F16 (x.1, x.2.1)).bind fun r9 =>
            bif r9 then
              ((F12 (x.1, x.2.2)).bind fun r10 =>
                (F12 x.2).bind fun r11 =>
                  bif r10 != r11 then
                    (some false)
                  else
                    ((F11 ()).bind fun r12 =>
                      some r12))
            else
              ((F11 ()).bind fun r13 =>
                some r13)))
    else
      ((F16 (x.1, x.2.1)).bind fun r14 =>
        bif r14 then
          ((F12 (x.1, x.2.2)).bind fun r15 =>
            (F12 x.2).bind fun r16 =>
              bif r15 != r16 then
                (some false)
              else
                ((F11 ()).bind fun r17 =>
                  some r17))
        else
          ((F11 ()).bind fun r18 =>
            some r18))
set_option maxRecDepth 100000 in
theorem f6.eq (n : Nat) (x : dValue × dValue × dValue) : runK TT E6 n ann (tabC C6) 1 6 (argsL [(true, tValue), (true, tValue), (true, tValue)] x) [] (readL [(false, .bool)]) = f6.g n x := by
  kernel_rfl
set_option maxRecDepth 100000 in
theorem f6.codes : CodesOk Tryz.prog E6 ann (tabC C6) := tabC_ok (by intro p hp; simp only [C6, List.mem_cons, List.not_mem_nil, or_false] at hp; rcases hp with rfl <;> first | exact Tryz.func6) (by kernel_rfl)
theorem f6.ok (h : ∀ X Y, (FL [(true, tValue), (true, tValue), (true, tValue)]) X = some Y → ∃ n, f6.g n X = some Y) (e11 : ConOk Tryz.prog 11 con11) (e12 : ConOk Tryz.prog 12 con12) (e16 : ConOk Tryz.prog 16 con16) : ConOk Tryz.prog 6 (mkCon [(true, tValue), (true, tValue), (true, tValue)] [(false, .bool)] true (FL [(true, tValue), (true, tValue), (true, tValue)])) :=
  mkCon_ok mixed TT_ok (envC_ok e16 (envC_ok e12 (envC_ok e11 env0_ok))) f6.codes (fun _ => List.all_eq_true.1 rfl) fun X Y hF => (h X Y hF).imp fun n hn => (f6.eq n X).trans hn
def con6 : Con := mkCon [(true, tValue), (true, tValue), (true, tValue)] [(false, .bool)] true (FL [(true, tValue), (true, tValue), (true, tValue)])
/-! ### vellum/vellumlaw01.ValueSames -/
def E7 : FuncId → Option Con := (envC 17 con17 (envC 16 con16 (envC 11 con11 env0)))
noncomputable def C7 : List (FuncId × Func) := [(7, Tryz.f7)]
def f7.g (n : Nat) (x : dValue × dValue) : Option (Bool) :=
  (F16 x).bind fun r1 =>
    (F17 x).bind fun r2 =>
      bif r1 == r2 then
        ((F16 (x.1, x.1)).bind fun r3 =>
          bif r3 then
            ((F11 ()).bind fun r4 =>
              some r4)
          else
            (some false))
      else
        (some false)
set_option maxRecDepth 100000 in
theorem f7.eq (n : Nat) (x : dValue × dValue) : runK TT E7 n ann (tabC C7) 1 7 (argsL [(true, tValue), (true, tValue)] x) [] (readL [(false, .bool)]) = f7.g n x := by
  kernel_rfl
set_option maxRecDepth 100000 in
theorem f7.codes : CodesOk Tryz.prog E7 ann (tabC C7) := tabC_ok (by intro p hp; simp only [C7, List.mem_cons, List.not_mem_nil, or_false] at hp; rcases hp with rfl <;> first | exact Tryz.func7) (by kernel_rfl)
theorem f7.ok (h : ∀ X Y, (FL [(true, tValue), (true, tValue)]) X = some Y → ∃ n, f7.g n X = some Y) (e11 : ConOk Tryz.prog 11 con11) (e16 : ConOk Tryz.prog 16 con16) (e17 : ConOk Tryz.prog 17 con17) : ConOk Tryz.prog 7 (mkCon [(true, tValue), (true, tValue)] [(false, .bool)] true (FL [(true, tValue), (true, tValue)])) :=
  mkCon_ok mixed TT_ok (envC_ok e17 (envC_ok e16 (envC_ok e11 env0_ok))) f7.codes (fun _ => List.all_eq_true.1 rfl) fun X Y hF => (h X Y hF).imp fun n hn => (f7.eq n X).trans hn
def con7 : Con := mkCon [(true, tValue), (true, tValue)] [(false, .bool)] true (FL [(true, tValue), (true, tValue)])
/-! ### vellum/vellumlaw01.ValuePlains -/
def E8 : FuncId → Option Con := (envC 19 con19 (envC 18 con18 (envC 17 con17 (envC 16 con16 (envC 12 con12 (envC 11 con11 env0))))))
noncomputable def C8 : List (FuncId × Func) := [(8, Tryz.f8)]
def f8.g (n : Nat) (x : dValue) : Option (Bool) :=
  (F18 x).bind fun r1 =>
    (F19 x).bind fun r2 =>
      (F17 (r1, r2)).bind fun r3 =>
        bif r3 then
          ((F12 (x, r1)).bind fun r4 =>
            bif r4 == (0 : Int) then
              ((F18 r1).bind fun r5 =>
                (F16 (r5, r1)).bind fun r6 =>
                  bif r6 then
                    ((F11 ()).bind fun r7 =>
                      some r7)
                  else
                    (some false))
            else
              (some false))
        else
          (some false)
set_option maxRecDepth 100000 in
theorem f8.eq (n : Nat) (x : dValue) : runK TT E8 n ann (tabC C8) 1 8 (argsL [(true, tValue)] x) [] (readL [(false, .bool)]) = f8.g n x := by
  kernel_rfl
set_option maxRecDepth 100000 in
theorem f8.codes : CodesOk Tryz.prog E8 ann (tabC C8) := tabC_ok (by intro p hp; simp only [C8, List.mem_cons, List.not_mem_nil, or_false] at hp; rcases hp with rfl <;> first | exact Tryz.func8) (by kernel_rfl)
theorem f8.ok (h : ∀ X Y, (FL [(true, tValue)]) X = some Y → ∃ n, f8.g n X = some Y) (e11 : ConOk Tryz.prog 11 con11) (e12 : ConOk Tryz.prog 12 con12) (e16 : ConOk Tryz.prog 16 con16) (e17 : ConOk Tryz.prog 17 con17) (e18 : ConOk Tryz.prog 18 con18) (e19 : ConOk Tryz.prog 19 con19) : ConOk Tryz.prog 8 (mkCon [(true, tValue)] [(false, .bool)] true (FL [(true, tValue)])) :=
  mkCon_ok mixed TT_ok (envC_ok e19 (envC_ok e18 (envC_ok e17 (envC_ok e16 (envC_ok e12 (envC_ok e11 env0_ok)))))) f8.codes (fun _ => List.all_eq_true.1 rfl) fun X Y hF => (h X Y hF).imp fun n hn => (f8.eq n X).trans hn
def con8 : Con := mkCon [(true, tValue)] [(false, .bool)] true (FL [(true, tValue)])
end
end Go.Proofs.YtnfepfmppoikkaaGreatDoor.AI
