/- Runs of the program's functions over plain data. Printed by aipr.py; Lean checks them. -/
import Derived.Test.YthkigadgbckpoaaGreatDoorBb
set_option linter.unusedVariables false
set_option linter.unusedSimpArgs false
namespace Go.Proofs.YthkigadgbckpoaaGreatDoor.AI
open Go
noncomputable section
def con19 : Con := mkCon [(false, .float .f64)] [(false, .int .u64)] true F19
def con20 : Con := mkCon [(false, .str)] [(false, .bool)] true F20
def con37 : Con := mkCon [(false, .str), (false, .str)] [(false, .int .i64)] true F37
def con30 : Con := mkCon [(false, .int .i64), (false, .int .i64)] [(false, .str)] true F30
def con39 : Con := mkCon [(false, .float .f64)] [(false, .float .f64)] true F39
/-! ### cmp.Compare[int] -/
def E36 : FuncId → Option Con := env0
noncomputable def C36 : List (FuncId × Func) := [(36, Tryz.f36), (49, Tryz.f49)]
def f36.g (n : Nat) (x : Int × Int) : Option (Int) :=
  bif x.1 != x.1 then
    (bif x.2 != x.2 then
      (some (0 : Int))
    else
      (some (-1 : Int)))
  else
    (bif x.2 != x.2 then
      (some (1 : Int))
    else
      (bif decide (x.1 < x.2) then
        (some (-1 : Int))
      else
        (bif decide (x.1 > x.2) then
          (some (1 : Int))
        else
          (some (0 : Int)))))
set_option maxRecDepth 100000 in
theorem f36.eq (n : Nat) (x : Int × Int) : runK TT E36 n ann (tabC C36) 2 36 (argsL [(false, .int .i64), (false, .int .i64)] x) [] (readL [(false, .int .i64)]) = f36.g n x := by
  kernel_rfl
set_option maxRecDepth 100000 in
theorem f36.codes : CodesOk Tryz.prog E36 ann (tabC C36) := tabC_ok (by intro p hp; simp only [C36, List.mem_cons, List.not_mem_nil, or_false] at hp; rcases hp with rfl | rfl <;> first | exact Tryz.func36 | exact Tryz.func49) (by kernel_rfl)
theorem f36.ok (h : ∀ X Y, F36 X = some Y → ∃ n, f36.g n X = some Y)  : ConOk Tryz.prog 36 (mkCon [(false, .int .i64), (false, .int .i64)] [(false, .int .i64)] true F36) :=
  mkCon_ok mixed TT_ok env0_ok f36.codes (fun _ => List.all_eq_true.1 rfl) fun X Y hF => (h X Y hF).imp fun n hn => (f36.eq n X).trans hn
def con36 : Con := mkCon [(false, .int .i64), (false, .int .i64)] [(false, .int .i64)] true F36
/-! ### cmp.Compare[int64] -/
def E13 : FuncId → Option Con := env0
noncomputable def C13 : List (FuncId × Func) := [(13, Tryz.f13), (26, Tryz.f26)]
def f13.g (n : Nat) (x : Int × Int) : Option (Int) :=
  bif x.1 != x.1 then
    (bif x.2 != x.2 then
      (some (0 : Int))
    else
      (some (-1 : Int)))
  else
    (bif x.2 != x.2 then
      (some (1 : Int))
    else
      (bif decide (x.1 < x.2) then
        (some (-1 : Int))
      else
        (bif decide (x.1 > x.2) then
          (some (1 : Int))
        else
          (some (0 : Int)))))
set_option maxRecDepth 100000 in
theorem f13.eq (n : Nat) (x : Int × Int) : runK TT E13 n ann (tabC C13) 2 13 (argsL [(false, .int .i64), (false, .int .i64)] x) [] (readL [(false, .int .i64)]) = f13.g n x := by
  kernel_rfl
set_option maxRecDepth 100000 in
theorem f13.codes : CodesOk Tryz.prog E13 ann (tabC C13) := tabC_ok (by intro p hp; simp only [C13, List.mem_cons, List.not_mem_nil, or_false] at hp; rcases hp with rfl | rfl <;> first | exact Tryz.func13 | exact Tryz.func26) (by kernel_rfl)
theorem f13.ok (h : ∀ X Y, F13 X = some Y → ∃ n, f13.g n X = some Y)  : ConOk Tryz.prog 13 (mkCon [(false, .int .i64), (false, .int .i64)] [(false, .int .i64)] true F13) :=
  mkCon_ok mixed TT_ok env0_ok f13.codes (fun _ => List.all_eq_true.1 rfl) fun X Y hF => (h X Y hF).imp fun n hn => (f13.eq n X).trans hn
def con13 : Con := mkCon [(false, .int .i64), (false, .int .i64)] [(false, .int .i64)] true F13
/-! ### vellum/value.floats -/
def E14 : FuncId → Option Con := env0
noncomputable def C14 : List (FuncId × Func) := [(14, Tryz.f14), (27, Tryz.f27)]
def f14.g (n : Nat) (x : Nat × Nat) : Option (Int) :=
  bif FloatKind.f64.format.order x.1 x.1 != some .eq then
    (bif FloatKind.f64.format.order x.2 x.2 != some .eq then
      (some (0 : Int))
    else
      (bif FloatKind.f64.format.order x.1 x.1 != some .eq then
        (some (1 : Int))
      else
        (bif FloatKind.f64.format.order x.2 x.2 != some .eq then
          (bif FloatKind.f64.format.order x.2 x.2 != some .eq then
            (some (-1 : Int))
          else
            (bif FloatKind.f64.format.order x.1 x.2 == some .gt then
              (some (1 : Int))
            else
              (some (0 : Int))))
        else
          (bif FloatKind.f64.format.order x.1 x.2 == some .lt then
            (some (-1 : Int))
          else
            (bif FloatKind.f64.format.order x.1 x.2 == some .gt then
              (some (1 : Int))
            else
              (some (0 : Int)))))))
  else
    (bif FloatKind.f64.format.order x.1 x.1 != some .eq then
      (some (1 : Int))
    else
      (bif FloatKind.f64.format.order x.2 x.2 != some .eq then
        (bif FloatKind.f64.format.order x.2 x.2 != some .eq then
          (some (-1 : Int))
        else
          (bif FloatKind.f64.format.order x.1 x.2 == some .gt then
            (some (1 : Int))
          else
            (some (0 : Int))))
      else
        (bif FloatKind.f64.format.order x.1 x.2 == some .lt then
          (some (-1 : Int))
        else
          (bif FloatKind.f64.format.order x.1 x.2 == some .gt then
            (some (1 : Int))
          else
            (some (0 : Int))))))
set_option maxRecDepth 100000 in
theorem f14.eq (n : Nat) (x : Nat × Nat) : runK TT E14 n ann (tabC C14) 2 14 (argsL [(false, .float .f64), (false, .float .f64)] x) [] (readL [(false, .int .i64)]) = f14.g n x := by
  kernel_rfl
set_option maxRecDepth 100000 in
theorem f14.codes : CodesOk Tryz.prog E14 ann (tabC C14) := tabC_ok (by intro p hp; simp only [C14, List.mem_cons, List.not_mem_nil, or_false] at hp; rcases hp with rfl | rfl <;> first | exact Tryz.func14 | exact Tryz.func27) (by kernel_rfl)
theorem f14.ok (h : ∀ X Y, F14 X = some Y → ∃ n, f14.g n X = some Y)  : ConOk Tryz.prog 14 (mkCon [(false, .float .f64), (false, .float .f64)] [(false, .int .i64)] true F14) :=
  mkCon_ok mixed TT_ok env0_ok f14.codes (fun _ => List.all_eq_true.1 rfl) fun X Y hF => (h X Y hF).imp fun n hn => (f14.eq n X).trans hn
def con14 : Con := mkCon [(false, .float .f64), (false, .float .f64)] [(false, .int .i64)] true F14
/-! ### vellum/value.Compare -/
def E18 : FuncId → Option Con := (envC 37 con37 (envC 36 con36 (envC 14 con14 (envC 13 con13 env0))))
noncomputable def C18 : List (FuncId × Func) := [(18, Tryz.f18)]
def f18.g (n : Nat) (x : dValue × dValue) : Option (Int) :=
  (F36 (x.1.1, x.2.1)).bind fun r1 =>
    bif r1 != (0 : Int) then
      (some r1)
    else
      (bif x.1.1 == (1 : Int) then
        (bif x.1.1 == (1 : Int) then
          ((F13 (x.1.2.1, x.2.2.1)).bind fun r2 =>
            some r2)
        else
          (bif x.1.1 == (3 : Int) then
            ((F14 (x.1.2.2.1, x.2.2.2.1)).bind fun r3 =>
              some r3)
          else
            (bif x.1.1 == (4 : Int) then
              (bif x.1.1 == (4 : Int) then
                ((F37 (x.1.2.2.2, x.2.2.2.2)).bind fun r4 =>
                  some r4)
              else
                (some (0 : Int)))
            else
              (bif x.1.1 == (5 : Int) then
                ((F37 (x.1.2.2.2, x.2.2.2.2)).bind fun r5 =>
                  some r5)
              else
                (some (0 : Int))))))
      else
        (bif x.1.1 == (2 : Int) then
          ((F13 (x.1.2.1, x.2.2.1)).bind fun r6 =>
            some r6)
        else
          (bif x.1.1 == (3 : Int) then
            ((F14 (x.1.2.2.1, x.2.2.2.1)).bind fun r7 =>
              some r7)
          else
            (bif x.1.1 == (4 : Int) then
              (bif x.1.1 == (4 : Int) then
                ((F37 (x.1.2.2.2, x.2.2.2.2)).bind fun r8 =>
                  some r8)
              else
                (some (0 : Int)))
            else
              (bif x.1.1 == (5 : Int) then
                ((F37 (x.1.2.2.2, x.2.2.2.2)).bind fun r9 =>
                  some r9)
              else
                (some (0 : Int)))))))
set_option maxRecDepth 100000 in
theorem f18.eq (n : Nat) (x : dValue × dValue) : runK TT E18 n ann (tabC C18) 1 18 (argsL [(true, tValue), (true, tValue)] x) [] (readL [(false, .int .i64)]) = f18.g n x := by
  kernel_rfl
set_option maxRecDepth 100000 in
theorem f18.codes : CodesOk Tryz.prog E18 ann (tabC C18) := tabC_ok (by intro p hp; simp only [C18, List.mem_cons, List.not_mem_nil, or_false] at hp; rcases hp with rfl <;> first | exact Tryz.func18) (by kernel_rfl)
theorem f18.ok (h : ∀ X Y, F18 X = some Y → ∃ n, f18.g n X = some Y) (e13 : ConOk Tryz.prog 13 con13) (e14 : ConOk Tryz.prog 14 con14) (e36 : ConOk Tryz.prog 36 con36) (e37 : ConOk Tryz.prog 37 con37) : ConOk Tryz.prog 18 (mkCon [(true, tValue), (true, tValue)] [(false, .int .i64)] true F18) :=
  mkCon_ok mixed TT_ok (envC_ok e37 (envC_ok e36 (envC_ok e14 (envC_ok e13 env0_ok)))) f18.codes (fun _ => List.all_eq_true.1 rfl) fun X Y hF => (h X Y hF).imp fun n hn => (f18.eq n X).trans hn
def con18 : Con := mkCon [(true, tValue), (true, tValue)] [(false, .int .i64)] true F18
/-! ### vellum/value.Check -/
def E8 : FuncId → Option Con := (envC 20 con20 (envC 19 con19 env0))
noncomputable def C8 : List (FuncId × Func) := [(8, Tryz.f8)]
def f8.g (n : Nat) (x : dValue) : Option (Int) :=
  bif bif (decide (x.1 < (0 : Int))) then true else (decide (x.1 > (5 : Int))) then
    (bif bif (decide (x.1 < (0 : Int))) then true else (decide (x.1 > (5 : Int))) then
      (some (10 : Int))
    else
      (bif decide ((x.2.2.2.size : Int) > (65536 : Int)) then
        (some (3 : Int))
      else
        (some (0 : Int))))
  else
    (bif bif (bif (x.1 == (1 : Int)) then (x.2.1 != (0 : Int)) else false) then (x.2.1 != (1 : Int)) else false then
      (bif bif (bif (x.1 == (1 : Int)) then (x.2.1 != (0 : Int)) else false) then (x.2.1 != (1 : Int)) else false then
        (some (10 : Int))
      else
        (bif decide ((x.2.2.2.size : Int) > (65536 : Int)) then
          (some (3 : Int))
        else
          (some (0 : Int))))
    else
      (bif bif (bif (x.1 != (1 : Int)) then (x.1 != (2 : Int)) else false) then (x.2.1 != (0 : Int)) else false then
        (bif bif (bif (x.1 != (1 : Int)) then (x.1 != (2 : Int)) else false) then (x.2.1 != (0 : Int)) else false then
          (some (10 : Int))
        else
          (bif decide ((x.2.2.2.size : Int) > (65536 : Int)) then
            (some (3 : Int))
          else
            (some (0 : Int))))
      else
        (bif x.1 != (3 : Int) then
          ((F19 x.2.2.1).bind fun r1 =>
            bif r1 != (0 : Int) then
              (bif r1 != (0 : Int) then
                (some (10 : Int))
              else
                (bif decide ((x.2.2.2.size : Int) > (65536 : Int)) then
                  (some (3 : Int))
                else
                  (some (0 : Int))))
            else
              (bif bif (!(bif (x.1 == (4 : Int)) then true else (x.1 == (5 : Int)))) then (!(strEq x.2.2.2 (⟨#[]⟩ : ByteArray))) else false then
                (bif bif (!(bif (x.1 == (4 : Int)) then true else (x.1 == (5 : Int)))) then (!(strEq x.2.2.2 (⟨#[]⟩ : ByteArray))) else false then
                  (some (10 : Int))
                else
                  (bif decide ((x.2.2.2.size : Int) > (65536 : Int)) then
                    (some (3 : Int))
                  else
                    (some (0 : Int))))
              else
                (bif x.1 == (4 : Int) then
                  ((F20 x.2.2.2).bind fun r2 =>
                    bif !r2 then
                      (some (10 : Int))
                    else
                      (bif decide ((x.2.2.2.size : Int) > (65536 : Int)) then
                        (some (3 : Int))
                      else
                        (some (0 : Int))))
                else
                  (bif decide ((x.2.2.2.size : Int) > (65536 : Int)) then
                    (some (3 : Int))
                  else
                    (some (0 : Int))))))
        else
          (bif bif (!(bif (x.1 == (4 : Int)) then true else (x.1 == (5 : Int)))) then (!(strEq x.2.2.2 (⟨#[]⟩ : ByteArray))) else false then
            (bif bif (!(bif (x.1 == (4 : Int)) then true else (x.1 == (5 : Int)))) then (!(strEq x.2.2.2 (⟨#[]⟩ : ByteArray))) else false then
              (some (10 : Int))
            else
              (bif decide ((x.2.2.2.size : Int) > (65536 : Int)) then
                (some (3 : Int))
              else
                (some (0 : Int))))
          else
            (bif x.1 == (4 : Int) then
              ((F20 x.2.2.2).bind fun r3 =>
                bif !r3 then
                  (some (10 : Int))
                else
                  (bif decide ((x.2.2.2.size : Int) > (65536 : Int)) then
                    (some (3 : Int))
                  else
                    (some (0 : Int))))
            else
              (bif decide ((x.2.2.2.size : Int) > (65536 : Int)) then
                (some (3 : Int))
              else
                (some (0 : Int))))))))
set_option maxRecDepth 100000 in
theorem f8.eq (n : Nat) (x : dValue) : runK TT E8 n ann (tabC C8) 1 8 (argsL [(true, tValue)] x) [] (readL [(false, .int .i64)]) = f8.g n x := by
  kernel_rfl
set_option maxRecDepth 100000 in
theorem f8.codes : CodesOk Tryz.prog E8 ann (tabC C8) := tabC_ok (by intro p hp; simp only [C8, List.mem_cons, List.not_mem_nil, or_false] at hp; rcases hp with rfl <;> first | exact Tryz.func8) (by kernel_rfl)
theorem f8.ok (h : ∀ X Y, F8 X = some Y → ∃ n, f8.g n X = some Y) (e19 : ConOk Tryz.prog 19 con19) (e20 : ConOk Tryz.prog 20 con20) : ConOk Tryz.prog 8 (mkCon [(true, tValue)] [(false, .int .i64)] true F8) :=
  mkCon_ok mixed TT_ok (envC_ok e20 (envC_ok e19 env0_ok)) f8.codes (fun _ => List.all_eq_true.1 rfl) fun X Y hF => (h X Y hF).imp fun n hn => (f8.eq n X).trans hn
def con8 : Con := mkCon [(true, tValue)] [(false, .int .i64)] true F8
/-! ### vellum/value.Cast -/
def E5 : FuncId → Option Con := (envC 8 con8 env0)
noncomputable def C5 : List (FuncId × Func) := [(5, Tryz.f5), (10, Tryz.f10), (24, Tryz.f24)]
def f5.g (n : Nat) (x : dValue × Int) : Option (dValue × Int) :=
  (F8 ((2 : Int), ((7 : Int), (0, (⟨#[]⟩ : ByteArray))))).bind fun r1 =>
    bif r1 != (0 : Int) then
      (some (((0 : Int), ((0 : Int), (0, (⟨#[]⟩ : ByteArray)))), r1))
    else
      (some (((3 : Int), ((0 : Int), (FloatKind.f64.nearest (7 : Int), (⟨#[]⟩ : ByteArray)))), (0 : Int)))
def f5.at : dValue × Int := (((2 : Int), ((7 : Int), (0, (⟨#[]⟩ : ByteArray)))), (3 : Int))
set_option maxRecDepth 100000 in
theorem f5.eq (n : Nat) (x : dValue × Int) : runK TT E5 n ann (tabC C5) 3 5 (argsL [(true, tValue), (false, .int .i64)] f5.at) [] (readL [(true, tValue), (false, .int .i64)]) = f5.g n x := by
  kernel_rfl
set_option maxRecDepth 100000 in
theorem f5.codes : CodesOk Tryz.prog E5 ann (tabC C5) := tabC_ok (by intro p hp; simp only [C5, List.mem_cons, List.not_mem_nil, or_false] at hp; rcases hp with rfl | rfl | rfl <;> first | exact Tryz.func5 | exact Tryz.func10 | exact Tryz.func24) (by kernel_rfl)
theorem f5.ok (h : ∀ X Y, F5 X = some Y → X = f5.at ∧ ∃ n, f5.g n X = some Y) (e8 : ConOk Tryz.prog 8 con8) : ConOk Tryz.prog 5 (mkCon [(true, tValue), (false, .int .i64)] [(true, tValue), (false, .int .i64)] true F5) :=
  mkCon_ok mixed TT_ok (envC_ok e8 env0_ok) f5.codes (fun _ => List.all_eq_true.1 rfl) fun X Y hF => by
    obtain ⟨e, n, hn⟩ := h X Y hF
    subst e
    exact ⟨n, (f5.eq n f5.at).trans hn⟩
def con5 : Con := mkCon [(true, tValue), (false, .int .i64)] [(true, tValue), (false, .int .i64)] true F5
/-! ### vellum/value.mixed -/
def E15 : FuncId → Option Con := (envC 39 con39 (envC 13 con13 env0))
noncomputable def C15 : List (FuncId × Func) := [(15, Tryz.f15), (22, Tryz.f22), (27, Tryz.f27), (28, Tryz.f28), (42, Tryz.f42)]
def f15.g (n : Nat) (x : Int × Nat) : Option (Int) :=
  bif bif (FloatKind.f64.format.order x.2 x.2 != some .eq) then true else (FloatKind.f64.format.order x.2 4890909195324358656 == some .gt || FloatKind.f64.format.order x.2 4890909195324358656 == some .eq) then
    (some (-1 : Int))
  else
    (bif FloatKind.f64.format.order x.2 14114281232179134464 == some .lt then
      (some (1 : Int))
    else
      ((F39 x.2).bind fun r1 =>
        (fToI .f64 .i64 r1).bind fun r2 =>
          (F13 (x.1, r2)).bind fun r3 =>
            bif r3 != (0 : Int) then
              (some r3)
            else
              ((FloatKind.f64.format.sub x.2 r1).bind fun r4 =>
                bif FloatKind.f64.format.order 0 0 != some .eq then
                  (bif FloatKind.f64.format.order r4 r4 != some .eq then
                    (some (0 : Int))
                  else
                    (some (-1 : Int)))
                else
                  (bif FloatKind.f64.format.order r4 r4 != some .eq then
                    (some (1 : Int))
                  else
                    (bif FloatKind.f64.format.order 0 r4 == some .lt then
                      (some (-1 : Int))
                    else
                      (bif FloatKind.f64.format.order 0 r4 == some .gt then
                        (some (1 : Int))
                      else
                        (some (0 : Int))))))))
set_option maxRecDepth 100000 in
theorem f15.eq (n : Nat) (x : Int × Nat) : runK TT E15 n ann (tabC C15) 5 15 (argsL [(false, .int .i64), (false, .float .f64)] x) [] (readL [(false, .int .i64)]) = f15.g n x := by
  kernel_rfl
set_option maxRecDepth 100000 in
theorem f15.codes : CodesOk Tryz.prog E15 ann (tabC C15) := tabC_ok (by intro p hp; simp only [C15, List.mem_cons, List.not_mem_nil, or_false] at hp; rcases hp with rfl | rfl | rfl | rfl | rfl <;> first | exact Tryz.func15 | exact Tryz.func22 | exact Tryz.func27 | exact Tryz.func28 | exact Tryz.func42) (by kernel_rfl)
theorem f15.ok (h : ∀ X Y, F15 X = some Y → ∃ n, f15.g n X = some Y) (e13 : ConOk Tryz.prog 13 con13) (e39 : ConOk Tryz.prog 39 con39) : ConOk Tryz.prog 15 (mkCon [(false, .int .i64), (false, .float .f64)] [(false, .int .i64)] true F15) :=
  mkCon_ok mixed TT_ok (envC_ok e39 (envC_ok e13 env0_ok)) f15.codes (fun _ => List.all_eq_true.1 rfl) fun X Y hF => (h X Y hF).imp fun n hn => (f15.eq n X).trans hn
def con15 : Con := mkCon [(false, .int .i64), (false, .float .f64)] [(false, .int .i64)] true F15
/-! ### vellum/value.Numbers -/
def E6 : FuncId → Option Con := (envC 15 con15 (envC 14 con14 (envC 13 con13 env0)))
noncomputable def C6 : List (FuncId × Func) := [(6, Tryz.f6)]
def f6.g (n : Nat) (x : dValue × dValue) : Option (Int × Bool) :=
  bif x.1.1 == (2 : Int) then
    (bif x.2.1 == (2 : Int) then
      ((F13 (x.1.2.1, x.2.2.1)).bind fun r1 =>
        some (r1, true))
    else
      (bif x.1.1 == (3 : Int) then
        (bif x.2.1 == (3 : Int) then
          ((F14 (x.1.2.2.1, x.2.2.2.1)).bind fun r2 =>
            some (r2, true))
        else
          (bif x.1.1 == (2 : Int) then
            (bif x.2.1 == (3 : Int) then
              ((F15 (x.1.2.1, x.2.2.2.1)).bind fun r3 =>
                some (r3, true))
            else
              (bif x.1.1 == (3 : Int) then
                (bif x.2.1 == (2 : Int) then
                  ((F15 (x.2.2.1, x.1.2.2.1)).bind fun r4 =>
                    some (IntKind.wrap .i64 (0 - r4), true))
                else
                  (some ((0 : Int), false)))
              else
                (some ((0 : Int), false))))
          else
            (bif x.1.1 == (3 : Int) then
              (bif x.2.1 == (2 : Int) then
                ((F15 (x.2.2.1, x.1.2.2.1)).bind fun r5 =>
                  some (IntKind.wrap .i64 (0 - r5), true))
              else
                (some ((0 : Int), false)))
            else
              (some ((0 : Int), false)))))
      else
        (bif x.1.1 == (2 : Int) then
          (bif x.2.1 == (3 : Int) then
            ((F15 (x.1.2.1, x.2.2.2.1)).bind fun r6 =>
              some (r6, true))
          else
            (bif x.1.1 == (3 : Int) then
              (bif x.2.1 == (2 : Int) then
                ((F15 (x.2.2.1, x.1.2.2.1)).bind fun r7 =>
                  some (IntKind.wrap .i64 (0 - r7), true))
              else
                (some ((0 : Int), false)))
            else
              (some ((0 : Int), false))))
        else
          (bif x.1.1 == (3 : Int) then
            (bif x.2.1 == (2 : Int) then
              ((F15 (x.2.2.1, x.1.2.2.1)).bind fun r8 =>
                some (IntKind.wrap .i64 (0 - r8), true))
            else
              (some ((0 : Int), false)))
          else
            (some ((0 : Int), false))))))
  else
    (bif x.1.1 == (3 : Int) then
      (bif x.2.1 == (3 : Int) then
        ((F14 (x.1.2.2.1, x.2.2.2.1)).bind fun r9 =>
          some (r9, true))
      else
        (bif x.1.1 == (2 : Int) then
          (bif x.2.1 == (3 : Int) then
            ((F15 (x.1.2.1, x.2.2.2.1)).bind fun r10 =>
              some (r10, true))
          else
            (bif x.1.1 == (3 : Int) then
              (bif x.2.1 == (2 : Int) then
                ((F15 (x.2.2.1, x.1.2.2.1)).bind fun r11 =>
                  some (IntKind.wrap .i64 (0 - r11), true))
              else
                (some ((0 : Int), false)))
            else
              (some ((0 : Int), false))))
        else
          (bif x.1.1 == (3 : Int) then
            (bif x.2.1 == (2 : Int) then
              ((F15 (x.2.2.1, x.1.2.2.1)).bind fun r12 =>
                some (IntKind.wrap .i64 (0 - r12), true))
            else
              (some ((0 : Int), false)))
          else
            (some ((0 : Int), false)))))
    else
      (bif x.1.1 == (2 : Int) then
        (bif x.2.1 == (3 : Int) then
          ((F15 (x.1.2.1, x.2.2.2.1)).bind fun r13 =>
            some (r13, true))
        else
          (bif x.1.1 == (3 : Int) then
            (bif x.2.1 == (2 : Int) then
              ((F15 (x.2.2.1, x.1.2.2.1)).bind fun r14 =>
                some (IntKind.wrap .i64 (0 - r14), true))
            else
              (some ((0 : Int), false)))
          else
            (some ((0 : Int), false))))
      else
        (bif x.1.1 == (3 : Int) then
          (bif x.2.1 == (2 : Int) then
            ((F15 (x.2.2.1, x.1.2.2.1)).bind fun r15 =>
              some (IntKind.wrap .i64 (0 - r15), true))
          else
            (some ((0 : Int), false)))
        else
          (some ((0 : Int), false)))))
set_option maxRecDepth 100000 in
theorem f6.eq (n : Nat) (x : dValue × dValue) : runK TT E6 n ann (tabC C6) 1 6 (argsL [(true, tValue), (true, tValue)] x) [] (readL [(false, .int .i64), (false, .bool)]) = f6.g n x := by
  kernel_rfl
set_option maxRecDepth 100000 in
theorem f6.codes : CodesOk Tryz.prog E6 ann (tabC C6) := tabC_ok (by intro p hp; simp only [C6, List.mem_cons, List.not_mem_nil, or_false] at hp; rcases hp with rfl <;> first | exact Tryz.func6) (by kernel_rfl)
theorem f6.ok (h : ∀ X Y, F6 X = some Y → ∃ n, f6.g n X = some Y) (e13 : ConOk Tryz.prog 13 con13) (e14 : ConOk Tryz.prog 14 con14) (e15 : ConOk Tryz.prog 15 con15) : ConOk Tryz.prog 6 (mkCon [(true, tValue), (true, tValue)] [(false, .int .i64), (false, .bool)] true F6) :=
  mkCon_ok mixed TT_ok (envC_ok e15 (envC_ok e14 (envC_ok e13 env0_ok))) f6.codes (fun _ => List.all_eq_true.1 rfl) fun X Y hF => (h X Y hF).imp fun n hn => (f6.eq n X).trans hn
def con6 : Con := mkCon [(true, tValue), (true, tValue)] [(false, .int .i64), (false, .bool)] true F6
/-! ### vellum/value.Text -/
def E16 : FuncId → Option Con := (envC 30 con30 (envC 8 con8 env0))
noncomputable def C16 : List (FuncId × Func) := [(16, Tryz.f16)]
def f16.g (n : Nat) (x : dValue) : Option (ByteArray × Int) :=
  (F8 ((2 : Int), ((-7 : Int), (0, (⟨#[]⟩ : ByteArray))))).bind fun r1 =>
    bif r1 != (0 : Int) then
      (some ((⟨#[]⟩ : ByteArray), r1))
    else
      ((F30 ((-7 : Int), (10 : Int))).bind fun r2 =>
        some (r2, (0 : Int)))
def f16.at : dValue := ((2 : Int), ((-7 : Int), (0, (⟨#[]⟩ : ByteArray))))
set_option maxRecDepth 100000 in
theorem f16.eq (n : Nat) (x : dValue) : runK TT E16 n ann (tabC C16) 1 16 (argsL [(true, tValue)] f16.at) [] (readL [(false, .str), (false, .int .i64)]) = f16.g n x := by
  kernel_rfl
set_option maxRecDepth 100000 in
theorem f16.codes : CodesOk Tryz.prog E16 ann (tabC C16) := tabC_ok (by intro p hp; simp only [C16, List.mem_cons, List.not_mem_nil, or_false] at hp; rcases hp with rfl <;> first | exact Tryz.func16) (by kernel_rfl)
theorem f16.ok (h : ∀ X Y, F16 X = some Y → X = f16.at ∧ ∃ n, f16.g n X = some Y) (e8 : ConOk Tryz.prog 8 con8) (e30 : ConOk Tryz.prog 30 con30) : ConOk Tryz.prog 16 (mkCon [(true, tValue)] [(false, .str), (false, .int .i64)] true F16) :=
  mkCon_ok mixed TT_ok (envC_ok e30 (envC_ok e8 env0_ok)) f16.codes (fun _ => List.all_eq_true.1 rfl) fun X Y hF => by
    obtain ⟨e, n, hn⟩ := h X Y hF
    subst e
    exact ⟨n, (f16.eq n f16.at).trans hn⟩
def con16 : Con := mkCon [(true, tValue)] [(false, .str), (false, .int .i64)] true F16
/-! ### vellum/vellumlaw01.awake -/
def E7 : FuncId → Option Con := (envC 18 con18 (envC 16 con16 (envC 6 con6 env0)))
noncomputable def C7 : List (FuncId × Func) := [(7, Tryz.f7), (4, Tryz.f4), (17, Tryz.f17)]
def f7.g (n : Nat) (x : Unit) : Option (Bool) :=
  (F16 ((2 : Int), ((-7 : Int), (0, (⟨#[]⟩ : ByteArray))))).bind fun r1 =>
    (F6 (((2 : Int), ((1 : Int), (0, (⟨#[]⟩ : ByteArray)))), ((3 : Int), ((0 : Int), (4609434218613702656, (⟨#[]⟩ : ByteArray)))))).bind fun r2 =>
      bif bif (bif (bif (strEq r1.1 (⟨#[45, 55]⟩ : ByteArray)) then (r1.2 == (0 : Int)) else false) then (r2.1 == (-1 : Int)) else false) then r2.2 else false then
        ((F18 (((2 : Int), ((2 : Int), (0, (⟨#[]⟩ : ByteArray)))), ((2 : Int), ((1 : Int), (0, (⟨#[]⟩ : ByteArray)))))).bind fun r3 =>
          some (r3 == (1 : Int)))
      else
        (some false)
set_option maxRecDepth 100000 in
theorem f7.eq (n : Nat) (x : Unit) : runK TT E7 n ann (tabC C7) 3 7 (argsL [] x) [] (readL [(false, .bool)]) = f7.g n x := by
  kernel_rfl
set_option maxRecDepth 100000 in
theorem f7.codes : CodesOk Tryz.prog E7 ann (tabC C7) := tabC_ok (by intro p hp; simp only [C7, List.mem_cons, List.not_mem_nil, or_false] at hp; rcases hp with rfl | rfl | rfl <;> first | exact Tryz.func7 | exact Tryz.func4 | exact Tryz.func17) (by kernel_rfl)
theorem f7.ok (h : ∀ X Y, F7 X = some Y → ∃ n, f7.g n X = some Y) (e6 : ConOk Tryz.prog 6 con6) (e16 : ConOk Tryz.prog 16 con16) (e18 : ConOk Tryz.prog 18 con18) : ConOk Tryz.prog 7 (mkCon [] [(false, .bool)] true F7) :=
  mkCon_ok mixed TT_ok (envC_ok e18 (envC_ok e16 (envC_ok e6 env0_ok))) f7.codes (fun _ => List.all_eq_true.1 rfl) fun X Y hF => (h X Y hF).imp fun n hn => (f7.eq n X).trans hn
def con7 : Con := mkCon [] [(false, .bool)] true F7
/-! ### vellum/vellumlaw01.ValueBetween -/
def E3 : FuncId → Option Con := (envC 7 con7 (envC 6 con6 (envC 5 con5 env0)))
noncomputable def C3 : List (FuncId × Func) := [(3, Tryz.f3), (4, Tryz.f4)]
def f3.g (n : Nat) (x : Int × Int) : Option (Bool) :=
  (F5 (((2 : Int), (x.1, (0, (⟨#[]⟩ : ByteArray)))), (3 : Int))).bind fun r1 =>
    bif bif (r1.2 != (0 : Int)) then true else (r1.1.1 != (3 : Int)) then
      (some false)
    else
      ((F6 (((2 : Int), (x.1, (0, (⟨#[]⟩ : ByteArray)))), ((2 : Int), (x.2, (0, (⟨#[]⟩ : ByteArray)))))).bind fun r2 =>
        (F6 (r1.1, ((2 : Int), (x.2, (0, (⟨#[]⟩ : ByteArray)))))).bind fun r3 =>
          (F6 (((2 : Int), (x.1, (0, (⟨#[]⟩ : ByteArray)))), r1.1)).bind fun r4 =>
            bif bif (bif (!r2.2) then true else (!r3.2)) then true else (!r4.2) then
              (some false)
            else
              ((F7 ()).bind fun r5 =>
                bif !r5 then
                  (some false)
                else
                  (some (bif (!(bif (bif (decide (r4.1 ≤ (0 : Int))) then (decide (r3.1 ≤ (0 : Int))) else false) then (decide (r2.1 > (0 : Int))) else false)) then (!(bif (bif (decide (r4.1 ≥ (0 : Int))) then (decide (r3.1 ≥ (0 : Int))) else false) then (decide (r2.1 < (0 : Int))) else false)) else false))))
set_option maxRecDepth 100000 in
theorem f3.eq (n : Nat) (x : Int × Int) : runK TT E3 n ann (tabC C3) 2 3 (argsL [(false, .int .i64), (false, .int .i64)] x) [] (readL [(false, .bool)]) = f3.g n x := by
  kernel_rfl
set_option maxRecDepth 100000 in
theorem f3.codes : CodesOk Tryz.prog E3 ann (tabC C3) := tabC_ok (by intro p hp; simp only [C3, List.mem_cons, List.not_mem_nil, or_false] at hp; rcases hp with rfl | rfl <;> first | exact Tryz.func3 | exact Tryz.func4) (by kernel_rfl)
theorem f3.ok (h : ∀ X Y, (FL [(false, .int .i64), (false, .int .i64)]) X = some Y → ∃ n, f3.g n X = some Y) (e5 : ConOk Tryz.prog 5 con5) (e6 : ConOk Tryz.prog 6 con6) (e7 : ConOk Tryz.prog 7 con7) : ConOk Tryz.prog 3 (mkCon [(false, .int .i64), (false, .int .i64)] [(false, .bool)] true (FL [(false, .int .i64), (false, .int .i64)])) :=
  mkCon_ok mixed TT_ok (envC_ok e7 (envC_ok e6 (envC_ok e5 env0_ok))) f3.codes (fun _ => List.all_eq_true.1 rfl) fun X Y hF => (h X Y hF).imp fun n hn => (f3.eq n X).trans hn
def con3 : Con := mkCon [(false, .int .i64), (false, .int .i64)] [(false, .bool)] true (FL [(false, .int .i64), (false, .int .i64)])
end
end Go.Proofs.YthkigadgbckpoaaGreatDoor.AI
