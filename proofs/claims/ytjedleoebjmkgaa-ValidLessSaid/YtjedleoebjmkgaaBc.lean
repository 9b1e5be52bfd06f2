/- Runs of the program's functions over plain data. Printed by aipr.py; Lean checks them. -/
import Derived.Test.YtjedleoebjmkgaaBb
set_option linter.unusedVariables false
set_option linter.unusedSimpArgs false
namespace Go.Proofs.Ytjedleoebjmkgaa.AI
open Go
noncomputable section
def con68 : Con := mkCon [(false, .str), (false, .str)] [(false, .int .i64)] true F68
/-! ### cmp.Compare[int] -/
def E67 : FuncId → Option Con := env0
noncomputable def C67 : List (FuncId × Func) := [(67, Try.f67), (71, Try.f71)]
def f67.g (n : Nat) (x : Int × Int) : Option (Int) :=
  bif x.1 != x.1 then
    (bif x.2 != x.2 then
      (some (0 : Int))
    else
      (some (-1 : Int)))
  else
    (bif x.2 != x.2 then
      (some (1 : Int))
    else
      (bif decide (x.1 < x.2) then
        (some (-1 : Int))
      else
        (bif decide (x.1 > x.2) then
          (some (1 : Int))
        else
          (some (0 : Int)))))
set_option maxRecDepth 100000 in
theorem f67.eq (n : Nat) (x : Int × Int) : runK TT E67 n ann (tabC C67) 2 67 (argsL [(false, .int .i64), (false, .int .i64)] x) [] (readL [(false, .int .i64)]) = f67.g n x := by
  kernel_rfl
set_option maxRecDepth 100000 in
theorem f67.codes : CodesOk Try.prog E67 ann (tabC C67) := tabC_ok (by intro p hp; simp only [C67, List.mem_cons, List.not_mem_nil, or_false] at hp; rcases hp with rfl | rfl <;> first | exact Try.func67 | exact Try.func71) (by kernel_rfl)
theorem f67.ok (h : ∀ X Y, F67 X = some Y → ∃ n, f67.g n X = some Y)  : ConOk Try.prog 67 (mkCon [(false, .int .i64), (false, .int .i64)] [(false, .int .i64)] true F67) :=
  mkCon_ok mixed TT_ok env0_ok f67.codes (fun _ => List.all_eq_true.1 rfl) fun X Y hF => (h X Y hF).imp fun n hn => (f67.eq n X).trans hn
def con67 : Con := mkCon [(false, .int .i64), (false, .int .i64)] [(false, .int .i64)] true F67
/-! ### cmp.Or[int] -/
def E66 : FuncId → Option Con := env0
noncomputable def C66 : List (FuncId × Func) := [(66, Try.f66)]
def f66.h1 (x : (List Int)) (y1 : Int) : List AV × List Ob := ([.undef, .undef, .undef, .val false [.sc (.int .i64) (0 : Int)], .undef, .undef, .val false [.sc (.sl (.int .i64)) x], .val false [.sc (.int .i64) (x.length : Int)], .val false [.sc (.int .i64) y1]] ++ List.replicate 9 .undef, [])
def f66.L1 (n : Nat) (x : (List Int)) (m1 : Nat) (y1 : Int) : Option (Int) :=
  loopN (ann 66 3).keep 0 (fun fr H k => execK TT 0 E66 (inlD TT E66 n ann (tabC C66) 1) n (ann 66) (subC [1, 1, 0, 1, 0, 0] (bodyOf Try.f66)) fr H k) m1 (f66.h1 x y1).1 (f66.h1 x y1).2 (kont TT 0 E66 (inlD TT E66 n ann (tabC C66) 1) n (ann 66) [1, 1, 0, 1, 0] (bodyOf Try.f66) (endK TT Try.f66 (readL [(false, .int .i64)])))
def f66.s1 (n : Nat) (x : (List Int)) (S1 : Int → Option (Int)) (y1 : Int) : Option (Int) :=
  bif decide (y1 < (x.length : Int)) then
    (bif decide (0 ≤ y1) && decide (y1 < (x.length : Int)) then
      (bif x.getD y1.toNat (Ty.dflt (.int .i64)) != (0 : Int) then
        (some (x.getD y1.toNat (Ty.dflt (.int .i64))))
      else
        (S1 (IntKind.wrap .i64 (y1 + (1 : Int)))))
    else
      (none))
  else
    (some (0 : Int))
set_option maxRecDepth 100000 in
theorem f66.k1 (n : Nat) (x : (List Int)) (m : Nat) (y : Int) : f66.L1 n x (m + 1) y = f66.s1 n x (f66.L1 n x m) y := by kernel_rfl
theorem f66.l1 (n : Nat) (x : (List Int)) : ∀ (m : Nat) (y1 : Int), f66.L1 n x m y1 = iter (f66.s1 n x) m y1 :=
  loop_of (L := f66.L1 n x) (step := f66.s1 n x) (fun _ => rfl) (f66.k1 n x)
def f66.g (n : Nat) (x : (List Int)) : Option (Int) :=
  iter (f66.s1 n x) n (0 : Int)
def f66.q (n : Nat) (x : (List Int)) : Option (Int) :=
  f66.L1 n x n (0 : Int)
set_option maxRecDepth 100000 in
theorem f66.eq (n : Nat) (x : (List Int)) : runK TT E66 n ann (tabC C66) 1 66 (argsL [(false, .sl (.int .i64))] x) [] (readL [(false, .int .i64)]) = f66.g n x := by
  have h : runK TT E66 n ann (tabC C66) 1 66 (argsL [(false, .sl (.int .i64))] x) [] (readL [(false, .int .i64)]) = f66.q n x := by kernel_rfl
  rw [h]
  simp only [f66.q, f66.g, f66.l1]
set_option maxRecDepth 100000 in
theorem f66.codes : CodesOk Try.prog E66 ann (tabC C66) := tabC_ok (by intro p hp; simp only [C66, List.mem_cons, List.not_mem_nil, or_false] at hp; rcases hp with rfl <;> first | exact Try.func66) (by kernel_rfl)
theorem f66.ok (h : ∀ X Y, F66 X = some Y → ∃ n, f66.g n X = some Y)  : ConOk Try.prog 66 (mkCon [(false, .sl (.int .i64))] [(false, .int .i64)] true F66) :=
  mkCon_ok mixed TT_ok env0_ok f66.codes (fun _ => List.all_eq_true.1 rfl) fun X Y hF => (h X Y hF).imp fun n hn => (f66.eq n X).trans hn
def con66 : Con := mkCon [(false, .sl (.int .i64))] [(false, .int .i64)] true F66
/-! ### vellum/sets.before -/
def E58 : FuncId → Option Con := (envC 68 con68 (envC 67 con67 (envC 66 con66 env0)))
noncomputable def C58 : List (FuncId × Func) := [(58, Try.f58)]
def f58.g (n : Nat) (x : dPoint × dPoint) : Option (Int) :=
  (F67 (x.1.1, x.2.1)).bind fun r1 =>
    (F67 (x.1.2.1, x.2.2.1)).bind fun r2 =>
      (F68 (x.1.2.2, x.2.2.2)).bind fun r3 =>
        (F66 (List.take 3 ([r1, r2, r3]))).bind fun r4 =>
          some r4
set_option maxRecDepth 100000 in
theorem f58.eq (n : Nat) (x : dPoint × dPoint) : runK TT E58 n ann (tabC C58) 1 58 (argsL [(true, tPoint), (true, tPoint)] x) [] (readL [(false, .int .i64)]) = f58.g n x := by
  kernel_rfl
set_option maxRecDepth 100000 in
theorem f58.codes : CodesOk Try.prog E58 ann (tabC C58) := tabC_ok (by intro p hp; simp only [C58, List.mem_cons, List.not_mem_nil, or_false] at hp; rcases hp with rfl <;> first | exact Try.func58) (by kernel_rfl)
theorem f58.ok (h : ∀ X Y, F58 X = some Y → ∃ n, f58.g n X = some Y) (e66 : ConOk Try.prog 66 con66) (e67 : ConOk Try.prog 67 con67) (e68 : ConOk Try.prog 68 con68) : ConOk Try.prog 58 (mkCon [(true, tPoint), (true, tPoint)] [(false, .int .i64)] true F58) :=
  mkCon_ok mixed TT_ok (envC_ok e68 (envC_ok e67 (envC_ok e66 env0_ok))) f58.codes (fun _ => List.all_eq_true.1 rfl) fun X Y hF => (h X Y hF).imp fun n hn => (f58.eq n X).trans hn
def con58 : Con := mkCon [(true, tPoint), (true, tPoint)] [(false, .int .i64)] true F58
/-! ### vellum/code.Has -/
def E61 : FuncId → Option Con := env0
noncomputable def C61 : List (FuncId × Func) := [(61, Try.f61)]
def f61.g (n : Nat) (x : dRange × ByteArray) : Option (Bool) :=
  some (bif (!(strLt x.2 x.1.1)) then (bif x.1.2.2 then true else (strLt x.2 x.1.2.1)) else false)
set_option maxRecDepth 100000 in
theorem f61.eq (n : Nat) (x : dRange × ByteArray) : runK TT E61 n ann (tabC C61) 1 61 (argsL [(true, tRange), (false, .str)] x) [] (readL [(false, .bool)]) = f61.g n x := by
  kernel_rfl
set_option maxRecDepth 100000 in
theorem f61.codes : CodesOk Try.prog E61 ann (tabC C61) := tabC_ok (by intro p hp; simp only [C61, List.mem_cons, List.not_mem_nil, or_false] at hp; rcases hp with rfl <;> first | exact Try.func61) (by kernel_rfl)
theorem f61.ok (h : ∀ X Y, F61 X = some Y → ∃ n, f61.g n X = some Y)  : ConOk Try.prog 61 (mkCon [(true, tRange), (false, .str)] [(false, .bool)] true F61) :=
  mkCon_ok mixed TT_ok env0_ok f61.codes (fun _ => List.all_eq_true.1 rfl) fun X Y hF => (h X Y hF).imp fun n hn => (f61.eq n X).trans hn
def con61 : Con := mkCon [(true, tRange), (false, .str)] [(false, .bool)] true F61
/-! ### slices.IndexFunc[[]vellum/api.Point,vellum/api.Point] -/
def E64 : FuncId → Option Con := env0
noncomputable def C64 : List (FuncId × Func) := [(64, Try.f64), (52, Try.f52), (53, Try.f53)]
def f64.h1 (x : (List dPoint) × (Unit)) (y1 : Int) : List AV × List Ob := ([.val false [.sc (.sl tPoint) x.1], .val false [.fn 52 []], .undef, .undef, .undef, .undef, .undef, .val false [.sc (.int .i64) (x.1.length : Int)], .val false [.sc (.int .i64) y1]] ++ List.replicate 10 .undef, [])
def f64.L1 (n : Nat) (x : (List dPoint) × (Unit)) (m1 : Nat) (y1 : Int) : Option (Int) :=
  loopN (ann 64 2).keep 0 (fun fr H k => execK TT 0 E64 (inlD TT E64 n ann (tabC C64) 3) n (ann 64) (subC [1, 0, 1, 0, 0] (bodyOf Try.f64)) fr H k) m1 (f64.h1 x y1).1 (f64.h1 x y1).2 (kont TT 0 E64 (inlD TT E64 n ann (tabC C64) 3) n (ann 64) [1, 0, 1, 0] (bodyOf Try.f64) (endK TT Try.f64 (readL [(false, .int .i64)])))
def f64.s1 (n : Nat) (x : (List dPoint) × (Unit)) (S1 : Int → Option (Int)) (y1 : Int) : Option (Int) :=
  bif decide (y1 < (x.1.length : Int)) then
    (bif decide (0 ≤ y1) && decide (y1 < (x.1.length : Int)) then
      (bif !(bif (decide ((x.1.getD y1.toNat tPoint.dflt).1 ≥ (0 : Int))) then (decide ((x.1.getD y1.toNat tPoint.dflt).2.1 ≥ (-1 : Int))) else false) then
        (some y1)
      else
        (S1 (IntKind.wrap .i64 (y1 + (1 : Int)))))
    else
      (none))
  else
    (some (-1 : Int))
set_option maxRecDepth 100000 in
theorem f64.k1 (n : Nat) (x : (List dPoint) × (Unit)) (m : Nat) (y : Int) : f64.L1 n x (m + 1) y = f64.s1 n x (f64.L1 n x m) y := by kernel_rfl
theorem f64.l1 (n : Nat) (x : (List dPoint) × (Unit)) : ∀ (m : Nat) (y1 : Int), f64.L1 n x m y1 = iter (f64.s1 n x) m y1 :=
  loop_of (L := f64.L1 n x) (step := f64.s1 n x) (fun _ => rfl) (f64.k1 n x)
def f64.g (n : Nat) (x : (List dPoint) × (Unit)) : Option (Int) :=
  iter (f64.s1 n x) n (0 : Int)
def f64.q (n : Nat) (x : (List dPoint) × (Unit)) : Option (Int) :=
  f64.L1 n x n (0 : Int)
set_option maxRecDepth 100000 in
theorem f64.eq (n : Nat) (x : (List dPoint) × (Unit)) : runK TT E64 n ann (tabC C64) 3 64 (avL [.dat false (.sl tPoint), .clo 52 []] x) [] (readL [(false, .int .i64)]) = f64.g n x := by
  have h : runK TT E64 n ann (tabC C64) 3 64 (avL [.dat false (.sl tPoint), .clo 52 []] x) [] (readL [(false, .int .i64)]) = f64.q n x := by kernel_rfl
  rw [h]
  simp only [f64.q, f64.g, f64.l1]
set_option maxRecDepth 100000 in
theorem f64.codes : CodesOk Try.prog E64 ann (tabC C64) := tabC_ok (by intro p hp; simp only [C64, List.mem_cons, List.not_mem_nil, or_false] at hp; rcases hp with rfl | rfl | rfl <;> first | exact Try.func64 | exact Try.func52 | exact Try.func53) (by kernel_rfl)
theorem f64.ok (h : ∀ X Y, F64 X = some Y → ∃ n, f64.g n X = some Y)  : ConOk Try.prog 64 (mkConF [.dat false (.sl tPoint), .clo 52 []] [(false, .int .i64)] F64) :=
  mkConF_ok mixed TT_ok env0_ok f64.codes (List.all_eq_true.1 rfl) fun X Y hF => (h X Y hF).imp fun n hn => (f64.eq n X).trans hn
def con64 : Con := mkConF [.dat false (.sl tPoint), .clo 52 []] [(false, .int .i64)] F64
/-! ### slices.ContainsFunc[[]vellum/api.Point,vellum/api.Point] -/
def E55 : FuncId → Option Con := (envC 64 con64 env0)
noncomputable def C55 : List (FuncId × Func) := [(55, Try.f55), (52, Try.f52), (53, Try.f53)]
def f55.g (n : Nat) (x : (List dPoint) × (Unit)) : Option (Bool) :=
  (F64 (x.1, ())).bind fun r1 =>
    some (decide (r1 ≥ (0 : Int)))
set_option maxRecDepth 100000 in
theorem f55.eq (n : Nat) (x : (List dPoint) × (Unit)) : runK TT E55 n ann (tabC C55) 3 55 (avL [.dat false (.sl tPoint), .clo 52 []] x) [] (readL [(false, .bool)]) = f55.g n x := by
  kernel_rfl
set_option maxRecDepth 100000 in
theorem f55.codes : CodesOk Try.prog E55 ann (tabC C55) := tabC_ok (by intro p hp; simp only [C55, List.mem_cons, List.not_mem_nil, or_false] at hp; rcases hp with rfl | rfl | rfl <;> first | exact Try.func55 | exact Try.func52 | exact Try.func53) (by kernel_rfl)
theorem f55.ok (h : ∀ X Y, F55 X = some Y → ∃ n, f55.g n X = some Y) (e64 : ConOk Try.prog 64 con64) : ConOk Try.prog 55 (mkConF [.dat false (.sl tPoint), .clo 52 []] [(false, .bool)] F55) :=
  mkConF_ok mixed TT_ok (envC_ok e64 env0_ok) f55.codes (List.all_eq_true.1 rfl) fun X Y hF => (h X Y hF).imp fun n hn => (f55.eq n X).trans hn
def con55 : Con := mkConF [.dat false (.sl tPoint), .clo 52 []] [(false, .bool)] F55
/-! ### slices.IndexFunc[[]vellum/api.Span,vellum/api.Span] -/
def E65a : FuncId → Option Con := env0
noncomputable def C65a : List (FuncId × Func) := [(65, Try.f65), (53, Try.f53), (57, Try.f57)]
def f65a.h1 (x : (List dSpan) × (Unit)) (y1 : Int) : List AV × List Ob := ([.val false [.sc (.sl tSpan) x.1], .val false [.fn 57 []], .undef, .undef, .undef, .undef, .undef, .val false [.sc (.int .i64) (x.1.length : Int)], .val false [.sc (.int .i64) y1]] ++ List.replicate 10 .undef, [])
def f65a.L1 (n : Nat) (x : (List dSpan) × (Unit)) (m1 : Nat) (y1 : Int) : Option (Int) :=
  loopN (ann 65 2).keep 0 (fun fr H k => execK TT 0 E65a (inlD TT E65a n ann (tabC C65a) 3) n (ann 65) (subC [1, 0, 1, 0, 0] (bodyOf Try.f65)) fr H k) m1 (f65a.h1 x y1).1 (f65a.h1 x y1).2 (kont TT 0 E65a (inlD TT E65a n ann (tabC C65a) 3) n (ann 65) [1, 0, 1, 0] (bodyOf Try.f65) (endK TT Try.f65 (readL [(false, .int .i64)])))
def f65a.s1 (n : Nat) (x : (List dSpan) × (Unit)) (S1 : Int → Option (Int)) (y1 : Int) : Option (Int) :=
  bif decide (y1 < (x.1.length : Int)) then
    (bif decide (0 ≤ y1) && decide (y1 < (x.1.length : Int)) then
      (bif !(bif (decide ((x.1.getD y1.toNat tSpan.dflt).1 ≥ (0 : Int))) then (decide ((x.1.getD y1.toNat tSpan.dflt).2.1 ≥ (-1 : Int))) else false) then
        (some y1)
      else
        (S1 (IntKind.wrap .i64 (y1 + (1 : Int)))))
    else
      (none))
  else
    (some (-1 : Int))
set_option maxRecDepth 100000 in
theorem f65a.k1 (n : Nat) (x : (List dSpan) × (Unit)) (m : Nat) (y : Int) : f65a.L1 n x (m + 1) y = f65a.s1 n x (f65a.L1 n x m) y := by kernel_rfl
theorem f65a.l1 (n : Nat) (x : (List dSpan) × (Unit)) : ∀ (m : Nat) (y1 : Int), f65a.L1 n x m y1 = iter (f65a.s1 n x) m y1 :=
  loop_of (L := f65a.L1 n x) (step := f65a.s1 n x) (fun _ => rfl) (f65a.k1 n x)
def f65a.g (n : Nat) (x : (List dSpan) × (Unit)) : Option (Int) :=
  iter (f65a.s1 n x) n (0 : Int)
def f65a.q (n : Nat) (x : (List dSpan) × (Unit)) : Option (Int) :=
  f65a.L1 n x n (0 : Int)
set_option maxRecDepth 100000 in
theorem f65a.eq (n : Nat) (x : (List dSpan) × (Unit)) : runK TT E65a n ann (tabC C65a) 3 65 (avL [.dat false (.sl tSpan), .clo 57 []] x) [] (readL [(false, .int .i64)]) = f65a.g n x := by
  have h : runK TT E65a n ann (tabC C65a) 3 65 (avL [.dat false (.sl tSpan), .clo 57 []] x) [] (readL [(false, .int .i64)]) = f65a.q n x := by kernel_rfl
  rw [h]
  simp only [f65a.q, f65a.g, f65a.l1]
set_option maxRecDepth 100000 in
theorem f65a.codes : CodesOk Try.prog E65a ann (tabC C65a) := tabC_ok (by intro p hp; simp only [C65a, List.mem_cons, List.not_mem_nil, or_false] at hp; rcases hp with rfl | rfl | rfl <;> first | exact Try.func65 | exact Try.func53 | exact Try.func57) (by kernel_rfl)
theorem f65a.ok (h : ∀ X Y, F65a X = some Y → ∃ n, f65a.g n X = some Y)  : ConOk Try.prog 65 (gCon [(false, .int .i64)] (PmL [.dat false (.sl tSpan), .clo 57 []]) (fun l H => lookPL H [.dat false (.sl tSpan), .clo 57 []] l) F65a) :=
  mkConF_ok mixed TT_ok env0_ok f65a.codes (List.all_eq_true.1 rfl) fun X Y hF => (h X Y hF).imp fun n hn => (f65a.eq n X).trans hn
/-! ### slices.IndexFunc[[]vellum/api.Span,vellum/api.Span] -/
def E65b : FuncId → Option Con := (envC 61 con61 env0)
noncomputable def C65b : List (FuncId × Func) := [(65, Try.f65), (60, Try.f60)]
def f65b.h1 (x : (List dSpan) × dPoint) (y1 : Int) : List AV × List Ob := ([.val false [.sc (.sl tSpan) x.1], .val false [.fnr 60 [⟨tPoint, x.2⟩]], .undef, .undef, .undef, .undef, .undef, .val false [.sc (.int .i64) (x.1.length : Int)], .val false [.sc (.int .i64) y1]] ++ List.replicate 10 .undef, [])
def f65b.L1 (n : Nat) (x : (List dSpan) × dPoint) (m1 : Nat) (y1 : Int) : Option (Int) :=
  loopN (ann 65 2).keep 0 (fun fr H k => execK TT 0 E65b (inlD TT E65b n ann (tabC C65b) 2) n (ann 65) (subC [1, 0, 1, 0, 0] (bodyOf Try.f65)) fr H k) m1 (f65b.h1 x y1).1 (f65b.h1 x y1).2 (kont TT 0 E65b (inlD TT E65b n ann (tabC C65b) 2) n (ann 65) [1, 0, 1, 0] (bodyOf Try.f65) (endK TT Try.f65 (readL [(false, .int .i64)])))
def f65b.s1 (n : Nat) (x : (List dSpan) × dPoint) (S1 : Int → Option (Int)) (y1 : Int) : Option (Int) :=
  bif decide (y1 < (x.1.length : Int)) then
    (bif decide (0 ≤ y1) && decide (y1 < (x.1.length : Int)) then
      (bif bif ((x.1.getD y1.toNat tSpan.dflt).1 == x.2.1) then ((x.1.getD y1.toNat tSpan.dflt).2.1 == x.2.2.1) else false then
        ((F61 ((x.1.getD y1.toNat tSpan.dflt).2.2, x.2.2.2)).bind fun r2 =>
          bif r2 then
            (some y1)
          else
            (S1 (IntKind.wrap .i64 (y1 + (1 : Int)))))
      else
        (S1 (IntKind.wrap .i64 (y1 + (1 : Int)))))
    else
      (none))
  else
    (some (-1 : Int))
set_option maxRecDepth 100000 in
theorem f65b.k1 (n : Nat) (x : (List dSpan) × dPoint) (m : Nat) (y : Int) : f65b.L1 n x (m + 1) y = f65b.s1 n x (f65b.L1 n x m) y := by kernel_rfl
theorem f65b.l1 (n : Nat) (x : (List dSpan) × dPoint) : ∀ (m : Nat) (y1 : Int), f65b.L1 n x m y1 = iter (f65b.s1 n x) m y1 :=
  loop_of (L := f65b.L1 n x) (step := f65b.s1 n x) (fun _ => rfl) (f65b.k1 n x)
def f65b.g (n : Nat) (x : (List dSpan) × dPoint) : Option (Int) :=
  iter (f65b.s1 n x) n (0 : Int)
def f65b.q (n : Nat) (x : (List dSpan) × dPoint) : Option (Int) :=
  f65b.L1 n x n (0 : Int)
set_option maxRecDepth 100000 in
theorem f65b.eq (n : Nat) (x : (List dSpan) × dPoint) : runK TT E65b n ann (tabC C65b) 2 65 (avL [.dat false (.sl tSpan), .clo 60 [(true, tPoint)]] x) [] (readL [(false, .int .i64)]) = f65b.g n x := by
  have h : runK TT E65b n ann (tabC C65b) 2 65 (avL [.dat false (.sl tSpan), .clo 60 [(true, tPoint)]] x) [] (readL [(false, .int .i64)]) = f65b.q n x := by kernel_rfl
  rw [h]
  simp only [f65b.q, f65b.g, f65b.l1]
set_option maxRecDepth 100000 in
theorem f65b.codes : CodesOk Try.prog E65b ann (tabC C65b) := tabC_ok (by intro p hp; simp only [C65b, List.mem_cons, List.not_mem_nil, or_false] at hp; rcases hp with rfl | rfl <;> first | exact Try.func65 | exact Try.func60) (by kernel_rfl)
theorem f65b.ok (h : ∀ X Y, F65b X = some Y → ∃ n, f65b.g n X = some Y) (e61 : ConOk Try.prog 61 con61) : ConOk Try.prog 65 (gCon [(false, .int .i64)] (PmL [.dat false (.sl tSpan), .clo 60 [(true, tPoint)]]) (fun l H => lookPL H [.dat false (.sl tSpan), .clo 60 [(true, tPoint)]] l) F65b) :=
  mkConF_ok mixed TT_ok (envC_ok e61 env0_ok) f65b.codes (List.all_eq_true.1 rfl) fun X Y hF => (h X Y hF).imp fun n hn => (f65b.eq n X).trans hn
def con65 : Con := gCon [(false, .int .i64)] ((PmL [.dat false (.sl tSpan), .clo 57 []]) ⊕ (PmL [.dat false (.sl tSpan), .clo 60 [(true, tPoint)]])) (orLook 57 (fun l H => lookPL H [.dat false (.sl tSpan), .clo 57 []] l) (fun l H => lookPL H [.dat false (.sl tSpan), .clo 60 [(true, tPoint)]] l)) (orF F65a F65b)
/-! ### slices.ContainsFunc[[]vellum/api.Span,vellum/api.Span] -/
def E56a : FuncId → Option Con := (envC 65 con65 env0)
noncomputable def C56a : List (FuncId × Func) := [(56, Try.f56), (53, Try.f53), (57, Try.f57)]
def f56a.g (n : Nat) (x : (List dSpan) × (Unit)) : Option (Bool) :=
  (F65a (x.1, ())).bind fun r1 =>
    some (decide (r1 ≥ (0 : Int)))
set_option maxRecDepth 100000 in
theorem f56a.eq (n : Nat) (x : (List dSpan) × (Unit)) : runK TT E56a n ann (tabC C56a) 3 56 (avL [.dat false (.sl tSpan), .clo 57 []] x) [] (readL [(false, .bool)]) = f56a.g n x := by
  kernel_rfl
set_option maxRecDepth 100000 in
theorem f56a.codes : CodesOk Try.prog E56a ann (tabC C56a) := tabC_ok (by intro p hp; simp only [C56a, List.mem_cons, List.not_mem_nil, or_false] at hp; rcases hp with rfl | rfl | rfl <;> first | exact Try.func56 | exact Try.func53 | exact Try.func57) (by kernel_rfl)
theorem f56a.ok (h : ∀ X Y, F56a X = some Y → ∃ n, f56a.g n X = some Y) (e65 : ConOk Try.prog 65 con65) : ConOk Try.prog 56 (gCon [(false, .bool)] (PmL [.dat false (.sl tSpan), .clo 57 []]) (fun l H => lookPL H [.dat false (.sl tSpan), .clo 57 []] l) F56a) :=
  mkConF_ok mixed TT_ok (envC_ok e65 env0_ok) f56a.codes (List.all_eq_true.1 rfl) fun X Y hF => (h X Y hF).imp fun n hn => (f56a.eq n X).trans hn
/-! ### slices.ContainsFunc[[]vellum/api.Span,vellum/api.Span] -/
def E56b : FuncId → Option Con := (envC 65 con65 (envC 61 con61 env0))
noncomputable def C56b : List (FuncId × Func) := [(56, Try.f56), (60, Try.f60)]
def f56b.g (n : Nat) (x : (List dSpan) × dPoint) : Option (Bool) :=
  (F65b x).bind fun r1 =>
    some (decide (r1 ≥ (0 : Int)))
set_option maxRecDepth 100000 in
theorem f56b.eq (n : Nat) (x : (List dSpan) × dPoint) : runK TT E56b n ann (tabC C56b) 2 56 (avL [.dat false (.sl tSpan), .clo 60 [(true, tPoint)]] x) [] (readL [(false, .bool)]) = f56b.g n x := by
  kernel_rfl
set_option maxRecDepth 100000 in
theorem f56b.codes : CodesOk Try.prog E56b ann (tabC C56b) := tabC_ok (by intro p hp; simp only [C56b, List.mem_cons, List.not_mem_nil, or_false] at hp; rcases hp with rfl | rfl <;> first | exact Try.func56 | exact Try.func60) (by kernel_rfl)
theorem f56b.ok (h : ∀ X Y, F56b X = some Y → ∃ n, f56b.g n X = some Y) (e61 : ConOk Try.prog 61 con61) (e65 : ConOk Try.prog 65 con65) : ConOk Try.prog 56 (gCon [(false, .bool)] (PmL [.dat false (.sl tSpan), .clo 60 [(true, tPoint)]]) (fun l H => lookPL H [.dat false (.sl tSpan), .clo 60 [(true, tPoint)]] l) F56b) :=
  mkConF_ok mixed TT_ok (envC_ok e65 (envC_ok e61 env0_ok)) f56b.codes (List.all_eq_true.1 rfl) fun X Y hF => (h X Y hF).imp fun n hn => (f56b.eq n X).trans hn
def con56 : Con := gCon [(false, .bool)] ((PmL [.dat false (.sl tSpan), .clo 57 []]) ⊕ (PmL [.dat false (.sl tSpan), .clo 60 [(true, tPoint)]])) (orLook 57 (fun l H => lookPL H [.dat false (.sl tSpan), .clo 57 []] l) (fun l H => lookPL H [.dat false (.sl tSpan), .clo 60 [(true, tPoint)]] l)) (orF F56a F56b)
/-! ### vellum/sets.Check -/
def E38 : FuncId → Option Con := (envC 56 con56 (envC 55 con55 env0))
noncomputable def C38 : List (FuncId × Func) := [(38, Try.f38), (52, Try.f52), (53, Try.f53), (54, Try.f54), (57, Try.f57)]
def f38.g (n : Nat) (x : dFoot) : Option (Int) :=
  bif decide (IntKind.wrap .i64 (IntKind.wrap .i64 ((x.1.length : Int) + (x.2.1.length : Int)) + (x.2.2.length : Int)) > (65536 : Int)) then
    (some (2 : Int))
  else
    ((F55 (x.1, ())).bind fun r1 =>
      bif r1 then
        (bif r1 then
          (some (1 : Int))
        else
          (some (0 : Int)))
      else
        ((F55 (x.2.2, ())).bind fun r2 =>
          bif r2 then
            (bif r2 then
              (some (1 : Int))
            else
              (some (0 : Int)))
          else
            ((F56a (x.2.1, ())).bind fun r3 =>
              bif r3 then
                (some (1 : Int))
              else
                (some (0 : Int)))))
set_option maxRecDepth 100000 in
theorem f38.eq (n : Nat) (x : dFoot) : runK TT E38 n ann (tabC C38) 5 38 (argsL [(true, tFoot)] x) [] (readL [(false, .int .i64)]) = f38.g n x := by
  kernel_rfl
set_option maxRecDepth 100000 in
theorem f38.codes : CodesOk Try.prog E38 ann (tabC C38) := tabC_ok (by intro p hp; simp only [C38, List.mem_cons, List.not_mem_nil, or_false] at hp; rcases hp with rfl | rfl | rfl | rfl | rfl <;> first | exact Try.func38 | exact Try.func52 | exact Try.func53 | exact Try.func54 | exact Try.func57) (by kernel_rfl)
theorem f38.ok (h : ∀ X Y, F38 X = some Y → ∃ n, f38.g n X = some Y) (e55 : ConOk Try.prog 55 con55) (e56 : ConOk Try.prog 56 con56) : ConOk Try.prog 38 (mkCon [(true, tFoot)] [(false, .int .i64)] true F38) :=
  mkCon_ok mixed TT_ok (envC_ok e56 (envC_ok e55 env0_ok)) f38.codes (fun _ => List.all_eq_true.1 rfl) fun X Y hF => (h X Y hF).imp fun n hn => (f38.eq n X).trans hn
def con38 : Con := mkCon [(true, tFoot)] [(false, .int .i64)] true F38
/-! ### slices.Index[[]vellum/api.Point,vellum/api.Point] -/
def E69 : FuncId → Option Con := env0
noncomputable def C69 : List (FuncId × Func) := [(69, Try.f69)]
def f69.h1 (x : (List dPoint) × dPoint) (y1 : Int) : List AV × List Ob := ([.val false [.sc (.sl tPoint) x.1], .undef, .undef, .val false [.ptr 0 0], .undef, .undef, .undef, .val false [.sc (.int .i64) (x.1.length : Int)], .val false [.sc (.int .i64) y1]] ++ List.replicate 10 .undef, [.box [.sc (.int .i64) x.2.1, .sc (.int .i64) x.2.2.1, .sc .str x.2.2.2]])
def f69.L1 (n : Nat) (x : (List dPoint) × dPoint) (m1 : Nat) (y1 : Int) : Option (Int) :=
  loopN (ann 69 2).keep 1 (fun fr H k => execK TT 0 E69 (inlD TT E69 n ann (tabC C69) 1) n (ann 69) (subC [1, 0, 1, 0, 0] (bodyOf Try.f69)) fr H k) m1 (f69.h1 x y1).1 (f69.h1 x y1).2 (kont TT 0 E69 (inlD TT E69 n ann (tabC C69) 1) n (ann 69) [1, 0, 1, 0] (bodyOf Try.f69) (endK TT Try.f69 (readL [(false, .int .i64)])))
def f69.s1 (n : Nat) (x : (List dPoint) × dPoint) (S1 : Int → Option (Int)) (y1 : Int) : Option (Int) :=
  bif decide (y1 < (x.1.length : Int)) then
    (bif decide (0 ≤ y1) && decide (y1 < (x.1.length : Int)) then
      (bif tPoint.eqB x.2 (x.1.getD y1.toNat tPoint.dflt) then
        (some y1)
      else
        (S1 (IntKind.wrap .i64 (y1 + (1 : Int)))))
    else
      (none))
  else
    (some (-1 : Int))
set_option maxRecDepth 100000 in
theorem f69.k1 (n : Nat) (x : (List dPoint) × dPoint) (m : Nat) (y : Int) : f69.L1 n x (m + 1) y = f69.s1 n x (f69.L1 n x m) y := by kernel_rfl
theorem f69.l1 (n : Nat) (x : (List dPoint) × dPoint) : ∀ (m : Nat) (y1 : Int), f69.L1 n x m y1 = iter (f69.s1 n x) m y1 :=
  loop_of (L := f69.L1 n x) (step := f69.s1 n x) (fun _ => rfl) (f69.k1 n x)
def f69.g (n : Nat) (x : (List dPoint) × dPoint) : Option (Int) :=
  iter (f69.s1 n x) n (0 : Int)
def f69.q (n : Nat) (x : (List dPoint) × dPoint) : Option (Int) :=
  f69.L1 n x n (0 : Int)
set_option maxRecDepth 100000 in
theorem f69.eq (n : Nat) (x : (List dPoint) × dPoint) : runK TT E69 n ann (tabC C69) 1 69 (argsL [(false, .sl tPoint), (true, tPoint)] x) [] (readL [(false, .int .i64)]) = f69.g n x := by
  have h : runK TT E69 n ann (tabC C69) 1 69 (argsL [(false, .sl tPoint), (true, tPoint)] x) [] (readL [(false, .int .i64)]) = f69.q n x := by kernel_rfl
  rw [h]
  simp only [f69.q, f69.g, f69.l1]
set_option maxRecDepth 100000 in
theorem f69.codes : CodesOk Try.prog E69 ann (tabC C69) := tabC_ok (by intro p hp; simp only [C69, List.mem_cons, List.not_mem_nil, or_false] at hp; rcases hp with rfl <;> first | exact Try.func69) (by kernel_rfl)
theorem f69.ok (h : ∀ X Y, F69 X = some Y → ∃ n, f69.g n X = some Y)  : ConOk Try.prog 69 (mkCon [(false, .sl tPoint), (true, tPoint)] [(false, .int .i64)] true F69) :=
  mkCon_ok mixed TT_ok env0_ok f69.codes (fun _ => List.all_eq_true.1 rfl) fun X Y hF => (h X Y hF).imp fun n hn => (f69.eq n X).trans hn
def con69 : Con := mkCon [(false, .sl tPoint), (true, tPoint)] [(false, .int .i64)] true F69
/-! ### slices.Contains[[]vellum/api.Point,vellum/api.Point] -/
def E59 : FuncId → Option Con := (envC 69 con69 env0)
noncomputable def C59 : List (FuncId × Func) := [(59, Try.f59)]
def f59.g (n : Nat) (x : (List dPoint) × dPoint) : Option (Bool) :=
  (F69 x).bind fun r1 =>
    some (decide (r1 ≥ (0 : Int)))
set_option maxRecDepth 100000 in
theorem f59.eq (n : Nat) (x : (List dPoint) × dPoint) : runK TT E59 n ann (tabC C59) 1 59 (argsL [(false, .sl tPoint), (true, tPoint)] x) [] (readL [(false, .bool)]) = f59.g n x := by
  kernel_rfl
set_option maxRecDepth 100000 in
theorem f59.codes : CodesOk Try.prog E59 ann (tabC C59) := tabC_ok (by intro p hp; simp only [C59, List.mem_cons, List.not_mem_nil, or_false] at hp; rcases hp with rfl <;> first | exact Try.func59) (by kernel_rfl)
theorem f59.ok (h : ∀ X Y, F59 X = some Y → ∃ n, f59.g n X = some Y) (e69 : ConOk Try.prog 69 con69) : ConOk Try.prog 59 (mkCon [(false, .sl tPoint), (true, tPoint)] [(false, .bool)] true F59) :=
  mkCon_ok mixed TT_ok (envC_ok e69 env0_ok) f59.codes (fun _ => List.all_eq_true.1 rfl) fun X Y hF => (h X Y hF).imp fun n hn => (f59.eq n X).trans hn
def con59 : Con := mkCon [(false, .sl tPoint), (true, tPoint)] [(false, .bool)] true F59
/-! ### vellum/sets.Reads -/
def E42 : FuncId → Option Con := (envC 59 con59 (envC 56 con56 env0))
noncomputable def C42 : List (FuncId × Func) := [(42, Try.f42)]
def f42.g (n : Nat) (x : dFoot × dPoint) : Option (Bool) :=
  (F59 (x.1.1, x.2)).bind fun r1 =>
    bif r1 then
      (some true)
    else
      ((F56b (x.1.2.1, x.2)).bind fun r2 =>
        some r2)
set_option maxRecDepth 100000 in
theorem f42.eq (n : Nat) (x : dFoot × dPoint) : runK TT E42 n ann (tabC C42) 1 42 (argsL [(true, tFoot), (true, tPoint)] x) [] (readL [(false, .bool)]) = f42.g n x := by
  kernel_rfl
set_option maxRecDepth 100000 in
theorem f42.codes : CodesOk Try.prog E42 ann (tabC C42) := tabC_ok (by intro p hp; simp only [C42, List.mem_cons, List.not_mem_nil, or_false] at hp; rcases hp with rfl <;> first | exact Try.func42) (by kernel_rfl)
theorem f42.ok (h : ∀ X Y, F42 X = some Y → ∃ n, f42.g n X = some Y) (e56 : ConOk Try.prog 56 con56) (e59 : ConOk Try.prog 59 con59) : ConOk Try.prog 42 (mkCon [(true, tFoot), (true, tPoint)] [(false, .bool)] true F42) :=
  mkCon_ok mixed TT_ok (envC_ok e59 (envC_ok e56 env0_ok)) f42.codes (fun _ => List.all_eq_true.1 rfl) fun X Y hF => (h X Y hF).imp fun n hn => (f42.eq n X).trans hn
def con42 : Con := mkCon [(true, tFoot), (true, tPoint)] [(false, .bool)] true F42
/-! ### vellum/sets.least -/
def E40a : FuncId → Option Con := (envC 58 con58 (envC 42 con42 env0))
noncomputable def C40a : List (FuncId × Func) := [(40, Try.f40), (41, Try.f41)]
def f40a.h1 (x : (List dPoint) × ((List dPoint) × dFoot)) (y1 : Bool × Int × Int × Int × ByteArray) : List AV × List Ob := ([.undef, .val false [.fnr 41 [⟨.set tPoint, x.2.1⟩, ⟨tFoot, x.2.2⟩]], .undef, .undef, .val false [.ptr 0 0], .undef, .val false [.ptr 1 0], .val false [.sc .bool y1.1], .undef, .undef, .val false [.sc (.sl tPoint) x.1], .val false [.sc (.int .i64) (x.1.length : Int)], .val false [.sc (.int .i64) y1.2.1]] ++ List.replicate 20 .undef, [.box [.sc (.int .i64) (0 : Int), .sc (.int .i64) (0 : Int), .sc .str (⟨#[]⟩ : ByteArray)], .box [.sc (.int .i64) y1.2.2.1, .sc (.int .i64) y1.2.2.2.1, .sc .str y1.2.2.2.2]])
def f40a.L1 (n : Nat) (x : (List dPoint) × ((List dPoint) × dFoot)) (m1 : Nat) (y1 : Bool × Int × Int × Int × ByteArray) : Option (dPoint × Bool) :=
  loopN (ann 40 4).keep 2 (fun fr H k => execK TT 0 E40a (inlD TT E40a n ann (tabC C40a) 2) n (ann 40) (subC [1, 1, 1, 0, 1, 0, 0] (bodyOf Try.f40)) fr H k) m1 (f40a.h1 x y1).1 (f40a.h1 x y1).2 (kont TT 0 E40a (inlD TT E40a n ann (tabC C40a) 2) n (ann 40) [1, 1, 1, 0, 1, 0] (bodyOf Try.f40) (endK TT Try.f40 (readL [(true, tPoint), (false, .bool)])))
def f40a.s1 (n : Nat) (x : (List dPoint) × ((List dPoint) × dFoot)) (S1 : (Bool × Int × Int × Int × ByteArray) → Option (dPoint × Bool)) (y1 : Bool × Int × Int × Int × ByteArray) : Option (dPoint × Bool) :=
  bif decide (y1.2.1 < (x.1.length : Int)) then
    (bif decide (0 ≤ y1.2.1) && decide (y1.2.1 < (x.1.length : Int)) then
      (bif !y1.1 then
        (bif x.2.1.any (fun v => tPoint.eqB v (x.1.getD y1.2.1.toNat tPoint.dflt)) then
          (S1 (true, (IntKind.wrap .i64 (y1.2.1 + (1 : Int)), x.1.getD y1.2.1.toNat tPoint.dflt)))
        else
          ((F42 (x.2.2, x.1.getD y1.2.1.toNat tPoint.dflt)).bind fun r2 =>
            bif r2 then
              (S1 (true, (IntKind.wrap .i64 (y1.2.1 + (1 : Int)), x.1.getD y1.2.1.toNat tPoint.dflt)))
            else
              (S1 (y1.1, (IntKind.wrap .i64 (y1.2.1 + (1 : Int)), y1.2.2)))))
      else
        ((F58 (x.1.getD y1.2.1.toNat tPoint.dflt, y1.2.2)).bind fun r3 =>
          bif decide (r3 < (0 : Int)) then
            (bif x.2.1.any (fun v => tPoint.eqB v (x.1.getD y1.2.1.toNat tPoint.dflt)) then
              (S1 (true, (IntKind.wrap .i64 (y1.2.1 + (1 : Int)), x.1.getD y1.2.1.toNat tPoint.dflt)))
            else
              ((F42 (x.2.2, x.1.getD y1.2.1.toNat tPoint.dflt)).bind fun r4 =>
                bif r4 then
                  (S1 (true, (IntKind.wrap .i64 (y1.2.1 + (1 : Int)), x.1.getD y1.2.1.toNat tPoint.dflt)))
                else
                  (S1 (y1.1, (IntKind.wrap .i64 (y1.2.1 + (1 : Int)), y1.2.2)))))
          else
            (S1 (y1.1, (IntKind.wrap .i64 (y1.2.1 + (1 : Int)), y1.2.2)))))
    else
      (none))
  else
    (some (y1.2.2, y1.1))
set_option maxRecDepth 100000 in
theorem f40a.k1 (n : Nat) (x : (List dPoint) × ((List dPoint) × dFoot)) (m : Nat) (y : Bool × Int × Int × Int × ByteArray) : f40a.L1 n x (m + 1) y = f40a.s1 n x (f40a.L1 n x m) y := by kernel_rfl
theorem f40a.l1 (n : Nat) (x : (List dPoint) × ((List dPoint) × dFoot)) : ∀ (m : Nat) (y1 : Bool × Int × Int × Int × ByteArray), f40a.L1 n x m y1 = iter (f40a.s1 n x) m y1 :=
  loop_of (L := f40a.L1 n x) (step := f40a.s1 n x) (fun _ => rfl) (f40a.k1 n x)
def f40a.g (n : Nat) (x : (List dPoint) × ((List dPoint) × dFoot)) : Option (dPoint × Bool) :=
  iter (f40a.s1 n x) n (false, ((0 : Int), ((0 : Int), ((0 : Int), (⟨#[]⟩ : ByteArray)))))
def f40a.q (n : Nat) (x : (List dPoint) × ((List dPoint) × dFoot)) : Option (dPoint × Bool) :=
  f40a.L1 n x n (false, ((0 : Int), ((0 : Int), ((0 : Int), (⟨#[]⟩ : ByteArray)))))
set_option maxRecDepth 100000 in
theorem f40a.eq (n : Nat) (x : (List dPoint) × ((List dPoint) × dFoot)) : runK TT E40a n ann (tabC C40a) 2 40 (avL [.dat false (.sl tPoint), .clo 41 [(true, .set tPoint), (true, tFoot)]] x) [] (readL [(true, tPoint), (false, .bool)]) = f40a.g n x := by
  have h : runK TT E40a n ann (tabC C40a) 2 40 (avL [.dat false (.sl tPoint), .clo 41 [(true, .set tPoint), (true, tFoot)]] x) [] (readL [(true, tPoint), (false, .bool)]) = f40a.q n x := by kernel_rfl
  rw [h]
  simp only [f40a.q, f40a.g, f40a.l1]
set_option maxRecDepth 100000 in
theorem f40a.codes : CodesOk Try.prog E40a ann (tabC C40a) := tabC_ok (by intro p hp; simp only [C40a, List.mem_cons, List.not_mem_nil, or_false] at hp; rcases hp with rfl | rfl <;> first | exact Try.func40 | exact Try.func41) (by kernel_rfl)
theorem f40a.ok (h : ∀ X Y, F40a X = some Y → ∃ n, f40a.g n X = some Y) (e42 : ConOk Try.prog 42 con42) (e58 : ConOk Try.prog 58 con58) : ConOk Try.prog 40 (gCon [(true, tPoint), (false, .bool)] (PmL [.dat false (.sl tPoint), .clo 41 [(true, .set tPoint), (true, tFoot)]]) (fun l H => lookPL H [.dat false (.sl tPoint), .clo 41 [(true, .set tPoint), (true, tFoot)]] l) F40a) :=
  mkConF_ok mixed TT_ok (envC_ok e58 (envC_ok e42 env0_ok)) f40a.codes (List.all_eq_true.1 rfl) fun X Y hF => (h X Y hF).imp fun n hn => (f40a.eq n X).trans hn
/-! ### vellum/sets.least -/
def E40b : FuncId → Option Con := (envC 58 con58 env0)
noncomputable def C40b : List (FuncId × Func) := [(40, Try.f40), (43, Try.f43)]
def f40b.h1 (x : (List dPoint) × (List dPoint)) (y1 : Bool × Int × Int × Int × ByteArray) : List AV × List Ob := ([.undef, .val false [.fnr 43 [⟨.set tPoint, x.2⟩]], .undef, .undef, .val false [.ptr 0 0], .undef, .val false [.ptr 1 0], .val false [.sc .bool y1.1], .undef, .undef, .val false [.sc (.sl tPoint) x.1], .val false [.sc (.int .i64) (x.1.length : Int)], .val false [.sc (.int .i64) y1.2.1]] ++ List.replicate 20 .undef, [.box [.sc (.int .i64) (0 : Int), .sc (.int .i64) (0 : Int), .sc .str (⟨#[]⟩ : ByteArray)], .box [.sc (.int .i64) y1.2.2.1, .sc (.int .i64) y1.2.2.2.1, .sc .str y1.2.2.2.2]])
def f40b.L1 (n : Nat) (x : (List dPoint) × (List dPoint)) (m1 : Nat) (y1 : Bool × Int × Int × Int × ByteArray) : Option (dPoint × Bool) :=
  loopN (ann 40 4).keep 2 (fun fr H k => execK TT 0 E40b (inlD TT E40b n ann (tabC C40b) 2) n (ann 40) (subC [1, 1, 1, 0, 1, 0, 0] (bodyOf Try.f40)) fr H k) m1 (f40b.h1 x y1).1 (f40b.h1 x y1).2 (kont TT 0 E40b (inlD TT E40b n ann (tabC C40b) 2) n (ann 40) [1, 1, 1, 0, 1, 0] (bodyOf Try.f40) (endK TT Try.f40 (readL [(true, tPoint), (false, .bool)])))
def f40b.s1 (n : Nat) (x : (List dPoint) × (List dPoint)) (S1 : (Bool × Int × Int × Int × ByteArray) → Option (dPoint × Bool)) (y1 : Bool × Int × Int × Int × ByteArray) : Option (dPoint × Bool) :=
  bif decide (y1.2.1 < (x.1.length : Int)) then
    (bif decide (0 ≤ y1.2.1) && decide (y1.2.1 < (x.1.length : Int)) then
      (bif !y1.1 then
        (bif bif (x.2.any (fun v => tPoint.eqB v (x.1.getD y1.2.1.toNat tPoint.dflt))) then ((x.1.getD y1.2.1.toNat tPoint.dflt).2.1 == (-1 : Int)) else false then
          (S1 (true, (IntKind.wrap .i64 (y1.2.1 + (1 : Int)), x.1.getD y1.2.1.toNat tPoint.dflt)))
        else
          (S1 (y1.1, (IntKind.wrap .i64 (y1.2.1 + (1 : Int)), y1.2.2))))
      else
        ((F58 (x.1.getD y1.2.1.toNat tPoint.dflt, y1.2.2)).bind fun r2 =>
          bif decide (r2 < (0 : Int)) then
            (bif bif (x.2.any (fun v => tPoint.eqB v (x.1.getD y1.2.1.toNat tPoint.dflt))) then ((x.1.getD y1.2.1.toNat tPoint.dflt).2.1 == (-1 : Int)) else false then
              (S1 (true, (IntKind.wrap .i64 (y1.2.1 + (1 : Int)), x.1.getD y1.2.1.toNat tPoint.dflt)))
            else
              (S1 (y1.1, (IntKind.wrap .i64 (y1.2.1 + (1 : Int)), y1.2.2))))
          else
            (S1 (y1.1, (IntKind.wrap .i64 (y1.2.1 + (1 : Int)), y1.2.2)))))
    else
      (none))
  else
    (some (y1.2.2, y1.1))
set_option maxRecDepth 100000 in
theorem f40b.k1 (n : Nat) (x : (List dPoint) × (List dPoint)) (m : Nat) (y : Bool × Int × Int × Int × ByteArray) : f40b.L1 n x (m + 1) y = f40b.s1 n x (f40b.L1 n x m) y := by kernel_rfl
theorem f40b.l1 (n : Nat) (x : (List dPoint) × (List dPoint)) : ∀ (m : Nat) (y1 : Bool × Int × Int × Int × ByteArray), f40b.L1 n x m y1 = iter (f40b.s1 n x) m y1 :=
  loop_of (L := f40b.L1 n x) (step := f40b.s1 n x) (fun _ => rfl) (f40b.k1 n x)
def f40b.g (n : Nat) (x : (List dPoint) × (List dPoint)) : Option (dPoint × Bool) :=
  iter (f40b.s1 n x) n (false, ((0 : Int), ((0 : Int), ((0 : Int), (⟨#[]⟩ : ByteArray)))))
def f40b.q (n : Nat) (x : (List dPoint) × (List dPoint)) : Option (dPoint × Bool) :=
  f40b.L1 n x n (false, ((0 : Int), ((0 : Int), ((0 : Int), (⟨#[]⟩ : ByteArray)))))
set_option maxRecDepth 100000 in
theorem f40b.eq (n : Nat) (x : (List dPoint) × (List dPoint)) : runK TT E40b n ann (tabC C40b) 2 40 (avL [.dat false (.sl tPoint), .clo 43 [(true, .set tPoint)]] x) [] (readL [(true, tPoint), (false, .bool)]) = f40b.g n x := by
  have h : runK TT E40b n ann (tabC C40b) 2 40 (avL [.dat false (.sl tPoint), .clo 43 [(true, .set tPoint)]] x) [] (readL [(true, tPoint), (false, .bool)]) = f40b.q n x := by kernel_rfl
  rw [h]
  simp only [f40b.q, f40b.g, f40b.l1]
set_option maxRecDepth 100000 in
theorem f40b.codes : CodesOk Try.prog E40b ann (tabC C40b) := tabC_ok (by intro p hp; simp only [C40b, List.mem_cons, List.not_mem_nil, or_false] at hp; rcases hp with rfl | rfl <;> first | exact Try.func40 | exact Try.func43) (by kernel_rfl)
theorem f40b.ok (h : ∀ X Y, F40b X = some Y → ∃ n, f40b.g n X = some Y) (e58 : ConOk Try.prog 58 con58) : ConOk Try.prog 40 (gCon [(true, tPoint), (false, .bool)] (PmL [.dat false (.sl tPoint), .clo 43 [(true, .set tPoint)]]) (fun l H => lookPL H [.dat false (.sl tPoint), .clo 43 [(true, .set tPoint)]] l) F40b) :=
  mkConF_ok mixed TT_ok (envC_ok e58 env0_ok) f40b.codes (List.all_eq_true.1 rfl) fun X Y hF => (h X Y hF).imp fun n hn => (f40b.eq n X).trans hn
def con40 : Con := gCon [(true, tPoint), (false, .bool)] ((PmL [.dat false (.sl tPoint), .clo 41 [(true, .set tPoint), (true, tFoot)]]) ⊕ (PmL [.dat false (.sl tPoint), .clo 43 [(true, .set tPoint)]])) (orLook 41 (fun l H => lookPL H [.dat false (.sl tPoint), .clo 41 [(true, .set tPoint), (true, tFoot)]] l) (fun l H => lookPL H [.dat false (.sl tPoint), .clo 43 [(true, .set tPoint)]] l)) (orF F40a F40b)
/-! ### vellum/sets.Clash -/
def E27 : FuncId → Option Con := (envC 40 con40 env0)
noncomputable def C27 : List (FuncId × Func) := [(27, Try.f27)]
def f27.h1 (x : dFoot × dFoot) (y1 : Int × (List dPoint)) : List AV × List Ob := ([.undef, .undef, .val false [.ptr 0 0], .val false [.ptr 1 0], .val false [.ptr 2 0], .undef, .val false [.ptr 4 0], .undef, .undef, .undef, .undef, .undef, .val false [.sc (.sl tPoint) x.1.1], .val false [.sc (.int .i64) (x.1.1.length : Int)], .val false [.sc (.int .i64) y1.1]] ++ List.replicate 16 .undef, [.box [.sc (.sl tPoint) x.1.1, .sc (.sl tSpan) x.1.2.1, .sc (.sl tPoint) x.1.2.2], .box [.sc (.sl tPoint) x.2.1, .sc (.sl tSpan) x.2.2.1, .sc (.sl tPoint) x.2.2.2], .box [.sc (.int .i64) (0 : Int), .sc (.int .i64) (0 : Int), .sc .str (⟨#[]⟩ : ByteArray)], .mp tPoint y1.2, .box [.mp 3]])
def f27.L1 (n : Nat) (x : dFoot × dFoot) (m1 : Nat) (y1 : Int × (List dPoint)) : Option (dPoint × Bool) :=
  loopN (ann 27 3).keep 5 (fun fr H k => execK TT 0 E27 (inlD TT E27 n ann (tabC C27) 1) n (ann 27) (subC [1, 1, 0, 1, 0, 0] (bodyOf Try.f27)) fr H k) m1 (f27.h1 x y1).1 (f27.h1 x y1).2 (kont TT 0 E27 (inlD TT E27 n ann (tabC C27) 1) n (ann 27) [1, 1, 0, 1, 0] (bodyOf Try.f27) (endK TT Try.f27 (readL [(true, tPoint), (false, .bool)])))
def f27.s1 (n : Nat) (x : dFoot × dFoot) (S1 : (Int × (List dPoint)) → Option (dPoint × Bool)) (y1 : Int × (List dPoint)) : Option (dPoint × Bool) :=
  bif decide (y1.1 < (x.1.1.length : Int)) then
    (bif decide (0 ≤ y1.1) && decide (y1.1 < (x.1.1.length : Int)) then
      (S1 (IntKind.wrap .i64 (y1.1 + (1 : Int)), bif y1.2.any (fun v => tPoint.eqB v (x.1.1.getD y1.1.toNat tPoint.dflt)) then y1.2 else y1.2 ++ [x.1.1.getD y1.1.toNat tPoint.dflt]))
    else
      (none))
  else
    ((F40a (x.2.2.2, (y1.2, ([], (x.1.2.1, []))))).bind fun r2 =>
      some r2)
set_option maxRecDepth 100000 in
theorem f27.k1 (n : Nat) (x : dFoot × dFoot) (m : Nat) (y : Int × (List dPoint)) : f27.L1 n x (m + 1) y = f27.s1 n x (f27.L1 n x m) y := by kernel_rfl
theorem f27.l1 (n : Nat) (x : dFoot × dFoot) : ∀ (m : Nat) (y1 : Int × (List dPoint)), f27.L1 n x m y1 = iter (f27.s1 n x) m y1 :=
  loop_of (L := f27.L1 n x) (step := f27.s1 n x) (fun _ => rfl) (f27.k1 n x)
def f27.g (n : Nat) (x : dFoot × dFoot) : Option (dPoint × Bool) :=
  iter (f27.s1 n x) n ((0 : Int), [])
def f27.q (n : Nat) (x : dFoot × dFoot) : Option (dPoint × Bool) :=
  f27.L1 n x n ((0 : Int), [])
set_option maxRecDepth 100000 in
theorem f27.eq (n : Nat) (x : dFoot × dFoot) : runK TT E27 n ann (tabC C27) 1 27 (argsL [(true, tFoot), (true, tFoot)] x) [] (readL [(true, tPoint), (false, .bool)]) = f27.g n x := by
  have h : runK TT E27 n ann (tabC C27) 1 27 (argsL [(true, tFoot), (true, tFoot)] x) [] (readL [(true, tPoint), (false, .bool)]) = f27.q n x := by kernel_rfl
  rw [h]
  simp only [f27.q, f27.g, f27.l1]
set_option maxRecDepth 100000 in
theorem f27.codes : CodesOk Try.prog E27 ann (tabC C27) := tabC_ok (by intro p hp; simp only [C27, List.mem_cons, List.not_mem_nil, or_false] at hp; rcases hp with rfl <;> first | exact Try.func27) (by kernel_rfl)
theorem f27.ok (h : ∀ X Y, F27 X = some Y → ∃ n, f27.g n X = some Y) (e40 : ConOk Try.prog 40 con40) : ConOk Try.prog 27 (mkCon [(true, tFoot), (true, tFoot)] [(true, tPoint), (false, .bool)] true F27) :=
  mkCon_ok mixed TT_ok (envC_ok e40 env0_ok) f27.codes (fun _ => List.all_eq_true.1 rfl) fun X Y hF => (h X Y hF).imp fun n hn => (f27.eq n X).trans hn
def con27 : Con := mkCon [(true, tFoot), (true, tFoot)] [(true, tPoint), (false, .bool)] true F27
/-! ### vellum/sets.Both -/
def E28 : FuncId → Option Con := (envC 40 con40 env0)
noncomputable def C28 : List (FuncId × Func) := [(28, Try.f28)]
def f28.h1 (x : dFoot × dFoot) (y1 : Int × (List dPoint)) : List AV × List Ob := ([.undef, .undef, .val false [.ptr 0 0], .undef, .val false [.ptr 2 0], .undef, .val false [.ptr 4 0], .undef, .undef, .undef, .undef, .val false [.sc (.sl tPoint) x.2.2.2], .val false [.sc (.int .i64) (x.2.2.2.length : Int)], .val false [.sc (.int .i64) y1.1]] ++ List.replicate 13 .undef, [.box [.sc (.sl tPoint) x.1.1, .sc (.sl tSpan) x.1.2.1, .sc (.sl tPoint) x.1.2.2], .box [.sc (.sl tPoint) x.2.1, .sc (.sl tSpan) x.2.2.1, .sc (.sl tPoint) x.2.2.2], .box [.sc (.int .i64) (0 : Int), .sc (.int .i64) (0 : Int), .sc .str (⟨#[]⟩ : ByteArray)], .mp tPoint y1.2, .box [.mp 3]])
def f28.L1 (n : Nat) (x : dFoot × dFoot) (m1 : Nat) (y1 : Int × (List dPoint)) : Option (dPoint × Bool) :=
  loopN (ann 28 3).keep 5 (fun fr H k => execK TT 0 E28 (inlD TT E28 n ann (tabC C28) 1) n (ann 28) (subC [1, 1, 0, 1, 0, 0] (bodyOf Try.f28)) fr H k) m1 (f28.h1 x y1).1 (f28.h1 x y1).2 (kont TT 0 E28 (inlD TT E28 n ann (tabC C28) 1) n (ann 28) [1, 1, 0, 1, 0] (bodyOf Try.f28) (endK TT Try.f28 (readL [(true, tPoint), (false, .bool)])))
def f28.s1 (n : Nat) (x : dFoot × dFoot) (S1 : (Int × (List dPoint)) → Option (dPoint × Bool)) (y1 : Int × (List dPoint)) : Option (dPoint × Bool) :=
  bif decide (y1.1 < (x.2.2.2.length : Int)) then
    (bif decide (0 ≤ y1.1) && decide (y1.1 < (x.2.2.2.length : Int)) then
      (S1 (IntKind.wrap .i64 (y1.1 + (1 : Int)), bif y1.2.any (fun v => tPoint.eqB v (x.2.2.2.getD y1.1.toNat tPoint.dflt)) then y1.2 else y1.2 ++ [x.2.2.2.getD y1.1.toNat tPoint.dflt]))
    else
      (none))
  else
    ((F40b (x.1.2.2, y1.2)).bind fun r2 =>
      some r2)
set_option maxRecDepth 100000 in
theorem f28.k1 (n : Nat) (x : dFoot × dFoot) (m : Nat) (y : Int × (List dPoint)) : f28.L1 n x (m + 1) y = f28.s1 n x (f28.L1 n x m) y := by kernel_rfl
theorem f28.l1 (n : Nat) (x : dFoot × dFoot) : ∀ (m : Nat) (y1 : Int × (List dPoint)), f28.L1 n x m y1 = iter (f28.s1 n x) m y1 :=
  loop_of (L := f28.L1 n x) (step := f28.s1 n x) (fun _ => rfl) (f28.k1 n x)
def f28.g (n : Nat) (x : dFoot × dFoot) : Option (dPoint × Bool) :=
  iter (f28.s1 n x) n ((0 : Int), [])
def f28.q (n : Nat) (x : dFoot × dFoot) : Option (dPoint × Bool) :=
  f28.L1 n x n ((0 : Int), [])
set_option maxRecDepth 100000 in
theorem f28.eq (n : Nat) (x : dFoot × dFoot) : runK TT E28 n ann (tabC C28) 1 28 (argsL [(true, tFoot), (true, tFoot)] x) [] (readL [(true, tPoint), (false, .bool)]) = f28.g n x := by
  have h : runK TT E28 n ann (tabC C28) 1 28 (argsL [(true, tFoot), (true, tFoot)] x) [] (readL [(true, tPoint), (false, .bool)]) = f28.q n x := by kernel_rfl
  rw [h]
  simp only [f28.q, f28.g, f28.l1]
set_option maxRecDepth 100000 in
theorem f28.codes : CodesOk Try.prog E28 ann (tabC C28) := tabC_ok (by intro p hp; simp only [C28, List.mem_cons, List.not_mem_nil, or_false] at hp; rcases hp with rfl <;> first | exact Try.func28) (by kernel_rfl)
theorem f28.ok (h : ∀ X Y, F28 X = some Y → ∃ n, f28.g n X = some Y) (e40 : ConOk Try.prog 40 con40) : ConOk Try.prog 28 (mkCon [(true, tFoot), (true, tFoot)] [(true, tPoint), (false, .bool)] true F28) :=
  mkCon_ok mixed TT_ok (envC_ok e40 env0_ok) f28.codes (fun _ => List.all_eq_true.1 rfl) fun X Y hF => (h X Y hF).imp fun n hn => (f28.eq n X).trans hn
def con28 : Con := mkCon [(true, tFoot), (true, tFoot)] [(true, tPoint), (false, .bool)] true F28
/-! ### slices.IndexFunc[[]vellum/valid.commit,vellum/valid.commit] -/
def E50 : FuncId → Option Con := env0
noncomputable def C50 : List (FuncId × Func) := [(50, Try.f50), (51, Try.f51)]
def f50.h1 (x : (List dCommit) × Int) (y1 : Int) : List AV × List Ob := ([.val false [.sc (.sl tCommit) x.1], .val false [.fnr 51 [⟨.int .u64, x.2⟩]], .undef, .undef, .undef, .undef, .undef, .val false [.sc (.int .i64) (x.1.length : Int)], .val false [.sc (.int .i64) y1]] ++ List.replicate 10 .undef, [])
def f50.L1 (n : Nat) (x : (List dCommit) × Int) (m1 : Nat) (y1 : Int) : Option (Int) :=
  loopN (ann 50 2).keep 0 (fun fr H k => execK TT 0 E50 (inlD TT E50 n ann (tabC C50) 2) n (ann 50) (subC [1, 0, 1, 0, 0] (bodyOf Try.f50)) fr H k) m1 (f50.h1 x y1).1 (f50.h1 x y1).2 (kont TT 0 E50 (inlD TT E50 n ann (tabC C50) 2) n (ann 50) [1, 0, 1, 0] (bodyOf Try.f50) (endK TT Try.f50 (readL [(false, .int .i64)])))
def f50.s1 (n : Nat) (x : (List dCommit) × Int) (S1 : Int → Option (Int)) (y1 : Int) : Option (Int) :=
  bif decide (y1 < (x.1.length : Int)) then
    (bif decide (0 ≤ y1) && decide (y1 < (x.1.length : Int)) then
      (bif decide ((x.1.getD y1.toNat tCommit.dflt).1 > x.2) then
        (some y1)
      else
        (S1 (IntKind.wrap .i64 (y1 + (1 : Int)))))
    else
      (none))
  else
    (some (-1 : Int))
set_option maxRecDepth 100000 in
theorem f50.k1 (n : Nat) (x : (List dCommit) × Int) (m : Nat) (y : Int) : f50.L1 n x (m + 1) y = f50.s1 n x (f50.L1 n x m) y := by kernel_rfl
theorem f50.l1 (n : Nat) (x : (List dCommit) × Int) : ∀ (m : Nat) (y1 : Int), f50.L1 n x m y1 = iter (f50.s1 n x) m y1 :=
  loop_of (L := f50.L1 n x) (step := f50.s1 n x) (fun _ => rfl) (f50.k1 n x)
def f50.g (n : Nat) (x : (List dCommit) × Int) : Option (Int) :=
  iter (f50.s1 n x) n (0 : Int)
def f50.q (n : Nat) (x : (List dCommit) × Int) : Option (Int) :=
  f50.L1 n x n (0 : Int)
set_option maxRecDepth 100000 in
theorem f50.eq (n : Nat) (x : (List dCommit) × Int) : runK TT E50 n ann (tabC C50) 2 50 (avL [.dat false (.sl tCommit), .clo 51 [(true, .int .u64)]] x) [] (readL [(false, .int .i64)]) = f50.g n x := by
  have h : runK TT E50 n ann (tabC C50) 2 50 (avL [.dat false (.sl tCommit), .clo 51 [(true, .int .u64)]] x) [] (readL [(false, .int .i64)]) = f50.q n x := by kernel_rfl
  rw [h]
  simp only [f50.q, f50.g, f50.l1]
set_option maxRecDepth 100000 in
theorem f50.codes : CodesOk Try.prog E50 ann (tabC C50) := tabC_ok (by intro p hp; simp only [C50, List.mem_cons, List.not_mem_nil, or_false] at hp; rcases hp with rfl | rfl <;> first | exact Try.func50 | exact Try.func51) (by kernel_rfl)
theorem f50.ok (h : ∀ X Y, F50 X = some Y → ∃ n, f50.g n X = some Y)  : ConOk Try.prog 50 (mkConF [.dat false (.sl tCommit), .clo 51 [(true, .int .u64)]] [(false, .int .i64)] F50) :=
  mkConF_ok mixed TT_ok env0_ok f50.codes (List.all_eq_true.1 rfl) fun X Y hF => (h X Y hF).imp fun n hn => (f50.eq n X).trans hn
def con50 : Con := mkConF [.dat false (.sl tCommit), .clo 51 [(true, .int .u64)]] [(false, .int .i64)] F50
/-! ### (*vellum/valid.Log).first -/
def E31a : FuncId → Option Con := (envC 50 con50 (envC 38 con38 (envC 27 con27 env0)))
noncomputable def C31a : List (FuncId × Func) := [(31, Try.f31), (35, Try.f35), (36, Try.f36)]
def f31a.h1 (x : (Bool × (List dCommit)) × dFoot × Int × (Unit)) (r1 : Int) (r2 : Int) (y3 : Unit) : List AV × List Ob := ([.undef, .undef, .undef, .val false [.fn 27 []], .undef, .val false [.ptr 0 0], .undef, .undef, .val false [.ptr 1 0], .undef, .undef, .undef, .undef, .undef, .undef, .undef, .undef, .undef, .undef, .undef, .undef, .undef, .undef, .undef, .undef, .val false [.nils], .val false [.sc (.int .i64) (0 : Int)], .val false [.sc (.int .i64) (0 : Int)]] ++ List.replicate 18 .undef, [.box [.sc (.sl tPoint) x.2.1.1, .sc (.sl tSpan) x.2.1.2.1, .sc (.sl tPoint) x.2.1.2.2], .box [.sc (.int .u64) (0 : Int), .sc (.int .i64) (0 : Int), .sc (.int .i64) (0 : Int), .sc .str (⟨#[]⟩ : ByteArray)], .box [.sc (.int .u64) x.2.2.1]])
def f31a.h2 (x : (Bool × (List dCommit)) × dFoot × Int × (Unit)) (r1 : Int) (r2 : Int) (y4 : Int) : List AV × List Ob := ([.undef, .undef, .undef, .val false [.fn 27 []], .undef, .val false [.ptr 0 0], .undef, .undef, .val false [.ptr 1 0], .undef, .undef, .undef, .undef, .undef, .undef, .undef, .undef, .undef, .undef, .undef, .undef, .undef, .undef, .undef, .undef, .val false [.sc (.sl tCommit) (List.drop r2.toNat x.1.2)], .val false [.sc (.int .i64) ((List.drop r2.toNat x.1.2).length : Int)], .val false [.sc (.int .i64) y4]] ++ List.replicate 18 .undef, [.box [.sc (.sl tPoint) x.2.1.1, .sc (.sl tSpan) x.2.1.2.1, .sc (.sl tPoint) x.2.1.2.2], .box [.sc (.int .u64) (0 : Int), .sc (.int .i64) (0 : Int), .sc (.int .i64) (0 : Int), .sc .str (⟨#[]⟩ : ByteArray)], .box [.sc (.int .u64) x.2.2.1]])
def f31a.L1 (n : Nat) (x : (Bool × (List dCommit)) × dFoot × Int × (Unit)) (r1 : Int) (r2 : Int) (m3 : Nat) (y3 : Unit) : Option (dClash × Bool) :=
  loopN (ann 31 4).keep 3 (fun fr H k => execK TT 0 E31a (inlD TT E31a n ann (tabC C31a) 3) n (ann 31) (subC [1, 1, 0, 1, 0, 0] (bodyOf Try.f31)) fr H k) m3 (f31a.h1 x r1 r2 y3).1 (f31a.h1 x r1 r2 y3).2 (kont TT 0 E31a (inlD TT E31a n ann (tabC C31a) 3) n (ann 31) [1, 1, 0, 1, 0] (bodyOf Try.f31) (endK TT Try.f31 (readL [(true, tClash), (false, .bool)])))
def f31a.L2 (n : Nat) (x : (Bool × (List dCommit)) × dFoot × Int × (Unit)) (r1 : Int) (r2 : Int) (m4 : Nat) (y4 : Int) : Option (dClash × Bool) :=
  loopN (ann 31 4).keep 3 (fun fr H k => execK TT 0 E31a (inlD TT E31a n ann (tabC C31a) 3) n (ann 31) (subC [1, 1, 0, 1, 0, 0] (bodyOf Try.f31)) fr H k) m4 (f31a.h2 x r1 r2 y4).1 (f31a.h2 x r1 r2 y4).2 (kont TT 0 E31a (inlD TT E31a n ann (tabC C31a) 3) n (ann 31) [1, 1, 0, 1, 0] (bodyOf Try.f31) (endK TT Try.f31 (readL [(true, tClash), (false, .bool)])))
def f31a.s1 (n : Nat) (x : (Bool × (List dCommit)) × dFoot × Int × (Unit)) (r1 : Int) (r2 : Int) (S3 : Unit → Option (dClash × Bool)) (y3 : Unit) : Option (dClash × Bool) :=
  some (((0 : Int), ((0 : Int), ((0 : Int), (⟨#[]⟩ : ByteArray)))), false)
set_option maxRecDepth 100000 in
theorem f31a.k1 (n : Nat) (x : (Bool × (List dCommit)) × dFoot × Int × (Unit)) (r1 : Int) (r2 : Int) (m : Nat) (y : Unit) : f31a.L1 n x r1 r2 (m + 1) y = f31a.s1 n x r1 r2 (f31a.L1 n x r1 r2 m) y := by kernel_rfl
theorem f31a.l1 (n : Nat) (x : (Bool × (List dCommit)) × dFoot × Int × (Unit)) (r1 : Int) (r2 : Int) : ∀ (m : Nat) (y3 : Unit), f31a.L1 n x r1 r2 m y3 = iter (f31a.s1 n x r1 r2) m y3 :=
  loop_of (L := f31a.L1 n x r1 r2) (step := f31a.s1 n x r1 r2) (fun _ => rfl) (f31a.k1 n x r1 r2)
def f31a.s2 (n : Nat) (x : (Bool × (List dCommit)) × dFoot × Int × (Unit)) (r1 : Int) (r2 : Int) (S4 : Int → Option (dClash × Bool)) (y4 : Int) : Option (dClash × Bool) :=
  bif decide (y4 < ((List.drop r2.toNat x.1.2).length : Int)) then
    (bif decide (0 ≤ y4) && decide (y4 < ((List.drop r2.toNat x.1.2).length : Int)) then
      ((F27 (x.2.1, ((List.drop r2.toNat x.1.2).getD y4.toNat tCommit.dflt).2)).bind fun r5 =>
        bif r5.2 then
          (some ((((List.drop r2.toNat x.1.2).getD y4.toNat tCommit.dflt).1, r5.1), true))
        else
          (S4 (IntKind.wrap .i64 (y4 + (1 : Int)))))
    else
      (none))
  else
    (some (((0 : Int), ((0 : Int), ((0 : Int), (⟨#[]⟩ : ByteArray)))), false))
set_option maxRecDepth 100000 in
theorem f31a.k2 (n : Nat) (x : (Bool × (List dCommit)) × dFoot × Int × (Unit)) (r1 : Int) (r2 : Int) (m : Nat) (y : Int) : f31a.L2 n x r1 r2 (m + 1) y = f31a.s2 n x r1 r2 (f31a.L2 n x r1 r2 m) y := by kernel_rfl
theorem f31a.l2 (n : Nat) (x : (Bool × (List dCommit)) × dFoot × Int × (Unit)) (r1 : Int) (r2 : Int) : ∀ (m : Nat) (y4 : Int), f31a.L2 n x r1 r2 m y4 = iter (f31a.s2 n x r1 r2) m y4 :=
  loop_of (L := f31a.L2 n x r1 r2) (step := f31a.s2 n x r1 r2) (fun _ => rfl) (f31a.k2 n x r1 r2)
def f31a.g (n : Nat) (x : (Bool × (List dCommit)) × dFoot × Int × (Unit)) : Option (dClash × Bool) :=
  bif !x.1.1 then
    (some (((0 : Int), ((0 : Int), ((0 : Int), (⟨#[]⟩ : ByteArray)))), false))
  else
    ((F38 x.2.1).bind fun r1 =>
      bif r1 != (0 : Int) then
        (some (((0 : Int), ((0 : Int), ((0 : Int), (⟨#[]⟩ : ByteArray)))), false))
      else
        ((F50 (x.1.2, x.2.2.1)).bind fun r2 =>
          bif decide (r2 < (0 : Int)) then
            (iter (f31a.s1 n x r1 r2) n ())
          else
            (bif decide (0 ≤ r2) && decide (r2 ≤ (x.1.2.length : Int)) then
              (iter (f31a.s2 n x r1 r2) n (0 : Int))
            else
              (none))))
def f31a.q (n : Nat) (x : (Bool × (List dCommit)) × dFoot × Int × (Unit)) : Option (dClash × Bool) :=
  bif !x.1.1 then
    (some (((0 : Int), ((0 : Int), ((0 : Int), (⟨#[]⟩ : ByteArray)))), false))
  else
    ((F38 x.2.1).bind fun r1 =>
      bif r1 != (0 : Int) then
        (some (((0 : Int), ((0 : Int), ((0 : Int), (⟨#[]⟩ : ByteArray)))), false))
      else
        ((F50 (x.1.2, x.2.2.1)).bind fun r2 =>
          bif decide (r2 < (0 : Int)) then
            (f31a.L1 n x r1 r2 n ())
          else
            (bif decide (0 ≤ r2) && decide (r2 ≤ (x.1.2.length : Int)) then
              (f31a.L2 n x r1 r2 n (0 : Int))
            else
              (none))))
set_option maxRecDepth 100000 in
theorem f31a.eq (n : Nat) (x : (Bool × (List dCommit)) × dFoot × Int × (Unit)) : runK TT E31a n ann (tabC C31a) 3 31 (avL [.ref (.pair .bool (.sl tCommit)), .dat true tFoot, .dat false (.int .u64), .clo 27 []] x) [] (readL [(true, tClash), (false, .bool)]) = f31a.g n x := by
  have h : runK TT E31a n ann (tabC C31a) 3 31 (avL [.ref (.pair .bool (.sl tCommit)), .dat true tFoot, .dat false (.int .u64), .clo 27 []] x) [] (readL [(true, tClash), (false, .bool)]) = f31a.q n x := by kernel_rfl
  rw [h]
  simp only [f31a.q, f31a.g, f31a.l1, f31a.l2]
set_option maxRecDepth 100000 in
theorem f31a.codes : CodesOk Try.prog E31a ann (tabC C31a) := tabC_ok (by intro p hp; simp only [C31a, List.mem_cons, List.not_mem_nil, or_false] at hp; rcases hp with rfl | rfl | rfl <;> first | exact Try.func31 | exact Try.func35 | exact Try.func36) (by kernel_rfl)
theorem f31a.ok (h : ∀ X Y, F31a X = some Y → ∃ n, f31a.g n X = some Y) (e27 : ConOk Try.prog 27 con27) (e38 : ConOk Try.prog 38 con38) (e50 : ConOk Try.prog 50 con50) : ConOk Try.prog 31 (gCon [(true, tClash), (false, .bool)] (PmL [.ref (.pair .bool (.sl tCommit)), .dat true tFoot, .dat false (.int .u64), .clo 27 []]) (fun l H => lookPL H [.ref (.pair .bool (.sl tCommit)), .dat true tFoot, .dat false (.int .u64), .clo 27 []] l) F31a) :=
  mkConF_ok mixed TT_ok (envC_ok e50 (envC_ok e38 (envC_ok e27 env0_ok))) f31a.codes (List.all_eq_true.1 rfl) fun X Y hF => (h X Y hF).imp fun n hn => (f31a.eq n X).trans hn
/-! ### (*vellum/valid.Log).first -/
def E31b : FuncId → Option Con := (envC 50 con50 (envC 38 con38 (envC 28 con28 env0)))
noncomputable def C31b : List (FuncId × Func) := [(31, Try.f31), (35, Try.f35), (36, Try.f36)]
def f31b.h1 (x : (Bool × (List dCommit)) × dFoot × Int × (Unit)) (r1 : Int) (r2 : Int) (y3 : Unit) : List AV × List Ob := ([.undef, .undef, .undef, .val false [.fn 28 []], .undef, .val false [.ptr 0 0], .undef, .undef, .val false [.ptr 1 0], .undef, .undef, .undef, .undef, .undef, .undef, .undef, .undef, .undef, .undef, .undef, .undef, .undef, .undef, .undef, .undef, .val false [.nils], .val false [.sc (.int .i64) (0 : Int)], .val false [.sc (.int .i64) (0 : Int)]] ++ List.replicate 18 .undef, [.box [.sc (.sl tPoint) x.2.1.1, .sc (.sl tSpan) x.2.1.2.1, .sc (.sl tPoint) x.2.1.2.2], .box [.sc (.int .u64) (0 : Int), .sc (.int .i64) (0 : Int), .sc (.int .i64) (0 : Int), .sc .str (⟨#[]⟩ : ByteArray)], .box [.sc (.int .u64) x.2.2.1]])
def f31b.h2 (x : (Bool × (List dCommit)) × dFoot × Int × (Unit)) (r1 : Int) (r2 : Int) (y4 : Int) : List AV × List Ob := ([.undef, .undef, .undef, .val false [.fn 28 []], .undef, .val false [.ptr 0 0], .undef, .undef, .val false [.ptr 1 0], .undef, .undef, .undef, .undef, .undef, .undef, .undef, .undef, .undef, .undef, .undef, .undef, .undef, .undef, .undef, .undef, .val false [.sc (.sl tCommit) (List.drop r2.toNat x.1.2)], .val false [.sc (.int .i64) ((List.drop r2.toNat x.1.2).length : Int)], .val false [.sc (.int .i64) y4]] ++ List.replicate 18 .undef, [.box [.sc (.sl tPoint) x.2.1.1, .sc (.sl tSpan) x.2.1.2.1, .sc (.sl tPoint) x.2.1.2.2], .box [.sc (.int .u64) (0 : Int), .sc (.int .i64) (0 : Int), .sc (.int .i64) (0 : Int), .sc .str (⟨#[]⟩ : ByteArray)], .box [.sc (.int .u64) x.2.2.1]])
def f31b.L1 (n : Nat) (x : (Bool × (List dCommit)) × dFoot × Int × (Unit)) (r1 : Int) (r2 : Int) (m3 : Nat) (y3 : Unit) : Option (dClash × Bool) :=
  loopN (ann 31 4).keep 3 (fun fr H k => execK TT 0 E31b (inlD TT E31b n ann (tabC C31b) 3) n (ann 31) (subC [1, 1, 0, 1, 0, 0] (bodyOf Try.f31)) fr H k) m3 (f31b.h1 x r1 r2 y3).1 (f31b.h1 x r1 r2 y3).2 (kont TT 0 E31b (inlD TT E31b n ann (tabC C31b) 3) n (ann 31) [1, 1, 0, 1, 0] (bodyOf Try.f31) (endK TT Try.f31 (readL [(true, tClash), (false, .bool)])))
def f31b.L2 (n : Nat) (x : (Bool × (List dCommit)) × dFoot × Int × (Unit)) (r1 : Int) (r2 : Int) (m4 : Nat) (y4 : Int) : Option (dClash × Bool) :=
  loopN (ann 31 4).keep 3 (fun fr H k => execK TT 0 E31b (inlD TT E31b n ann (tabC C31b) 3) n (ann 31) (subC [1, 1, 0, 1, 0, 0] (bodyOf Try.f31)) fr H k) m4 (f31b.h2 x r1 r2 y4).1 (f31b.h2 x r1 r2 y4).2 (kont TT 0 E31b (inlD TT E31b n ann (tabC C31b) 3) n (ann 31) [1, 1, 0, 1, 0] (bodyOf Try.f31) (endK TT Try.f31 (readL [(true, tClash), (false, .bool)])))
def f31b.s1 (n : Nat) (x : (Bool × (List dCommit)) × dFoot × Int × (Unit)) (r1 : Int) (r2 : Int) (S3 : Unit → Option (dClash × Bool)) (y3 : Unit) : Option (dClash × Bool) :=
  some (((0 : Int), ((0 : Int), ((0 : Int), (⟨#[]⟩ : ByteArray)))), false)
set_option maxRecDepth 100000 in
theorem f31b.k1 (n : Nat) (x : (Bool × (List dCommit)) × dFoot × Int × (Unit)) (r1 : Int) (r2 : Int) (m : Nat) (y : Unit) : f31b.L1 n x r1 r2 (m + 1) y = f31b.s1 n x r1 r2 (f31b.L1 n x r1 r2 m) y := by kernel_rfl
theorem f31b.l1 (n : Nat) (x : (Bool × (List dCommit)) × dFoot × Int × (Unit)) (r1 : Int) (r2 : Int) : ∀ (m : Nat) (y3 : Unit), f31b.L1 n x r1 r2 m y3 = iter (f31b.s1 n x r1 r2) m y3 :=
  loop_of (L := f31b.L1 n x r1 r2) (step := f31b.s1 n x r1 r2) (fun _ => rfl) (f31b.k1 n x r1 r2)
def f31b.s2 (n : Nat) (x : (Bool × (List dCommit)) × dFoot × Int × (Unit)) (r1 : Int) (r2 : Int) (S4 : Int → Option (dClash × Bool)) (y4 : Int) : Option (dClash × Bool) :=
  bif decide (y4 < ((List.drop r2.toNat x.1.2).length : Int)) then
    (bif decide (0 ≤ y4) && decide (y4 < ((List.drop r2.toNat x.1.2).length : Int)) then
      ((F28 (x.2.1, ((List.drop r2.toNat x.1.2).getD y4.toNat tCommit.dflt).2)).bind fun r5 =>
        bif r5.2 then
          (some ((((List.drop r2.toNat x.1.2).getD y4.toNat tCommit.dflt).1, r5.1), true))
        else
          (S4 (IntKind.wrap .i64 (y4 + (1 : Int)))))
    else
      (none))
  else
    (some (((0 : Int), ((0 : Int), ((0 : Int), (⟨#[]⟩ : ByteArray)))), false))
set_option maxRecDepth 100000 in
theorem f31b.k2 (n : Nat) (x : (Bool × (List dCommit)) × dFoot × Int × (Unit)) (r1 : Int) (r2 : Int) (m : Nat) (y : Int) : f31b.L2 n x r1 r2 (m + 1) y = f31b.s2 n x r1 r2 (f31b.L2 n x r1 r2 m) y := by kernel_rfl
theorem f31b.l2 (n : Nat) (x : (Bool × (List dCommit)) × dFoot × Int × (Unit)) (r1 : Int) (r2 : Int) : ∀ (m : Nat) (y4 : Int), f31b.L2 n x r1 r2 m y4 = iter (f31b.s2 n x r1 r2) m y4 :=
  loop_of (L := f31b.L2 n x r1 r2) (step := f31b.s2 n x r1 r2) (fun _ => rfl) (f31b.k2 n x r1 r2)
def f31b.g (n : Nat) (x : (Bool × (List dCommit)) × dFoot × Int × (Unit)) : Option (dClash × Bool) :=
  bif !x.1.1 then
    (some (((0 : Int), ((0 : Int), ((0 : Int), (⟨#[]⟩ : ByteArray)))), false))
  else
    ((F38 x.2.1).bind fun r1 =>
      bif r1 != (0 : Int) then
        (some (((0 : Int), ((0 : Int), ((0 : Int), (⟨#[]⟩ : ByteArray)))), false))
      else
        ((F50 (x.1.2, x.2.2.1)).bind fun r2 =>
          bif decide (r2 < (0 : Int)) then
            (iter (f31b.s1 n x r1 r2) n ())
          else
            (bif decide (0 ≤ r2) && decide (r2 ≤ (x.1.2.length : Int)) then
              (iter (f31b.s2 n x r1 r2) n (0 : Int))
            else
              (none))))
def f31b.q (n : Nat) (x : (Bool × (List dCommit)) × dFoot × Int × (Unit)) : Option (dClash × Bool) :=
  bif !x.1.1 then
    (some (((0 : Int), ((0 : Int), ((0 : Int), (⟨#[]⟩ : ByteArray)))), false))
  else
    ((F38 x.2.1).bind fun r1 =>
      bif r1 != (0 : Int) then
        (some (((0 : Int), ((0 : Int), ((0 : Int), (⟨#[]⟩ : ByteArray)))), false))
      else
        ((F50 (x.1.2, x.2.2.1)).bind fun r2 =>
          bif decide (r2 < (0 : Int)) then
            (f31b.L1 n x r1 r2 n ())
          else
            (bif decide (0 ≤ r2) && decide (r2 ≤ (x.1.2.length : Int)) then
              (f31b.L2 n x r1 r2 n (0 : Int))
            else
              (none))))
set_option maxRecDepth 100000 in
theorem f31b.eq (n : Nat) (x : (Bool × (List dCommit)) × dFoot × Int × (Unit)) : runK TT E31b n ann (tabC C31b) 3 31 (avL [.ref (.pair .bool (.sl tCommit)), .dat true tFoot, .dat false (.int .u64), .clo 28 []] x) [] (readL [(true, tClash), (false, .bool)]) = f31b.g n x := by
  have h : runK TT E31b n ann (tabC C31b) 3 31 (avL [.ref (.pair .bool (.sl tCommit)), .dat true tFoot, .dat false (.int .u64), .clo 28 []] x) [] (readL [(true, tClash), (false, .bool)]) = f31b.q n x := by kernel_rfl
  rw [h]
  simp only [f31b.q, f31b.g, f31b.l1, f31b.l2]
set_option maxRecDepth 100000 in
theorem f31b.codes : CodesOk Try.prog E31b ann (tabC C31b) := tabC_ok (by intro p hp; simp only [C31b, List.mem_cons, List.not_mem_nil, or_false] at hp; rcases hp with rfl | rfl | rfl <;> first | exact Try.func31 | exact Try.func35 | exact Try.func36) (by kernel_rfl)
theorem f31b.ok (h : ∀ X Y, F31b X = some Y → ∃ n, f31b.g n X = some Y) (e28 : ConOk Try.prog 28 con28) (e38 : ConOk Try.prog 38 con38) (e50 : ConOk Try.prog 50 con50) : ConOk Try.prog 31 (gCon [(true, tClash), (false, .bool)] (PmL [.ref (.pair .bool (.sl tCommit)), .dat true tFoot, .dat false (.int .u64), .clo 28 []]) (fun l H => lookPL H [.ref (.pair .bool (.sl tCommit)), .dat true tFoot, .dat false (.int .u64), .clo 28 []] l) F31b) :=
  mkConF_ok mixed TT_ok (envC_ok e50 (envC_ok e38 (envC_ok e28 env0_ok))) f31b.codes (List.all_eq_true.1 rfl) fun X Y hF => (h X Y hF).imp fun n hn => (f31b.eq n X).trans hn
def con31 : Con := gCon [(true, tClash), (false, .bool)] ((PmL [.ref (.pair .bool (.sl tCommit)), .dat true tFoot, .dat false (.int .u64), .clo 27 []]) ⊕ (PmL [.ref (.pair .bool (.sl tCommit)), .dat true tFoot, .dat false (.int .u64), .clo 28 []])) (orLook 27 (fun l H => lookPL H [.ref (.pair .bool (.sl tCommit)), .dat true tFoot, .dat false (.int .u64), .clo 27 []] l) (fun l H => lookPL H [.ref (.pair .bool (.sl tCommit)), .dat true tFoot, .dat false (.int .u64), .clo 28 []] l)) (orF F31a F31b)
/-! ### (*vellum/valid.Log).Read -/
def E12 : FuncId → Option Con := (envC 31 con31 (envC 27 con27 env0))
noncomputable def C12 : List (FuncId × Func) := [(12, Try.f12)]
def f12.g (n : Nat) (x : (Bool × (List dCommit)) × dFoot × Int) : Option (dClash × Bool) :=
  (F31a (x.1, (x.2.1, (x.2.2, ())))).bind fun r1 =>
    some r1
set_option maxRecDepth 100000 in
theorem f12.eq (n : Nat) (x : (Bool × (List dCommit)) × dFoot × Int) : runK TT E12 n ann (tabC C12) 1 12 (avL [.ref (.pair .bool (.sl tCommit)), .dat true tFoot, .dat false (.int .u64)] x) [] (readL [(true, tClash), (false, .bool)]) = f12.g n x := by
  kernel_rfl
set_option maxRecDepth 100000 in
theorem f12.codes : CodesOk Try.prog E12 ann (tabC C12) := tabC_ok (by intro p hp; simp only [C12, List.mem_cons, List.not_mem_nil, or_false] at hp; rcases hp with rfl <;> first | exact Try.func12) (by kernel_rfl)
theorem f12.ok (h : ∀ X Y, F12 X = some Y → ∃ n, f12.g n X = some Y) (e27 : ConOk Try.prog 27 con27) (e31 : ConOk Try.prog 31 con31) : ConOk Try.prog 12 (mkConF [.ref (.pair .bool (.sl tCommit)), .dat true tFoot, .dat false (.int .u64)] [(true, tClash), (false, .bool)] F12) :=
  mkConF_ok mixed TT_ok (envC_ok e31 (envC_ok e27 env0_ok)) f12.codes (List.all_eq_true.1 rfl) fun X Y hF => (h X Y hF).imp fun n hn => (f12.eq n X).trans hn
def con12 : Con := mkConF [.ref (.pair .bool (.sl tCommit)), .dat true tFoot, .dat false (.int .u64)] [(true, tClash), (false, .bool)] F12
/-! ### (*vellum/valid.Log).Wrote -/
def E14 : FuncId → Option Con := (envC 31 con31 (envC 28 con28 env0))
noncomputable def C14 : List (FuncId × Func) := [(14, Try.f14)]
def f14.g (n : Nat) (x : (Bool × (List dCommit)) × dFoot × Int) : Option (dClash × Bool) :=
  (F31b (x.1, (x.2.1, (x.2.2, ())))).bind fun r1 =>
    some r1
set_option maxRecDepth 100000 in
theorem f14.eq (n : Nat) (x : (Bool × (List dCommit)) × dFoot × Int) : runK TT E14 n ann (tabC C14) 1 14 (avL [.ref (.pair .bool (.sl tCommit)), .dat true tFoot, .dat false (.int .u64)] x) [] (readL [(true, tClash), (false, .bool)]) = f14.g n x := by
  kernel_rfl
set_option maxRecDepth 100000 in
theorem f14.codes : CodesOk Try.prog E14 ann (tabC C14) := tabC_ok (by intro p hp; simp only [C14, List.mem_cons, List.not_mem_nil, or_false] at hp; rcases hp with rfl <;> first | exact Try.func14) (by kernel_rfl)
theorem f14.ok (h : ∀ X Y, F14 X = some Y → ∃ n, f14.g n X = some Y) (e28 : ConOk Try.prog 28 con28) (e31 : ConOk Try.prog 31 con31) : ConOk Try.prog 14 (mkConF [.ref (.pair .bool (.sl tCommit)), .dat true tFoot, .dat false (.int .u64)] [(true, tClash), (false, .bool)] F14) :=
  mkConF_ok mixed TT_ok (envC_ok e31 (envC_ok e28 env0_ok)) f14.codes (List.all_eq_true.1 rfl) fun X Y hF => (h X Y hF).imp fun n hn => (f14.eq n X).trans hn
def con14 : Con := mkConF [.ref (.pair .bool (.sl tCommit)), .dat true tFoot, .dat false (.int .u64)] [(true, tClash), (false, .bool)] F14
/-! ### (*vellum/valid.Log).Try -/
def E21 : FuncId → Option Con := (envC 38 con38 (envC 14 con14 (envC 12 con12 env0)))
noncomputable def C21 : List (FuncId × Func) := [(21, Try.f21), (35, Try.f35)]
def f21.g (n : Nat) (x : (Bool × (List dCommit)) × dAttempt) : Option (dClash × Int) :=
  bif !x.1.1 then
    (some (((0 : Int), ((0 : Int), ((0 : Int), (⟨#[]⟩ : ByteArray)))), (1 : Int)))
  else
    ((F38 x.2.2.1).bind fun r1 =>
      bif r1 != (0 : Int) then
        (some (((0 : Int), ((0 : Int), ((0 : Int), (⟨#[]⟩ : ByteArray)))), r1))
      else
        (bif bif (decide (x.2.2.2 < (1 : Int))) then true else (decide (x.2.2.2 > (3 : Int))) then
          (some (((0 : Int), ((0 : Int), ((0 : Int), (⟨#[]⟩ : ByteArray)))), (200 : Int)))
        else
          (bif x.2.2.2 != (1 : Int) then
            ((F14 (x.1, (x.2.2.1, x.2.1))).bind fun r2 =>
              bif r2.2 then
                (some (r2.1, (112 : Int)))
              else
                (bif x.2.2.2 == (3 : Int) then
                  ((F12 (x.1, (x.2.2.1, x.2.1))).bind fun r3 =>
                    bif r3.2 then
                      (some (r3.1, (205 : Int)))
                    else
                      (some (((0 : Int), ((0 : Int), ((0 : Int), (⟨#[]⟩ : ByteArray)))), (0 : Int))))
                else
                  (some (((0 : Int), ((0 : Int), ((0 : Int), (⟨#[]⟩ : ByteArray)))), (0 : Int)))))
          else
            (bif x.2.2.2 == (3 : Int) then
              ((F12 (x.1, (x.2.2.1, x.2.1))).bind fun r4 =>
                bif r4.2 then
                  (some (r4.1, (205 : Int)))
                else
                  (some (((0 : Int), ((0 : Int), ((0 : Int), (⟨#[]⟩ : ByteArray)))), (0 : Int))))
            else
              (some (((0 : Int), ((0 : Int), ((0 : Int), (⟨#[]⟩ : ByteArray)))), (0 : Int)))))))
set_option maxRecDepth 100000 in
theorem f21.eq (n : Nat) (x : (Bool × (List dCommit)) × dAttempt) : runK TT E21 n ann (tabC C21) 2 21 (avL [.ref (.pair .bool (.sl tCommit)), .dat true tAttempt] x) [] (readL [(true, tClash), (false, .int .i64)]) = f21.g n x := by
  kernel_rfl
set_option maxRecDepth 100000 in
theorem f21.codes : CodesOk Try.prog E21 ann (tabC C21) := tabC_ok (by intro p hp; simp only [C21, List.mem_cons, List.not_mem_nil, or_false] at hp; rcases hp with rfl | rfl <;> first | exact Try.func21 | exact Try.func35) (by kernel_rfl)
theorem f21.ok (h : ∀ X Y, F21 X = some Y → ∃ n, f21.g n X = some Y) (e12 : ConOk Try.prog 12 con12) (e14 : ConOk Try.prog 14 con14) (e38 : ConOk Try.prog 38 con38) : ConOk Try.prog 21 (mkConF [.ref (.pair .bool (.sl tCommit)), .dat true tAttempt] [(true, tClash), (false, .int .i64)] F21) :=
  mkConF_ok mixed TT_ok (envC_ok e38 (envC_ok e14 (envC_ok e12 env0_ok))) f21.codes (List.all_eq_true.1 rfl) fun X Y hF => (h X Y hF).imp fun n hn => (f21.eq n X).trans hn
def con21 : Con := mkConF [.ref (.pair .bool (.sl tCommit)), .dat true tAttempt] [(true, tClash), (false, .int .i64)] F21
/-! ### vellum/vellumlaw18.stamps -/
def E18 : FuncId → Option Con := env0
noncomputable def C18 : List (FuncId × Func) := [(18, Try.f18), (24, Try.f24), (35, Try.f35)]
def f18.h1 (x : (Bool × (List dCommit)) × (List dRcommit)) (y1 : Unit) : List AV × List Ob := ([.undef, .val false [.sc (.sl tRcommit) x.2], .undef, .undef, .undef, .val false [.nils], .val false [.sc (.int .i64) (0 : Int)]] ++ List.replicate 23 .undef, [])
def f18.h2 (x : (Bool × (List dCommit)) × (List dRcommit)) (y2 : Nat × Int × (List Int)) (y3 : Int) : List AV × List Ob := ([.undef, .val false [.sc (.sl tRcommit) x.2], .undef, .undef, .undef, .val false [.own 0 y2.1], .val false [.sc (.int .i64) y3]] ++ List.replicate 23 .undef, [.arr 27 (.int .u64) y2.2.2])
def f18.h3 (x : (Bool × (List dCommit)) × (List dRcommit)) (y2 : Nat × Int × (List Int)) : List AV × List Ob := ([.undef, .undef, .undef, .val false [.own 0 y2.1], .undef, .undef, .undef, .undef, .undef, .undef, .undef, .undef, .val false [.sc (.sl tCommit) x.1.2], .val false [.sc (.int .i64) (x.1.2.length : Int)], .val false [.sc (.int .i64) y2.2.1]] ++ List.replicate 10 .undef, [.arr 27 (.int .u64) y2.2.2])
def f18.L1 (n : Nat) (x : (Bool × (List dCommit)) × (List dRcommit)) (m1 : Nat) (y1 : Unit) : Option (Bool) :=
  loopN (ann 18 5).keep 0 (fun fr H k => execK TT 0 E18 (inlD TT E18 n ann (tabC C18) 3) n (ann 18) (subC [1, 1, 1, 0, 1, 0, 0] (bodyOf Try.f18)) fr H k) m1 (f18.h1 x y1).1 (f18.h1 x y1).2 (kont TT 0 E18 (inlD TT E18 n ann (tabC C18) 3) n (ann 18) [1, 1, 1, 0, 1, 0] (bodyOf Try.f18) (endK TT Try.f18 (readL [(false, .bool)])))
def f18.L2 (n : Nat) (x : (Bool × (List dCommit)) × (List dRcommit)) (y2 : Nat × Int × (List Int)) (m3 : Nat) (y3 : Int) : Option (Bool) :=
  loopN (ann 18 5).keep 1 (fun fr H k => execK TT 0 E18 (inlD TT E18 n ann (tabC C18) 3) n (ann 18) (subC [1, 1, 1, 0, 1, 0, 0] (bodyOf Try.f18)) fr H k) m3 (f18.h2 x y2 y3).1 (f18.h2 x y2 y3).2 (kont TT 0 E18 (inlD TT E18 n ann (tabC C18) 3) n (ann 18) [1, 1, 1, 0, 1, 0] (bodyOf Try.f18) (endK TT Try.f18 (readL [(false, .bool)])))
def f18.L3 (n : Nat) (x : (Bool × (List dCommit)) × (List dRcommit)) (m2 : Nat) (y2 : Nat × Int × (List Int)) : Option (Bool) :=
  loopN (ann 24 5).keep 1 (fun fr H k => execK TT 0 E18 (inlD TT E18 n ann (tabC C18) 2) n (ann 24) (subC [1, 1, 1, 0, 1, 0, 0] (bodyOf Try.f24)) fr H k) m2 (f18.h3 x y2).1 (f18.h3 x y2).2 (kont TT 0 E18 (inlD TT E18 n ann (tabC C18) 2) n (ann 24) [1, 1, 1, 0, 1, 0] (bodyOf Try.f24) (endK TT Try.f24 (restK TT 0 E18 (inlD TT E18 n ann (tabC C18) 3) false (ann 18 1).plain (opsOf (subC [1, 0] (bodyOf Try.f18))) 1 ⟨[.val false [.elr (.pair .bool (.sl tCommit)) x.1 0], .val false [.sc (.sl tRcommit) x.2], .undef, .undef, .val false [.sc .bool false], .undef, .undef, .val false [.elr (.pair .bool (.sl tCommit)) x.1 0]] ++ List.replicate 22 .undef, [], []⟩ (fun g H => (kont TT 0 E18 (inlD TT E18 n ann (tabC C18) 3) n (ann 18) [1, 0] (bodyOf Try.f18) (endK TT Try.f18 (readL [(false, .bool)]))) .normal (endG g) H))))
def f18.s1 (n : Nat) (x : (Bool × (List dCommit)) × (List dRcommit)) (S1 : Unit → Option (Bool)) (y1 : Unit) : Option (Bool) :=
  some true
set_option maxRecDepth 100000 in
theorem f18.k1 (n : Nat) (x : (Bool × (List dCommit)) × (List dRcommit)) (m : Nat) (y : Unit) : f18.L1 n x (m + 1) y = f18.s1 n x (f18.L1 n x m) y := by kernel_rfl
theorem f18.l1 (n : Nat) (x : (Bool × (List dCommit)) × (List dRcommit)) : ∀ (m : Nat) (y1 : Unit), f18.L1 n x m y1 = iter (f18.s1 n x) m y1 :=
  loop_of (L := f18.L1 n x) (step := f18.s1 n x) (fun _ => rfl) (f18.k1 n x)
def f18.s2 (n : Nat) (x : (Bool × (List dCommit)) × (List dRcommit)) (y2 : Nat × Int × (List Int)) (S3 : Int → Option (Bool)) (y3 : Int) : Option (Bool) :=
  bif decide (y3 < ((y2.1 : Nat) : Int)) then
    (bif decide (0 ≤ y3) && decide (y3 < ((y2.1 : Nat) : Int)) then
      (bif decide (0 ≤ y3) && decide (y3 < (x.2.length : Int)) then
        (bif y2.2.2.getD y3.toNat (Ty.dflt (.int .u64)) != (x.2.getD y3.toNat tRcommit.dflt).1 then
          (some false)
        else
          (S3 (IntKind.wrap .i64 (y3 + (1 : Int)))))
      else
        (none))
    else
      (none))
  else
    (some true)
set_option maxRecDepth 100000 in
theorem f18.k2 (n : Nat) (x : (Bool × (List dCommit)) × (List dRcommit)) (y2 : Nat × Int × (List Int)) (m : Nat) (y : Int) : f18.L2 n x y2 (m + 1) y = f18.s2 n x y2 (f18.L2 n x y2 m) y := by kernel_rfl
theorem f18.l2 (n : Nat) (x : (Bool × (List dCommit)) × (List dRcommit)) (y2 : Nat × Int × (List Int)) : ∀ (m : Nat) (y3 : Int), f18.L2 n x y2 m y3 = iter (f18.s2 n x y2) m y3 :=
  loop_of (L := f18.L2 n x y2) (step := f18.s2 n x y2) (fun _ => rfl) (f18.k2 n x y2)
def f18.s3 (n : Nat) (x : (Bool × (List dCommit)) × (List dRcommit)) (S2 : (Nat × Int × (List Int)) → Option (Bool)) (y2 : Nat × Int × (List Int)) : Option (Bool) :=
  bif decide (y2.2.1 < (x.1.2.length : Int)) then
    (bif decide (0 ≤ y2.2.1) && decide (y2.2.1 < (x.1.2.length : Int)) then
      (bif decide ((y2.1 + 1) * 8 ≤ boundN) then
        (S2 (y2.1 + 1, (IntKind.wrap .i64 (y2.2.1 + (1 : Int)), List.take y2.1 y2.2.2 ++ ([(x.1.2.getD y2.2.1.toNat tCommit.dflt).1]))))
      else
        (none))
    else
      (none))
  else
    (bif ((y2.1 : Nat) : Int) != (x.2.length : Int) then
      (some false)
    else
      (iter (f18.s2 n x y2) n (0 : Int)))
def f18.r3 (n : Nat) (x : (Bool × (List dCommit)) × (List dRcommit)) (m2 : Nat) (S2 : (Nat × Int × (List Int)) → Option (Bool)) (y2 : Nat × Int × (List Int)) : Option (Bool) :=
  bif decide (y2.2.1 < (x.1.2.length : Int)) then
    (bif decide (0 ≤ y2.2.1) && decide (y2.2.1 < (x.1.2.length : Int)) then
      (bif decide ((y2.1 + 1) * 8 ≤ boundN) then
        (S2 (y2.1 + 1, (IntKind.wrap .i64 (y2.2.1 + (1 : Int)), List.take y2.1 y2.2.2 ++ ([(x.1.2.getD y2.2.1.toNat tCommit.dflt).1]))))
      else
        (none))
    else
      (none))
  else
    (bif ((y2.1 : Nat) : Int) != (x.2.length : Int) then
      (some false)
    else
      (f18.L2 n x y2 n (0 : Int)))
set_option maxRecDepth 100000 in
theorem f18.k3 (n : Nat) (x : (Bool × (List dCommit)) × (List dRcommit)) (m : Nat) (y : Nat × Int × (List Int)) : f18.L3 n x (m + 1) y = f18.s3 n x (f18.L3 n x m) y := by
  have h : f18.L3 n x (m + 1) y = f18.r3 n x m (f18.L3 n x m) y := by kernel_rfl
  rw [h]
  simp only [f18.r3, f18.s3, f18.l1, f18.l2]
theorem f18.l3 (n : Nat) (x : (Bool × (List dCommit)) × (List dRcommit)) : ∀ (m : Nat) (y2 : Nat × Int × (List Int)), f18.L3 n x m y2 = iter (f18.s3 n x) m y2 :=
  loop_of (L := f18.L3 n x) (step := f18.s3 n x) (fun _ => rfl) (f18.k3 n x)
def f18.g (n : Nat) (x : (Bool × (List dCommit)) × (List dRcommit)) : Option (Bool) :=
  bif !x.1.1 then
    (bif (0 : Int) != (x.2.length : Int) then
      (some false)
    else
      (iter (f18.s1 n x) n ()))
  else
    (iter (f18.s3 n x) n (0, ((0 : Int), [])))
def f18.q (n : Nat) (x : (Bool × (List dCommit)) × (List dRcommit)) : Option (Bool) :=
  bif !x.1.1 then
    (bif (0 : Int) != (x.2.length : Int) then
      (some false)
    else
      (f18.L1 n x n ()))
  else
    (f18.L3 n x n (0, ((0 : Int), [])))
set_option maxRecDepth 100000 in
theorem f18.eq (n : Nat) (x : (Bool × (List dCommit)) × (List dRcommit)) : runK TT E18 n ann (tabC C18) 3 18 (avL [.ref (.pair .bool (.sl tCommit)), .dat false (.sl tRcommit)] x) [] (readL [(false, .bool)]) = f18.g n x := by
  have h : runK TT E18 n ann (tabC C18) 3 18 (avL [.ref (.pair .bool (.sl tCommit)), .dat false (.sl tRcommit)] x) [] (readL [(false, .bool)]) = f18.q n x := by kernel_rfl
  rw [h]
  simp only [f18.q, f18.g, f18.l1, f18.l2, f18.l3]
set_option maxRecDepth 100000 in
theorem f18.codes : CodesOk Try.prog E18 ann (tabC C18) := tabC_ok (by intro p hp; simp only [C18, List.mem_cons, List.not_mem_nil, or_false] at hp; rcases hp with rfl | rfl | rfl <;> first | exact Try.func18 | exact Try.func24 | exact Try.func35) (by kernel_rfl)
theorem f18.ok (h : ∀ X Y, F18 X = some Y → ∃ n, f18.g n X = some Y)  : ConOk Try.prog 18 (mkConF [.ref (.pair .bool (.sl tCommit)), .dat false (.sl tRcommit)] [(false, .bool)] F18) :=
  mkConF_ok mixed TT_ok env0_ok f18.codes (List.all_eq_true.1 rfl) fun X Y hF => (h X Y hF).imp fun n hn => (f18.eq n X).trans hn
def con18 : Con := mkConF [.ref (.pair .bool (.sl tCommit)), .dat false (.sl tRcommit)] [(false, .bool)] F18
/-! ### slices.Clone[[]vellum/api.Point,vellum/api.Point] -/
def E39 : FuncId → Option Con := env0
noncomputable def C39 : List (FuncId × Func) := [(39, Try.f39)]
def f39.g (n : Nat) (x : Bool × (List dPoint)) : Option ((List dPoint)) :=
  bif x.1 then
    (some ([]))
  else
    (bif decide ((0 + x.2.length) * 32 ≤ boundN) then
      (some (List.take (0 + x.2.length) (List.take 0 ([]) ++ x.2)))
    else
      (none))
set_option maxRecDepth 100000 in
theorem f39.eq (n : Nat) (x : Bool × (List dPoint)) : runK TT E39 n ann (tabC C39) 1 39 [.val false [.scn x.1 tPoint x.2]] [] (readL [(false, .sl tPoint)]) = f39.g n x := by
  kernel_rfl
set_option maxRecDepth 100000 in
theorem f39.codes : CodesOk Try.prog E39 ann (tabC C39) := tabC_ok (by intro p hp; simp only [C39, List.mem_cons, List.not_mem_nil, or_false] at hp; rcases hp with rfl <;> first | exact Try.func39) (by kernel_rfl)
theorem f39.ok (h : ∀ X Y, F39 X = some Y → ∀ z, (z = true → X = []) → ∃ n, f39.g n (z, X) = some Y)  : ConOk Try.prog 39 (mkCon [(false, .sl tPoint)] [(false, .sl tPoint)] false F39) :=
  mkConN_ok mixed TT_ok env0_ok f39.codes fun X Y hF z hz => (h X Y hF z hz).imp fun n hn => (f39.eq n (z, X)).trans hn
def con39 : Con := mkCon [(false, .sl tPoint)] [(false, .sl tPoint)] false F39
/-! ### slices.Clone[[]vellum/valid.commit,vellum/valid.commit] -/
def E37 : FuncId → Option Con := env0
noncomputable def C37 : List (FuncId × Func) := [(37, Try.f37)]
def f37.g (n : Nat) (x : Bool × (List dCommit)) : Option ((List dCommit × Unit) × Unit) :=
  bif x.1 then
    (some (([], ()), ()))
  else
    (bif decide ((0 + x.2.length) * 80 ≤ boundN) then
      (some ((List.take (0 + x.2.length) (List.take 0 ([]) ++ x.2), ()), ()))
    else
      (none))
set_option maxRecDepth 100000 in
theorem f37.eq (n : Nat) (x : Bool × (List dCommit)) : runK TT E37 n ann (tabC C37) 1 37 [.val false [.scn x.1 tCommit x.2]] [] (readO [(false, [.own 85 tCommit])]) = f37.g n x := by
  kernel_rfl
set_option maxRecDepth 100000 in
theorem f37.codes : CodesOk Try.prog E37 ann (tabC C37) := tabC_ok (by intro p hp; simp only [C37, List.mem_cons, List.not_mem_nil, or_false] at hp; rcases hp with rfl <;> first | exact Try.func37) (by kernel_rfl)
theorem f37.ok (h : ∀ X Y, F37 X = some Y → ∀ z, (z = true → X = []) → ∃ n, f37.g n (z, X) = some Y)  : ConOk Try.prog 37 (mkConO [(false, .sl tCommit)] [(false, [.own 85 tCommit])] F37) :=
  mkConNO_ok mixed TT_ok env0_ok f37.codes fun X Y hF z hz => (h X Y hF z hz).imp fun n hn => (f37.eq n (z, X)).trans hn
def con37 : Con := mkConO [(false, .sl tCommit)] [(false, [.own 85 tCommit])] F37
/-! ### (*vellum/valid.Log).Note -/
def E23a : FuncId → Option Con := (envC 39 con39 (envC 38 con38 env0))
noncomputable def C23a : List (FuncId × Func) := [(23, Try.f23), (35, Try.f35)]
def f23a.g (n : Nat) (x : (Bool × List dCommit) × (Int × dFoot)) : Option ((Bool × List dCommit) × Int) :=
  bif !x.1.1 then
    (some ((x.1.1, List.take x.1.2.length x.1.2), (1 : Int)))
  else
    ((F38 x.2.2).bind fun r1 =>
      bif r1 != (0 : Int) then
        (some ((x.1.1, List.take x.1.2.length x.1.2), r1))
      else
        (bif bif (x.2.1 == (0 : Int)) then true else (decide (x.2.1 > (4611686018427387904 : Int))) then
          (some ((x.1.1, List.take x.1.2.length x.1.2), (1 : Int)))
        else
          (bif decide (((x.1.2.length : Nat) : Int) > (0 : Int)) then
            (bif decide (0 ≤ IntKind.wrap .i64 (((x.1.2.length : Nat) : Int) - (1 : Int))) && decide (IntKind.wrap .i64 (((x.1.2.length : Nat) : Int) - (1 : Int)) < ((x.1.2.length : Nat) : Int)) then
              (bif decide ((x.1.2.getD ((IntKind.wrap .i64 (((x.1.2.length : Nat) : Int) - (1 : Int))).toNat) tCommit.dflt).1 ≥ x.2.1) then
                (some ((x.1.1, List.take x.1.2.length x.1.2), (81 : Int)))
              else
                (bif decide (((x.1.2.length : Nat) : Int) ≥ (4096 : Int)) then
                  (some ((x.1.1, List.take x.1.2.length x.1.2), (2 : Int)))
                else
                  ((F39 x.2.2.2.2).bind fun r2 =>
                    bif decide ((x.1.2.length + 1) * 80 ≤ boundN) then
                      (some ((x.1.1, List.take (x.1.2.length + 1) (List.take x.1.2.length x.1.2 ++ ([(x.2.1, ([], ([], r2)))]))), (0 : Int)))
                    else
                      (none))))
            else
              (none))
          else
            (bif decide (((x.1.2.length : Nat) : Int) ≥ (4096 : Int)) then
              (some ((x.1.1, List.take x.1.2.length x.1.2), (2 : Int)))
            else
              ((F39 x.2.2.2.2).bind fun r3 =>
                bif decide ((x.1.2.length + 1) * 80 ≤ boundN) then
                  (some ((x.1.1, List.take (x.1.2.length + 1) (List.take x.1.2.length x.1.2 ++ ([(x.2.1, ([], ([], r3)))]))), (0 : Int)))
                else
                  (none))))))
set_option maxRecDepth 100000 in
theorem f23a.eq (n : Nat) (x : (Bool × List dCommit) × (Int × dFoot)) : runM TT E23a n ann (tabC C23a) 2 23 (argsM [(false, .int .u64), (true, tFoot)] x.2) (startM .bool 85 tCommit x.1) (readM .bool 85 tCommit [(false, .int .i64)]) = f23a.g n x := by
  kernel_rfl
set_option maxRecDepth 100000 in
theorem f23a.codes : CodesOk Try.prog E23a ann (tabC C23a) := tabC_ok (by intro p hp; simp only [C23a, List.mem_cons, List.not_mem_nil, or_false] at hp; rcases hp with rfl | rfl <;> first | exact Try.func23 | exact Try.func35) (by kernel_rfl)
/-! ### (*vellum/valid.Log).Note -/
def E23n : FuncId → Option Con := (envC 39 con39 (envC 38 con38 env0))
noncomputable def C23n : List (FuncId × Func) := [(23, Try.f23), (35, Try.f35)]
def f23n.g (n : Nat) (x : (Bool × List dCommit) × (Int × dFoot)) : Option ((Bool × List dCommit) × Int) :=
  bif !x.1.1 then
    (some ((x.1.1, []), (1 : Int)))
  else
    ((F38 x.2.2).bind fun r1 =>
      bif r1 != (0 : Int) then
        (some ((x.1.1, []), r1))
      else
        (bif bif (x.2.1 == (0 : Int)) then true else (decide (x.2.1 > (4611686018427387904 : Int))) then
          (some ((x.1.1, []), (1 : Int)))
        else
          ((F39 x.2.2.2.2).bind fun r2 =>
            bif decide (1 * 80 ≤ boundN) then
              (some ((x.1.1, List.take 1 ([(x.2.1, ([], ([], r2)))])), (0 : Int)))
            else
              (none))))
set_option maxRecDepth 100000 in
theorem f23n.eq (n : Nat) (x : (Bool × List dCommit) × (Int × dFoot)) : runM TT E23n n ann (tabC C23n) 2 23 (argsM [(false, .int .u64), (true, tFoot)] x.2) (startN .bool x.1.1) (readM .bool 85 tCommit [(false, .int .i64)]) = f23n.g n x := by
  kernel_rfl
set_option maxRecDepth 100000 in
theorem f23n.codes : CodesOk Try.prog E23n ann (tabC C23n) := tabC_ok (by intro p hp; simp only [C23n, List.mem_cons, List.not_mem_nil, or_false] at hp; rcases hp with rfl | rfl <;> first | exact Try.func23 | exact Try.func35) (by kernel_rfl)
theorem f23.ok (h : ∀ X Y, F23 X = some Y → ∃ n, f23a.g n X = some Y) (h0 : ∀ X Y, F23 X = some Y → X.1.2 = [] → ∃ n, f23n.g n X = some Y) (e38 : ConOk Try.prog 38 con38) (e39 : ConOk Try.prog 39 con39) : ConOk Try.prog 23 (mkConM .bool 85 tCommit [(false, .int .u64), (true, tFoot)] [(false, .int .i64)] F23) :=
  mkConM_ok mixed TT_ok (envC_ok e39 (envC_ok e38 env0_ok)) f23a.codes (List.all_eq_true.1 rfl) (fun X Y hF => (h X Y hF).imp fun n hn => (f23a.eq n X).trans hn) (fun X Y hF h1 => (h0 X Y hF h1).imp fun n hn => (f23n.eq n X).trans hn)
def con23 : Con := mkConM .bool 85 tCommit [(false, .int .u64), (true, tFoot)] [(false, .int .i64)] F23
/-! ### (*vellum/valid.Log).Trim -/
def E19d : FuncId → Option Con := (envC 50 con50 (envC 37 con37 env0))
noncomputable def C19d : List (FuncId × Func) := [(19, Try.f19), (35, Try.f35), (36, Try.f36)]
def f19d.g (n : Nat) (x : (Bool × List dCommit) × Int) : Option ((Bool × List dCommit) × Int) :=
  bif !x.1.1 then
    (none)
  else
    ((F50 (x.1.2, x.2)).bind fun r1 =>
      bif decide (r1 < (0 : Int)) then
        ((F37 ([])).bind fun r2 =>
          some ((x.1.1, List.take r2.1.1.length r2.1.1), IntKind.wrap .i64 ((x.1.2.length : Int) - (0 : Int))))
      else
        (bif decide (0 ≤ r1) && decide (r1 ≤ (x.1.2.length : Int)) then
          ((F37 (List.drop r1.toNat x.1.2)).bind fun r3 =>
            some ((x.1.1, List.take r3.1.1.length r3.1.1), IntKind.wrap .i64 ((x.1.2.length : Int) - ((List.drop r1.toNat x.1.2).length : Int))))
        else
          (none)))
set_option maxRecDepth 100000 in
theorem f19d.eq (n : Nat) (x : (Bool × List dCommit) × Int) : runM TT E19d n ann (tabC C19d) 3 19 (argsM [(false, .int .u64)] x.2) (startD .bool tCommit x.1) (readM .bool 85 tCommit [(false, .int .i64)]) = f19d.g n x := by
  kernel_rfl
set_option maxRecDepth 100000 in
theorem f19d.codes : CodesOk Try.prog E19d ann (tabC C19d) := tabC_ok (by intro p hp; simp only [C19d, List.mem_cons, List.not_mem_nil, or_false] at hp; rcases hp with rfl | rfl | rfl <;> first | exact Try.func19 | exact Try.func35 | exact Try.func36) (by kernel_rfl)
theorem f19.ok (h : ∀ X Y, F19 X = some Y → ∃ n, f19d.g n X = some Y) (e37 : ConOk Try.prog 37 con37) (e50 : ConOk Try.prog 50 con50) : ConOk Try.prog 19 (mkConM .bool 85 tCommit [(false, .int .u64)] [(false, .int .i64)] F19) :=
  mkConMd_ok mixed TT_ok (envC_ok e50 (envC_ok e37 env0_ok)) f19d.codes (List.all_eq_true.1 rfl) (fun X Y hF => (h X Y hF).imp fun n hn => (f19d.eq n X).trans hn)
def con19 : Con := mkConM .bool 85 tCommit [(false, .int .u64)] [(false, .int .i64)] F19
/-! ### vellum/vellumlaw18.awake -/
def E17 : FuncId → Option Con := (envC 23 con23 (envC 12 con12 env0))
noncomputable def C17 : List (FuncId × Func) := [(17, Try.f17), (29, Try.f29)]
def f17.g (n : Nat) (x : Unit) : Option (Bool) :=
  (F23 ((true, []), ((5 : Int), ([], ([], List.take 1 ([((1 : Int), ((-1 : Int), (⟨#[107]⟩ : ByteArray)))])))))).bind fun r1 =>
    (F12 ((r1.1.1, List.take r1.1.2.length r1.1.2), ((List.take 1 ([((1 : Int), ((-1 : Int), (⟨#[107]⟩ : ByteArray)))]), ([], [])), (4 : Int)))).bind fun r2 =>
      (F12 ((r1.1.1, List.take r1.1.2.length r1.1.2), ((List.take 1 ([((1 : Int), ((-1 : Int), (⟨#[107]⟩ : ByteArray)))]), ([], [])), (5 : Int)))).bind fun r3 =>
        some (bif (bif (r1.2 == (0 : Int)) then r2.2 else false) then (!r3.2) else false)
set_option maxRecDepth 100000 in
theorem f17.eq (n : Nat) (x : Unit) : runK TT E17 n ann (tabC C17) 2 17 (argsL [] x) [] (readL [(false, .bool)]) = f17.g n x := by
  kernel_rfl
set_option maxRecDepth 100000 in
theorem f17.codes : CodesOk Try.prog E17 ann (tabC C17) := tabC_ok (by intro p hp; simp only [C17, List.mem_cons, List.not_mem_nil, or_false] at hp; rcases hp with rfl | rfl <;> first | exact Try.func17 | exact Try.func29) (by kernel_rfl)
theorem f17.ok (h : ∀ X Y, F17 X = some Y → ∃ n, f17.g n X = some Y) (e12 : ConOk Try.prog 12 con12) (e23 : ConOk Try.prog 23 con23) : ConOk Try.prog 17 (mkCon [] [(false, .bool)] true F17) :=
  mkCon_ok mixed TT_ok (envC_ok e23 (envC_ok e12 env0_ok)) f17.codes (fun _ => List.all_eq_true.1 rfl) fun X Y hF => (h X Y hF).imp fun n hn => (f17.eq n X).trans hn
def con17 : Con := mkCon [] [(false, .bool)] true F17
/-! ### vellum/vellumref17.place -/
def E45 : FuncId → Option Con := env0
noncomputable def C45 : List (FuncId × Func) := [(45, Try.f45)]
def f45.g (n : Nat) (x : Int × Int) : Option (Bool) :=
  some (bif (decide (x.1 ≥ (0 : Int))) then (decide (x.2 ≥ (-1 : Int))) else false)
set_option maxRecDepth 100000 in
theorem f45.eq (n : Nat) (x : Int × Int) : runK TT E45 n ann (tabC C45) 1 45 (argsL [(false, .int .i64), (false, .int .i64)] x) [] (readL [(false, .bool)]) = f45.g n x := by
  kernel_rfl
set_option maxRecDepth 100000 in
theorem f45.codes : CodesOk Try.prog E45 ann (tabC C45) := tabC_ok (by intro p hp; simp only [C45, List.mem_cons, List.not_mem_nil, or_false] at hp; rcases hp with rfl <;> first | exact Try.func45) (by kernel_rfl)
theorem f45.ok (h : ∀ X Y, F45 X = some Y → ∃ n, f45.g n X = some Y)  : ConOk Try.prog 45 (mkCon [(false, .int .i64), (false, .int .i64)] [(false, .bool)] true F45) :=
  mkCon_ok mixed TT_ok env0_ok f45.codes (fun _ => List.all_eq_true.1 rfl) fun X Y hF => (h X Y hF).imp fun n hn => (f45.eq n X).trans hn
def con45 : Con := mkCon [(false, .int .i64), (false, .int .i64)] [(false, .bool)] true F45
/-! ### vellum/vellumref17.Check -/
def E32 : FuncId → Option Con := (envC 45 con45 env0)
noncomputable def C32 : List (FuncId × Func) := [(32, Try.f32), (44, Try.f44)]
def f32.h1 (x : dFoot) (y1 : Int) (y3 : Int) (y5 : Int) : List AV × List Ob := ([.undef, .val false [.ptr 0 0], .undef, .undef, .undef, .val false [.sc (.int .i64) y5]] ++ List.replicate 66 .undef, [.box [.sc (.sl tPoint) x.1, .sc (.sl tSpan) x.2.1, .sc (.sl tPoint) x.2.2], .box [.sc (.sl tPoint) x.1, .sc (.sl tSpan) x.2.1, .sc (.sl tPoint) x.2.2]])
def f32.h2 (x : dFoot) (y1 : Int) (y3 : Int) : List AV × List Ob := ([.undef, .val false [.ptr 0 0], .undef, .undef, .val false [.sc (.int .i64) y3]] ++ List.replicate 67 .undef, [.box [.sc (.sl tPoint) x.1, .sc (.sl tSpan) x.2.1, .sc (.sl tPoint) x.2.2], .box [.sc (.sl tPoint) x.1, .sc (.sl tSpan) x.2.1, .sc (.sl tPoint) x.2.2]])
def f32.h3 (x : dFoot) (y1 : Int) : List AV × List Ob := ([.undef, .val false [.ptr 0 0], .undef, .val false [.sc (.int .i64) y1]] ++ List.replicate 68 .undef, [.box [.sc (.sl tPoint) x.1, .sc (.sl tSpan) x.2.1, .sc (.sl tPoint) x.2.2], .box [.sc (.sl tPoint) x.1, .sc (.sl tSpan) x.2.1, .sc (.sl tPoint) x.2.2]])
def f32.L1 (n : Nat) (x : dFoot) (y1 : Int) (y3 : Int) (m5 : Nat) (y5 : Int) : Option (Int) :=
  loopN (ann 32 14).keep 2 (fun fr H k => execK TT 0 E32 (inlD TT E32 n ann (tabC C32) 2) n (ann 32) (subC [1, 1, 1, 1, 0, 1, 0, 0] (bodyOf Try.f32)) fr H k) m5 (f32.h1 x y1 y3 y5).1 (f32.h1 x y1 y3 y5).2 (kont TT 0 E32 (inlD TT E32 n ann (tabC C32) 2) n (ann 32) [1, 1, 1, 1, 0, 1, 0] (bodyOf Try.f32) (endK TT Try.f32 (readL [(false, .int .i64)])))
def f32.L2 (n : Nat) (x : dFoot) (y1 : Int) (m3 : Nat) (y3 : Int) : Option (Int) :=
  loopN (ann 32 9).keep 2 (fun fr H k => execK TT 0 E32 (inlD TT E32 n ann (tabC C32) 2) n (ann 32) (subC [1, 1, 1, 0, 1, 0, 0] (bodyOf Try.f32)) fr H k) m3 (f32.h2 x y1 y3).1 (f32.h2 x y1 y3).2 (kont TT 0 E32 (inlD TT E32 n ann (tabC C32) 2) n (ann 32) [1, 1, 1, 0, 1, 0] (bodyOf Try.f32) (endK TT Try.f32 (readL [(false, .int .i64)])))
def f32.L3 (n : Nat) (x : dFoot) (m1 : Nat) (y1 : Int) : Option (Int) :=
  loopN (ann 32 4).keep 2 (fun fr H k => execK TT 0 E32 (inlD TT E32 n ann (tabC C32) 2) n (ann 32) (subC [1, 1, 0, 1, 0, 0] (bodyOf Try.f32)) fr H k) m1 (f32.h3 x y1).1 (f32.h3 x y1).2 (kont TT 0 E32 (inlD TT E32 n ann (tabC C32) 2) n (ann 32) [1, 1, 0, 1, 0] (bodyOf Try.f32) (endK TT Try.f32 (readL [(false, .int .i64)])))
def f32.s1 (n : Nat) (x : dFoot) (y1 : Int) (y3 : Int) (S5 : Int → Option (Int)) (y5 : Int) : Option (Int) :=
  bif decide (y5 < (x.2.2.length : Int)) then
    (bif decide (0 ≤ y5) && decide (y5 < (x.2.2.length : Int)) then
      (bif decide (0 ≤ y5) && decide (y5 < (x.2.2.length : Int)) then
        ((F45 ((x.2.2.getD y5.toNat tPoint.dflt).1, (x.2.2.getD y5.toNat tPoint.dflt).2.1)).bind fun r6 =>
          bif !r6 then
            (some (1 : Int))
          else
            (S5 (IntKind.wrap .i64 (y5 + (1 : Int)))))
      else
        (none))
    else
      (none))
  else
    (some (0 : Int))
set_option maxRecDepth 100000 in
theorem f32.k1 (n : Nat) (x : dFoot) (y1 : Int) (y3 : Int) (m : Nat) (y : Int) : f32.L1 n x y1 y3 (m + 1) y = f32.s1 n x y1 y3 (f32.L1 n x y1 y3 m) y := by kernel_rfl
theorem f32.l1 (n : Nat) (x : dFoot) (y1 : Int) (y3 : Int) : ∀ (m : Nat) (y5 : Int), f32.L1 n x y1 y3 m y5 = iter (f32.s1 n x y1 y3) m y5 :=
  loop_of (L := f32.L1 n x y1 y3) (step := f32.s1 n x y1 y3) (fun _ => rfl) (f32.k1 n x y1 y3)
def f32.s2 (n : Nat) (x : dFoot) (y1 : Int) (S3 : Int → Option (Int)) (y3 : Int) : Option (Int) :=
  bif decide (y3 < (x.2.1.length : Int)) then
    (bif decide (0 ≤ y3) && decide (y3 < (x.2.1.length : Int)) then
      (bif decide (0 ≤ y3) && decide (y3 < (x.2.1.length : Int)) then
        ((F45 ((x.2.1.getD y3.toNat tSpan.dflt).1, (x.2.1.getD y3.toNat tSpan.dflt).2.1)).bind fun r4 =>
          bif !r4 then
            (some (1 : Int))
          else
            (S3 (IntKind.wrap .i64 (y3 + (1 : Int)))))
      else
        (none))
    else
      (none))
  else
    (iter (f32.s1 n x y1 y3) n (0 : Int))
def f32.r2 (n : Nat) (x : dFoot) (y1 : Int) (m3 : Nat) (S3 : Int → Option (Int)) (y3 : Int) : Option (Int) :=
  bif decide (y3 < (x.2.1.length : Int)) then
    (bif decide (0 ≤ y3) && decide (y3 < (x.2.1.length : Int)) then
      (bif decide (0 ≤ y3) && decide (y3 < (x.2.1.length : Int)) then
        ((F45 ((x.2.1.getD y3.toNat tSpan.dflt).1, (x.2.1.getD y3.toNat tSpan.dflt).2.1)).bind fun r4 =>
          bif !r4 then
            (some (1 : Int))
          else
            (S3 (IntKind.wrap .i64 (y3 + (1 : Int)))))
      else
        (none))
    else
      (none))
  else
    (f32.L1 n x y1 y3 n (0 : Int))
set_option maxRecDepth 100000 in
theorem f32.k2 (n : Nat) (x : dFoot) (y1 : Int) (m : Nat) (y : Int) : f32.L2 n x y1 (m + 1) y = f32.s2 n x y1 (f32.L2 n x y1 m) y := by
  have h : f32.L2 n x y1 (m + 1) y = f32.r2 n x y1 m (f32.L2 n x y1 m) y := by kernel_rfl
  rw [h]
  simp only [f32.r2, f32.s2, f32.l1]
theorem f32.l2 (n : Nat) (x : dFoot) (y1 : Int) : ∀ (m : Nat) (y3 : Int), f32.L2 n x y1 m y3 = iter (f32.s2 n x y1) m y3 :=
  loop_of (L := f32.L2 n x y1) (step := f32.s2 n x y1) (fun _ => rfl) (f32.k2 n x y1)
def f32.s3 (n : Nat) (x : dFoot) (S1 : Int → Option (Int)) (y1 : Int) : Option (Int) :=
  bif decide (y1 < (x.1.length : Int)) then
    (bif decide (0 ≤ y1) && decide (y1 < (x.1.length : Int)) then
      (bif decide (0 ≤ y1) && decide (y1 < (x.1.length : Int)) then
        ((F45 ((x.1.getD y1.toNat tPoint.dflt).1, (x.1.getD y1.toNat tPoint.dflt).2.1)).bind fun r2 =>
          bif !r2 then
            (some (1 : Int))
          else
            (S1 (IntKind.wrap .i64 (y1 + (1 : Int)))))
      else
        (none))
    else
      (none))
  else
    (iter (f32.s2 n x y1) n (0 : Int))
def f32.r3 (n : Nat) (x : dFoot) (m1 : Nat) (S1 : Int → Option (Int)) (y1 : Int) : Option (Int) :=
  bif decide (y1 < (x.1.length : Int)) then
    (bif decide (0 ≤ y1) && decide (y1 < (x.1.length : Int)) then
      (bif decide (0 ≤ y1) && decide (y1 < (x.1.length : Int)) then
        ((F45 ((x.1.getD y1.toNat tPoint.dflt).1, (x.1.getD y1.toNat tPoint.dflt).2.1)).bind fun r2 =>
          bif !r2 then
            (some (1 : Int))
          else
            (S1 (IntKind.wrap .i64 (y1 + (1 : Int)))))
      else
        (none))
    else
      (none))
  else
    (f32.L2 n x y1 n (0 : Int))
set_option maxRecDepth 100000 in
theorem f32.k3 (n : Nat) (x : dFoot) (m : Nat) (y : Int) : f32.L3 n x (m + 1) y = f32.s3 n x (f32.L3 n x m) y := by
  have h : f32.L3 n x (m + 1) y = f32.r3 n x m (f32.L3 n x m) y := by kernel_rfl
  rw [h]
  simp only [f32.r3, f32.s3, f32.l1, f32.l2]
theorem f32.l3 (n : Nat) (x : dFoot) : ∀ (m : Nat) (y1 : Int), f32.L3 n x m y1 = iter (f32.s3 n x) m y1 :=
  loop_of (L := f32.L3 n x) (step := f32.s3 n x) (fun _ => rfl) (f32.k3 n x)
def f32.g (n : Nat) (x : dFoot) : Option (Int) :=
  bif decide (IntKind.wrap .i64 (IntKind.wrap .i64 ((x.1.length : Int) + (x.2.1.length : Int)) + (x.2.2.length : Int)) > (65536 : Int)) then
    (some (2 : Int))
  else
    (iter (f32.s3 n x) n (0 : Int))
def f32.q (n : Nat) (x : dFoot) : Option (Int) :=
  bif decide (IntKind.wrap .i64 (IntKind.wrap .i64 ((x.1.length : Int) + (x.2.1.length : Int)) + (x.2.2.length : Int)) > (65536 : Int)) then
    (some (2 : Int))
  else
    (f32.L3 n x n (0 : Int))
set_option maxRecDepth 100000 in
theorem f32.eq (n : Nat) (x : dFoot) : runK TT E32 n ann (tabC C32) 2 32 (argsL [(true, tFoot)] x) [] (readL [(false, .int .i64)]) = f32.g n x := by
  have h : runK TT E32 n ann (tabC C32) 2 32 (argsL [(true, tFoot)] x) [] (readL [(false, .int .i64)]) = f32.q n x := by kernel_rfl
  rw [h]
  simp only [f32.q, f32.g, f32.l1, f32.l2, f32.l3]
set_option maxRecDepth 100000 in
theorem f32.codes : CodesOk Try.prog E32 ann (tabC C32) := tabC_ok (by intro p hp; simp only [C32, List.mem_cons, List.not_mem_nil, or_false] at hp; rcases hp with rfl | rfl <;> first | exact Try.func32 | exact Try.func44) (by kernel_rfl)
theorem f32.ok (h : ∀ X Y, F32 X = some Y → ∃ n, f32.g n X = some Y) (e45 : ConOk Try.prog 45 con45) : ConOk Try.prog 32 (mkCon [(true, tFoot)] [(false, .int .i64)] true F32) :=
  mkCon_ok mixed TT_ok (envC_ok e45 env0_ok) f32.codes (fun _ => List.all_eq_true.1 rfl) fun X Y hF => (h X Y hF).imp fun n hn => (f32.eq n X).trans hn
def con32 : Con := mkCon [(true, tFoot)] [(false, .int .i64)] true F32
/-! ### vellum/vellumref01.Strings -/
def E63 : FuncId → Option Con := env0
noncomputable def C63 : List (FuncId × Func) := [(63, Try.f63)]
def f63.g (n : Nat) (x : ByteArray × ByteArray) : Option (Int) :=
  bif strLt x.1 x.2 then
    (some (-1 : Int))
  else
    (bif !(strLt x.1 x.2 || strEq x.1 x.2) then
      (some (1 : Int))
    else
      (some (0 : Int)))
set_option maxRecDepth 100000 in
theorem f63.eq (n : Nat) (x : ByteArray × ByteArray) : runK TT E63 n ann (tabC C63) 1 63 (argsL [(false, .str), (false, .str)] x) [] (readL [(false, .int .i64)]) = f63.g n x := by
  kernel_rfl
set_option maxRecDepth 100000 in
theorem f63.codes : CodesOk Try.prog E63 ann (tabC C63) := tabC_ok (by intro p hp; simp only [C63, List.mem_cons, List.not_mem_nil, or_false] at hp; rcases hp with rfl <;> first | exact Try.func63) (by kernel_rfl)
theorem f63.ok (h : ∀ X Y, F63 X = some Y → ∃ n, f63.g n X = some Y)  : ConOk Try.prog 63 (mkCon [(false, .str), (false, .str)] [(false, .int .i64)] true F63) :=
  mkCon_ok mixed TT_ok env0_ok f63.codes (fun _ => List.all_eq_true.1 rfl) fun X Y hF => (h X Y hF).imp fun n hn => (f63.eq n X).trans hn
def con63 : Con := mkCon [(false, .str), (false, .str)] [(false, .int .i64)] true F63
/-! ### vellum/vellumref02.Has -/
def E70 : FuncId → Option Con := env0
noncomputable def C70 : List (FuncId × Func) := [(70, Try.f70)]
def f70.g (n : Nat) (x : dRange × ByteArray) : Option (Bool) :=
  some (bif (!(strLt x.2 x.1.1)) then (bif x.1.2.2 then true else (strLt x.2 x.1.2.1)) else false)
set_option maxRecDepth 100000 in
theorem f70.eq (n : Nat) (x : dRange × ByteArray) : runK TT E70 n ann (tabC C70) 1 70 (argsL [(true, tRange), (false, .str)] x) [] (readL [(false, .bool)]) = f70.g n x := by
  kernel_rfl
set_option maxRecDepth 100000 in
theorem f70.codes : CodesOk Try.prog E70 ann (tabC C70) := tabC_ok (by intro p hp; simp only [C70, List.mem_cons, List.not_mem_nil, or_false] at hp; rcases hp with rfl <;> first | exact Try.func70) (by kernel_rfl)
theorem f70.ok (h : ∀ X Y, F70 X = some Y → ∃ n, f70.g n X = some Y)  : ConOk Try.prog 70 (mkCon [(true, tRange), (false, .str)] [(false, .bool)] true F70) :=
  mkCon_ok mixed TT_ok env0_ok f70.codes (fun _ => List.all_eq_true.1 rfl) fun X Y hF => (h X Y hF).imp fun n hn => (f70.eq n X).trans hn
def con70 : Con := mkCon [(true, tRange), (false, .str)] [(false, .bool)] true F70
/-! ### vellum/vellumref17.Cmp -/
def E49 : FuncId → Option Con := (envC 63 con63 env0)
noncomputable def C49 : List (FuncId × Func) := [(49, Try.f49)]
def f49.g (n : Nat) (x : dPoint × dPoint) : Option (Int) :=
  bif x.1.1 != x.2.1 then
    (bif decide (x.1.1 < x.2.1) then
      (some (-1 : Int))
    else
      (some (1 : Int)))
  else
    (bif x.1.2.1 != x.2.2.1 then
      (bif decide (x.1.2.1 < x.2.2.1) then
        (some (-1 : Int))
      else
        (some (1 : Int)))
    else
      ((F63 (x.1.2.2, x.2.2.2)).bind fun r1 =>
        some r1))
set_option maxRecDepth 100000 in
theorem f49.eq (n : Nat) (x : dPoint × dPoint) : runK TT E49 n ann (tabC C49) 1 49 (argsL [(true, tPoint), (true, tPoint)] x) [] (readL [(false, .int .i64)]) = f49.g n x := by
  kernel_rfl
set_option maxRecDepth 100000 in
theorem f49.codes : CodesOk Try.prog E49 ann (tabC C49) := tabC_ok (by intro p hp; simp only [C49, List.mem_cons, List.not_mem_nil, or_false] at hp; rcases hp with rfl <;> first | exact Try.func49) (by kernel_rfl)
theorem f49.ok (h : ∀ X Y, F49 X = some Y → ∃ n, f49.g n X = some Y) (e63 : ConOk Try.prog 63 con63) : ConOk Try.prog 49 (mkCon [(true, tPoint), (true, tPoint)] [(false, .int .i64)] true F49) :=
  mkCon_ok mixed TT_ok (envC_ok e63 env0_ok) f49.codes (fun _ => List.all_eq_true.1 rfl) fun X Y hF => (h X Y hF).imp fun n hn => (f49.eq n X).trans hn
def con49 : Con := mkCon [(true, tPoint), (true, tPoint)] [(false, .int .i64)] true F49
/-! ### vellum/vellumref17.spanned -/
def E62 : FuncId → Option Con := (envC 70 con70 env0)
noncomputable def C62 : List (FuncId × Func) := [(62, Try.f62)]
def f62.h1 (x : (List dSpan) × dPoint) (y1 : Int) : List AV × List Ob := ([.val false [.sc (.sl tSpan) x.1], .undef, .undef, .val false [.ptr 0 0], .undef, .val false [.sc (.int .i64) y1]] ++ List.replicate 34 .undef, [.box [.sc (.int .i64) x.2.1, .sc (.int .i64) x.2.2.1, .sc .str x.2.2.2]])
def f62.L1 (n : Nat) (x : (List dSpan) × dPoint) (m1 : Nat) (y1 : Int) : Option (Bool) :=
  loopN (ann 62 2).keep 1 (fun fr H k => execK TT 0 E62 (inlD TT E62 n ann (tabC C62) 1) n (ann 62) (subC [1, 0, 1, 0, 0] (bodyOf Try.f62)) fr H k) m1 (f62.h1 x y1).1 (f62.h1 x y1).2 (kont TT 0 E62 (inlD TT E62 n ann (tabC C62) 1) n (ann 62) [1, 0, 1, 0] (bodyOf Try.f62) (endK TT Try.f62 (readL [(false, .bool)])))
def f62.s1 (n : Nat) (x : (List dSpan) × dPoint) (S1 : Int → Option (Bool)) (y1 : Int) : Option (Bool) :=
  bif decide (y1 < (x.1.length : Int)) then
    (bif decide (0 ≤ y1) && decide (y1 < (x.1.length : Int)) then
      (bif (x.1.getD y1.toNat tSpan.dflt).1 == x.2.1 then
        (bif decide (0 ≤ y1) && decide (y1 < (x.1.length : Int)) then
          (bif (x.1.getD y1.toNat tSpan.dflt).2.1 == x.2.2.1 then
            (bif decide (0 ≤ y1) && decide (y1 < (x.1.length : Int)) then
              ((F70 ((x.1.getD y1.toNat tSpan.dflt).2.2, x.2.2.2)).bind fun r2 =>
                bif r2 then
                  (some true)
                else
                  (S1 (IntKind.wrap .i64 (y1 + (1 : Int)))))
            else
              (none))
          else
            (S1 (IntKind.wrap .i64 (y1 + (1 : Int)))))
        else
          (none))
      else
        (S1 (IntKind.wrap .i64 (y1 + (1 : Int)))))
    else
      (none))
  else
    (some false)
set_option maxRecDepth 100000 in
theorem f62.k1 (n : Nat) (x : (List dSpan) × dPoint) (m : Nat) (y : Int) : f62.L1 n x (m + 1) y = f62.s1 n x (f62.L1 n x m) y := by kernel_rfl
theorem f62.l1 (n : Nat) (x : (List dSpan) × dPoint) : ∀ (m : Nat) (y1 : Int), f62.L1 n x m y1 = iter (f62.s1 n x) m y1 :=
  loop_of (L := f62.L1 n x) (step := f62.s1 n x) (fun _ => rfl) (f62.k1 n x)
def f62.g (n : Nat) (x : (List dSpan) × dPoint) : Option (Bool) :=
  iter (f62.s1 n x) n (0 : Int)
def f62.q (n : Nat) (x : (List dSpan) × dPoint) : Option (Bool) :=
  f62.L1 n x n (0 : Int)
set_option maxRecDepth 100000 in
theorem f62.eq (n : Nat) (x : (List dSpan) × dPoint) : runK TT E62 n ann (tabC C62) 1 62 (argsL [(false, .sl tSpan), (true, tPoint)] x) [] (readL [(false, .bool)]) = f62.g n x := by
  have h : runK TT E62 n ann (tabC C62) 1 62 (argsL [(false, .sl tSpan), (true, tPoint)] x) [] (readL [(false, .bool)]) = f62.q n x := by kernel_rfl
  rw [h]
  simp only [f62.q, f62.g, f62.l1]
set_option maxRecDepth 100000 in
theorem f62.codes : CodesOk Try.prog E62 ann (tabC C62) := tabC_ok (by intro p hp; simp only [C62, List.mem_cons, List.not_mem_nil, or_false] at hp; rcases hp with rfl <;> first | exact Try.func62) (by kernel_rfl)
theorem f62.ok (h : ∀ X Y, F62 X = some Y → ∃ n, f62.g n X = some Y) (e70 : ConOk Try.prog 70 con70) : ConOk Try.prog 62 (mkCon [(false, .sl tSpan), (true, tPoint)] [(false, .bool)] true F62) :=
  mkCon_ok mixed TT_ok (envC_ok e70 env0_ok) f62.codes (fun _ => List.all_eq_true.1 rfl) fun X Y hF => (h X Y hF).imp fun n hn => (f62.eq n X).trans hn
def con62 : Con := mkCon [(false, .sl tSpan), (true, tPoint)] [(false, .bool)] true F62
/-! ### vellum/vellumref17.Reads -/
def E46 : FuncId → Option Con := (envC 62 con62 env0)
noncomputable def C46 : List (FuncId × Func) := [(46, Try.f46)]
def f46.h1 (x : dFoot × dPoint) (y1 : Int) : List AV × List Ob := ([.undef, .undef, .val false [.ptr 0 0], .val false [.ptr 1 0], .undef, .val false [.sc (.int .i64) y1]] ++ List.replicate 18 .undef, [.box [.sc (.sl tPoint) x.1.1, .sc (.sl tSpan) x.1.2.1, .sc (.sl tPoint) x.1.2.2], .box [.sc (.int .i64) x.2.1, .sc (.int .i64) x.2.2.1, .sc .str x.2.2.2]])
def f46.L1 (n : Nat) (x : dFoot × dPoint) (m1 : Nat) (y1 : Int) : Option (Bool) :=
  loopN (ann 46 2).keep 2 (fun fr H k => execK TT 0 E46 (inlD TT E46 n ann (tabC C46) 1) n (ann 46) (subC [1, 0, 1, 0, 0] (bodyOf Try.f46)) fr H k) m1 (f46.h1 x y1).1 (f46.h1 x y1).2 (kont TT 0 E46 (inlD TT E46 n ann (tabC C46) 1) n (ann 46) [1, 0, 1, 0] (bodyOf Try.f46) (endK TT Try.f46 (readL [(false, .bool)])))
def f46.s1 (n : Nat) (x : dFoot × dPoint) (S1 : Int → Option (Bool)) (y1 : Int) : Option (Bool) :=
  bif decide (y1 < (x.1.1.length : Int)) then
    (bif decide (0 ≤ y1) && decide (y1 < (x.1.1.length : Int)) then
      (bif tPoint.eqB (x.1.1.getD y1.toNat tPoint.dflt) x.2 then
        (some true)
      else
        (S1 (IntKind.wrap .i64 (y1 + (1 : Int)))))
    else
      (none))
  else
    ((F62 (x.1.2.1, x.2)).bind fun r2 =>
      some r2)
set_option maxRecDepth 100000 in
theorem f46.k1 (n : Nat) (x : dFoot × dPoint) (m : Nat) (y : Int) : f46.L1 n x (m + 1) y = f46.s1 n x (f46.L1 n x m) y := by kernel_rfl
theorem f46.l1 (n : Nat) (x : dFoot × dPoint) : ∀ (m : Nat) (y1 : Int), f46.L1 n x m y1 = iter (f46.s1 n x) m y1 :=
  loop_of (L := f46.L1 n x) (step := f46.s1 n x) (fun _ => rfl) (f46.k1 n x)
def f46.g (n : Nat) (x : dFoot × dPoint) : Option (Bool) :=
  iter (f46.s1 n x) n (0 : Int)
def f46.q (n : Nat) (x : dFoot × dPoint) : Option (Bool) :=
  f46.L1 n x n (0 : Int)
set_option maxRecDepth 100000 in
theorem f46.eq (n : Nat) (x : dFoot × dPoint) : runK TT E46 n ann (tabC C46) 1 46 (argsL [(true, tFoot), (true, tPoint)] x) [] (readL [(false, .bool)]) = f46.g n x := by
  have h : runK TT E46 n ann (tabC C46) 1 46 (argsL [(true, tFoot), (true, tPoint)] x) [] (readL [(false, .bool)]) = f46.q n x := by kernel_rfl
  rw [h]
  simp only [f46.q, f46.g, f46.l1]
set_option maxRecDepth 100000 in
theorem f46.codes : CodesOk Try.prog E46 ann (tabC C46) := tabC_ok (by intro p hp; simp only [C46, List.mem_cons, List.not_mem_nil, or_false] at hp; rcases hp with rfl <;> first | exact Try.func46) (by kernel_rfl)
theorem f46.ok (h : ∀ X Y, F46 X = some Y → ∃ n, f46.g n X = some Y) (e62 : ConOk Try.prog 62 con62) : ConOk Try.prog 46 (mkCon [(true, tFoot), (true, tPoint)] [(false, .bool)] true F46) :=
  mkCon_ok mixed TT_ok (envC_ok e62 env0_ok) f46.codes (fun _ => List.all_eq_true.1 rfl) fun X Y hF => (h X Y hF).imp fun n hn => (f46.eq n X).trans hn
def con46 : Con := mkCon [(true, tFoot), (true, tPoint)] [(false, .bool)] true F46
/-! ### vellum/vellumref17.least -/
def E47 : FuncId → Option Con := (envC 49 con49 env0)
noncomputable def C47 : List (FuncId × Func) := [(47, Try.f47)]
def f47.h1 (x : (List dPoint)) (y1 : Int × Int × Int × ByteArray) : List AV × List Ob := ([.val false [.sc (.sl tPoint) x], .undef, .val false [.ptr 0 0], .undef, .val false [.ptr 1 0], .val false [.sc (.int .i64) y1.1]] ++ List.replicate 25 .undef, [.box [.sc (.int .i64) (0 : Int), .sc (.int .i64) (0 : Int), .sc .str (⟨#[]⟩ : ByteArray)], .box [.sc (.int .i64) y1.2.1, .sc (.int .i64) y1.2.2.1, .sc .str y1.2.2.2]])
def f47.L1 (n : Nat) (x : (List dPoint)) (m1 : Nat) (y1 : Int × Int × Int × ByteArray) : Option (dPoint × Bool) :=
  loopN (ann 47 5).keep 2 (fun fr H k => execK TT 0 E47 (inlD TT E47 n ann (tabC C47) 1) n (ann 47) (subC [1, 1, 1, 0, 1, 0, 0] (bodyOf Try.f47)) fr H k) m1 (f47.h1 x y1).1 (f47.h1 x y1).2 (kont TT 0 E47 (inlD TT E47 n ann (tabC C47) 1) n (ann 47) [1, 1, 1, 0, 1, 0] (bodyOf Try.f47) (endK TT Try.f47 (readL [(true, tPoint), (false, .bool)])))
def f47.s1 (n : Nat) (x : (List dPoint)) (S1 : (Int × Int × Int × ByteArray) → Option (dPoint × Bool)) (y1 : Int × Int × Int × ByteArray) : Option (dPoint × Bool) :=
  bif decide (y1.1 < (x.length : Int)) then
    (bif decide (0 ≤ y1.1) && decide (y1.1 < (x.length : Int)) then
      ((F49 (x.getD y1.1.toNat tPoint.dflt, y1.2)).bind fun r2 =>
        bif decide (r2 < (0 : Int)) then
          (bif decide (0 ≤ y1.1) && decide (y1.1 < (x.length : Int)) then
            (S1 (IntKind.wrap .i64 (y1.1 + (1 : Int)), x.getD y1.1.toNat tPoint.dflt))
          else
            (none))
        else
          (S1 (IntKind.wrap .i64 (y1.1 + (1 : Int)), y1.2)))
    else
      (none))
  else
    (some (y1.2, true))
set_option maxRecDepth 100000 in
theorem f47.k1 (n : Nat) (x : (List dPoint)) (m : Nat) (y : Int × Int × Int × ByteArray) : f47.L1 n x (m + 1) y = f47.s1 n x (f47.L1 n x m) y := by kernel_rfl
theorem f47.l1 (n : Nat) (x : (List dPoint)) : ∀ (m : Nat) (y1 : Int × Int × Int × ByteArray), f47.L1 n x m y1 = iter (f47.s1 n x) m y1 :=
  loop_of (L := f47.L1 n x) (step := f47.s1 n x) (fun _ => rfl) (f47.k1 n x)
def f47.g (n : Nat) (x : (List dPoint)) : Option (dPoint × Bool) :=
  bif (x.length : Int) == (0 : Int) then
    (some (((0 : Int), ((0 : Int), (⟨#[]⟩ : ByteArray))), false))
  else
    (bif decide (0 ≤ (0 : Int)) && decide ((0 : Int) < (x.length : Int)) then
      (iter (f47.s1 n x) n ((1 : Int), x.getD 0 tPoint.dflt))
    else
      (none))
def f47.q (n : Nat) (x : (List dPoint)) : Option (dPoint × Bool) :=
  bif (x.length : Int) == (0 : Int) then
    (some (((0 : Int), ((0 : Int), (⟨#[]⟩ : ByteArray))), false))
  else
    (bif decide (0 ≤ (0 : Int)) && decide ((0 : Int) < (x.length : Int)) then
      (f47.L1 n x n ((1 : Int), x.getD 0 tPoint.dflt))
    else
      (none))
set_option maxRecDepth 100000 in
theorem f47.eq (n : Nat) (x : (List dPoint)) : runK TT E47 n ann (tabC C47) 1 47 (argsL [(false, .sl tPoint)] x) [] (readL [(true, tPoint), (false, .bool)]) = f47.g n x := by
  have h : runK TT E47 n ann (tabC C47) 1 47 (argsL [(false, .sl tPoint)] x) [] (readL [(true, tPoint), (false, .bool)]) = f47.q n x := by kernel_rfl
  rw [h]
  simp only [f47.q, f47.g, f47.l1]
set_option maxRecDepth 100000 in
theorem f47.codes : CodesOk Try.prog E47 ann (tabC C47) := tabC_ok (by intro p hp; simp only [C47, List.mem_cons, List.not_mem_nil, or_false] at hp; rcases hp with rfl <;> first | exact Try.func47) (by kernel_rfl)
theorem f47.ok (h : ∀ X Y, F47 X = some Y → ∃ n, f47.g n X = some Y) (e49 : ConOk Try.prog 49 con49) : ConOk Try.prog 47 (mkCon [(false, .sl tPoint)] [(true, tPoint), (false, .bool)] true F47) :=
  mkCon_ok mixed TT_ok (envC_ok e49 env0_ok) f47.codes (fun _ => List.all_eq_true.1 rfl) fun X Y hF => (h X Y hF).imp fun n hn => (f47.eq n X).trans hn
def con47 : Con := mkCon [(false, .sl tPoint)] [(true, tPoint), (false, .bool)] true F47
/-! ### vellum/vellumref17.Clash -/
def E33 : FuncId → Option Con := (envC 47 con47 (envC 46 con46 env0))
noncomputable def C33 : List (FuncId × Func) := [(33, Try.f33)]
def f33.h1 (x : dFoot × dFoot) (y1 : Nat × Int × (List dPoint)) : List AV × List Ob := ([.undef, .undef, .val false [.ptr 0 0], .val false [.ptr 1 0], .val false [.ptr 2 0], .undef, .val false [.own 3 y1.1], .val false [.sc (.int .i64) y1.2.1]] ++ List.replicate 27 .undef, [.box [.sc (.sl tPoint) x.1.1, .sc (.sl tSpan) x.1.2.1, .sc (.sl tPoint) x.1.2.2], .box [.sc (.sl tPoint) x.2.1, .sc (.sl tSpan) x.2.2.1, .sc (.sl tPoint) x.2.2.2], .box [.sc (.int .i64) (0 : Int), .sc (.int .i64) (0 : Int), .sc .str (⟨#[]⟩ : ByteArray)], .arr 33 tPoint y1.2.2])
def f33.L1 (n : Nat) (x : dFoot × dFoot) (m1 : Nat) (y1 : Nat × Int × (List dPoint)) : Option (dPoint × Bool) :=
  loopN (ann 33 3).keep 4 (fun fr H k => execK TT 0 E33 (inlD TT E33 n ann (tabC C33) 1) n (ann 33) (subC [1, 1, 0, 1, 0, 0] (bodyOf Try.f33)) fr H k) m1 (f33.h1 x y1).1 (f33.h1 x y1).2 (kont TT 0 E33 (inlD TT E33 n ann (tabC C33) 1) n (ann 33) [1, 1, 0, 1, 0] (bodyOf Try.f33) (endK TT Try.f33 (readL [(true, tPoint), (false, .bool)])))
def f33.s1 (n : Nat) (x : dFoot × dFoot) (S1 : (Nat × Int × (List dPoint)) → Option (dPoint × Bool)) (y1 : Nat × Int × (List dPoint)) : Option (dPoint × Bool) :=
  bif decide (y1.2.1 < (x.2.2.2.length : Int)) then
    (bif decide (0 ≤ y1.2.1) && decide (y1.2.1 < (x.2.2.2.length : Int)) then
      ((F46 (x.1, x.2.2.2.getD y1.2.1.toNat tPoint.dflt)).bind fun r2 =>
        bif r2 then
          (bif decide (0 ≤ y1.2.1) && decide (y1.2.1 < (x.2.2.2.length : Int)) then
            (bif decide ((y1.1 + 1) * 32 ≤ boundN) then
              (S1 (y1.1 + 1, (IntKind.wrap .i64 (y1.2.1 + (1 : Int)), List.take y1.1 y1.2.2 ++ ([x.2.2.2.getD y1.2.1.toNat tPoint.dflt]))))
            else
              (none))
          else
            (none))
        else
          (S1 (y1.1, (IntKind.wrap .i64 (y1.2.1 + (1 : Int)), y1.2.2))))
    else
      (none))
  else
    ((F47 (List.take y1.1 y1.2.2)).bind fun r3 =>
      some r3)
set_option maxRecDepth 100000 in
theorem f33.k1 (n : Nat) (x : dFoot × dFoot) (m : Nat) (y : Nat × Int × (List dPoint)) : f33.L1 n x (m + 1) y = f33.s1 n x (f33.L1 n x m) y := by kernel_rfl
theorem f33.l1 (n : Nat) (x : dFoot × dFoot) : ∀ (m : Nat) (y1 : Nat × Int × (List dPoint)), f33.L1 n x m y1 = iter (f33.s1 n x) m y1 :=
  loop_of (L := f33.L1 n x) (step := f33.s1 n x) (fun _ => rfl) (f33.k1 n x)
def f33.g (n : Nat) (x : dFoot × dFoot) : Option (dPoint × Bool) :=
  iter (f33.s1 n x) n (0, ((0 : Int), []))
def f33.q (n : Nat) (x : dFoot × dFoot) : Option (dPoint × Bool) :=
  f33.L1 n x n (0, ((0 : Int), []))
set_option maxRecDepth 100000 in
theorem f33.eq (n : Nat) (x : dFoot × dFoot) : runK TT E33 n ann (tabC C33) 1 33 (argsL [(true, tFoot), (true, tFoot)] x) [] (readL [(true, tPoint), (false, .bool)]) = f33.g n x := by
  have h : runK TT E33 n ann (tabC C33) 1 33 (argsL [(true, tFoot), (true, tFoot)] x) [] (readL [(true, tPoint), (false, .bool)]) = f33.q n x := by kernel_rfl
  rw [h]
  simp only [f33.q, f33.g, f33.l1]
set_option maxRecDepth 100000 in
theorem f33.codes : CodesOk Try.prog E33 ann (tabC C33) := tabC_ok (by intro p hp; simp only [C33, List.mem_cons, List.not_mem_nil, or_false] at hp; rcases hp with rfl <;> first | exact Try.func33) (by kernel_rfl)
theorem f33.ok (h : ∀ X Y, F33 X = some Y → ∃ n, f33.g n X = some Y) (e46 : ConOk Try.prog 46 con46) (e47 : ConOk Try.prog 47 con47) : ConOk Try.prog 33 (mkCon [(true, tFoot), (true, tFoot)] [(true, tPoint), (false, .bool)] true F33) :=
  mkCon_ok mixed TT_ok (envC_ok e47 (envC_ok e46 env0_ok)) f33.codes (fun _ => List.all_eq_true.1 rfl) fun X Y hF => (h X Y hF).imp fun n hn => (f33.eq n X).trans hn
def con33 : Con := mkCon [(true, tFoot), (true, tFoot)] [(true, tPoint), (false, .bool)] true F33
/-! ### vellum/vellumref18.Read -/
def E13 : FuncId → Option Con := (envC 33 con33 (envC 32 con32 env0))
noncomputable def C13 : List (FuncId × Func) := [(13, Try.f13)]
def f13.h1 (x : (List dRcommit) × dFoot × Int) (r1 : Int) (y2 : Int) : List AV × List Ob := ([.val false [.sc (.sl tRcommit) x.1], .undef, .val false [.sc (.int .u64) x.2.2], .undef, .val false [.ptr 0 0], .undef, .val false [.ptr 1 0], .undef, .val false [.sc (.int .i64) y2]] ++ List.replicate 39 .undef, [.box [.sc (.sl tPoint) x.2.1.1, .sc (.sl tSpan) x.2.1.2.1, .sc (.sl tPoint) x.2.1.2.2], .box [.sc (.int .u64) (0 : Int), .sc (.int .i64) (0 : Int), .sc (.int .i64) (0 : Int), .sc .str (⟨#[]⟩ : ByteArray)]])
def f13.L1 (n : Nat) (x : (List dRcommit) × dFoot × Int) (r1 : Int) (m2 : Nat) (y2 : Int) : Option (dClash × Bool) :=
  loopN (ann 13 4).keep 2 (fun fr H k => execK TT 0 E13 (inlD TT E13 n ann (tabC C13) 1) n (ann 13) (subC [1, 1, 0, 1, 0, 0] (bodyOf Try.f13)) fr H k) m2 (f13.h1 x r1 y2).1 (f13.h1 x r1 y2).2 (kont TT 0 E13 (inlD TT E13 n ann (tabC C13) 1) n (ann 13) [1, 1, 0, 1, 0] (bodyOf Try.f13) (endK TT Try.f13 (readL [(true, tClash), (false, .bool)])))
def f13.s1 (n : Nat) (x : (List dRcommit) × dFoot × Int) (r1 : Int) (S2 : Int → Option (dClash × Bool)) (y2 : Int) : Option (dClash × Bool) :=
  bif decide (y2 < (x.1.length : Int)) then
    (bif decide (0 ≤ y2) && decide (y2 < (x.1.length : Int)) then
      (bif decide ((x.1.getD y2.toNat tRcommit.dflt).1 ≤ x.2.2) then
        (S2 (IntKind.wrap .i64 (y2 + (1 : Int))))
      else
        (bif decide (0 ≤ y2) && decide (y2 < (x.1.length : Int)) then
          ((F33 (x.2.1, ([], ([], (x.1.getD y2.toNat tRcommit.dflt).2)))).bind fun r3 =>
            bif r3.2 then
              (bif decide (0 ≤ y2) && decide (y2 < (x.1.length : Int)) then
                (some (((x.1.getD y2.toNat tRcommit.dflt).1, r3.1), true))
              else
                (none))
            else
              (S2 (IntKind.wrap .i64 (y2 + (1 : Int)))))
        else
          (none)))
    else
      (none))
  else
    (some (((0 : Int), ((0 : Int), ((0 : Int), (⟨#[]⟩ : ByteArray)))), false))
set_option maxRecDepth 100000 in
theorem f13.k1 (n : Nat) (x : (List dRcommit) × dFoot × Int) (r1 : Int) (m : Nat) (y : Int) : f13.L1 n x r1 (m + 1) y = f13.s1 n x r1 (f13.L1 n x r1 m) y := by kernel_rfl
theorem f13.l1 (n : Nat) (x : (List dRcommit) × dFoot × Int) (r1 : Int) : ∀ (m : Nat) (y2 : Int), f13.L1 n x r1 m y2 = iter (f13.s1 n x r1) m y2 :=
  loop_of (L := f13.L1 n x r1) (step := f13.s1 n x r1) (fun _ => rfl) (f13.k1 n x r1)
def f13.g (n : Nat) (x : (List dRcommit) × dFoot × Int) : Option (dClash × Bool) :=
  (F32 x.2.1).bind fun r1 =>
    bif r1 != (0 : Int) then
      (some (((0 : Int), ((0 : Int), ((0 : Int), (⟨#[]⟩ : ByteArray)))), false))
    else
      (iter (f13.s1 n x r1) n (0 : Int))
def f13.q (n : Nat) (x : (List dRcommit) × dFoot × Int) : Option (dClash × Bool) :=
  (F32 x.2.1).bind fun r1 =>
    bif r1 != (0 : Int) then
      (some (((0 : Int), ((0 : Int), ((0 : Int), (⟨#[]⟩ : ByteArray)))), false))
    else
      (f13.L1 n x r1 n (0 : Int))
set_option maxRecDepth 100000 in
theorem f13.eq (n : Nat) (x : (List dRcommit) × dFoot × Int) : runK TT E13 n ann (tabC C13) 1 13 (argsL [(false, .sl tRcommit), (true, tFoot), (false, .int .u64)] x) [] (readL [(true, tClash), (false, .bool)]) = f13.g n x := by
  have h : runK TT E13 n ann (tabC C13) 1 13 (argsL [(false, .sl tRcommit), (true, tFoot), (false, .int .u64)] x) [] (readL [(true, tClash), (false, .bool)]) = f13.q n x := by kernel_rfl
  rw [h]
  simp only [f13.q, f13.g, f13.l1]
set_option maxRecDepth 100000 in
theorem f13.codes : CodesOk Try.prog E13 ann (tabC C13) := tabC_ok (by intro p hp; simp only [C13, List.mem_cons, List.not_mem_nil, or_false] at hp; rcases hp with rfl <;> first | exact Try.func13) (by kernel_rfl)
theorem f13.ok (h : ∀ X Y, F13 X = some Y → ∃ n, f13.g n X = some Y) (e32 : ConOk Try.prog 32 con32) (e33 : ConOk Try.prog 33 con33) : ConOk Try.prog 13 (mkCon [(false, .sl tRcommit), (true, tFoot), (false, .int .u64)] [(true, tClash), (false, .bool)] true F13) :=
  mkCon_ok mixed TT_ok (envC_ok e33 (envC_ok e32 env0_ok)) f13.codes (fun _ => List.all_eq_true.1 rfl) fun X Y hF => (h X Y hF).imp fun n hn => (f13.eq n X).trans hn
def con13 : Con := mkCon [(false, .sl tRcommit), (true, tFoot), (false, .int .u64)] [(true, tClash), (false, .bool)] true F13
/-! ### vellum/vellumref18.Trim -/
def E20 : FuncId → Option Con := env0
noncomputable def C20 : List (FuncId × Func) := [(20, Try.f20)]
def f20.h1 (x : (List dRcommit) × Int) (y1 : Nat × Int × (List dRcommit)) : List AV × List Ob := ([.val false [.sc (.sl tRcommit) x.1], .val false [.sc (.int .u64) x.2], .undef, .undef, .undef, .undef, .val false [.own 0 y1.1], .val false [.sc (.int .i64) y1.2.1]] ++ List.replicate 26 .undef, [.arr 81 tRcommit y1.2.2])
def f20.L1 (n : Nat) (x : (List dRcommit) × Int) (m1 : Nat) (y1 : Nat × Int × (List dRcommit)) : Option ((List dRcommit) × Int) :=
  loopN (ann 20 3).keep 1 (fun fr H k => execK TT 0 E20 (inlD TT E20 n ann (tabC C20) 1) n (ann 20) (subC [1, 1, 0, 1, 0, 0] (bodyOf Try.f20)) fr H k) m1 (f20.h1 x y1).1 (f20.h1 x y1).2 (kont TT 0 E20 (inlD TT E20 n ann (tabC C20) 1) n (ann 20) [1, 1, 0, 1, 0] (bodyOf Try.f20) (endK TT Try.f20 (readL [(false, .sl tRcommit), (false, .int .i64)])))
def f20.s1 (n : Nat) (x : (List dRcommit) × Int) (S1 : (Nat × Int × (List dRcommit)) → Option ((List dRcommit) × Int)) (y1 : Nat × Int × (List dRcommit)) : Option ((List dRcommit) × Int) :=
  bif decide (y1.2.1 < (x.1.length : Int)) then
    (bif decide (0 ≤ y1.2.1) && decide (y1.2.1 < (x.1.length : Int)) then
      (bif decide ((x.1.getD y1.2.1.toNat tRcommit.dflt).1 > x.2) then
        (bif decide (0 ≤ y1.2.1) && decide (y1.2.1 < (x.1.length : Int)) then
          (bif decide ((y1.1 + 1) * 32 ≤ boundN) then
            (S1 (y1.1 + 1, (IntKind.wrap .i64 (y1.2.1 + (1 : Int)), List.take y1.1 y1.2.2 ++ ([x.1.getD y1.2.1.toNat tRcommit.dflt]))))
          else
            (none))
        else
          (none))
      else
        (S1 (y1.1, (IntKind.wrap .i64 (y1.2.1 + (1 : Int)), y1.2.2))))
    else
      (none))
  else
    (some (List.take y1.1 y1.2.2, IntKind.wrap .i64 ((x.1.length : Int) - ((y1.1 : Nat) : Int))))
set_option maxRecDepth 100000 in
theorem f20.k1 (n : Nat) (x : (List dRcommit) × Int) (m : Nat) (y : Nat × Int × (List dRcommit)) : f20.L1 n x (m + 1) y = f20.s1 n x (f20.L1 n x m) y := by kernel_rfl
theorem f20.l1 (n : Nat) (x : (List dRcommit) × Int) : ∀ (m : Nat) (y1 : Nat × Int × (List dRcommit)), f20.L1 n x m y1 = iter (f20.s1 n x) m y1 :=
  loop_of (L := f20.L1 n x) (step := f20.s1 n x) (fun _ => rfl) (f20.k1 n x)
def f20.g (n : Nat) (x : (List dRcommit) × Int) : Option ((List dRcommit) × Int) :=
  iter (f20.s1 n x) n (0, ((0 : Int), []))
def f20.q (n : Nat) (x : (List dRcommit) × Int) : Option ((List dRcommit) × Int) :=
  f20.L1 n x n (0, ((0 : Int), []))
set_option maxRecDepth 100000 in
theorem f20.eq (n : Nat) (x : (List dRcommit) × Int) : runK TT E20 n ann (tabC C20) 1 20 (argsL [(false, .sl tRcommit), (false, .int .u64)] x) [] (readL [(false, .sl tRcommit), (false, .int .i64)]) = f20.g n x := by
  have h : runK TT E20 n ann (tabC C20) 1 20 (argsL [(false, .sl tRcommit), (false, .int .u64)] x) [] (readL [(false, .sl tRcommit), (false, .int .i64)]) = f20.q n x := by kernel_rfl
  rw [h]
  simp only [f20.q, f20.g, f20.l1]
set_option maxRecDepth 100000 in
theorem f20.codes : CodesOk Try.prog E20 ann (tabC C20) := tabC_ok (by intro p hp; simp only [C20, List.mem_cons, List.not_mem_nil, or_false] at hp; rcases hp with rfl <;> first | exact Try.func20) (by kernel_rfl)
theorem f20.ok (h : ∀ X Y, F20 X = some Y → ∃ n, f20.g n X = some Y)  : ConOk Try.prog 20 (mkCon [(false, .sl tRcommit), (false, .int .u64)] [(false, .sl tRcommit), (false, .int .i64)] false F20) :=
  mkCon_ok mixed TT_ok env0_ok f20.codes (fun h => by cases h) fun X Y hF => (h X Y hF).imp fun n hn => (f20.eq n X).trans hn
def con20 : Con := mkCon [(false, .sl tRcommit), (false, .int .u64)] [(false, .sl tRcommit), (false, .int .i64)] false F20
/-! ### vellum/vellumref18.Note -/
def E30 : FuncId → Option Con := (envC 32 con32 env0)
noncomputable def C30 : List (FuncId × Func) := [(30, Try.f30)]
def f30.g (n : Nat) (x : (List dRcommit) × Int × dFoot) : Option ((List dRcommit) × Int) :=
  (F32 x.2.2).bind fun r1 =>
    bif r1 != (0 : Int) then
      (some (x.1, r1))
    else
      (bif bif (decide (x.2.1 < (1 : Int))) then true else (decide (x.2.1 > (4611686018427387904 : Int))) then
        (some (x.1, (1 : Int)))
      else
        (bif decide ((x.1.length : Int) > (0 : Int)) then
          (bif decide (0 ≤ IntKind.wrap .i64 ((x.1.length : Int) - (1 : Int))) && decide (IntKind.wrap .i64 ((x.1.length : Int) - (1 : Int)) < (x.1.length : Int)) then
            (bif decide ((x.1.getD ((IntKind.wrap .i64 ((x.1.length : Int) - (1 : Int))).toNat) tRcommit.dflt).1 ≥ x.2.1) then
              (some (x.1, (81 : Int)))
            else
              (bif decide ((x.1.length : Int) ≥ (4096 : Int)) then
                (some (x.1, (2 : Int)))
              else
                (bif decide (x.1.length * 32 ≤ boundN) then
                  (bif decide ((x.1.length + 1) * 32 ≤ boundN) then
                    (some (List.take (x.1.length + 1) (List.take x.1.length x.1 ++ ([(x.2.1, x.2.2.2.2)])), (0 : Int)))
                  else
                    (none))
                else
                  (none))))
          else
            (none))
        else
          (bif decide ((x.1.length : Int) ≥ (4096 : Int)) then
            (some (x.1, (2 : Int)))
          else
            (bif decide (x.1.length * 32 ≤ boundN) then
              (bif decide ((x.1.length + 1) * 32 ≤ boundN) then
                (some (List.take (x.1.length + 1) (List.take x.1.length x.1 ++ ([(x.2.1, x.2.2.2.2)])), (0 : Int)))
              else
                (none))
            else
              (none)))))
set_option maxRecDepth 100000 in
theorem f30.eq (n : Nat) (x : (List dRcommit) × Int × dFoot) : runK TT E30 n ann (tabC C30) 1 30 (argsL [(false, .sl tRcommit), (false, .int .u64), (true, tFoot)] x) [] (readL [(false, .sl tRcommit), (false, .int .i64)]) = f30.g n x := by
  kernel_rfl
set_option maxRecDepth 100000 in
theorem f30.codes : CodesOk Try.prog E30 ann (tabC C30) := tabC_ok (by intro p hp; simp only [C30, List.mem_cons, List.not_mem_nil, or_false] at hp; rcases hp with rfl <;> first | exact Try.func30) (by kernel_rfl)
theorem f30.ok (h : ∀ X Y, F30 X = some Y → ∃ n, f30.g n X = some Y) (e32 : ConOk Try.prog 32 con32) : ConOk Try.prog 30 (mkCon [(false, .sl tRcommit), (false, .int .u64), (true, tFoot)] [(false, .sl tRcommit), (false, .int .i64)] false F30) :=
  mkCon_ok mixed TT_ok (envC_ok e32 env0_ok) f30.codes (fun h => by cases h) fun X Y hF => (h X Y hF).imp fun n hn => (f30.eq n X).trans hn
def con30 : Con := mkCon [(false, .sl tRcommit), (false, .int .u64), (true, tFoot)] [(false, .sl tRcommit), (false, .int .i64)] false F30
/-! ### vellum/vellumref18.SameClash -/
def E16 : FuncId → Option Con := env0
noncomputable def C16 : List (FuncId × Func) := [(16, Try.f16)]
def f16.g (n : Nat) (x : dClash × dClash) : Option (Bool) :=
  some (bif (bif (bif (x.1.1 == x.2.1) then (x.1.2.1 == x.2.2.1) else false) then (x.1.2.2.1 == x.2.2.2.1) else false) then (strEq x.1.2.2.2 x.2.2.2.2) else false)
set_option maxRecDepth 100000 in
theorem f16.eq (n : Nat) (x : dClash × dClash) : runK TT E16 n ann (tabC C16) 1 16 (argsL [(true, tClash), (true, tClash)] x) [] (readL [(false, .bool)]) = f16.g n x := by
  kernel_rfl
set_option maxRecDepth 100000 in
theorem f16.codes : CodesOk Try.prog E16 ann (tabC C16) := tabC_ok (by intro p hp; simp only [C16, List.mem_cons, List.not_mem_nil, or_false] at hp; rcases hp with rfl <;> first | exact Try.func16) (by kernel_rfl)
theorem f16.ok (h : ∀ X Y, F16 X = some Y → ∃ n, f16.g n X = some Y)  : ConOk Try.prog 16 (mkCon [(true, tClash), (true, tClash)] [(false, .bool)] true F16) :=
  mkCon_ok mixed TT_ok env0_ok f16.codes (fun _ => List.all_eq_true.1 rfl) fun X Y hF => (h X Y hF).imp fun n hn => (f16.eq n X).trans hn
def con16 : Con := mkCon [(true, tClash), (true, tClash)] [(false, .bool)] true F16
/-! ### vellum/vellumlaw18.ValidNotes -/
def E4 : FuncId → Option Con := (envC 30 con30 (envC 23 con23 (envC 20 con20 (envC 19 con19 (envC 18 con18 (envC 17 con17 env0))))))
noncomputable def C4 : List (FuncId × Func) := [(4, Try.f4), (11, Try.f11), (29, Try.f29)]
def f4.h1 (x : (List dCommit) × Int) (y1 : (List dRcommit) × Int × Bool × Nat × (List dCommit)) : List AV × List Ob := ([.val false [.sc (.sl tCommit) x.1], .undef, .undef, .undef, .undef, .val false [.ptr 0 0], .val false [.sc (.sl tRcommit) y1.1], .val false [.sc (.int .i64) y1.2.1]] ++ List.replicate 45 .undef, [.box [.sc .bool y1.2.2.1, .own 1 y1.2.2.2.1], .arr 85 tCommit y1.2.2.2.2])
def f4.L1 (n : Nat) (x : (List dCommit) × Int) (m1 : Nat) (y1 : (List dRcommit) × Int × Bool × Nat × (List dCommit)) : Option (Bool) :=
  loopN (ann 11 6).keep 2 (fun fr H k => execK TT 0 E4 (inlD TT E4 n ann (tabC C4) 2) n (ann 11) (subC [1, 1, 1, 1, 0, 1, 0, 0] (bodyOf Try.f11)) fr H k) m1 (f4.h1 x y1).1 (f4.h1 x y1).2 (kont TT 0 E4 (inlD TT E4 n ann (tabC C4) 2) n (ann 11) [1, 1, 1, 1, 0, 1, 0] (bodyOf Try.f11) (endK TT Try.f11 (restK TT 0 E4 (inlD TT E4 n ann (tabC C4) 3) false (ann 4 1).plain (opsOf (subC [1, 0] (bodyOf Try.f4))) 1 ⟨[.val false [.sc (.sl tCommit) x.1], .val false [.sc (.int .u64) x.2], .undef, .undef, .val false [.sc .bool false], .undef, .undef, .undef, .undef, .undef, .undef, .val false [.sc (.sl tCommit) x.1]] ++ List.replicate 32 .undef, [], []⟩ (fun g H => (kont TT 0 E4 (inlD TT E4 n ann (tabC C4) 3) n (ann 4) [1, 0] (bodyOf Try.f4) (endK TT Try.f4 (readL [(false, .bool)]))) .normal (endG g) H))))
def f4.s1 (n : Nat) (x : (List dCommit) × Int) (S1 : ((List dRcommit) × Int × Bool × Nat × (List dCommit)) → Option (Bool)) (y1 : (List dRcommit) × Int × Bool × Nat × (List dCommit)) : Option (Bool) :=
  bif decide (y1.2.1 < (x.1.length : Int)) then
    (bif decide (0 ≤ y1.2.1) && decide (y1.2.1 < (x.1.length : Int)) then
      (bif decide (0 ≤ y1.2.1) && decide (y1.2.1 < (x.1.length : Int)) then
        ((F23 ((y1.2.2.1, List.take y1.2.2.2.1 y1.2.2.2.2), x.1.getD y1.2.1.toNat tCommit.dflt)).bind fun r2 =>
          bif decide (0 ≤ y1.2.1) && decide (y1.2.1 < (x.1.length : Int)) then
            (bif decide (0 ≤ y1.2.1) && decide (y1.2.1 < (x.1.length : Int)) then
              ((F30 (y1.1, x.1.getD y1.2.1.toNat tCommit.dflt)).bind fun r3 =>
                bif r2.2 != r3.2 then
                  (some false)
                else
                  (S1 (r3.1, (IntKind.wrap .i64 (y1.2.1 + (1 : Int)), (r2.1.1, (r2.1.2.length, r2.1.2))))))
            else
              (none))
          else
            (none))
      else
        (none))
    else
      (none))
  else
    ((F18 ((y1.2.2.1, List.take y1.2.2.2.1 y1.2.2.2.2), y1.1)).bind fun r4 =>
      bif !r4 then
        (some false)
      else
        ((F19 ((y1.2.2.1, List.take y1.2.2.2.1 y1.2.2.2.2), x.2)).bind fun r5 =>
          (F20 (y1.1, x.2)).bind fun r6 =>
            bif r5.2 == r6.2 then
              ((F18 ((r5.1.1, List.take r5.1.2.length r5.1.2), r6.1)).bind fun r7 =>
                bif r7 then
                  ((F17 ()).bind fun r8 =>
                    some r8)
                else
                  (some false))
            else
              (some false)))
set_option maxRecDepth 100000 in
theorem f4.k1 (n : Nat) (x : (List dCommit) × Int) (m : Nat) (y : (List dRcommit) × Int × Bool × Nat × (List dCommit)) : f4.L1 n x (m + 1) y = f4.s1 n x (f4.L1 n x m) y := by kernel_rfl
theorem f4.l1 (n : Nat) (x : (List dCommit) × Int) : ∀ (m : Nat) (y1 : (List dRcommit) × Int × Bool × Nat × (List dCommit)), f4.L1 n x m y1 = iter (f4.s1 n x) m y1 :=
  loop_of (L := f4.L1 n x) (step := f4.s1 n x) (fun _ => rfl) (f4.k1 n x)
def f4.g (n : Nat) (x : (List dCommit) × Int) : Option (Bool) :=
  iter (f4.s1 n x) n ([], ((0 : Int), (true, (0, []))))
def f4.q (n : Nat) (x : (List dCommit) × Int) : Option (Bool) :=
  f4.L1 n x n ([], ((0 : Int), (true, (0, []))))
set_option maxRecDepth 100000 in
theorem f4.eq (n : Nat) (x : (List dCommit) × Int) : runK TT E4 n ann (tabC C4) 3 4 (argsL [(false, .sl tCommit), (false, .int .u64)] x) [] (readL [(false, .bool)]) = f4.g n x := by
  have h : runK TT E4 n ann (tabC C4) 3 4 (argsL [(false, .sl tCommit), (false, .int .u64)] x) [] (readL [(false, .bool)]) = f4.q n x := by kernel_rfl
  rw [h]
  simp only [f4.q, f4.g, f4.l1]
set_option maxRecDepth 100000 in
theorem f4.codes : CodesOk Try.prog E4 ann (tabC C4) := tabC_ok (by intro p hp; simp only [C4, List.mem_cons, List.not_mem_nil, or_false] at hp; rcases hp with rfl | rfl | rfl <;> first | exact Try.func4 | exact Try.func11 | exact Try.func29) (by kernel_rfl)
theorem f4.ok (h : ∀ X Y, (FL [(false, .sl tCommit), (false, .int .u64)]) X = some Y → ∃ n, f4.g n X = some Y) (e17 : ConOk Try.prog 17 con17) (e18 : ConOk Try.prog 18 con18) (e19 : ConOk Try.prog 19 con19) (e20 : ConOk Try.prog 20 con20) (e23 : ConOk Try.prog 23 con23) (e30 : ConOk Try.prog 30 con30) : ConOk Try.prog 4 (mkCon [(false, .sl tCommit), (false, .int .u64)] [(false, .bool)] true (FL [(false, .sl tCommit), (false, .int .u64)])) :=
  mkCon_ok mixed TT_ok (envC_ok e30 (envC_ok e23 (envC_ok e20 (envC_ok e19 (envC_ok e18 (envC_ok e17 env0_ok)))))) f4.codes (fun _ => List.all_eq_true.1 rfl) fun X Y hF => (h X Y hF).imp fun n hn => (f4.eq n X).trans hn
def con4 : Con := mkCon [(false, .sl tCommit), (false, .int .u64)] [(false, .bool)] true (FL [(false, .sl tCommit), (false, .int .u64)])
end
end Go.Proofs.Ytjedleoebjmkgaa.AI
