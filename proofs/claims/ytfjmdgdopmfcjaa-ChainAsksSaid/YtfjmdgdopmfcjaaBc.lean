/- Runs of the program's functions over plain data. Printed by aipr.py; Lean checks them. -/
import Derived.Test.YtfjmdgdopmfcjaaBb
set_option linter.unusedVariables false
set_option linter.unusedSimpArgs false
namespace Go.Proofs.Ytfjmdgdopmfcjaa.AI
open Go
noncomputable section
def con58 : Con := mkCon [(false, .float .f64)] [(false, .int .u64)] true F58
/-! ### slices.Clone[[]vellum/api.Value,vellum/api.Value] -/
def E44 : FuncId → Option Con := env0
noncomputable def C44 : List (FuncId × Func) := [(44, Try.f44)]
def f44.g (n : Nat) (x : Bool × (List dValue)) : Option ((List dValue)) :=
  bif x.1 then
    (some ([]))
  else
    (bif decide ((0 + x.2.length) * 40 ≤ boundN) then
      (some (List.take (0 + x.2.length) (List.take 0 ([]) ++ x.2)))
    else
      (none))
set_option maxRecDepth 100000 in
theorem f44.eq (n : Nat) (x : Bool × (List dValue)) : runK TT E44 n ann (tabC C44) 1 44 [.val false [.scn x.1 tValue x.2]] [] (readL [(false, .sl tValue)]) = f44.g n x := by
  kernel_rfl
theorem f44.codes : CodesOk Try.prog E44 ann (tabC C44) := tabC_ok (by intro p hp; simp only [C44, List.mem_cons, List.not_mem_nil, or_false] at hp; rcases hp with rfl <;> first | exact Try.func44) (by kernel_rfl)
theorem f44.ok (h : ∀ X Y, F44 X = some Y → ∀ z, (z = true → X = []) → ∃ n, f44.g n (z, X) = some Y)  : ConOk Try.prog 44 (mkCon [(false, .sl tValue)] [(false, .sl tValue)] false F44) :=
  mkConN_ok mixed TT_ok env0_ok f44.codes fun X Y hF z hz => (h X Y hF z hz).imp fun n hn => (f44.eq n (z, X)).trans hn
def con44 : Con := mkCon [(false, .sl tValue)] [(false, .sl tValue)] false F44
/-! ### vellum/vellumref08.May -/
def E12 : FuncId → Option Con := env0
noncomputable def C12 : List (FuncId × Func) := [(12, Try.f12)]
def f12.h1 (x : (List dVersion)) (y1 : Int) : List AV × List Ob := ([.val false [.sc (.sl tVersion) x], .undef, .undef, .val false [.sc (.int .i64) y1]] ++ List.replicate 44 .undef, [])
def f12.L1 (n : Nat) (x : (List dVersion)) (m : Nat) (y1 : Int) : Option (Bool) :=
  loopN (ann 12 2).keep 0 (fun fr H k => execK TT 0 E12 (inlD TT E12 n ann (tabC C12) 1) n (ann 12) (subC [1, 0, 1, 0, 0] (bodyOf Try.f12)) fr H k) m (f12.h1 x y1).1 (f12.h1 x y1).2 (kont TT 0 E12 (inlD TT E12 n ann (tabC C12) 1) n (ann 12) [1, 0, 1, 0] (bodyOf Try.f12) (endK TT Try.f12 (readL [(false, .bool)])))
def f12.s1 (n : Nat) (x : (List dVersion)) (S1 : Int → Option (Bool)) (y1 : Int) : Option (Bool) :=
  bif decide (y1 < (x.length : Int)) then
    (bif decide (0 ≤ y1) && decide (y1 < (x.length : Int)) then
      (bif bif (bif (decide ((x.getD y1.toNat tVersion.dflt).1 < (1 : Int))) then true else (decide ((x.getD y1.toNat tVersion.dflt).1 > (4611686018427387904 : Int)))) then true else (bif (x.getD y1.toNat tVersion.dflt).2.1 then (decide (((x.getD y1.toNat tVersion.dflt).2.2.length : Int) > (0 : Int))) else false) then
        (some false)
      else
        (bif decide (y1 > (0 : Int)) then
          (bif decide (0 ≤ IntKind.wrap .i64 (y1 - (1 : Int))) && decide (IntKind.wrap .i64 (y1 - (1 : Int)) < (x.length : Int)) then
            (bif decide ((x.getD y1.toNat tVersion.dflt).1 ≥ (x.getD ((IntKind.wrap .i64 (y1 - (1 : Int))).toNat) tVersion.dflt).1) then
              (some false)
            else
              (S1 (IntKind.wrap .i64 (y1 + (1 : Int)))))
          else
            (none))
        else
          (S1 (IntKind.wrap .i64 (y1 + (1 : Int))))))
    else
      (none))
  else
    (some true)
set_option maxRecDepth 100000 in
theorem f12.l1 (n : Nat) (x : (List dVersion)) (m : Nat) : ∀ (y1 : Int), f12.L1 n x m y1 = iter (f12.s1 n x) m y1 := by
  exact loop_rec (fun y => (f12.h1 x y).1) (fun y => (f12.h1 x y).2) (f12.s1 n x) (fun m y => by kernel_rfl) m
def f12.g (n : Nat) (x : (List dVersion)) : Option (Bool) :=
  iter (f12.s1 n x) n (0 : Int)
def f12.q (n : Nat) (x : (List dVersion)) : Option (Bool) :=
  f12.L1 n x n (0 : Int)
set_option maxRecDepth 100000 in
theorem f12.eq (n : Nat) (x : (List dVersion)) : runK TT E12 n ann (tabC C12) 1 12 (argsL [(false, .sl tVersion)] x) [] (readL [(false, .bool)]) = f12.g n x := by
  have h : runK TT E12 n ann (tabC C12) 1 12 (argsL [(false, .sl tVersion)] x) [] (readL [(false, .bool)]) = f12.q n x := by kernel_rfl
  rw [h]
  simp only [f12.q, f12.g, f12.l1]
theorem f12.codes : CodesOk Try.prog E12 ann (tabC C12) := tabC_ok (by intro p hp; simp only [C12, List.mem_cons, List.not_mem_nil, or_false] at hp; rcases hp with rfl <;> first | exact Try.func12) (by kernel_rfl)
theorem f12.ok (h : ∀ X Y, F12 X = some Y → ∃ n, f12.g n X = some Y)  : ConOk Try.prog 12 (mkCon [(false, .sl tVersion)] [(false, .bool)] true F12) :=
  mkCon_ok mixed TT_ok env0_ok f12.codes (fun _ => List.all_eq_true.1 rfl) fun X Y hF => (h X Y hF).imp fun n hn => (f12.eq n X).trans hn
def con12 : Con := mkCon [(false, .sl tVersion)] [(false, .bool)] true F12
/-! ### slices.IndexFunc[[]vellum/api.Version,vellum/api.Version] -/
def E42a : FuncId → Option Con := env0
noncomputable def C42a : List (FuncId × Func) := [(42, Try.f42), (43, Try.f43)]
def f42a.h1 (x : (List dVersion) × Int) (y1 : Int) : List AV × List Ob := ([.val false [.sc (.sl tVersion) x.1], .val false [.fnr 43 [⟨.int .u64, x.2⟩]], .undef, .undef, .undef, .undef, .undef, .val false [.sc (.int .i64) (x.1.length : Int)], .val false [.sc (.int .i64) y1]] ++ List.replicate 10 .undef, [])
def f42a.L1 (n : Nat) (x : (List dVersion) × Int) (m : Nat) (y1 : Int) : Option (Int) :=
  loopN (ann 42 2).keep 0 (fun fr H k => execK TT 0 E42a (inlD TT E42a n ann (tabC C42a) 2) n (ann 42) (subC [1, 0, 1, 0, 0] (bodyOf Try.f42)) fr H k) m (f42a.h1 x y1).1 (f42a.h1 x y1).2 (kont TT 0 E42a (inlD TT E42a n ann (tabC C42a) 2) n (ann 42) [1, 0, 1, 0] (bodyOf Try.f42) (endK TT Try.f42 (readL [(false, .int .i64)])))
def f42a.s1 (n : Nat) (x : (List dVersion) × Int) (S1 : Int → Option (Int)) (y1 : Int) : Option (Int) :=
  bif decide (y1 < (x.1.length : Int)) then
    (bif decide (0 ≤ y1) && decide (y1 < (x.1.length : Int)) then
      (bif decide ((x.1.getD y1.toNat tVersion.dflt).1 ≤ x.2) then
        (some y1)
      else
        (S1 (IntKind.wrap .i64 (y1 + (1 : Int)))))
    else
      (none))
  else
    (some (-1 : Int))
set_option maxRecDepth 100000 in
theorem f42a.l1 (n : Nat) (x : (List dVersion) × Int) (m : Nat) : ∀ (y1 : Int), f42a.L1 n x m y1 = iter (f42a.s1 n x) m y1 := by
  exact loop_rec (fun y => (f42a.h1 x y).1) (fun y => (f42a.h1 x y).2) (f42a.s1 n x) (fun m y => by kernel_rfl) m
def f42a.g (n : Nat) (x : (List dVersion) × Int) : Option (Int) :=
  iter (f42a.s1 n x) n (0 : Int)
def f42a.q (n : Nat) (x : (List dVersion) × Int) : Option (Int) :=
  f42a.L1 n x n (0 : Int)
set_option maxRecDepth 100000 in
theorem f42a.eq (n : Nat) (x : (List dVersion) × Int) : runK TT E42a n ann (tabC C42a) 2 42 (avL [.dat false (.sl tVersion), .clo 43 [(true, .int .u64)]] x) [] (readL [(false, .int .i64)]) = f42a.g n x := by
  have h : runK TT E42a n ann (tabC C42a) 2 42 (avL [.dat false (.sl tVersion), .clo 43 [(true, .int .u64)]] x) [] (readL [(false, .int .i64)]) = f42a.q n x := by kernel_rfl
  rw [h]
  simp only [f42a.q, f42a.g, f42a.l1]
theorem f42a.codes : CodesOk Try.prog E42a ann (tabC C42a) := tabC_ok (by intro p hp; simp only [C42a, List.mem_cons, List.not_mem_nil, or_false] at hp; rcases hp with rfl | rfl <;> first | exact Try.func42 | exact Try.func43) (by kernel_rfl)
theorem f42a.ok (h : ∀ X Y, F42a X = some Y → ∃ n, f42a.g n X = some Y)  : ConOk Try.prog 42 (gCon [(false, .int .i64)] (PmL [.dat false (.sl tVersion), .clo 43 [(true, .int .u64)]]) (fun l H => lookPL H [.dat false (.sl tVersion), .clo 43 [(true, .int .u64)]] l) F42a) :=
  mkConF_ok mixed TT_ok env0_ok f42a.codes (List.all_eq_true.1 rfl) fun X Y hF => (h X Y hF).imp fun n hn => (f42a.eq n X).trans hn
/-! ### slices.IndexFunc[[]vellum/api.Version,vellum/api.Version] -/
def E42b : FuncId → Option Con := env0
noncomputable def C42b : List (FuncId × Func) := [(42, Try.f42), (49, Try.f49)]
def f42b.h1 (x : (List dVersion) × (Int × Int)) (y1 : Int) : List AV × List Ob := ([.val false [.sc (.sl tVersion) x.1], .val false [.fnr 49 [⟨.int .u64, x.2.1⟩, ⟨.int .u64, x.2.2⟩]], .undef, .undef, .undef, .undef, .undef, .val false [.sc (.int .i64) (x.1.length : Int)], .val false [.sc (.int .i64) y1]] ++ List.replicate 10 .undef, [])
def f42b.L1 (n : Nat) (x : (List dVersion) × (Int × Int)) (m : Nat) (y1 : Int) : Option (Int) :=
  loopN (ann 42 2).keep 0 (fun fr H k => execK TT 0 E42b (inlD TT E42b n ann (tabC C42b) 2) n (ann 42) (subC [1, 0, 1, 0, 0] (bodyOf Try.f42)) fr H k) m (f42b.h1 x y1).1 (f42b.h1 x y1).2 (kont TT 0 E42b (inlD TT E42b n ann (tabC C42b) 2) n (ann 42) [1, 0, 1, 0] (bodyOf Try.f42) (endK TT Try.f42 (readL [(false, .int .i64)])))
def f42b.s1 (n : Nat) (x : (List dVersion) × (Int × Int)) (S1 : Int → Option (Int)) (y1 : Int) : Option (Int) :=
  bif decide (y1 < (x.1.length : Int)) then
    (bif decide (0 ≤ y1) && decide (y1 < (x.1.length : Int)) then
      (bif bif (decide ((x.1.getD y1.toNat tVersion.dflt).1 > x.2.1)) then (decide ((x.1.getD y1.toNat tVersion.dflt).1 ≤ x.2.2)) else false then
        (some y1)
      else
        (S1 (IntKind.wrap .i64 (y1 + (1 : Int)))))
    else
      (none))
  else
    (some (-1 : Int))
set_option maxRecDepth 100000 in
theorem f42b.l1 (n : Nat) (x : (List dVersion) × (Int × Int)) (m : Nat) : ∀ (y1 : Int), f42b.L1 n x m y1 = iter (f42b.s1 n x) m y1 := by
  exact loop_rec (fun y => (f42b.h1 x y).1) (fun y => (f42b.h1 x y).2) (f42b.s1 n x) (fun m y => by kernel_rfl) m
def f42b.g (n : Nat) (x : (List dVersion) × (Int × Int)) : Option (Int) :=
  iter (f42b.s1 n x) n (0 : Int)
def f42b.q (n : Nat) (x : (List dVersion) × (Int × Int)) : Option (Int) :=
  f42b.L1 n x n (0 : Int)
set_option maxRecDepth 100000 in
theorem f42b.eq (n : Nat) (x : (List dVersion) × (Int × Int)) : runK TT E42b n ann (tabC C42b) 2 42 (avL [.dat false (.sl tVersion), .clo 49 [(true, .int .u64), (true, .int .u64)]] x) [] (readL [(false, .int .i64)]) = f42b.g n x := by
  have h : runK TT E42b n ann (tabC C42b) 2 42 (avL [.dat false (.sl tVersion), .clo 49 [(true, .int .u64), (true, .int .u64)]] x) [] (readL [(false, .int .i64)]) = f42b.q n x := by kernel_rfl
  rw [h]
  simp only [f42b.q, f42b.g, f42b.l1]
theorem f42b.codes : CodesOk Try.prog E42b ann (tabC C42b) := tabC_ok (by intro p hp; simp only [C42b, List.mem_cons, List.not_mem_nil, or_false] at hp; rcases hp with rfl | rfl <;> first | exact Try.func42 | exact Try.func49) (by kernel_rfl)
theorem f42b.ok (h : ∀ X Y, F42b X = some Y → ∃ n, f42b.g n X = some Y)  : ConOk Try.prog 42 (gCon [(false, .int .i64)] (PmL [.dat false (.sl tVersion), .clo 49 [(true, .int .u64), (true, .int .u64)]]) (fun l H => lookPL H [.dat false (.sl tVersion), .clo 49 [(true, .int .u64), (true, .int .u64)]] l) F42b) :=
  mkConF_ok mixed TT_ok env0_ok f42b.codes (List.all_eq_true.1 rfl) fun X Y hF => (h X Y hF).imp fun n hn => (f42b.eq n X).trans hn
/-! ### slices.IndexFunc[[]vellum/api.Version,vellum/api.Version] -/
def E42c : FuncId → Option Con := env0
noncomputable def C42c : List (FuncId × Func) := [(42, Try.f42), (50, Try.f50)]
def f42c.h1 (x : (List dVersion) × dVersion) (y1 : Int) : List AV × List Ob := ([.val false [.sc (.sl tVersion) x.1], .val false [.fnr 50 [⟨tVersion, x.2⟩]], .undef, .undef, .undef, .undef, .undef, .val false [.sc (.int .i64) (x.1.length : Int)], .val false [.sc (.int .i64) y1]] ++ List.replicate 10 .undef, [])
def f42c.L1 (n : Nat) (x : (List dVersion) × dVersion) (m : Nat) (y1 : Int) : Option (Int) :=
  loopN (ann 42 2).keep 0 (fun fr H k => execK TT 0 E42c (inlD TT E42c n ann (tabC C42c) 2) n (ann 42) (subC [1, 0, 1, 0, 0] (bodyOf Try.f42)) fr H k) m (f42c.h1 x y1).1 (f42c.h1 x y1).2 (kont TT 0 E42c (inlD TT E42c n ann (tabC C42c) 2) n (ann 42) [1, 0, 1, 0] (bodyOf Try.f42) (endK TT Try.f42 (readL [(false, .int .i64)])))
def f42c.s1 (n : Nat) (x : (List dVersion) × dVersion) (S1 : Int → Option (Int)) (y1 : Int) : Option (Int) :=
  bif decide (y1 < (x.1.length : Int)) then
    (bif decide (0 ≤ y1) && decide (y1 < (x.1.length : Int)) then
      (bif decide ((x.1.getD y1.toNat tVersion.dflt).1 ≥ x.2.1) then
        (some y1)
      else
        (S1 (IntKind.wrap .i64 (y1 + (1 : Int)))))
    else
      (none))
  else
    (some (-1 : Int))
set_option maxRecDepth 100000 in
theorem f42c.l1 (n : Nat) (x : (List dVersion) × dVersion) (m : Nat) : ∀ (y1 : Int), f42c.L1 n x m y1 = iter (f42c.s1 n x) m y1 := by
  exact loop_rec (fun y => (f42c.h1 x y).1) (fun y => (f42c.h1 x y).2) (f42c.s1 n x) (fun m y => by kernel_rfl) m
def f42c.g (n : Nat) (x : (List dVersion) × dVersion) : Option (Int) :=
  iter (f42c.s1 n x) n (0 : Int)
def f42c.q (n : Nat) (x : (List dVersion) × dVersion) : Option (Int) :=
  f42c.L1 n x n (0 : Int)
set_option maxRecDepth 100000 in
theorem f42c.eq (n : Nat) (x : (List dVersion) × dVersion) : runK TT E42c n ann (tabC C42c) 2 42 (avL [.dat false (.sl tVersion), .clo 50 [(true, tVersion)]] x) [] (readL [(false, .int .i64)]) = f42c.g n x := by
  have h : runK TT E42c n ann (tabC C42c) 2 42 (avL [.dat false (.sl tVersion), .clo 50 [(true, tVersion)]] x) [] (readL [(false, .int .i64)]) = f42c.q n x := by kernel_rfl
  rw [h]
  simp only [f42c.q, f42c.g, f42c.l1]
theorem f42c.codes : CodesOk Try.prog E42c ann (tabC C42c) := tabC_ok (by intro p hp; simp only [C42c, List.mem_cons, List.not_mem_nil, or_false] at hp; rcases hp with rfl | rfl <;> first | exact Try.func42 | exact Try.func50) (by kernel_rfl)
theorem f42c.ok (h : ∀ X Y, F42c X = some Y → ∃ n, f42c.g n X = some Y)  : ConOk Try.prog 42 (gCon [(false, .int .i64)] (PmL [.dat false (.sl tVersion), .clo 50 [(true, tVersion)]]) (fun l H => lookPL H [.dat false (.sl tVersion), .clo 50 [(true, tVersion)]] l) F42c) :=
  mkConF_ok mixed TT_ok env0_ok f42c.codes (List.all_eq_true.1 rfl) fun X Y hF => (h X Y hF).imp fun n hn => (f42c.eq n X).trans hn
def con42 : Con := gCon [(false, .int .i64)] ((PmL [.dat false (.sl tVersion), .clo 43 [(true, .int .u64)]]) ⊕ ((PmL [.dat false (.sl tVersion), .clo 49 [(true, .int .u64), (true, .int .u64)]]) ⊕ (PmL [.dat false (.sl tVersion), .clo 50 [(true, tVersion)]]))) (orLook 43 (fun l H => lookPL H [.dat false (.sl tVersion), .clo 43 [(true, .int .u64)]] l) (orLook 49 (fun l H => lookPL H [.dat false (.sl tVersion), .clo 49 [(true, .int .u64), (true, .int .u64)]] l) (fun l H => lookPL H [.dat false (.sl tVersion), .clo 50 [(true, tVersion)]] l))) (orF F42a (orF F42b F42c))
/-! ### slices.ContainsFunc[[]vellum/api.Version,vellum/api.Version] -/
def E48a : FuncId → Option Con := (envC 42 con42 env0)
noncomputable def C48a : List (FuncId × Func) := [(48, Try.f48), (49, Try.f49)]
def f48a.g (n : Nat) (x : (List dVersion) × (Int × Int)) : Option (Bool) :=
  (F42b x).bind fun r1 =>
    some (decide (r1 ≥ (0 : Int)))
set_option maxRecDepth 100000 in
theorem f48a.eq (n : Nat) (x : (List dVersion) × (Int × Int)) : runK TT E48a n ann (tabC C48a) 2 48 (avL [.dat false (.sl tVersion), .clo 49 [(true, .int .u64), (true, .int .u64)]] x) [] (readL [(false, .bool)]) = f48a.g n x := by
  kernel_rfl
theorem f48a.codes : CodesOk Try.prog E48a ann (tabC C48a) := tabC_ok (by intro p hp; simp only [C48a, List.mem_cons, List.not_mem_nil, or_false] at hp; rcases hp with rfl | rfl <;> first | exact Try.func48 | exact Try.func49) (by kernel_rfl)
theorem f48a.ok (h : ∀ X Y, F48a X = some Y → ∃ n, f48a.g n X = some Y) (e42 : ConOk Try.prog 42 con42) : ConOk Try.prog 48 (gCon [(false, .bool)] (PmL [.dat false (.sl tVersion), .clo 49 [(true, .int .u64), (true, .int .u64)]]) (fun l H => lookPL H [.dat false (.sl tVersion), .clo 49 [(true, .int .u64), (true, .int .u64)]] l) F48a) :=
  mkConF_ok mixed TT_ok (envC_ok e42 env0_ok) f48a.codes (List.all_eq_true.1 rfl) fun X Y hF => (h X Y hF).imp fun n hn => (f48a.eq n X).trans hn
/-! ### slices.ContainsFunc[[]vellum/api.Version,vellum/api.Version] -/
def E48b : FuncId → Option Con := (envC 42 con42 env0)
noncomputable def C48b : List (FuncId × Func) := [(48, Try.f48), (50, Try.f50)]
def f48b.g (n : Nat) (x : (List dVersion) × dVersion) : Option (Bool) :=
  (F42c x).bind fun r1 =>
    some (decide (r1 ≥ (0 : Int)))
set_option maxRecDepth 100000 in
theorem f48b.eq (n : Nat) (x : (List dVersion) × dVersion) : runK TT E48b n ann (tabC C48b) 2 48 (avL [.dat false (.sl tVersion), .clo 50 [(true, tVersion)]] x) [] (readL [(false, .bool)]) = f48b.g n x := by
  kernel_rfl
theorem f48b.codes : CodesOk Try.prog E48b ann (tabC C48b) := tabC_ok (by intro p hp; simp only [C48b, List.mem_cons, List.not_mem_nil, or_false] at hp; rcases hp with rfl | rfl <;> first | exact Try.func48 | exact Try.func50) (by kernel_rfl)
theorem f48b.ok (h : ∀ X Y, F48b X = some Y → ∃ n, f48b.g n X = some Y) (e42 : ConOk Try.prog 42 con42) : ConOk Try.prog 48 (gCon [(false, .bool)] (PmL [.dat false (.sl tVersion), .clo 50 [(true, tVersion)]]) (fun l H => lookPL H [.dat false (.sl tVersion), .clo 50 [(true, tVersion)]] l) F48b) :=
  mkConF_ok mixed TT_ok (envC_ok e42 env0_ok) f48b.codes (List.all_eq_true.1 rfl) fun X Y hF => (h X Y hF).imp fun n hn => (f48b.eq n X).trans hn
def con48 : Con := gCon [(false, .bool)] ((PmL [.dat false (.sl tVersion), .clo 49 [(true, .int .u64), (true, .int .u64)]]) ⊕ (PmL [.dat false (.sl tVersion), .clo 50 [(true, tVersion)]])) (orLook 49 (fun l H => lookPL H [.dat false (.sl tVersion), .clo 49 [(true, .int .u64), (true, .int .u64)]] l) (fun l H => lookPL H [.dat false (.sl tVersion), .clo 50 [(true, tVersion)]] l)) (orF F48a F48b)
/-! ### slices.IndexFunc[[]vellum/api.Write,vellum/api.Write] -/
def E56a : FuncId → Option Con := env0
noncomputable def C56a : List (FuncId × Func) := [(56, Try.f56), (57, Try.f57)]
def f56a.h1 (x : (List dWrite) × Int) (y1 : Int) : List AV × List Ob := ([.val false [.sc (.sl tWrite) x.1], .val false [.fnr 57 [⟨.int .i64, x.2⟩]], .undef, .undef, .undef, .undef, .undef, .val false [.sc (.int .i64) (x.1.length : Int)], .val false [.sc (.int .i64) y1]] ++ List.replicate 10 .undef, [])
def f56a.L1 (n : Nat) (x : (List dWrite) × Int) (m : Nat) (y1 : Int) : Option (Int) :=
  loopN (ann 56 2).keep 0 (fun fr H k => execK TT 0 E56a (inlD TT E56a n ann (tabC C56a) 2) n (ann 56) (subC [1, 0, 1, 0, 0] (bodyOf Try.f56)) fr H k) m (f56a.h1 x y1).1 (f56a.h1 x y1).2 (kont TT 0 E56a (inlD TT E56a n ann (tabC C56a) 2) n (ann 56) [1, 0, 1, 0] (bodyOf Try.f56) (endK TT Try.f56 (readL [(false, .int .i64)])))
def f56a.s1 (n : Nat) (x : (List dWrite) × Int) (S1 : Int → Option (Int)) (y1 : Int) : Option (Int) :=
  bif decide (y1 < (x.1.length : Int)) then
    (bif decide (0 ≤ y1) && decide (y1 < (x.1.length : Int)) then
      (bif decide ((x.1.getD y1.toNat tWrite.dflt).1 ≥ x.2) then
        (some y1)
      else
        (S1 (IntKind.wrap .i64 (y1 + (1 : Int)))))
    else
      (none))
  else
    (some (-1 : Int))
set_option maxRecDepth 100000 in
theorem f56a.l1 (n : Nat) (x : (List dWrite) × Int) (m : Nat) : ∀ (y1 : Int), f56a.L1 n x m y1 = iter (f56a.s1 n x) m y1 := by
  exact loop_rec (fun y => (f56a.h1 x y).1) (fun y => (f56a.h1 x y).2) (f56a.s1 n x) (fun m y => by kernel_rfl) m
def f56a.g (n : Nat) (x : (List dWrite) × Int) : Option (Int) :=
  iter (f56a.s1 n x) n (0 : Int)
def f56a.q (n : Nat) (x : (List dWrite) × Int) : Option (Int) :=
  f56a.L1 n x n (0 : Int)
set_option maxRecDepth 100000 in
theorem f56a.eq (n : Nat) (x : (List dWrite) × Int) : runK TT E56a n ann (tabC C56a) 2 56 (avL [.dat false (.sl tWrite), .clo 57 [(true, .int .i64)]] x) [] (readL [(false, .int .i64)]) = f56a.g n x := by
  have h : runK TT E56a n ann (tabC C56a) 2 56 (avL [.dat false (.sl tWrite), .clo 57 [(true, .int .i64)]] x) [] (readL [(false, .int .i64)]) = f56a.q n x := by kernel_rfl
  rw [h]
  simp only [f56a.q, f56a.g, f56a.l1]
theorem f56a.codes : CodesOk Try.prog E56a ann (tabC C56a) := tabC_ok (by intro p hp; simp only [C56a, List.mem_cons, List.not_mem_nil, or_false] at hp; rcases hp with rfl | rfl <;> first | exact Try.func56 | exact Try.func57) (by kernel_rfl)
theorem f56a.ok (h : ∀ X Y, F56a X = some Y → ∃ n, f56a.g n X = some Y)  : ConOk Try.prog 56 (gCon [(false, .int .i64)] (PmL [.dat false (.sl tWrite), .clo 57 [(true, .int .i64)]]) (fun l H => lookPL H [.dat false (.sl tWrite), .clo 57 [(true, .int .i64)]] l) F56a) :=
  mkConF_ok mixed TT_ok env0_ok f56a.codes (List.all_eq_true.1 rfl) fun X Y hF => (h X Y hF).imp fun n hn => (f56a.eq n X).trans hn
/-! ### slices.IndexFunc[[]vellum/api.Write,vellum/api.Write] -/
def E56b : FuncId → Option Con := env0
noncomputable def C56b : List (FuncId × Func) := [(56, Try.f56), (52, Try.f52)]
def f56b.h1 (x : (List dWrite) × dWrite) (y1 : Int) : List AV × List Ob := ([.val false [.sc (.sl tWrite) x.1], .val false [.fnr 52 [⟨tWrite, x.2⟩]], .undef, .undef, .undef, .undef, .undef, .val false [.sc (.int .i64) (x.1.length : Int)], .val false [.sc (.int .i64) y1]] ++ List.replicate 10 .undef, [])
def f56b.L1 (n : Nat) (x : (List dWrite) × dWrite) (m : Nat) (y1 : Int) : Option (Int) :=
  loopN (ann 56 2).keep 0 (fun fr H k => execK TT 0 E56b (inlD TT E56b n ann (tabC C56b) 2) n (ann 56) (subC [1, 0, 1, 0, 0] (bodyOf Try.f56)) fr H k) m (f56b.h1 x y1).1 (f56b.h1 x y1).2 (kont TT 0 E56b (inlD TT E56b n ann (tabC C56b) 2) n (ann 56) [1, 0, 1, 0] (bodyOf Try.f56) (endK TT Try.f56 (readL [(false, .int .i64)])))
def f56b.s1 (n : Nat) (x : (List dWrite) × dWrite) (S1 : Int → Option (Int)) (y1 : Int) : Option (Int) :=
  bif decide (y1 < (x.1.length : Int)) then
    (bif decide (0 ≤ y1) && decide (y1 < (x.1.length : Int)) then
      (bif decide ((x.1.getD y1.toNat tWrite.dflt).1 > x.2.1) then
        (some y1)
      else
        (S1 (IntKind.wrap .i64 (y1 + (1 : Int)))))
    else
      (none))
  else
    (some (-1 : Int))
set_option maxRecDepth 100000 in
theorem f56b.l1 (n : Nat) (x : (List dWrite) × dWrite) (m : Nat) : ∀ (y1 : Int), f56b.L1 n x m y1 = iter (f56b.s1 n x) m y1 := by
  exact loop_rec (fun y => (f56b.h1 x y).1) (fun y => (f56b.h1 x y).2) (f56b.s1 n x) (fun m y => by kernel_rfl) m
def f56b.g (n : Nat) (x : (List dWrite) × dWrite) : Option (Int) :=
  iter (f56b.s1 n x) n (0 : Int)
def f56b.q (n : Nat) (x : (List dWrite) × dWrite) : Option (Int) :=
  f56b.L1 n x n (0 : Int)
set_option maxRecDepth 100000 in
theorem f56b.eq (n : Nat) (x : (List dWrite) × dWrite) : runK TT E56b n ann (tabC C56b) 2 56 (avL [.dat false (.sl tWrite), .clo 52 [(true, tWrite)]] x) [] (readL [(false, .int .i64)]) = f56b.g n x := by
  have h : runK TT E56b n ann (tabC C56b) 2 56 (avL [.dat false (.sl tWrite), .clo 52 [(true, tWrite)]] x) [] (readL [(false, .int .i64)]) = f56b.q n x := by kernel_rfl
  rw [h]
  simp only [f56b.q, f56b.g, f56b.l1]
theorem f56b.codes : CodesOk Try.prog E56b ann (tabC C56b) := tabC_ok (by intro p hp; simp only [C56b, List.mem_cons, List.not_mem_nil, or_false] at hp; rcases hp with rfl | rfl <;> first | exact Try.func56 | exact Try.func52) (by kernel_rfl)
theorem f56b.ok (h : ∀ X Y, F56b X = some Y → ∃ n, f56b.g n X = some Y)  : ConOk Try.prog 56 (gCon [(false, .int .i64)] (PmL [.dat false (.sl tWrite), .clo 52 [(true, tWrite)]]) (fun l H => lookPL H [.dat false (.sl tWrite), .clo 52 [(true, tWrite)]] l) F56b) :=
  mkConF_ok mixed TT_ok env0_ok f56b.codes (List.all_eq_true.1 rfl) fun X Y hF => (h X Y hF).imp fun n hn => (f56b.eq n X).trans hn
def con56 : Con := gCon [(false, .int .i64)] ((PmL [.dat false (.sl tWrite), .clo 57 [(true, .int .i64)]]) ⊕ (PmL [.dat false (.sl tWrite), .clo 52 [(true, tWrite)]])) (orLook 57 (fun l H => lookPL H [.dat false (.sl tWrite), .clo 57 [(true, .int .i64)]] l) (fun l H => lookPL H [.dat false (.sl tWrite), .clo 52 [(true, tWrite)]] l)) (orF F56a F56b)
/-! ### slices.ContainsFunc[[]vellum/api.Write,vellum/api.Write] -/
def E51 : FuncId → Option Con := (envC 56 con56 env0)
noncomputable def C51 : List (FuncId × Func) := [(51, Try.f51), (52, Try.f52)]
def f51.g (n : Nat) (x : (List dWrite) × dWrite) : Option (Bool) :=
  (F56b x).bind fun r1 =>
    some (decide (r1 ≥ (0 : Int)))
set_option maxRecDepth 100000 in
theorem f51.eq (n : Nat) (x : (List dWrite) × dWrite) : runK TT E51 n ann (tabC C51) 2 51 (avL [.dat false (.sl tWrite), .clo 52 [(true, tWrite)]] x) [] (readL [(false, .bool)]) = f51.g n x := by
  kernel_rfl
theorem f51.codes : CodesOk Try.prog E51 ann (tabC C51) := tabC_ok (by intro p hp; simp only [C51, List.mem_cons, List.not_mem_nil, or_false] at hp; rcases hp with rfl | rfl <;> first | exact Try.func51 | exact Try.func52) (by kernel_rfl)
theorem f51.ok (h : ∀ X Y, F51 X = some Y → ∃ n, f51.g n X = some Y) (e56 : ConOk Try.prog 56 con56) : ConOk Try.prog 51 (mkConF [.dat false (.sl tWrite), .clo 52 [(true, tWrite)]] [(false, .bool)] F51) :=
  mkConF_ok mixed TT_ok (envC_ok e56 env0_ok) f51.codes (List.all_eq_true.1 rfl) fun X Y hF => (h X Y hF).imp fun n hn => (f51.eq n X).trans hn
def con51 : Con := mkConF [.dat false (.sl tWrite), .clo 52 [(true, tWrite)]] [(false, .bool)] F51
/-! ### vellum/chain.At -/
def E15 : FuncId → Option Con := (envC 42 con42 env0)
noncomputable def C15 : List (FuncId × Func) := [(15, Try.f15)]
def f15.g (n : Nat) (x : (List dVersion) × Int) : Option (Int) :=
  (F42a x).bind fun r1 =>
    some r1
set_option maxRecDepth 100000 in
theorem f15.eq (n : Nat) (x : (List dVersion) × Int) : runK TT E15 n ann (tabC C15) 1 15 (argsL [(false, .sl tVersion), (false, .int .u64)] x) [] (readL [(false, .int .i64)]) = f15.g n x := by
  kernel_rfl
theorem f15.codes : CodesOk Try.prog E15 ann (tabC C15) := tabC_ok (by intro p hp; simp only [C15, List.mem_cons, List.not_mem_nil, or_false] at hp; rcases hp with rfl <;> first | exact Try.func15) (by kernel_rfl)
theorem f15.ok (h : ∀ X Y, F15 X = some Y → ∃ n, f15.g n X = some Y) (e42 : ConOk Try.prog 42 con42) : ConOk Try.prog 15 (mkCon [(false, .sl tVersion), (false, .int .u64)] [(false, .int .i64)] true F15) :=
  mkCon_ok mixed TT_ok (envC_ok e42 env0_ok) f15.codes (fun _ => List.all_eq_true.1 rfl) fun X Y hF => (h X Y hF).imp fun n hn => (f15.eq n X).trans hn
def con15 : Con := mkCon [(false, .sl tVersion), (false, .int .u64)] [(false, .int .i64)] true F15
/-! ### vellum/vellumlaw08.awake -/
def E13 : FuncId → Option Con := (envC 15 con15 env0)
noncomputable def C13 : List (FuncId × Func) := [(13, Try.f13)]
def f13.g (n : Nat) (x : Unit) : Option (Bool) :=
  (F15 (List.take 2 ([((9 : Int), (false, [])), ((4 : Int), (false, []))]), (8 : Int))).bind fun r1 =>
    bif r1 == (1 : Int) then
      ((F15 (List.take 2 ([((9 : Int), (false, [])), ((4 : Int), (false, []))]), (9 : Int))).bind fun r2 =>
        bif r2 == (0 : Int) then
          ((F15 (List.take 2 ([((9 : Int), (false, [])), ((4 : Int), (false, []))]), (3 : Int))).bind fun r3 =>
            some (r3 == (-1 : Int)))
        else
          (some false))
    else
      (some false)
set_option maxRecDepth 100000 in
theorem f13.eq (n : Nat) (x : Unit) : runK TT E13 n ann (tabC C13) 1 13 (argsL [] x) [] (readL [(false, .bool)]) = f13.g n x := by
  kernel_rfl
theorem f13.codes : CodesOk Try.prog E13 ann (tabC C13) := tabC_ok (by intro p hp; simp only [C13, List.mem_cons, List.not_mem_nil, or_false] at hp; rcases hp with rfl <;> first | exact Try.func13) (by kernel_rfl)
theorem f13.ok (h : ∀ X Y, F13 X = some Y → ∃ n, f13.g n X = some Y) (e15 : ConOk Try.prog 15 con15) : ConOk Try.prog 13 (mkCon [] [(false, .bool)] true F13) :=
  mkCon_ok mixed TT_ok (envC_ok e15 env0_ok) f13.codes (fun _ => List.all_eq_true.1 rfl) fun X Y hF => (h X Y hF).imp fun n hn => (f13.eq n X).trans hn
def con13 : Con := mkCon [] [(false, .bool)] true F13
/-! ### vellum/chain.Life -/
def E14 : FuncId → Option Con := env0
noncomputable def C14 : List (FuncId × Func) := [(14, Try.f14)]
def f14.g (n : Nat) (x : (List dVersion) × Int) : Option (Int × Int × Int) :=
  bif bif (decide (x.2 < (0 : Int))) then true else (decide (x.2 ≥ (x.1.length : Int))) then
    (some ((0 : Int), ((0 : Int), (5 : Int))))
  else
    (bif decide (x.2 > (0 : Int)) then
      (bif decide (0 ≤ IntKind.wrap .i64 (x.2 - (1 : Int))) && decide (IntKind.wrap .i64 (x.2 - (1 : Int)) < (x.1.length : Int)) then
        (bif decide (0 ≤ x.2) && decide (x.2 < (x.1.length : Int)) then
          (some ((x.1.getD x.2.toNat tVersion.dflt).1, ((x.1.getD ((IntKind.wrap .i64 (x.2 - (1 : Int))).toNat) tVersion.dflt).1, (0 : Int))))
        else
          (none))
      else
        (none))
    else
      (bif decide (0 ≤ x.2) && decide (x.2 < (x.1.length : Int)) then
        (some ((x.1.getD x.2.toNat tVersion.dflt).1, ((0 : Int), (0 : Int))))
      else
        (none)))
set_option maxRecDepth 100000 in
theorem f14.eq (n : Nat) (x : (List dVersion) × Int) : runK TT E14 n ann (tabC C14) 1 14 (argsL [(false, .sl tVersion), (false, .int .i64)] x) [] (readL [(false, .int .u64), (false, .int .u64), (false, .int .i64)]) = f14.g n x := by
  kernel_rfl
theorem f14.codes : CodesOk Try.prog E14 ann (tabC C14) := tabC_ok (by intro p hp; simp only [C14, List.mem_cons, List.not_mem_nil, or_false] at hp; rcases hp with rfl <;> first | exact Try.func14) (by kernel_rfl)
theorem f14.ok (h : ∀ X Y, F14 X = some Y → ∃ n, f14.g n X = some Y)  : ConOk Try.prog 14 (mkCon [(false, .sl tVersion), (false, .int .i64)] [(false, .int .u64), (false, .int .u64), (false, .int .i64)] true F14) :=
  mkCon_ok mixed TT_ok env0_ok f14.codes (fun _ => List.all_eq_true.1 rfl) fun X Y hF => (h X Y hF).imp fun n hn => (f14.eq n X).trans hn
def con14 : Con := mkCon [(false, .sl tVersion), (false, .int .i64)] [(false, .int .u64), (false, .int .u64), (false, .int .i64)] true F14
/-! ### vellum/vellumref08.MayIntent -/
def E16 : FuncId → Option Con := env0
noncomputable def C16 : List (FuncId × Func) := [(16, Try.f16)]
def f16.h1 (x : dIntent) (y1 : Int) : List AV × List Ob := ([.undef, .val false [.ptr 0 0], .undef, .val false [.sc (.int .i64) y1]] ++ List.replicate 55 .undef, [.box [.sc (.int .i64) x.1, .sc (.sl tWrite) x.2]])
def f16.L1 (n : Nat) (x : dIntent) (m : Nat) (y1 : Int) : Option (Bool) :=
  loopN (ann 16 4).keep 1 (fun fr H k => execK TT 0 E16 (inlD TT E16 n ann (tabC C16) 1) n (ann 16) (subC [1, 1, 0, 1, 0, 0] (bodyOf Try.f16)) fr H k) m (f16.h1 x y1).1 (f16.h1 x y1).2 (kont TT 0 E16 (inlD TT E16 n ann (tabC C16) 1) n (ann 16) [1, 1, 0, 1, 0] (bodyOf Try.f16) (endK TT Try.f16 (readL [(false, .bool)])))
def f16.s1 (n : Nat) (x : dIntent) (S1 : Int → Option (Bool)) (y1 : Int) : Option (Bool) :=
  bif decide (y1 < (x.2.length : Int)) then
    (bif decide (0 ≤ y1) && decide (y1 < (x.2.length : Int)) then
      (bif bif (decide ((x.2.getD y1.toNat tWrite.dflt).1 < (0 : Int))) then true else (bif (x.2.getD y1.toNat tWrite.dflt).2.1 then (decide (((x.2.getD y1.toNat tWrite.dflt).2.2.length : Int) > (0 : Int))) else false) then
        (some false)
      else
        (bif decide (y1 > (0 : Int)) then
          (bif decide (0 ≤ IntKind.wrap .i64 (y1 - (1 : Int))) && decide (IntKind.wrap .i64 (y1 - (1 : Int)) < (x.2.length : Int)) then
            (bif decide ((x.2.getD y1.toNat tWrite.dflt).1 ≤ (x.2.getD ((IntKind.wrap .i64 (y1 - (1 : Int))).toNat) tWrite.dflt).1) then
              (some false)
            else
              (S1 (IntKind.wrap .i64 (y1 + (1 : Int)))))
          else
            (none))
        else
          (S1 (IntKind.wrap .i64 (y1 + (1 : Int))))))
    else
      (none))
  else
    (some true)
set_option maxRecDepth 100000 in
theorem f16.l1 (n : Nat) (x : dIntent) (m : Nat) : ∀ (y1 : Int), f16.L1 n x m y1 = iter (f16.s1 n x) m y1 := by
  exact loop_rec (fun y => (f16.h1 x y).1) (fun y => (f16.h1 x y).2) (f16.s1 n x) (fun m y => by kernel_rfl) m
def f16.g (n : Nat) (x : dIntent) : Option (Bool) :=
  bif bif (decide (x.1 < (0 : Int))) then true else (!((x.1 == (0 : Int)) == ((x.2.length : Int) == (0 : Int)))) then
    (some false)
  else
    (iter (f16.s1 n x) n (0 : Int))
def f16.q (n : Nat) (x : dIntent) : Option (Bool) :=
  bif bif (decide (x.1 < (0 : Int))) then true else (!((x.1 == (0 : Int)) == ((x.2.length : Int) == (0 : Int)))) then
    (some false)
  else
    (f16.L1 n x n (0 : Int))
set_option maxRecDepth 100000 in
theorem f16.eq (n : Nat) (x : dIntent) : runK TT E16 n ann (tabC C16) 1 16 (argsL [(true, tIntent)] x) [] (readL [(false, .bool)]) = f16.g n x := by
  have h : runK TT E16 n ann (tabC C16) 1 16 (argsL [(true, tIntent)] x) [] (readL [(false, .bool)]) = f16.q n x := by kernel_rfl
  rw [h]
  simp only [f16.q, f16.g, f16.l1]
theorem f16.codes : CodesOk Try.prog E16 ann (tabC C16) := tabC_ok (by intro p hp; simp only [C16, List.mem_cons, List.not_mem_nil, or_false] at hp; rcases hp with rfl <;> first | exact Try.func16) (by kernel_rfl)
theorem f16.ok (h : ∀ X Y, F16 X = some Y → ∃ n, f16.g n X = some Y)  : ConOk Try.prog 16 (mkCon [(true, tIntent)] [(false, .bool)] true F16) :=
  mkCon_ok mixed TT_ok env0_ok f16.codes (fun _ => List.all_eq_true.1 rfl) fun X Y hF => (h X Y hF).imp fun n hn => (f16.eq n X).trans hn
def con16 : Con := mkCon [(true, tIntent)] [(false, .bool)] true F16
/-! ### vellum/vellumref01.SameRow -/
def E45 : FuncId → Option Con := (envC 58 con58 env0)
noncomputable def C45 : List (FuncId × Func) := [(45, Try.f45), (55, Try.f55)]
def f45.h1 (x : (List dValue) × (List dValue)) (y1 : Int) : List AV × List Ob := ([.val false [.sc (.sl tValue) x.1], .val false [.sc (.sl tValue) x.2], .undef, .undef, .undef, .val false [.sc (.int .i64) y1]] ++ List.replicate 21 .undef, [])
def f45.L1 (n : Nat) (x : (List dValue) × (List dValue)) (m : Nat) (y1 : Int) : Option (Bool) :=
  loopN (ann 45 4).keep 0 (fun fr H k => execK TT 0 E45 (inlD TT E45 n ann (tabC C45) 2) n (ann 45) (subC [1, 1, 0, 1, 0, 0] (bodyOf Try.f45)) fr H k) m (f45.h1 x y1).1 (f45.h1 x y1).2 (kont TT 0 E45 (inlD TT E45 n ann (tabC C45) 2) n (ann 45) [1, 1, 0, 1, 0] (bodyOf Try.f45) (endK TT Try.f45 (readL [(false, .bool)])))
def f45.s1 (n : Nat) (x : (List dValue) × (List dValue)) (S1 : Int → Option (Bool)) (y1 : Int) : Option (Bool) :=
  bif decide (y1 < (x.1.length : Int)) then
    (bif decide (0 ≤ y1) && decide (y1 < (x.1.length : Int)) then
      (bif decide (0 ≤ y1) && decide (y1 < (x.2.length : Int)) then
        (bif bif ((x.1.getD y1.toNat tValue.dflt).1 == (x.2.getD y1.toNat tValue.dflt).1) then ((x.1.getD y1.toNat tValue.dflt).2.1 == (x.2.getD y1.toNat tValue.dflt).2.1) else false then
          ((F58 (x.1.getD y1.toNat tValue.dflt).2.2.1).bind fun r2 =>
            (F58 (x.2.getD y1.toNat tValue.dflt).2.2.1).bind fun r3 =>
              bif !(bif (r2 == r3) then (strEq (x.1.getD y1.toNat tValue.dflt).2.2.2 (x.2.getD y1.toNat tValue.dflt).2.2.2) else false) then
                (some false)
              else
                (S1 (IntKind.wrap .i64 (y1 + (1 : Int)))))
        else
          (some false))
      else
        (none))
    else
      (none))
  else
    (some true)
set_option maxRecDepth 100000 in
theorem f45.l1 (n : Nat) (x : (List dValue) × (List dValue)) (m : Nat) : ∀ (y1 : Int), f45.L1 n x m y1 = iter (f45.s1 n x) m y1 := by
  exact loop_rec (fun y => (f45.h1 x y).1) (fun y => (f45.h1 x y).2) (f45.s1 n x) (fun m y => by kernel_rfl) m
def f45.g (n : Nat) (x : (List dValue) × (List dValue)) : Option (Bool) :=
  bif (x.1.length : Int) != (x.2.length : Int) then
    (some false)
  else
    (iter (f45.s1 n x) n (0 : Int))
def f45.q (n : Nat) (x : (List dValue) × (List dValue)) : Option (Bool) :=
  bif (x.1.length : Int) != (x.2.length : Int) then
    (some false)
  else
    (f45.L1 n x n (0 : Int))
set_option maxRecDepth 100000 in
theorem f45.eq (n : Nat) (x : (List dValue) × (List dValue)) : runK TT E45 n ann (tabC C45) 2 45 (argsL [(false, .sl tValue), (false, .sl tValue)] x) [] (readL [(false, .bool)]) = f45.g n x := by
  have h : runK TT E45 n ann (tabC C45) 2 45 (argsL [(false, .sl tValue), (false, .sl tValue)] x) [] (readL [(false, .bool)]) = f45.q n x := by kernel_rfl
  rw [h]
  simp only [f45.q, f45.g, f45.l1]
theorem f45.codes : CodesOk Try.prog E45 ann (tabC C45) := tabC_ok (by intro p hp; simp only [C45, List.mem_cons, List.not_mem_nil, or_false] at hp; rcases hp with rfl | rfl <;> first | exact Try.func45 | exact Try.func55) (by kernel_rfl)
theorem f45.ok (h : ∀ X Y, F45 X = some Y → ∃ n, f45.g n X = some Y) (e58 : ConOk Try.prog 58 con58) : ConOk Try.prog 45 (mkCon [(false, .sl tValue), (false, .sl tValue)] [(false, .bool)] true F45) :=
  mkCon_ok mixed TT_ok (envC_ok e58 env0_ok) f45.codes (fun _ => List.all_eq_true.1 rfl) fun X Y hF => (h X Y hF).imp fun n hn => (f45.eq n X).trans hn
def con45 : Con := mkCon [(false, .sl tValue), (false, .sl tValue)] [(false, .bool)] true F45
/-! ### vellum/chain.See -/
def E17 : FuncId → Option Con := (envC 44 con44 (envC 15 con15 env0))
noncomputable def C17 : List (FuncId × Func) := [(17, Try.f17)]
def f17.g (n : Nat) (x : (List dVersion) × dIntent × Int × Int) : Option ((List dValue) × Bool) :=
  bif bif (bif (decide (x.2.2.1 > (0 : Int))) then (x.2.1.1 == x.2.2.1) else false) then (decide ((x.2.1.2.length : Int) > (0 : Int))) else false then
    (bif decide (0 ≤ IntKind.wrap .i64 ((x.2.1.2.length : Int) - (1 : Int))) && decide (IntKind.wrap .i64 ((x.2.1.2.length : Int) - (1 : Int)) < (x.2.1.2.length : Int)) then
      ((F44 (x.2.1.2.getD ((IntKind.wrap .i64 ((x.2.1.2.length : Int) - (1 : Int))).toNat) tWrite.dflt).2.2).bind fun r1 =>
        some (r1, !(x.2.1.2.getD ((IntKind.wrap .i64 ((x.2.1.2.length : Int) - (1 : Int))).toNat) tWrite.dflt).2.1))
    else
      (none))
  else
    ((F15 (x.1, x.2.2.2)).bind fun r2 =>
      bif decide (r2 < (0 : Int)) then
        (some ([], false))
      else
        (bif decide (0 ≤ r2) && decide (r2 < (x.1.length : Int)) then
          (bif (x.1.getD r2.toNat tVersion.dflt).2.1 then
            (some ([], false))
          else
            (bif decide (0 ≤ r2) && decide (r2 < (x.1.length : Int)) then
              ((F44 (x.1.getD r2.toNat tVersion.dflt).2.2).bind fun r3 =>
                some (r3, true))
            else
              (none)))
        else
          (none)))
set_option maxRecDepth 100000 in
theorem f17.eq (n : Nat) (x : (List dVersion) × dIntent × Int × Int) : runK TT E17 n ann (tabC C17) 1 17 (argsL [(false, .sl tVersion), (true, tIntent), (false, .int .i64), (false, .int .u64)] x) [] (readL [(false, .sl tValue), (false, .bool)]) = f17.g n x := by
  kernel_rfl
theorem f17.codes : CodesOk Try.prog E17 ann (tabC C17) := tabC_ok (by intro p hp; simp only [C17, List.mem_cons, List.not_mem_nil, or_false] at hp; rcases hp with rfl <;> first | exact Try.func17) (by kernel_rfl)
theorem f17.ok (h : ∀ X Y, F17 X = some Y → ∃ n, f17.g n X = some Y) (e15 : ConOk Try.prog 15 con15) (e44 : ConOk Try.prog 44 con44) : ConOk Try.prog 17 (mkCon [(false, .sl tVersion), (true, tIntent), (false, .int .i64), (false, .int .u64)] [(false, .sl tValue), (false, .bool)] false F17) :=
  mkCon_ok mixed TT_ok (envC_ok e44 (envC_ok e15 env0_ok)) f17.codes (fun h => by cases h) fun X Y hF => (h X Y hF).imp fun n hn => (f17.eq n X).trans hn
def con17 : Con := mkCon [(false, .sl tVersion), (true, tIntent), (false, .int .i64), (false, .int .u64)] [(false, .sl tValue), (false, .bool)] false F17
/-! ### vellum/vellumref08.At -/
def E26 : FuncId → Option Con := env0
noncomputable def C26 : List (FuncId × Func) := [(26, Try.f26)]
def f26.h1 (x : (List dVersion) × Int) (y1 : Int) : List AV × List Ob := ([.val false [.sc (.sl tVersion) x.1], .val false [.sc (.int .u64) x.2], .undef, .undef, .undef, .val false [.sc (.int .i64) y1]] ++ List.replicate 14 .undef, [])
def f26.L1 (n : Nat) (x : (List dVersion) × Int) (m : Nat) (y1 : Int) : Option (Int) :=
  loopN (ann 26 2).keep 0 (fun fr H k => execK TT 0 E26 (inlD TT E26 n ann (tabC C26) 1) n (ann 26) (subC [1, 0, 1, 0, 0] (bodyOf Try.f26)) fr H k) m (f26.h1 x y1).1 (f26.h1 x y1).2 (kont TT 0 E26 (inlD TT E26 n ann (tabC C26) 1) n (ann 26) [1, 0, 1, 0] (bodyOf Try.f26) (endK TT Try.f26 (readL [(false, .int .i64)])))
def f26.s1 (n : Nat) (x : (List dVersion) × Int) (S1 : Int → Option (Int)) (y1 : Int) : Option (Int) :=
  bif decide (y1 < (x.1.length : Int)) then
    (bif decide (0 ≤ y1) && decide (y1 < (x.1.length : Int)) then
      (bif decide ((x.1.getD y1.toNat tVersion.dflt).1 ≤ x.2) then
        (some y1)
      else
        (S1 (IntKind.wrap .i64 (y1 + (1 : Int)))))
    else
      (none))
  else
    (some (-1 : Int))
set_option maxRecDepth 100000 in
theorem f26.l1 (n : Nat) (x : (List dVersion) × Int) (m : Nat) : ∀ (y1 : Int), f26.L1 n x m y1 = iter (f26.s1 n x) m y1 := by
  exact loop_rec (fun y => (f26.h1 x y).1) (fun y => (f26.h1 x y).2) (f26.s1 n x) (fun m y => by kernel_rfl) m
def f26.g (n : Nat) (x : (List dVersion) × Int) : Option (Int) :=
  iter (f26.s1 n x) n (0 : Int)
def f26.q (n : Nat) (x : (List dVersion) × Int) : Option (Int) :=
  f26.L1 n x n (0 : Int)
set_option maxRecDepth 100000 in
theorem f26.eq (n : Nat) (x : (List dVersion) × Int) : runK TT E26 n ann (tabC C26) 1 26 (argsL [(false, .sl tVersion), (false, .int .u64)] x) [] (readL [(false, .int .i64)]) = f26.g n x := by
  have h : runK TT E26 n ann (tabC C26) 1 26 (argsL [(false, .sl tVersion), (false, .int .u64)] x) [] (readL [(false, .int .i64)]) = f26.q n x := by kernel_rfl
  rw [h]
  simp only [f26.q, f26.g, f26.l1]
theorem f26.codes : CodesOk Try.prog E26 ann (tabC C26) := tabC_ok (by intro p hp; simp only [C26, List.mem_cons, List.not_mem_nil, or_false] at hp; rcases hp with rfl <;> first | exact Try.func26) (by kernel_rfl)
theorem f26.ok (h : ∀ X Y, F26 X = some Y → ∃ n, f26.g n X = some Y)  : ConOk Try.prog 26 (mkCon [(false, .sl tVersion), (false, .int .u64)] [(false, .int .i64)] true F26) :=
  mkCon_ok mixed TT_ok env0_ok f26.codes (fun _ => List.all_eq_true.1 rfl) fun X Y hF => (h X Y hF).imp fun n hn => (f26.eq n X).trans hn
def con26 : Con := mkCon [(false, .sl tVersion), (false, .int .u64)] [(false, .int .i64)] true F26
/-! ### vellum/vellumref08.See -/
def E18 : FuncId → Option Con := (envC 26 con26 env0)
noncomputable def C18 : List (FuncId × Func) := [(18, Try.f18)]
def f18.g (n : Nat) (x : (List dVersion) × dIntent × Int × Int) : Option ((List dValue) × Bool) :=
  bif bif (bif (decide (x.2.2.1 > (0 : Int))) then (x.2.1.1 == x.2.2.1) else false) then (decide ((x.2.1.2.length : Int) > (0 : Int))) else false then
    (bif decide (0 ≤ IntKind.wrap .i64 ((x.2.1.2.length : Int) - (1 : Int))) && decide (IntKind.wrap .i64 ((x.2.1.2.length : Int) - (1 : Int)) < (x.2.1.2.length : Int)) then
      (bif decide (0 ≤ IntKind.wrap .i64 ((x.2.1.2.length : Int) - (1 : Int))) && decide (IntKind.wrap .i64 ((x.2.1.2.length : Int) - (1 : Int)) < (x.2.1.2.length : Int)) then
        (some ((x.2.1.2.getD ((IntKind.wrap .i64 ((x.2.1.2.length : Int) - (1 : Int))).toNat) tWrite.dflt).2.2, !(x.2.1.2.getD ((IntKind.wrap .i64 ((x.2.1.2.length : Int) - (1 : Int))).toNat) tWrite.dflt).2.1))
      else
        (none))
    else
      (none))
  else
    ((F26 (x.1, x.2.2.2)).bind fun r1 =>
      bif decide (r1 < (0 : Int)) then
        (some ([], false))
      else
        (bif decide (0 ≤ r1) && decide (r1 < (x.1.length : Int)) then
          (bif (x.1.getD r1.toNat tVersion.dflt).2.1 then
            (some ([], false))
          else
            (bif decide (0 ≤ r1) && decide (r1 < (x.1.length : Int)) then
              (some ((x.1.getD r1.toNat tVersion.dflt).2.2, true))
            else
              (none)))
        else
          (none)))
set_option maxRecDepth 100000 in
theorem f18.eq (n : Nat) (x : (List dVersion) × dIntent × Int × Int) : runK TT E18 n ann (tabC C18) 1 18 (argsL [(false, .sl tVersion), (true, tIntent), (false, .int .i64), (false, .int .u64)] x) [] (readL [(false, .sl tValue), (false, .bool)]) = f18.g n x := by
  kernel_rfl
theorem f18.codes : CodesOk Try.prog E18 ann (tabC C18) := tabC_ok (by intro p hp; simp only [C18, List.mem_cons, List.not_mem_nil, or_false] at hp; rcases hp with rfl <;> first | exact Try.func18) (by kernel_rfl)
theorem f18.ok (h : ∀ X Y, F18 X = some Y → ∃ n, f18.g n X = some Y) (e26 : ConOk Try.prog 26 con26) : ConOk Try.prog 18 (mkCon [(false, .sl tVersion), (true, tIntent), (false, .int .i64), (false, .int .u64)] [(false, .sl tValue), (false, .bool)] false F18) :=
  mkCon_ok mixed TT_ok (envC_ok e26 env0_ok) f18.codes (fun h => by cases h) fun X Y hF => (h X Y hF).imp fun n hn => (f18.eq n X).trans hn
def con18 : Con := mkCon [(false, .sl tVersion), (true, tIntent), (false, .int .i64), (false, .int .u64)] [(false, .sl tValue), (false, .bool)] false F18
/-! ### vellum/chain.Prune -/
def E20 : FuncId → Option Con := (envC 44 con44 (envC 15 con15 env0))
noncomputable def C20 : List (FuncId × Func) := [(20, Try.f20), (46, Try.f46)]
def f20.h1 (x : (List dVersion) × Int) (r1 : Int) (y2 : Nat × Int × (List dVersion)) : List AV × List Ob := ([.val false [.sc (.sl tVersion) x.1], .val false [.sc (.int .u64) x.2], .undef, .undef, .undef, .undef, .val false [.sc (.int .i64) r1], .val false [.own 0 y2.1], .undef, .undef, .undef, .undef, .undef, .val false [.sc (.sl tVersion) x.1], .val false [.sc (.int .i64) (x.1.length : Int)], .val false [.sc (.int .i64) y2.2.1]] ++ List.replicate 30 .undef, [.arr 31 tVersion y2.2.2])
def f20.L1 (n : Nat) (x : (List dVersion) × Int) (r1 : Int) (m : Nat) (y2 : Nat × Int × (List dVersion)) : Option ((List dVersion) × Int) :=
  loopN (ann 20 4).keep 1 (fun fr H k => execK TT 0 E20 (inlD TT E20 n ann (tabC C20) 2) n (ann 20) (subC [1, 1, 1, 0, 1, 0, 0] (bodyOf Try.f20)) fr H k) m (f20.h1 x r1 y2).1 (f20.h1 x r1 y2).2 (kont TT 0 E20 (inlD TT E20 n ann (tabC C20) 2) n (ann 20) [1, 1, 1, 0, 1, 0] (bodyOf Try.f20) (endK TT Try.f20 (readL [(false, .sl tVersion), (false, .int .i64)])))
def f20.s1 (n : Nat) (x : (List dVersion) × Int) (r1 : Int) (S2 : (Nat × Int × (List dVersion)) → Option ((List dVersion) × Int)) (y2 : Nat × Int × (List dVersion)) : Option ((List dVersion) × Int) :=
  bif decide (y2.2.1 < (x.1.length : Int)) then
    (bif decide (0 ≤ y2.2.1) && decide (y2.2.1 < (x.1.length : Int)) then
      (bif bif (decide ((x.1.getD y2.2.1.toNat tVersion.dflt).1 > x.2)) then true else (bif (y2.2.1 == r1) then (!(x.1.getD y2.2.1.toNat tVersion.dflt).2.1) else false) then
        ((F44 (x.1.getD y2.2.1.toNat tVersion.dflt).2.2).bind fun r3 =>
          bif decide ((y2.1 + 1) * 40 ≤ boundN) then
            (S2 (y2.1 + 1, (IntKind.wrap .i64 (y2.2.1 + (1 : Int)), List.take y2.1 y2.2.2 ++ ([((x.1.getD y2.2.1.toNat tVersion.dflt).1, ((x.1.getD y2.2.1.toNat tVersion.dflt).2.1, r3))]))))
          else
            (none))
      else
        (S2 (y2.1, (IntKind.wrap .i64 (y2.2.1 + (1 : Int)), y2.2.2))))
    else
      (none))
  else
    (some (List.take y2.1 y2.2.2, IntKind.wrap .i64 ((x.1.length : Int) - ((y2.1 : Nat) : Int))))
set_option maxRecDepth 100000 in
theorem f20.l1 (n : Nat) (x : (List dVersion) × Int) (r1 : Int) (m : Nat) : ∀ (y2 : Nat × Int × (List dVersion)), f20.L1 n x r1 m y2 = iter (f20.s1 n x r1) m y2 := by
  exact loop_rec (fun y => (f20.h1 x r1 y).1) (fun y => (f20.h1 x r1 y).2) (f20.s1 n x r1) (fun m y => by kernel_rfl) m
def f20.g (n : Nat) (x : (List dVersion) × Int) : Option ((List dVersion) × Int) :=
  (F15 x).bind fun r1 =>
    iter (f20.s1 n x r1) n (0, ((0 : Int), []))
def f20.q (n : Nat) (x : (List dVersion) × Int) : Option ((List dVersion) × Int) :=
  (F15 x).bind fun r1 =>
    f20.L1 n x r1 n (0, ((0 : Int), []))
set_option maxRecDepth 100000 in
theorem f20.eq (n : Nat) (x : (List dVersion) × Int) : runK TT E20 n ann (tabC C20) 2 20 (argsL [(false, .sl tVersion), (false, .int .u64)] x) [] (readL [(false, .sl tVersion), (false, .int .i64)]) = f20.g n x := by
  have h : runK TT E20 n ann (tabC C20) 2 20 (argsL [(false, .sl tVersion), (false, .int .u64)] x) [] (readL [(false, .sl tVersion), (false, .int .i64)]) = f20.q n x := by kernel_rfl
  rw [h]
  simp only [f20.q, f20.g, f20.l1]
theorem f20.codes : CodesOk Try.prog E20 ann (tabC C20) := tabC_ok (by intro p hp; simp only [C20, List.mem_cons, List.not_mem_nil, or_false] at hp; rcases hp with rfl | rfl <;> first | exact Try.func20 | exact Try.func46) (by kernel_rfl)
theorem f20.ok (h : ∀ X Y, F20 X = some Y → ∃ n, f20.g n X = some Y) (e15 : ConOk Try.prog 15 con15) (e44 : ConOk Try.prog 44 con44) : ConOk Try.prog 20 (mkCon [(false, .sl tVersion), (false, .int .u64)] [(false, .sl tVersion), (false, .int .i64)] false F20) :=
  mkCon_ok mixed TT_ok (envC_ok e44 (envC_ok e15 env0_ok)) f20.codes (fun h => by cases h) fun X Y hF => (h X Y hF).imp fun n hn => (f20.eq n X).trans hn
def con20 : Con := mkCon [(false, .sl tVersion), (false, .int .u64)] [(false, .sl tVersion), (false, .int .i64)] false F20
/-! ### vellum/vellumref08.Prune -/
def E21 : FuncId → Option Con := (envC 26 con26 env0)
noncomputable def C21 : List (FuncId × Func) := [(21, Try.f21)]
def f21.h1 (x : (List dVersion) × Int) (r1 : Int) (y2 : Nat × Int × (List dVersion)) : List AV × List Ob := ([.val false [.sc (.sl tVersion) x.1], .val false [.sc (.int .u64) x.2], .undef, .undef, .undef, .undef, .val false [.sc (.int .i64) r1], .val false [.own 0 y2.1], .val false [.sc (.int .i64) y2.2.1]] ++ List.replicate 42 .undef, [.arr 31 tVersion y2.2.2])
def f21.L1 (n : Nat) (x : (List dVersion) × Int) (r1 : Int) (m : Nat) (y2 : Nat × Int × (List dVersion)) : Option ((List dVersion) × Int) :=
  loopN (ann 21 4).keep 1 (fun fr H k => execK TT 0 E21 (inlD TT E21 n ann (tabC C21) 1) n (ann 21) (subC [1, 1, 1, 0, 1, 0, 0] (bodyOf Try.f21)) fr H k) m (f21.h1 x r1 y2).1 (f21.h1 x r1 y2).2 (kont TT 0 E21 (inlD TT E21 n ann (tabC C21) 1) n (ann 21) [1, 1, 1, 0, 1, 0] (bodyOf Try.f21) (endK TT Try.f21 (readL [(false, .sl tVersion), (false, .int .i64)])))
def f21.s1 (n : Nat) (x : (List dVersion) × Int) (r1 : Int) (S2 : (Nat × Int × (List dVersion)) → Option ((List dVersion) × Int)) (y2 : Nat × Int × (List dVersion)) : Option ((List dVersion) × Int) :=
  bif decide (y2.2.1 < (x.1.length : Int)) then
    (bif decide (0 ≤ y2.2.1) && decide (y2.2.1 < (x.1.length : Int)) then
      (bif decide ((x.1.getD y2.2.1.toNat tVersion.dflt).1 > x.2) then
        (bif decide (0 ≤ y2.2.1) && decide (y2.2.1 < (x.1.length : Int)) then
          (bif decide ((y2.1 + 1) * 40 ≤ boundN) then
            (S2 (y2.1 + 1, (IntKind.wrap .i64 (y2.2.1 + (1 : Int)), List.take y2.1 y2.2.2 ++ ([x.1.getD y2.2.1.toNat tVersion.dflt]))))
          else
            (none))
        else
          (none))
      else
        (bif y2.2.1 == r1 then
          (bif decide (0 ≤ y2.2.1) && decide (y2.2.1 < (x.1.length : Int)) then
            (bif !(x.1.getD y2.2.1.toNat tVersion.dflt).2.1 then
              (bif decide (0 ≤ y2.2.1) && decide (y2.2.1 < (x.1.length : Int)) then
                (bif decide ((y2.1 + 1) * 40 ≤ boundN) then
                  (S2 (y2.1 + 1, (IntKind.wrap .i64 (y2.2.1 + (1 : Int)), List.take y2.1 y2.2.2 ++ ([x.1.getD y2.2.1.toNat tVersion.dflt]))))
                else
                  (none))
              else
                (none))
            else
              (S2 (y2.1, (IntKind.wrap .i64 (y2.2.1 + (1 : Int)), y2.2.2))))
          else
            (none))
        else
          (S2 (y2.1, (IntKind.wrap .i64 (y2.2.1 + (1 : Int)), y2.2.2)))))
    else
      (none))
  else
    (some (List.take y2.1 y2.2.2, IntKind.wrap .i64 ((x.1.length : Int) - ((y2.1 : Nat) : Int))))
set_option maxRecDepth 100000 in
theorem f21.l1 (n : Nat) (x : (List dVersion) × Int) (r1 : Int) (m : Nat) : ∀ (y2 : Nat × Int × (List dVersion)), f21.L1 n x r1 m y2 = iter (f21.s1 n x r1) m y2 := by
  exact loop_rec (fun y => (f21.h1 x r1 y).1) (fun y => (f21.h1 x r1 y).2) (f21.s1 n x r1) (fun m y => by kernel_rfl) m
def f21.g (n : Nat) (x : (List dVersion) × Int) : Option ((List dVersion) × Int) :=
  (F26 x).bind fun r1 =>
    iter (f21.s1 n x r1) n (0, ((0 : Int), []))
def f21.q (n : Nat) (x : (List dVersion) × Int) : Option ((List dVersion) × Int) :=
  (F26 x).bind fun r1 =>
    f21.L1 n x r1 n (0, ((0 : Int), []))
set_option maxRecDepth 100000 in
theorem f21.eq (n : Nat) (x : (List dVersion) × Int) : runK TT E21 n ann (tabC C21) 1 21 (argsL [(false, .sl tVersion), (false, .int .u64)] x) [] (readL [(false, .sl tVersion), (false, .int .i64)]) = f21.g n x := by
  have h : runK TT E21 n ann (tabC C21) 1 21 (argsL [(false, .sl tVersion), (false, .int .u64)] x) [] (readL [(false, .sl tVersion), (false, .int .i64)]) = f21.q n x := by kernel_rfl
  rw [h]
  simp only [f21.q, f21.g, f21.l1]
theorem f21.codes : CodesOk Try.prog E21 ann (tabC C21) := tabC_ok (by intro p hp; simp only [C21, List.mem_cons, List.not_mem_nil, or_false] at hp; rcases hp with rfl <;> first | exact Try.func21) (by kernel_rfl)
theorem f21.ok (h : ∀ X Y, F21 X = some Y → ∃ n, f21.g n X = some Y) (e26 : ConOk Try.prog 26 con26) : ConOk Try.prog 21 (mkCon [(false, .sl tVersion), (false, .int .u64)] [(false, .sl tVersion), (false, .int .i64)] false F21) :=
  mkCon_ok mixed TT_ok (envC_ok e26 env0_ok) f21.codes (fun h => by cases h) fun X Y hF => (h X Y hF).imp fun n hn => (f21.eq n X).trans hn
def con21 : Con := mkCon [(false, .sl tVersion), (false, .int .u64)] [(false, .sl tVersion), (false, .int .i64)] false F21
/-! ### vellum/vellumref08.SameChain -/
def E22 : FuncId → Option Con := (envC 45 con45 env0)
noncomputable def C22 : List (FuncId × Func) := [(22, Try.f22), (19, Try.f19)]
def f22.h1 (x : (List dVersion) × (List dVersion)) (y1 : Int) : List AV × List Ob := ([.val false [.sc (.sl tVersion) x.1], .val false [.sc (.sl tVersion) x.2], .undef, .undef, .undef, .val false [.sc (.int .i64) y1]] ++ List.replicate 49 .undef, [])
def f22.L1 (n : Nat) (x : (List dVersion) × (List dVersion)) (m : Nat) (y1 : Int) : Option (Bool) :=
  loopN (ann 22 4).keep 0 (fun fr H k => execK TT 0 E22 (inlD TT E22 n ann (tabC C22) 2) n (ann 22) (subC [1, 1, 0, 1, 0, 0] (bodyOf Try.f22)) fr H k) m (f22.h1 x y1).1 (f22.h1 x y1).2 (kont TT 0 E22 (inlD TT E22 n ann (tabC C22) 2) n (ann 22) [1, 1, 0, 1, 0] (bodyOf Try.f22) (endK TT Try.f22 (readL [(false, .bool)])))
def f22.s1 (n : Nat) (x : (List dVersion) × (List dVersion)) (S1 : Int → Option (Bool)) (y1 : Int) : Option (Bool) :=
  bif decide (y1 < (x.1.length : Int)) then
    (bif decide (0 ≤ y1) && decide (y1 < (x.1.length : Int)) then
      (bif decide (0 ≤ y1) && decide (y1 < (x.2.length : Int)) then
        (bif (x.1.getD y1.toNat tVersion.dflt).1 != (x.2.getD y1.toNat tVersion.dflt).1 then
          (some false)
        else
          (bif decide (0 ≤ y1) && decide (y1 < (x.1.length : Int)) then
            (bif decide (0 ≤ y1) && decide (y1 < (x.2.length : Int)) then
              (bif !((x.1.getD y1.toNat tVersion.dflt).2.1 == (x.2.getD y1.toNat tVersion.dflt).2.1) then
                (some false)
              else
                (bif decide (0 ≤ y1) && decide (y1 < (x.1.length : Int)) then
                  (bif decide (0 ≤ y1) && decide (y1 < (x.2.length : Int)) then
                    ((F45 ((x.1.getD y1.toNat tVersion.dflt).2.2, (x.2.getD y1.toNat tVersion.dflt).2.2)).bind fun r2 =>
                      bif !r2 then
                        (some false)
                      else
                        (S1 (IntKind.wrap .i64 (y1 + (1 : Int)))))
                  else
                    (none))
                else
                  (none)))
            else
              (none))
          else
            (none)))
      else
        (none))
    else
      (none))
  else
    (some true)
set_option maxRecDepth 100000 in
theorem f22.l1 (n : Nat) (x : (List dVersion) × (List dVersion)) (m : Nat) : ∀ (y1 : Int), f22.L1 n x m y1 = iter (f22.s1 n x) m y1 := by
  exact loop_rec (fun y => (f22.h1 x y).1) (fun y => (f22.h1 x y).2) (f22.s1 n x) (fun m y => by kernel_rfl) m
def f22.g (n : Nat) (x : (List dVersion) × (List dVersion)) : Option (Bool) :=
  bif (x.1.length : Int) != (x.2.length : Int) then
    (some false)
  else
    (iter (f22.s1 n x) n (0 : Int))
def f22.q (n : Nat) (x : (List dVersion) × (List dVersion)) : Option (Bool) :=
  bif (x.1.length : Int) != (x.2.length : Int) then
    (some false)
  else
    (f22.L1 n x n (0 : Int))
set_option maxRecDepth 100000 in
theorem f22.eq (n : Nat) (x : (List dVersion) × (List dVersion)) : runK TT E22 n ann (tabC C22) 2 22 (argsL [(false, .sl tVersion), (false, .sl tVersion)] x) [] (readL [(false, .bool)]) = f22.g n x := by
  have h : runK TT E22 n ann (tabC C22) 2 22 (argsL [(false, .sl tVersion), (false, .sl tVersion)] x) [] (readL [(false, .bool)]) = f22.q n x := by kernel_rfl
  rw [h]
  simp only [f22.q, f22.g, f22.l1]
theorem f22.codes : CodesOk Try.prog E22 ann (tabC C22) := tabC_ok (by intro p hp; simp only [C22, List.mem_cons, List.not_mem_nil, or_false] at hp; rcases hp with rfl | rfl <;> first | exact Try.func22 | exact Try.func19) (by kernel_rfl)
theorem f22.ok (h : ∀ X Y, F22 X = some Y → ∃ n, f22.g n X = some Y) (e45 : ConOk Try.prog 45 con45) : ConOk Try.prog 22 (mkCon [(false, .sl tVersion), (false, .sl tVersion)] [(false, .bool)] true F22) :=
  mkCon_ok mixed TT_ok (envC_ok e45 env0_ok) f22.codes (fun _ => List.all_eq_true.1 rfl) fun X Y hF => (h X Y hF).imp fun n hn => (f22.eq n X).trans hn
def con22 : Con := mkCon [(false, .sl tVersion), (false, .sl tVersion)] [(false, .bool)] true F22
/-! ### vellum/chain.Check -/
def E23 : FuncId → Option Con := env0
noncomputable def C23 : List (FuncId × Func) := [(23, Try.f23), (47, Try.f47)]
def f23.h1 (x : (List dVersion)) (y1 : Int) : List AV × List Ob := ([.val false [.sc (.sl tVersion) x], .undef, .undef, .undef, .undef, .val false [.sc (.sl tVersion) x], .val false [.sc (.int .i64) (x.length : Int)], .val false [.sc (.int .i64) y1]] ++ List.replicate 23 .undef, [])
def f23.L1 (n : Nat) (x : (List dVersion)) (m : Nat) (y1 : Int) : Option (Int) :=
  loopN (ann 23 2).keep 0 (fun fr H k => execK TT 0 E23 (inlD TT E23 n ann (tabC C23) 2) n (ann 23) (subC [1, 0, 1, 0, 0] (bodyOf Try.f23)) fr H k) m (f23.h1 x y1).1 (f23.h1 x y1).2 (kont TT 0 E23 (inlD TT E23 n ann (tabC C23) 2) n (ann 23) [1, 0, 1, 0] (bodyOf Try.f23) (endK TT Try.f23 (readL [(false, .int .i64)])))
def f23.s1 (n : Nat) (x : (List dVersion)) (S1 : Int → Option (Int)) (y1 : Int) : Option (Int) :=
  bif decide (y1 < (x.length : Int)) then
    (bif decide (0 ≤ y1) && decide (y1 < (x.length : Int)) then
      (bif !(bif (bif (decide ((x.getD y1.toNat tVersion.dflt).1 ≥ (1 : Int))) then (decide ((x.getD y1.toNat tVersion.dflt).1 ≤ (4611686018427387904 : Int))) else false) then (bif (!(x.getD y1.toNat tVersion.dflt).2.1) then true else (((x.getD y1.toNat tVersion.dflt).2.2.length : Int) == (0 : Int))) else false) then
        (some (80 : Int))
      else
        (bif decide (y1 > (0 : Int)) then
          (bif decide (0 ≤ IntKind.wrap .i64 (y1 - (1 : Int))) && decide (IntKind.wrap .i64 (y1 - (1 : Int)) < (x.length : Int)) then
            (bif decide ((x.getD y1.toNat tVersion.dflt).1 ≥ (x.getD ((IntKind.wrap .i64 (y1 - (1 : Int))).toNat) tVersion.dflt).1) then
              (some (80 : Int))
            else
              (S1 (IntKind.wrap .i64 (y1 + (1 : Int)))))
          else
            (none))
        else
          (S1 (IntKind.wrap .i64 (y1 + (1 : Int))))))
    else
      (none))
  else
    (some (0 : Int))
set_option maxRecDepth 100000 in
theorem f23.l1 (n : Nat) (x : (List dVersion)) (m : Nat) : ∀ (y1 : Int), f23.L1 n x m y1 = iter (f23.s1 n x) m y1 := by
  exact loop_rec (fun y => (f23.h1 x y).1) (fun y => (f23.h1 x y).2) (f23.s1 n x) (fun m y => by kernel_rfl) m
def f23.g (n : Nat) (x : (List dVersion)) : Option (Int) :=
  iter (f23.s1 n x) n (0 : Int)
def f23.q (n : Nat) (x : (List dVersion)) : Option (Int) :=
  f23.L1 n x n (0 : Int)
set_option maxRecDepth 100000 in
theorem f23.eq (n : Nat) (x : (List dVersion)) : runK TT E23 n ann (tabC C23) 2 23 (argsL [(false, .sl tVersion)] x) [] (readL [(false, .int .i64)]) = f23.g n x := by
  have h : runK TT E23 n ann (tabC C23) 2 23 (argsL [(false, .sl tVersion)] x) [] (readL [(false, .int .i64)]) = f23.q n x := by kernel_rfl
  rw [h]
  simp only [f23.q, f23.g, f23.l1]
theorem f23.codes : CodesOk Try.prog E23 ann (tabC C23) := tabC_ok (by intro p hp; simp only [C23, List.mem_cons, List.not_mem_nil, or_false] at hp; rcases hp with rfl | rfl <;> first | exact Try.func23 | exact Try.func47) (by kernel_rfl)
theorem f23.ok (h : ∀ X Y, F23 X = some Y → ∃ n, f23.g n X = some Y)  : ConOk Try.prog 23 (mkCon [(false, .sl tVersion)] [(false, .int .i64)] true F23) :=
  mkCon_ok mixed TT_ok env0_ok f23.codes (fun _ => List.all_eq_true.1 rfl) fun X Y hF => (h X Y hF).imp fun n hn => (f23.eq n X).trans hn
def con23 : Con := mkCon [(false, .sl tVersion)] [(false, .int .i64)] true F23
/-! ### vellum/vellumref08.Check -/
def E24 : FuncId → Option Con := (envC 12 con12 env0)
noncomputable def C24 : List (FuncId × Func) := [(24, Try.f24)]
def f24.g (n : Nat) (x : (List dVersion)) : Option (Int) :=
  (F12 x).bind fun r1 =>
    bif !r1 then
      (some (80 : Int))
    else
      (some (0 : Int))
set_option maxRecDepth 100000 in
theorem f24.eq (n : Nat) (x : (List dVersion)) : runK TT E24 n ann (tabC C24) 1 24 (argsL [(false, .sl tVersion)] x) [] (readL [(false, .int .i64)]) = f24.g n x := by
  kernel_rfl
theorem f24.codes : CodesOk Try.prog E24 ann (tabC C24) := tabC_ok (by intro p hp; simp only [C24, List.mem_cons, List.not_mem_nil, or_false] at hp; rcases hp with rfl <;> first | exact Try.func24) (by kernel_rfl)
theorem f24.ok (h : ∀ X Y, F24 X = some Y → ∃ n, f24.g n X = some Y) (e12 : ConOk Try.prog 12 con12) : ConOk Try.prog 24 (mkCon [(false, .sl tVersion)] [(false, .int .i64)] true F24) :=
  mkCon_ok mixed TT_ok (envC_ok e12 env0_ok) f24.codes (fun _ => List.all_eq_true.1 rfl) fun X Y hF => (h X Y hF).imp fun n hn => (f24.eq n X).trans hn
def con24 : Con := mkCon [(false, .sl tVersion)] [(false, .int .i64)] true F24
/-! ### vellum/vellumref08.Life -/
def E25 : FuncId → Option Con := env0
noncomputable def C25 : List (FuncId × Func) := [(25, Try.f25)]
def f25.g (n : Nat) (x : (List dVersion) × Int) : Option (Int × Int × Int) :=
  bif bif (decide (x.2 < (0 : Int))) then true else (decide (x.2 ≥ (x.1.length : Int))) then
    (some ((0 : Int), ((0 : Int), (5 : Int))))
  else
    (bif x.2 == (0 : Int) then
      (bif decide (0 ≤ (0 : Int)) && decide ((0 : Int) < (x.1.length : Int)) then
        (some ((x.1.getD 0 tVersion.dflt).1, ((0 : Int), (0 : Int))))
      else
        (none))
    else
      (bif decide (0 ≤ x.2) && decide (x.2 < (x.1.length : Int)) then
        (bif decide (0 ≤ IntKind.wrap .i64 (x.2 - (1 : Int))) && decide (IntKind.wrap .i64 (x.2 - (1 : Int)) < (x.1.length : Int)) then
          (some ((x.1.getD x.2.toNat tVersion.dflt).1, ((x.1.getD ((IntKind.wrap .i64 (x.2 - (1 : Int))).toNat) tVersion.dflt).1, (0 : Int))))
        else
          (none))
      else
        (none)))
set_option maxRecDepth 100000 in
theorem f25.eq (n : Nat) (x : (List dVersion) × Int) : runK TT E25 n ann (tabC C25) 1 25 (argsL [(false, .sl tVersion), (false, .int .i64)] x) [] (readL [(false, .int .u64), (false, .int .u64), (false, .int .i64)]) = f25.g n x := by
  kernel_rfl
theorem f25.codes : CodesOk Try.prog E25 ann (tabC C25) := tabC_ok (by intro p hp; simp only [C25, List.mem_cons, List.not_mem_nil, or_false] at hp; rcases hp with rfl <;> first | exact Try.func25) (by kernel_rfl)
theorem f25.ok (h : ∀ X Y, F25 X = some Y → ∃ n, f25.g n X = some Y)  : ConOk Try.prog 25 (mkCon [(false, .sl tVersion), (false, .int .i64)] [(false, .int .u64), (false, .int .u64), (false, .int .i64)] true F25) :=
  mkCon_ok mixed TT_ok env0_ok f25.codes (fun _ => List.all_eq_true.1 rfl) fun X Y hF => (h X Y hF).imp fun n hn => (f25.eq n X).trans hn
def con25 : Con := mkCon [(false, .sl tVersion), (false, .int .i64)] [(false, .int .u64), (false, .int .u64), (false, .int .i64)] true F25
/-! ### vellum/chain.Changed -/
def E27 : FuncId → Option Con := (envC 48 con48 env0)
noncomputable def C27 : List (FuncId × Func) := [(27, Try.f27)]
def f27.g (n : Nat) (x : (List dVersion) × Int × Int) : Option (Bool) :=
  (F48a x).bind fun r1 =>
    some r1
set_option maxRecDepth 100000 in
theorem f27.eq (n : Nat) (x : (List dVersion) × Int × Int) : runK TT E27 n ann (tabC C27) 1 27 (argsL [(false, .sl tVersion), (false, .int .u64), (false, .int .u64)] x) [] (readL [(false, .bool)]) = f27.g n x := by
  kernel_rfl
theorem f27.codes : CodesOk Try.prog E27 ann (tabC C27) := tabC_ok (by intro p hp; simp only [C27, List.mem_cons, List.not_mem_nil, or_false] at hp; rcases hp with rfl <;> first | exact Try.func27) (by kernel_rfl)
theorem f27.ok (h : ∀ X Y, F27 X = some Y → ∃ n, f27.g n X = some Y) (e48 : ConOk Try.prog 48 con48) : ConOk Try.prog 27 (mkCon [(false, .sl tVersion), (false, .int .u64), (false, .int .u64)] [(false, .bool)] true F27) :=
  mkCon_ok mixed TT_ok (envC_ok e48 env0_ok) f27.codes (fun _ => List.all_eq_true.1 rfl) fun X Y hF => (h X Y hF).imp fun n hn => (f27.eq n X).trans hn
def con27 : Con := mkCon [(false, .sl tVersion), (false, .int .u64), (false, .int .u64)] [(false, .bool)] true F27
/-! ### vellum/vellumref08.Changed -/
def E28 : FuncId → Option Con := env0
noncomputable def C28 : List (FuncId × Func) := [(28, Try.f28)]
def f28.h1 (x : (List dVersion) × Int × Int) (y1 : Int) : List AV × List Ob := ([.val false [.sc (.sl tVersion) x.1], .val false [.sc (.int .u64) x.2.1], .val false [.sc (.int .u64) x.2.2], .undef, .undef, .undef, .undef, .val false [.sc (.int .i64) y1]] ++ List.replicate 22 .undef, [])
def f28.L1 (n : Nat) (x : (List dVersion) × Int × Int) (m : Nat) (y1 : Int) : Option (Bool) :=
  loopN (ann 28 2).keep 0 (fun fr H k => execK TT 0 E28 (inlD TT E28 n ann (tabC C28) 1) n (ann 28) (subC [1, 0, 1, 0, 0] (bodyOf Try.f28)) fr H k) m (f28.h1 x y1).1 (f28.h1 x y1).2 (kont TT 0 E28 (inlD TT E28 n ann (tabC C28) 1) n (ann 28) [1, 0, 1, 0] (bodyOf Try.f28) (endK TT Try.f28 (readL [(false, .bool)])))
def f28.s1 (n : Nat) (x : (List dVersion) × Int × Int) (S1 : Int → Option (Bool)) (y1 : Int) : Option (Bool) :=
  bif decide (y1 < (x.1.length : Int)) then
    (bif decide (0 ≤ y1) && decide (y1 < (x.1.length : Int)) then
      (bif decide ((x.1.getD y1.toNat tVersion.dflt).1 > x.2.1) then
        (bif decide (0 ≤ y1) && decide (y1 < (x.1.length : Int)) then
          (bif decide ((x.1.getD y1.toNat tVersion.dflt).1 ≤ x.2.2) then
            (some true)
          else
            (S1 (IntKind.wrap .i64 (y1 + (1 : Int)))))
        else
          (none))
      else
        (S1 (IntKind.wrap .i64 (y1 + (1 : Int)))))
    else
      (none))
  else
    (some false)
set_option maxRecDepth 100000 in
theorem f28.l1 (n : Nat) (x : (List dVersion) × Int × Int) (m : Nat) : ∀ (y1 : Int), f28.L1 n x m y1 = iter (f28.s1 n x) m y1 := by
  exact loop_rec (fun y => (f28.h1 x y).1) (fun y => (f28.h1 x y).2) (f28.s1 n x) (fun m y => by kernel_rfl) m
def f28.g (n : Nat) (x : (List dVersion) × Int × Int) : Option (Bool) :=
  iter (f28.s1 n x) n (0 : Int)
def f28.q (n : Nat) (x : (List dVersion) × Int × Int) : Option (Bool) :=
  f28.L1 n x n (0 : Int)
set_option maxRecDepth 100000 in
theorem f28.eq (n : Nat) (x : (List dVersion) × Int × Int) : runK TT E28 n ann (tabC C28) 1 28 (argsL [(false, .sl tVersion), (false, .int .u64), (false, .int .u64)] x) [] (readL [(false, .bool)]) = f28.g n x := by
  have h : runK TT E28 n ann (tabC C28) 1 28 (argsL [(false, .sl tVersion), (false, .int .u64), (false, .int .u64)] x) [] (readL [(false, .bool)]) = f28.q n x := by kernel_rfl
  rw [h]
  simp only [f28.q, f28.g, f28.l1]
theorem f28.codes : CodesOk Try.prog E28 ann (tabC C28) := tabC_ok (by intro p hp; simp only [C28, List.mem_cons, List.not_mem_nil, or_false] at hp; rcases hp with rfl <;> first | exact Try.func28) (by kernel_rfl)
theorem f28.ok (h : ∀ X Y, F28 X = some Y → ∃ n, f28.g n X = some Y)  : ConOk Try.prog 28 (mkCon [(false, .sl tVersion), (false, .int .u64), (false, .int .u64)] [(false, .bool)] true F28) :=
  mkCon_ok mixed TT_ok env0_ok f28.codes (fun _ => List.all_eq_true.1 rfl) fun X Y hF => (h X Y hF).imp fun n hn => (f28.eq n X).trans hn
def con28 : Con := mkCon [(false, .sl tVersion), (false, .int .u64), (false, .int .u64)] [(false, .bool)] true F28
/-! ### vellum/chain.Install -/
def E29 : FuncId → Option Con := (envC 48 con48 (envC 44 con44 (envC 23 con23 env0)))
noncomputable def C29 : List (FuncId × Func) := [(29, Try.f29), (46, Try.f46), (47, Try.f47)]
def f29.h1 (x : (List dVersion) × dVersion) (r1 : Int) (r2 : Bool) (r3 : (List dValue)) (y4 : Nat × Int × (List dVersion)) : List AV × List Ob := ([.undef, .undef, .undef, .undef, .undef, .undef, .val false [.own 4 y4.1], .undef, .undef, .undef, .undef, .undef, .undef, .undef, .undef, .undef, .undef, .undef, .undef, .undef, .undef, .undef, .undef, .undef, .undef, .val false [.sc (.sl tVersion) x.1], .val false [.sc (.int .i64) (x.1.length : Int)], .val false [.sc (.int .i64) y4.2.1]] ++ List.replicate 10 .undef, [.box [.sc (.int .u64) x.2.1, .sc .bool x.2.2.1, .sc (.sl tValue) x.2.2.2], .box [.sc (.int .u64) x.2.1, .sc .bool x.2.2.1, .sc (.sl tValue) x.2.2.2], .box [.sc (.int .u64) x.2.1, .sc .bool x.2.2.1, .sc (.sl tValue) r3], .box [.sc (.int .u64) x.2.1, .sc .bool x.2.2.1, .sc (.sl tValue) r3], .arr 31 tVersion y4.2.2])
def f29.L1 (n : Nat) (x : (List dVersion) × dVersion) (r1 : Int) (r2 : Bool) (r3 : (List dValue)) (m : Nat) (y4 : Nat × Int × (List dVersion)) : Option ((List dVersion) × Int) :=
  loopN (ann 29 7).keep 5 (fun fr H k => execK TT 0 E29 (inlD TT E29 n ann (tabC C29) 3) n (ann 29) (subC [1, 1, 1, 0, 1, 0, 0] (bodyOf Try.f29)) fr H k) m (f29.h1 x r1 r2 r3 y4).1 (f29.h1 x r1 r2 r3 y4).2 (kont TT 0 E29 (inlD TT E29 n ann (tabC C29) 3) n (ann 29) [1, 1, 1, 0, 1, 0] (bodyOf Try.f29) (endK TT Try.f29 (readL [(false, .sl tVersion), (false, .int .i64)])))
def f29.s1 (n : Nat) (x : (List dVersion) × dVersion) (r1 : Int) (r2 : Bool) (r3 : (List dValue)) (S4 : (Nat × Int × (List dVersion)) → Option ((List dVersion) × Int)) (y4 : Nat × Int × (List dVersion)) : Option ((List dVersion) × Int) :=
  bif decide (y4.2.1 < (x.1.length : Int)) then
    (bif decide (0 ≤ y4.2.1) && decide (y4.2.1 < (x.1.length : Int)) then
      ((F44 (x.1.getD y4.2.1.toNat tVersion.dflt).2.2).bind fun r5 =>
        bif decide ((y4.1 + 1) * 40 ≤ boundN) then
          (S4 (y4.1 + 1, (IntKind.wrap .i64 (y4.2.1 + (1 : Int)), List.take y4.1 y4.2.2 ++ ([((x.1.getD y4.2.1.toNat tVersion.dflt).1, ((x.1.getD y4.2.1.toNat tVersion.dflt).2.1, r5))]))))
        else
          (none))
    else
      (none))
  else
    (some (List.take y4.1 y4.2.2, (0 : Int)))
set_option maxRecDepth 100000 in
theorem f29.l1 (n : Nat) (x : (List dVersion) × dVersion) (r1 : Int) (r2 : Bool) (r3 : (List dValue)) (m : Nat) : ∀ (y4 : Nat × Int × (List dVersion)), f29.L1 n x r1 r2 r3 m y4 = iter (f29.s1 n x r1 r2 r3) m y4 := by
  exact loop_rec (fun y => (f29.h1 x r1 r2 r3 y).1) (fun y => (f29.h1 x r1 r2 r3 y).2) (f29.s1 n x r1 r2 r3) (fun m y => by kernel_rfl) m
def f29.g (n : Nat) (x : (List dVersion) × dVersion) : Option ((List dVersion) × Int) :=
  (F23 x.1).bind fun r1 =>
    bif r1 != (0 : Int) then
      (some ([], (80 : Int)))
    else
      (bif !(bif (bif (decide (x.2.1 ≥ (1 : Int))) then (decide (x.2.1 ≤ (4611686018427387904 : Int))) else false) then (bif (!x.2.2.1) then true else ((x.2.2.2.length : Int) == (0 : Int))) else false) then
        (some ([], (80 : Int)))
      else
        ((F48b x).bind fun r2 =>
          bif r2 then
            (some ([], (81 : Int)))
          else
            ((F44 x.2.2.2).bind fun r3 =>
              iter (f29.s1 n x r1 r2 r3) n (1, ((0 : Int), [(x.2.1, (x.2.2.1, r3))])))))
def f29.q (n : Nat) (x : (List dVersion) × dVersion) : Option ((List dVersion) × Int) :=
  (F23 x.1).bind fun r1 =>
    bif r1 != (0 : Int) then
      (some ([], (80 : Int)))
    else
      (bif !(bif (bif (decide (x.2.1 ≥ (1 : Int))) then (decide (x.2.1 ≤ (4611686018427387904 : Int))) else false) then (bif (!x.2.2.1) then true else ((x.2.2.2.length : Int) == (0 : Int))) else false) then
        (some ([], (80 : Int)))
      else
        ((F48b x).bind fun r2 =>
          bif r2 then
            (some ([], (81 : Int)))
          else
            ((F44 x.2.2.2).bind fun r3 =>
              f29.L1 n x r1 r2 r3 n (1, ((0 : Int), [(x.2.1, (x.2.2.1, r3))])))))
set_option maxRecDepth 100000 in
theorem f29.eq (n : Nat) (x : (List dVersion) × dVersion) : runK TT E29 n ann (tabC C29) 3 29 (argsL [(false, .sl tVersion), (true, tVersion)] x) [] (readL [(false, .sl tVersion), (false, .int .i64)]) = f29.g n x := by
  have h : runK TT E29 n ann (tabC C29) 3 29 (argsL [(false, .sl tVersion), (true, tVersion)] x) [] (readL [(false, .sl tVersion), (false, .int .i64)]) = f29.q n x := by kernel_rfl
  rw [h]
  simp only [f29.q, f29.g, f29.l1]
theorem f29.codes : CodesOk Try.prog E29 ann (tabC C29) := tabC_ok (by intro p hp; simp only [C29, List.mem_cons, List.not_mem_nil, or_false] at hp; rcases hp with rfl | rfl | rfl <;> first | exact Try.func29 | exact Try.func46 | exact Try.func47) (by kernel_rfl)
theorem f29.ok (h : ∀ X Y, F29 X = some Y → ∃ n, f29.g n X = some Y) (e23 : ConOk Try.prog 23 con23) (e44 : ConOk Try.prog 44 con44) (e48 : ConOk Try.prog 48 con48) : ConOk Try.prog 29 (mkCon [(false, .sl tVersion), (true, tVersion)] [(false, .sl tVersion), (false, .int .i64)] false F29) :=
  mkCon_ok mixed TT_ok (envC_ok e48 (envC_ok e44 (envC_ok e23 env0_ok))) f29.codes (fun h => by cases h) fun X Y hF => (h X Y hF).imp fun n hn => (f29.eq n X).trans hn
def con29 : Con := mkCon [(false, .sl tVersion), (true, tVersion)] [(false, .sl tVersion), (false, .int .i64)] false F29
/-! ### vellum/vellumref08.Install -/
def E30 : FuncId → Option Con := (envC 12 con12 env0)
noncomputable def C30 : List (FuncId × Func) := [(30, Try.f30)]
def f30.g (n : Nat) (x : (List dVersion) × dVersion) : Option ((List dVersion) × Int) :=
  bif decide (1 * 40 ≤ boundN) then
    ((F12 x.1).bind fun r1 =>
      bif !r1 then
        (some ([], (80 : Int)))
      else
        ((F12 (List.take 1 ([x.2]))).bind fun r2 =>
          bif !r2 then
            (some ([], (80 : Int)))
          else
            (bif decide ((x.1.length : Int) > (0 : Int)) then
              (bif decide (0 ≤ (0 : Int)) && decide ((0 : Int) < (x.1.length : Int)) then
                (bif decide ((x.1.getD 0 tVersion.dflt).1 ≥ x.2.1) then
                  (some ([], (81 : Int)))
                else
                  (bif decide ((1 + x.1.length) * 40 ≤ boundN) then
                    (some (List.take (1 + x.1.length) (List.take 1 ([x.2]) ++ x.1), (0 : Int)))
                  else
                    (none)))
              else
                (none))
            else
              (bif decide ((1 + x.1.length) * 40 ≤ boundN) then
                (some (List.take (1 + x.1.length) (List.take 1 ([x.2]) ++ x.1), (0 : Int)))
              else
                (none)))))
  else
    (none)
set_option maxRecDepth 100000 in
theorem f30.eq (n : Nat) (x : (List dVersion) × dVersion) : runK TT E30 n ann (tabC C30) 1 30 (argsL [(false, .sl tVersion), (true, tVersion)] x) [] (readL [(false, .sl tVersion), (false, .int .i64)]) = f30.g n x := by
  kernel_rfl
theorem f30.codes : CodesOk Try.prog E30 ann (tabC C30) := tabC_ok (by intro p hp; simp only [C30, List.mem_cons, List.not_mem_nil, or_false] at hp; rcases hp with rfl <;> first | exact Try.func30) (by kernel_rfl)
theorem f30.ok (h : ∀ X Y, F30 X = some Y → ∃ n, f30.g n X = some Y) (e12 : ConOk Try.prog 12 con12) : ConOk Try.prog 30 (mkCon [(false, .sl tVersion), (true, tVersion)] [(false, .sl tVersion), (false, .int .i64)] false F30) :=
  mkCon_ok mixed TT_ok (envC_ok e12 env0_ok) f30.codes (fun h => by cases h) fun X Y hF => (h X Y hF).imp fun n hn => (f30.eq n X).trans hn
def con30 : Con := mkCon [(false, .sl tVersion), (true, tVersion)] [(false, .sl tVersion), (false, .int .i64)] false F30
/-! ### vellum/chain.own -/
def E53 : FuncId → Option Con := (envC 44 con44 env0)
noncomputable def C53 : List (FuncId × Func) := [(53, Try.f53)]
def f53.h1 (x : dIntent) (y1 : Int × Nat × (List dWrite)) : List AV × List Ob := ([.undef, .undef, .val false [.ptr 1 0], .val false [.ptr 2 0], .undef, .undef, .undef, .undef, .undef, .undef, .val false [.sc (.sl tWrite) x.2], .val false [.sc (.int .i64) (x.2.length : Int)], .val false [.sc (.int .i64) y1.1]] ++ List.replicate 15 .undef, [.box [.sc (.int .i64) x.1, .sc (.sl tWrite) x.2], .box [.sc (.int .i64) (0 : Int), .nils], .box [.sc (.int .i64) x.1, .own 3 y1.2.1], .arr 56 tWrite y1.2.2])
def f53.L1 (n : Nat) (x : dIntent) (m : Nat) (y1 : Int × Nat × (List dWrite)) : Option ((Int × List dWrite × Unit) × Unit) :=
  loopN (ann 53 3).keep 4 (fun fr H k => execK TT 0 E53 (inlD TT E53 n ann (tabC C53) 1) n (ann 53) (subC [1, 1, 0, 1, 0, 0] (bodyOf Try.f53)) fr H k) m (f53.h1 x y1).1 (f53.h1 x y1).2 (kont TT 0 E53 (inlD TT E53 n ann (tabC C53) 1) n (ann 53) [1, 1, 0, 1, 0] (bodyOf Try.f53) (endK TT Try.f53 (readO [(true, [.dat (.int .i64), .own 56 tWrite])])))
def f53.s1 (n : Nat) (x : dIntent) (S1 : (Int × Nat × (List dWrite)) → Option ((Int × List dWrite × Unit) × Unit)) (y1 : Int × Nat × (List dWrite)) : Option ((Int × List dWrite × Unit) × Unit) :=
  bif decide (y1.1 < (x.2.length : Int)) then
    (bif decide (0 ≤ y1.1) && decide (y1.1 < (x.2.length : Int)) then
      ((F44 (x.2.getD y1.1.toNat tWrite.dflt).2.2).bind fun r2 =>
        bif decide ((y1.2.1 + 1) * 40 ≤ boundN) then
          (S1 (IntKind.wrap .i64 (y1.1 + (1 : Int)), (y1.2.1 + 1, List.take y1.2.1 y1.2.2 ++ ([((x.2.getD y1.1.toNat tWrite.dflt).1, ((x.2.getD y1.1.toNat tWrite.dflt).2.1, r2))]))))
        else
          (none))
    else
      (none))
  else
    (some ((x.1, (List.take y1.2.1 y1.2.2, ())), ()))
set_option maxRecDepth 100000 in
theorem f53.l1 (n : Nat) (x : dIntent) (m : Nat) : ∀ (y1 : Int × Nat × (List dWrite)), f53.L1 n x m y1 = iter (f53.s1 n x) m y1 := by
  exact loop_rec (fun y => (f53.h1 x y).1) (fun y => (f53.h1 x y).2) (f53.s1 n x) (fun m y => by kernel_rfl) m
def f53.g (n : Nat) (x : dIntent) : Option ((Int × List dWrite × Unit) × Unit) :=
  iter (f53.s1 n x) n ((0 : Int), (0, []))
def f53.q (n : Nat) (x : dIntent) : Option ((Int × List dWrite × Unit) × Unit) :=
  f53.L1 n x n ((0 : Int), (0, []))
set_option maxRecDepth 100000 in
theorem f53.eq (n : Nat) (x : dIntent) : runK TT E53 n ann (tabC C53) 1 53 (argsL [(true, tIntent)] x) [] (readO [(true, [.dat (.int .i64), .own 56 tWrite])]) = f53.g n x := by
  have h : runK TT E53 n ann (tabC C53) 1 53 (argsL [(true, tIntent)] x) [] (readO [(true, [.dat (.int .i64), .own 56 tWrite])]) = f53.q n x := by kernel_rfl
  rw [h]
  simp only [f53.q, f53.g, f53.l1]
theorem f53.codes : CodesOk Try.prog E53 ann (tabC C53) := tabC_ok (by intro p hp; simp only [C53, List.mem_cons, List.not_mem_nil, or_false] at hp; rcases hp with rfl <;> first | exact Try.func53) (by kernel_rfl)
theorem f53.ok (h : ∀ X Y, F53 X = some Y → ∃ n, f53.g n X = some Y) (e44 : ConOk Try.prog 44 con44) : ConOk Try.prog 53 (mkConO [(true, tIntent)] [(true, [.dat (.int .i64), .own 56 tWrite])] F53) :=
  mkConO_ok mixed TT_ok (envC_ok e44 env0_ok) f53.codes fun X Y hF => (h X Y hF).imp fun n hn => (f53.eq n X).trans hn
def con53 : Con := mkConO [(true, tIntent)] [(true, [.dat (.int .i64), .own 56 tWrite])] F53
/-! ### vellum/chain.below -/
def E54 : FuncId → Option Con := (envC 56 con56 env0)
noncomputable def C54 : List (FuncId × Func) := [(54, Try.f54)]
def f54.g (n : Nat) (x : dIntent × Int) : Option (Int) :=
  (F56a (x.1.2, x.2)).bind fun r1 =>
    bif decide (r1 < (0 : Int)) then
      (some (x.1.2.length : Int))
    else
      (some r1)
set_option maxRecDepth 100000 in
theorem f54.eq (n : Nat) (x : dIntent × Int) : runK TT E54 n ann (tabC C54) 1 54 (argsL [(true, tIntent), (false, .int .i64)] x) [] (readL [(false, .int .i64)]) = f54.g n x := by
  kernel_rfl
theorem f54.codes : CodesOk Try.prog E54 ann (tabC C54) := tabC_ok (by intro p hp; simp only [C54, List.mem_cons, List.not_mem_nil, or_false] at hp; rcases hp with rfl <;> first | exact Try.func54) (by kernel_rfl)
theorem f54.ok (h : ∀ X Y, F54 X = some Y → ∃ n, f54.g n X = some Y) (e56 : ConOk Try.prog 56 con56) : ConOk Try.prog 54 (mkCon [(true, tIntent), (false, .int .i64)] [(false, .int .i64)] true F54) :=
  mkCon_ok mixed TT_ok (envC_ok e56 env0_ok) f54.codes (fun _ => List.all_eq_true.1 rfl) fun X Y hF => (h X Y hF).imp fun n hn => (f54.eq n X).trans hn
def con54 : Con := mkCon [(true, tIntent), (false, .int .i64)] [(false, .int .i64)] true F54
/-! ### vellum/chain.Put -/
def E32 : FuncId → Option Con := (envC 53 con53 (envC 51 con51 (envC 44 con44 env0)))
noncomputable def C32 : List (FuncId × Func) := [(32, Try.f32)]
def f32.g (n : Nat) (x : dIntent × dWrite) : Option (dIntent × Int) :=
  (F51 (x.1.2, x.2)).bind fun r1 =>
    bif bif (bif (bif (decide (x.2.1 < (0 : Int))) then true else r1) then true else (bif x.2.2.1 then (decide ((x.2.2.2.length : Int) > (0 : Int))) else false)) then true else (decide (x.1.1 < (1 : Int))) then
      (some (((0 : Int), []), (1 : Int)))
    else
      ((F53 x.1).bind fun r2 =>
        (F44 x.2.2.2).bind fun r3 =>
          bif decide (((r2.1.2.1.length : Nat) : Int) > (0 : Int)) then
            (bif decide (0 ≤ IntKind.wrap .i64 (((r2.1.2.1.length : Nat) : Int) - (1 : Int))) && decide (IntKind.wrap .i64 (((r2.1.2.1.length : Nat) : Int) - (1 : Int)) < ((r2.1.2.1.length : Nat) : Int)) then
              (bif (r2.1.2.1.getD ((IntKind.wrap .i64 (((r2.1.2.1.length : Nat) : Int) - (1 : Int))).toNat) tWrite.dflt).1 == x.2.1 then
                (bif decide (0 ≤ IntKind.wrap .i64 (((r2.1.2.1.length : Nat) : Int) - (1 : Int))) && decide (IntKind.wrap .i64 (((r2.1.2.1.length : Nat) : Int) - (1 : Int)) < ((r2.1.2.1.length : Nat) : Int)) then
                  (some ((r2.1.1, List.take r2.1.2.1.length (List.set r2.1.2.1 ((IntKind.wrap .i64 (((r2.1.2.1.length : Nat) : Int) - (1 : Int))).toNat) (x.2.1, (x.2.2.1, r3)))), (0 : Int)))
                else
                  (none))
              else
                (bif decide ((r2.1.2.1.length + 1) * 40 ≤ boundN) then
                  (some ((r2.1.1, List.take (r2.1.2.1.length + 1) (List.take r2.1.2.1.length r2.1.2.1 ++ ([(x.2.1, (x.2.2.1, r3))]))), (0 : Int)))
                else
                  (none)))
            else
              (none))
          else
            (bif decide ((r2.1.2.1.length + 1) * 40 ≤ boundN) then
              (some ((r2.1.1, List.take (r2.1.2.1.length + 1) (List.take r2.1.2.1.length r2.1.2.1 ++ ([(x.2.1, (x.2.2.1, r3))]))), (0 : Int)))
            else
              (none)))
set_option maxRecDepth 100000 in
theorem f32.eq (n : Nat) (x : dIntent × dWrite) : runK TT E32 n ann (tabC C32) 1 32 (argsL [(true, tIntent), (true, tWrite)] x) [] (readL [(true, tIntent), (false, .int .i64)]) = f32.g n x := by
  kernel_rfl
theorem f32.codes : CodesOk Try.prog E32 ann (tabC C32) := tabC_ok (by intro p hp; simp only [C32, List.mem_cons, List.not_mem_nil, or_false] at hp; rcases hp with rfl <;> first | exact Try.func32) (by kernel_rfl)
theorem f32.ok (h : ∀ X Y, F32 X = some Y → ∃ n, f32.g n X = some Y) (e44 : ConOk Try.prog 44 con44) (e51 : ConOk Try.prog 51 con51) (e53 : ConOk Try.prog 53 con53) : ConOk Try.prog 32 (mkCon [(true, tIntent), (true, tWrite)] [(true, tIntent), (false, .int .i64)] false F32) :=
  mkCon_ok mixed TT_ok (envC_ok e53 (envC_ok e51 (envC_ok e44 env0_ok))) f32.codes (fun h => by cases h) fun X Y hF => (h X Y hF).imp fun n hn => (f32.eq n X).trans hn
def con32 : Con := mkCon [(true, tIntent), (true, tWrite)] [(true, tIntent), (false, .int .i64)] false F32
/-! ### vellum/vellumref08.Put -/
def E33 : FuncId → Option Con := env0
noncomputable def C33 : List (FuncId × Func) := [(33, Try.f33)]
def f33.h1 (x : dIntent × dWrite) (y1 : Int × Nat × (List dWrite)) : List AV × List Ob := ([.undef, .undef, .val false [.ptr 0 0], .val false [.ptr 1 0], .val false [.ptr 2 0], .undef, .val false [.ptr 3 0], .val false [.sc (.int .i64) y1.1]] ++ List.replicate 65 .undef, [.box [.sc (.int .i64) x.1.1, .sc (.sl tWrite) x.1.2], .box [.sc (.int .i64) x.2.1, .sc .bool x.2.2.1, .sc (.sl tValue) x.2.2.2], .box [.sc (.int .i64) (0 : Int), .nils], .box [.sc (.int .i64) x.1.1, .own 4 y1.2.1], .arr 56 tWrite y1.2.2])
def f33.L1 (n : Nat) (x : dIntent × dWrite) (m : Nat) (y1 : Int × Nat × (List dWrite)) : Option (dIntent × Int) :=
  loopN (ann 33 5).keep 5 (fun fr H k => execK TT 0 E33 (inlD TT E33 n ann (tabC C33) 1) n (ann 33) (subC [1, 1, 1, 0, 1, 0, 0] (bodyOf Try.f33)) fr H k) m (f33.h1 x y1).1 (f33.h1 x y1).2 (kont TT 0 E33 (inlD TT E33 n ann (tabC C33) 1) n (ann 33) [1, 1, 1, 0, 1, 0] (bodyOf Try.f33) (endK TT Try.f33 (readL [(true, tIntent), (false, .int .i64)])))
def f33.s1 (n : Nat) (x : dIntent × dWrite) (S1 : (Int × Nat × (List dWrite)) → Option (dIntent × Int)) (y1 : Int × Nat × (List dWrite)) : Option (dIntent × Int) :=
  bif decide (y1.1 < (x.1.2.length : Int)) then
    (bif decide (0 ≤ y1.1) && decide (y1.1 < (x.1.2.length : Int)) then
      (bif decide ((x.1.2.getD y1.1.toNat tWrite.dflt).1 > x.2.1) then
        (some (((0 : Int), []), (1 : Int)))
      else
        (bif decide (0 ≤ y1.1) && decide (y1.1 < (x.1.2.length : Int)) then
          (bif decide ((x.1.2.getD y1.1.toNat tWrite.dflt).1 < x.2.1) then
            (bif decide (0 ≤ y1.1) && decide (y1.1 < (x.1.2.length : Int)) then
              (bif decide ((y1.2.1 + 1) * 40 ≤ boundN) then
                (S1 (IntKind.wrap .i64 (y1.1 + (1 : Int)), (y1.2.1 + 1, List.take y1.2.1 y1.2.2 ++ ([x.1.2.getD y1.1.toNat tWrite.dflt]))))
              else
                (none))
            else
              (none))
          else
            (S1 (IntKind.wrap .i64 (y1.1 + (1 : Int)), y1.2)))
        else
          (none)))
    else
      (none))
  else
    (bif decide ((y1.2.1 + 1) * 40 ≤ boundN) then
      (some ((x.1.1, List.take (y1.2.1 + 1) (List.take y1.2.1 y1.2.2 ++ ([x.2]))), (0 : Int)))
    else
      (none))
set_option maxRecDepth 100000 in
theorem f33.l1 (n : Nat) (x : dIntent × dWrite) (m : Nat) : ∀ (y1 : Int × Nat × (List dWrite)), f33.L1 n x m y1 = iter (f33.s1 n x) m y1 := by
  exact loop_rec (fun y => (f33.h1 x y).1) (fun y => (f33.h1 x y).2) (f33.s1 n x) (fun m y => by kernel_rfl) m
def f33.g (n : Nat) (x : dIntent × dWrite) : Option (dIntent × Int) :=
  bif bif (bif (decide (x.2.1 < (0 : Int))) then true else (bif x.2.2.1 then (decide ((x.2.2.2.length : Int) > (0 : Int))) else false)) then true else (decide (x.1.1 < (1 : Int))) then
    (some (((0 : Int), []), (1 : Int)))
  else
    (iter (f33.s1 n x) n ((0 : Int), (0, [])))
def f33.q (n : Nat) (x : dIntent × dWrite) : Option (dIntent × Int) :=
  bif bif (bif (decide (x.2.1 < (0 : Int))) then true else (bif x.2.2.1 then (decide ((x.2.2.2.length : Int) > (0 : Int))) else false)) then true else (decide (x.1.1 < (1 : Int))) then
    (some (((0 : Int), []), (1 : Int)))
  else
    (f33.L1 n x n ((0 : Int), (0, [])))
set_option maxRecDepth 100000 in
theorem f33.eq (n : Nat) (x : dIntent × dWrite) : runK TT E33 n ann (tabC C33) 1 33 (argsL [(true, tIntent), (true, tWrite)] x) [] (readL [(true, tIntent), (false, .int .i64)]) = f33.g n x := by
  have h : runK TT E33 n ann (tabC C33) 1 33 (argsL [(true, tIntent), (true, tWrite)] x) [] (readL [(true, tIntent), (false, .int .i64)]) = f33.q n x := by kernel_rfl
  rw [h]
  simp only [f33.q, f33.g, f33.l1]
theorem f33.codes : CodesOk Try.prog E33 ann (tabC C33) := tabC_ok (by intro p hp; simp only [C33, List.mem_cons, List.not_mem_nil, or_false] at hp; rcases hp with rfl <;> first | exact Try.func33) (by kernel_rfl)
theorem f33.ok (h : ∀ X Y, F33 X = some Y → ∃ n, f33.g n X = some Y)  : ConOk Try.prog 33 (mkCon [(true, tIntent), (true, tWrite)] [(true, tIntent), (false, .int .i64)] false F33) :=
  mkCon_ok mixed TT_ok env0_ok f33.codes (fun h => by cases h) fun X Y hF => (h X Y hF).imp fun n hn => (f33.eq n X).trans hn
def con33 : Con := mkCon [(true, tIntent), (true, tWrite)] [(true, tIntent), (false, .int .i64)] false F33
/-! ### vellum/vellumref08.SameIntent -/
def E34 : FuncId → Option Con := (envC 45 con45 env0)
noncomputable def C34 : List (FuncId × Func) := [(34, Try.f34), (19, Try.f19)]
def f34.h1 (x : dIntent × dIntent) (y1 : Int) : List AV × List Ob := ([.undef, .undef, .val false [.ptr 0 0], .val false [.ptr 1 0], .undef, .val false [.sc (.int .i64) y1]] ++ List.replicate 53 .undef, [.box [.sc (.int .i64) x.1.1, .sc (.sl tWrite) x.1.2], .box [.sc (.int .i64) x.2.1, .sc (.sl tWrite) x.2.2]])
def f34.L1 (n : Nat) (x : dIntent × dIntent) (m : Nat) (y1 : Int) : Option (Bool) :=
  loopN (ann 34 4).keep 2 (fun fr H k => execK TT 0 E34 (inlD TT E34 n ann (tabC C34) 2) n (ann 34) (subC [1, 1, 0, 1, 0, 0] (bodyOf Try.f34)) fr H k) m (f34.h1 x y1).1 (f34.h1 x y1).2 (kont TT 0 E34 (inlD TT E34 n ann (tabC C34) 2) n (ann 34) [1, 1, 0, 1, 0] (bodyOf Try.f34) (endK TT Try.f34 (readL [(false, .bool)])))
def f34.s1 (n : Nat) (x : dIntent × dIntent) (S1 : Int → Option (Bool)) (y1 : Int) : Option (Bool) :=
  bif decide (y1 < (x.1.2.length : Int)) then
    (bif decide (0 ≤ y1) && decide (y1 < (x.1.2.length : Int)) then
      (bif decide (0 ≤ y1) && decide (y1 < (x.2.2.length : Int)) then
        (bif bif ((x.1.2.getD y1.toNat tWrite.dflt).1 != (x.2.2.getD y1.toNat tWrite.dflt).1) then true else (!((x.1.2.getD y1.toNat tWrite.dflt).2.1 == (x.2.2.getD y1.toNat tWrite.dflt).2.1)) then
          (some false)
        else
          ((F45 ((x.1.2.getD y1.toNat tWrite.dflt).2.2, (x.2.2.getD y1.toNat tWrite.dflt).2.2)).bind fun r2 =>
            bif !r2 then
              (some false)
            else
              (S1 (IntKind.wrap .i64 (y1 + (1 : Int))))))
      else
        (none))
    else
      (none))
  else
    (some true)
set_option maxRecDepth 100000 in
theorem f34.l1 (n : Nat) (x : dIntent × dIntent) (m : Nat) : ∀ (y1 : Int), f34.L1 n x m y1 = iter (f34.s1 n x) m y1 := by
  exact loop_rec (fun y => (f34.h1 x y).1) (fun y => (f34.h1 x y).2) (f34.s1 n x) (fun m y => by kernel_rfl) m
def f34.g (n : Nat) (x : dIntent × dIntent) : Option (Bool) :=
  bif bif (x.1.1 != x.2.1) then true else ((x.1.2.length : Int) != (x.2.2.length : Int)) then
    (some false)
  else
    (iter (f34.s1 n x) n (0 : Int))
def f34.q (n : Nat) (x : dIntent × dIntent) : Option (Bool) :=
  bif bif (x.1.1 != x.2.1) then true else ((x.1.2.length : Int) != (x.2.2.length : Int)) then
    (some false)
  else
    (f34.L1 n x n (0 : Int))
set_option maxRecDepth 100000 in
theorem f34.eq (n : Nat) (x : dIntent × dIntent) : runK TT E34 n ann (tabC C34) 2 34 (argsL [(true, tIntent), (true, tIntent)] x) [] (readL [(false, .bool)]) = f34.g n x := by
  have h : runK TT E34 n ann (tabC C34) 2 34 (argsL [(true, tIntent), (true, tIntent)] x) [] (readL [(false, .bool)]) = f34.q n x := by kernel_rfl
  rw [h]
  simp only [f34.q, f34.g, f34.l1]
theorem f34.codes : CodesOk Try.prog E34 ann (tabC C34) := tabC_ok (by intro p hp; simp only [C34, List.mem_cons, List.not_mem_nil, or_false] at hp; rcases hp with rfl | rfl <;> first | exact Try.func34 | exact Try.func19) (by kernel_rfl)
theorem f34.ok (h : ∀ X Y, F34 X = some Y → ∃ n, f34.g n X = some Y) (e45 : ConOk Try.prog 45 con45) : ConOk Try.prog 34 (mkCon [(true, tIntent), (true, tIntent)] [(false, .bool)] true F34) :=
  mkCon_ok mixed TT_ok (envC_ok e45 env0_ok) f34.codes (fun _ => List.all_eq_true.1 rfl) fun X Y hF => (h X Y hF).imp fun n hn => (f34.eq n X).trans hn
def con34 : Con := mkCon [(true, tIntent), (true, tIntent)] [(false, .bool)] true F34
/-! ### vellum/chain.Fold -/
def E35 : FuncId → Option Con := (envC 54 con54 (envC 53 con53 env0))
noncomputable def C35 : List (FuncId × Func) := [(35, Try.f35)]
def f35.g (n : Nat) (x : dIntent × Int) : Option (dIntent × Int) :=
  bif decide (x.2 < (1 : Int)) then
    (some (((0 : Int), []), (1 : Int)))
  else
    ((F53 x.1).bind fun r1 =>
      (F54 x).bind fun r2 =>
        bif r2 == ((r1.1.2.1.length : Nat) : Int) then
          (some ((r1.1.1, List.take r1.1.2.1.length r1.1.2.1), (0 : Int)))
        else
          (bif decide (0 ≤ IntKind.wrap .i64 (((r1.1.2.1.length : Nat) : Int) - (1 : Int))) && decide (IntKind.wrap .i64 (((r1.1.2.1.length : Nat) : Int) - (1 : Int)) < ((r1.1.2.1.length : Nat) : Int)) then
            (bif decide (r2 > (0 : Int)) then
              (bif decide (0 ≤ IntKind.wrap .i64 (r2 - (1 : Int))) && decide (IntKind.wrap .i64 (r2 - (1 : Int)) < ((r1.1.2.1.length : Nat) : Int)) then
                (bif (r1.1.2.1.getD ((IntKind.wrap .i64 (r2 - (1 : Int))).toNat) tWrite.dflt).1 == IntKind.wrap .i64 (x.2 - (1 : Int)) then
                  (bif decide (IntKind.wrap .i64 (r2 - (1 : Int)) = IntKind.wrap .i64 (r2 - (1 : Int))) then
                    (bif decide (0 ≤ IntKind.wrap .i64 (r2 - (1 : Int))) && decide (IntKind.wrap .i64 (r2 - (1 : Int)) ≤ ((r1.1.2.1.length : Nat) : Int)) then
                      (bif decide ((((IntKind.wrap .i64 (r2 - (1 : Int))).toNat) + 1) * 40 ≤ boundN) then
                        (some ((r1.1.1, List.take (((IntKind.wrap .i64 (r2 - (1 : Int))).toNat) + 1) (List.take ((IntKind.wrap .i64 (r2 - (1 : Int))).toNat) r1.1.2.1 ++ ([(IntKind.wrap .i64 (x.2 - (1 : Int)), (r1.1.2.1.getD ((IntKind.wrap .i64 (((r1.1.2.1.length : Nat) : Int) - (1 : Int))).toNat) tWrite.dflt).2)]))), (0 : Int)))
                      else
                        (none))
                    else
                      (none))
                  else
                    (none))
                else
                  (bif decide (r2 = r2) then
                    (bif decide (0 ≤ r2) && decide (r2 ≤ ((r1.1.2.1.length : Nat) : Int)) then
                      (bif decide ((r2.toNat + 1) * 40 ≤ boundN) then
                        (some ((r1.1.1, List.take (r2.toNat + 1) (List.take r2.toNat r1.1.2.1 ++ ([(IntKind.wrap .i64 (x.2 - (1 : Int)), (r1.1.2.1.getD ((IntKind.wrap .i64 (((r1.1.2.1.length : Nat) : Int) - (1 : Int))).toNat) tWrite.dflt).2)]))), (0 : Int)))
                      else
                        (none))
                    else
                      (none))
                  else
                    (none)))
              else
                (none))
            else
              (bif decide (r2 = r2) then
                (bif decide (0 ≤ r2) && decide (r2 ≤ ((r1.1.2.1.length : Nat) : Int)) then
                  (bif decide ((r2.toNat + 1) * 40 ≤ boundN) then
                    (some ((r1.1.1, List.take (r2.toNat + 1) (List.take r2.toNat r1.1.2.1 ++ ([(IntKind.wrap .i64 (x.2 - (1 : Int)), (r1.1.2.1.getD ((IntKind.wrap .i64 (((r1.1.2.1.length : Nat) : Int) - (1 : Int))).toNat) tWrite.dflt).2)]))), (0 : Int)))
                  else
                    (none))
                else
                  (none))
              else
                (none)))
          else
            (none)))
set_option maxRecDepth 100000 in
theorem f35.eq (n : Nat) (x : dIntent × Int) : runK TT E35 n ann (tabC C35) 1 35 (argsL [(true, tIntent), (false, .int .i64)] x) [] (readL [(true, tIntent), (false, .int .i64)]) = f35.g n x := by
  kernel_rfl
theorem f35.codes : CodesOk Try.prog E35 ann (tabC C35) := tabC_ok (by intro p hp; simp only [C35, List.mem_cons, List.not_mem_nil, or_false] at hp; rcases hp with rfl <;> first | exact Try.func35) (by kernel_rfl)
theorem f35.ok (h : ∀ X Y, F35 X = some Y → ∃ n, f35.g n X = some Y) (e53 : ConOk Try.prog 53 con53) (e54 : ConOk Try.prog 54 con54) : ConOk Try.prog 35 (mkCon [(true, tIntent), (false, .int .i64)] [(true, tIntent), (false, .int .i64)] false F35) :=
  mkCon_ok mixed TT_ok (envC_ok e54 (envC_ok e53 env0_ok)) f35.codes (fun h => by cases h) fun X Y hF => (h X Y hF).imp fun n hn => (f35.eq n X).trans hn
def con35 : Con := mkCon [(true, tIntent), (false, .int .i64)] [(true, tIntent), (false, .int .i64)] false F35
/-! ### vellum/vellumref08.Back -/
def E38 : FuncId → Option Con := env0
noncomputable def C38 : List (FuncId × Func) := [(38, Try.f38)]
def f38.h1 (x : dIntent × Int) (y1 : Int × Nat × (List dWrite)) : List AV × List Ob := ([.undef, .val false [.sc (.int .i64) x.2], .val false [.ptr 0 0], .undef, .val false [.ptr 1 0], .val false [.ptr 2 0], .val false [.sc (.int .i64) y1.1]] ++ List.replicate 34 .undef, [.box [.sc (.int .i64) x.1.1, .sc (.sl tWrite) x.1.2], .box [.sc (.int .i64) (0 : Int), .nils], .box [.sc (.int .i64) x.1.1, .own 3 y1.2.1], .arr 56 tWrite y1.2.2])
def f38.L1 (n : Nat) (x : dIntent × Int) (m : Nat) (y1 : Int × Nat × (List dWrite)) : Option ((Int × List dWrite × Unit) × Unit) :=
  loopN (ann 38 3).keep 4 (fun fr H k => execK TT 0 E38 (inlD TT E38 n ann (tabC C38) 1) n (ann 38) (subC [1, 1, 0, 1, 0, 0] (bodyOf Try.f38)) fr H k) m (f38.h1 x y1).1 (f38.h1 x y1).2 (kont TT 0 E38 (inlD TT E38 n ann (tabC C38) 1) n (ann 38) [1, 1, 0, 1, 0] (bodyOf Try.f38) (endK TT Try.f38 (readO [(true, [.dat (.int .i64), .own 56 tWrite])])))
def f38.s1 (n : Nat) (x : dIntent × Int) (S1 : (Int × Nat × (List dWrite)) → Option ((Int × List dWrite × Unit) × Unit)) (y1 : Int × Nat × (List dWrite)) : Option ((Int × List dWrite × Unit) × Unit) :=
  bif decide (y1.1 < (x.1.2.length : Int)) then
    (bif decide (0 ≤ y1.1) && decide (y1.1 < (x.1.2.length : Int)) then
      (bif decide ((x.1.2.getD y1.1.toNat tWrite.dflt).1 < x.2) then
        (bif decide (0 ≤ y1.1) && decide (y1.1 < (x.1.2.length : Int)) then
          (bif decide ((y1.2.1 + 1) * 40 ≤ boundN) then
            (S1 (IntKind.wrap .i64 (y1.1 + (1 : Int)), (y1.2.1 + 1, List.take y1.2.1 y1.2.2 ++ ([x.1.2.getD y1.1.toNat tWrite.dflt]))))
          else
            (none))
        else
          (none))
      else
        (S1 (IntKind.wrap .i64 (y1.1 + (1 : Int)), y1.2)))
    else
      (none))
  else
    (bif ((y1.2.1 : Nat) : Int) == (0 : Int) then
      (some (((0 : Int), ([], ())), ()))
    else
      (some ((x.1.1, (List.take y1.2.1 y1.2.2, ())), ())))
set_option maxRecDepth 100000 in
theorem f38.l1 (n : Nat) (x : dIntent × Int) (m : Nat) : ∀ (y1 : Int × Nat × (List dWrite)), f38.L1 n x m y1 = iter (f38.s1 n x) m y1 := by
  exact loop_rec (fun y => (f38.h1 x y).1) (fun y => (f38.h1 x y).2) (f38.s1 n x) (fun m y => by kernel_rfl) m
def f38.g (n : Nat) (x : dIntent × Int) : Option ((Int × List dWrite × Unit) × Unit) :=
  iter (f38.s1 n x) n ((0 : Int), (0, []))
def f38.q (n : Nat) (x : dIntent × Int) : Option ((Int × List dWrite × Unit) × Unit) :=
  f38.L1 n x n ((0 : Int), (0, []))
set_option maxRecDepth 100000 in
theorem f38.eq (n : Nat) (x : dIntent × Int) : runK TT E38 n ann (tabC C38) 1 38 (argsL [(true, tIntent), (false, .int .i64)] x) [] (readO [(true, [.dat (.int .i64), .own 56 tWrite])]) = f38.g n x := by
  have h : runK TT E38 n ann (tabC C38) 1 38 (argsL [(true, tIntent), (false, .int .i64)] x) [] (readO [(true, [.dat (.int .i64), .own 56 tWrite])]) = f38.q n x := by kernel_rfl
  rw [h]
  simp only [f38.q, f38.g, f38.l1]
theorem f38.codes : CodesOk Try.prog E38 ann (tabC C38) := tabC_ok (by intro p hp; simp only [C38, List.mem_cons, List.not_mem_nil, or_false] at hp; rcases hp with rfl <;> first | exact Try.func38) (by kernel_rfl)
theorem f38.ok (h : ∀ X Y, F38 X = some Y → ∃ n, f38.g n X = some Y)  : ConOk Try.prog 38 (mkConO [(true, tIntent), (false, .int .i64)] [(true, [.dat (.int .i64), .own 56 tWrite])] F38) :=
  mkConO_ok mixed TT_ok env0_ok f38.codes fun X Y hF => (h X Y hF).imp fun n hn => (f38.eq n X).trans hn
def con38 : Con := mkConO [(true, tIntent), (false, .int .i64)] [(true, [.dat (.int .i64), .own 56 tWrite])] F38
/-! ### vellum/vellumref08.Fold -/
def E36 : FuncId → Option Con := (envC 38 con38 env0)
noncomputable def C36 : List (FuncId × Func) := [(36, Try.f36)]
def f36.g (n : Nat) (x : dIntent × Int) : Option (dIntent × Int) :=
  bif decide (x.2 < (1 : Int)) then
    (some (((0 : Int), []), (1 : Int)))
  else
    (bif (x.1.2.length : Int) == (0 : Int) then
      (some (x.1, (0 : Int)))
    else
      (bif decide (0 ≤ IntKind.wrap .i64 ((x.1.2.length : Int) - (1 : Int))) && decide (IntKind.wrap .i64 ((x.1.2.length : Int) - (1 : Int)) < (x.1.2.length : Int)) then
        (bif decide ((x.1.2.getD ((IntKind.wrap .i64 ((x.1.2.length : Int) - (1 : Int))).toNat) tWrite.dflt).1 < x.2) then
          (some (x.1, (0 : Int)))
        else
          (bif decide (0 ≤ IntKind.wrap .i64 ((x.1.2.length : Int) - (1 : Int))) && decide (IntKind.wrap .i64 ((x.1.2.length : Int) - (1 : Int)) < (x.1.2.length : Int)) then
            ((F38 (x.1, IntKind.wrap .i64 (x.2 - (1 : Int)))).bind fun r1 =>
              bif decide ((r1.1.2.1.length + 1) * 40 ≤ boundN) then
                (some ((x.1.1, List.take (r1.1.2.1.length + 1) (List.take r1.1.2.1.length r1.1.2.1 ++ ([(IntKind.wrap .i64 (x.2 - (1 : Int)), (x.1.2.getD ((IntKind.wrap .i64 ((x.1.2.length : Int) - (1 : Int))).toNat) tWrite.dflt).2)]))), (0 : Int)))
              else
                (none))
          else
            (none)))
      else
        (none)))
set_option maxRecDepth 100000 in
theorem f36.eq (n : Nat) (x : dIntent × Int) : runK TT E36 n ann (tabC C36) 1 36 (argsL [(true, tIntent), (false, .int .i64)] x) [] (readL [(true, tIntent), (false, .int .i64)]) = f36.g n x := by
  kernel_rfl
theorem f36.codes : CodesOk Try.prog E36 ann (tabC C36) := tabC_ok (by intro p hp; simp only [C36, List.mem_cons, List.not_mem_nil, or_false] at hp; rcases hp with rfl <;> first | exact Try.func36) (by kernel_rfl)
theorem f36.ok (h : ∀ X Y, F36 X = some Y → ∃ n, f36.g n X = some Y) (e38 : ConOk Try.prog 38 con38) : ConOk Try.prog 36 (mkCon [(true, tIntent), (false, .int .i64)] [(true, tIntent), (false, .int .i64)] false F36) :=
  mkCon_ok mixed TT_ok (envC_ok e38 env0_ok) f36.codes (fun h => by cases h) fun X Y hF => (h X Y hF).imp fun n hn => (f36.eq n X).trans hn
def con36 : Con := mkCon [(true, tIntent), (false, .int .i64)] [(true, tIntent), (false, .int .i64)] false F36
/-! ### vellum/chain.Back -/
def E37 : FuncId → Option Con := (envC 54 con54 (envC 53 con53 env0))
noncomputable def C37 : List (FuncId × Func) := [(37, Try.f37)]
def f37.g (n : Nat) (x : dIntent × Int) : Option (dIntent) :=
  (F53 x.1).bind fun r1 =>
    (F54 x).bind fun r2 =>
      bif r2 == (0 : Int) then
        (some ((0 : Int), []))
      else
        (bif decide (r2 = r2) then
          (bif decide (0 ≤ r2) && decide (r2 ≤ ((r1.1.2.1.length : Nat) : Int)) then
            (some (r1.1.1, List.take r2.toNat r1.1.2.1))
          else
            (none))
        else
          (none))
set_option maxRecDepth 100000 in
theorem f37.eq (n : Nat) (x : dIntent × Int) : runK TT E37 n ann (tabC C37) 1 37 (argsL [(true, tIntent), (false, .int .i64)] x) [] (readL [(true, tIntent)]) = f37.g n x := by
  kernel_rfl
theorem f37.codes : CodesOk Try.prog E37 ann (tabC C37) := tabC_ok (by intro p hp; simp only [C37, List.mem_cons, List.not_mem_nil, or_false] at hp; rcases hp with rfl <;> first | exact Try.func37) (by kernel_rfl)
theorem f37.ok (h : ∀ X Y, F37 X = some Y → ∃ n, f37.g n X = some Y) (e53 : ConOk Try.prog 53 con53) (e54 : ConOk Try.prog 54 con54) : ConOk Try.prog 37 (mkCon [(true, tIntent), (false, .int .i64)] [(true, tIntent)] false F37) :=
  mkCon_ok mixed TT_ok (envC_ok e54 (envC_ok e53 env0_ok)) f37.codes (fun h => by cases h) fun X Y hF => (h X Y hF).imp fun n hn => (f37.eq n X).trans hn
def con37 : Con := mkCon [(true, tIntent), (false, .int .i64)] [(true, tIntent)] false F37
/-! ### vellum/vellumlaw08.ChainLives -/
def E3 : FuncId → Option Con := (envC 15 con15 (envC 14 con14 (envC 13 con13 (envC 12 con12 env0))))
noncomputable def C3 : List (FuncId × Func) := [(3, Try.f3)]
def f3.h1 (x : (List dVersion) × Int) (r1 : Bool) (y3 : Int × Int × Int) : List AV × List Ob := ([.val false [.sc (.sl tVersion) x.1], .val false [.sc (.int .u64) x.2], .undef, .undef, .undef, .val false [.sc (.int .i64) y3.1], .val false [.sc (.int .u64) y3.2.1], .val false [.sc (.int .i64) y3.2.2]] ++ List.replicate 60 .undef, [])
def f3.L1 (n : Nat) (x : (List dVersion) × Int) (r1 : Bool) (m : Nat) (y3 : Int × Int × Int) : Option (Bool) :=
  loopN (ann 3 6).keep 0 (fun fr H k => execK TT 0 E3 (inlD TT E3 n ann (tabC C3) 1) n (ann 3) (subC [1, 1, 1, 1, 0, 1, 0, 0] (bodyOf Try.f3)) fr H k) m (f3.h1 x r1 y3).1 (f3.h1 x r1 y3).2 (kont TT 0 E3 (inlD TT E3 n ann (tabC C3) 1) n (ann 3) [1, 1, 1, 1, 0, 1, 0] (bodyOf Try.f3) (endK TT Try.f3 (readL [(false, .bool)])))
def f3.s1 (n : Nat) (x : (List dVersion) × Int) (r1 : Bool) (S3 : (Int × Int × Int) → Option (Bool)) (y3 : Int × Int × Int) : Option (Bool) :=
  bif decide (y3.2.2 < (x.1.length : Int)) then
    ((F14 (x.1, y3.2.2)).bind fun r4 =>
      bif r4.2.2 != (0 : Int) then
        (some false)
      else
        (bif decide (0 ≤ y3.2.2) && decide (y3.2.2 < (x.1.length : Int)) then
          (bif bif (r4.1 != (x.1.getD y3.2.2.toNat tVersion.dflt).1) then true else (r4.2.1 != y3.2.1) then
            (some false)
          else
            (bif bif (decide (x.2 ≥ r4.1)) then (bif (r4.2.1 == (0 : Int)) then true else (decide (x.2 < r4.2.1))) else false then
              (bif decide (y3.1 ≥ (0 : Int)) then
                (some false)
              else
                (S3 (y3.2.2, (r4.1, IntKind.wrap .i64 (y3.2.2 + (1 : Int))))))
            else
              (S3 (y3.1, (r4.1, IntKind.wrap .i64 (y3.2.2 + (1 : Int)))))))
        else
          (none)))
  else
    ((F15 x).bind fun r5 =>
      bif r5 == y3.1 then
        ((F13 ()).bind fun r6 =>
          some r6)
      else
        (some false))
set_option maxRecDepth 100000 in
theorem f3.l1 (n : Nat) (x : (List dVersion) × Int) (r1 : Bool) (m : Nat) : ∀ (y3 : Int × Int × Int), f3.L1 n x r1 m y3 = iter (f3.s1 n x r1) m y3 := by
  exact loop_rec (fun y => (f3.h1 x r1 y).1) (fun y => (f3.h1 x r1 y).2) (f3.s1 n x r1) (fun m y => by kernel_rfl) m
def f3.g (n : Nat) (x : (List dVersion) × Int) : Option (Bool) :=
  (F12 x.1).bind fun r1 =>
    bif !r1 then
      ((F13 ()).bind fun r2 =>
        some r2)
    else
      (iter (f3.s1 n x r1) n ((-1 : Int), ((0 : Int), (0 : Int))))
def f3.q (n : Nat) (x : (List dVersion) × Int) : Option (Bool) :=
  (F12 x.1).bind fun r1 =>
    bif !r1 then
      ((F13 ()).bind fun r2 =>
        some r2)
    else
      (f3.L1 n x r1 n ((-1 : Int), ((0 : Int), (0 : Int))))
set_option maxRecDepth 100000 in
theorem f3.eq (n : Nat) (x : (List dVersion) × Int) : runK TT E3 n ann (tabC C3) 1 3 (argsL [(false, .sl tVersion), (false, .int .u64)] x) [] (readL [(false, .bool)]) = f3.g n x := by
  have h : runK TT E3 n ann (tabC C3) 1 3 (argsL [(false, .sl tVersion), (false, .int .u64)] x) [] (readL [(false, .bool)]) = f3.q n x := by kernel_rfl
  rw [h]
  simp only [f3.q, f3.g, f3.l1]
theorem f3.codes : CodesOk Try.prog E3 ann (tabC C3) := tabC_ok (by intro p hp; simp only [C3, List.mem_cons, List.not_mem_nil, or_false] at hp; rcases hp with rfl <;> first | exact Try.func3) (by kernel_rfl)
theorem f3.ok (h : ∀ X Y, (FL [(false, .sl tVersion), (false, .int .u64)]) X = some Y → ∃ n, f3.g n X = some Y) (e12 : ConOk Try.prog 12 con12) (e13 : ConOk Try.prog 13 con13) (e14 : ConOk Try.prog 14 con14) (e15 : ConOk Try.prog 15 con15) : ConOk Try.prog 3 (mkCon [(false, .sl tVersion), (false, .int .u64)] [(false, .bool)] true (FL [(false, .sl tVersion), (false, .int .u64)])) :=
  mkCon_ok mixed TT_ok (envC_ok e15 (envC_ok e14 (envC_ok e13 (envC_ok e12 env0_ok)))) f3.codes (fun _ => List.all_eq_true.1 rfl) fun X Y hF => (h X Y hF).imp fun n hn => (f3.eq n X).trans hn
def con3 : Con := mkCon [(false, .sl tVersion), (false, .int .u64)] [(false, .bool)] true (FL [(false, .sl tVersion), (false, .int .u64)])
/-! ### vellum/vellumlaw08.ChainSees -/
def E4 : FuncId → Option Con := (envC 45 con45 (envC 18 con18 (envC 17 con17 (envC 16 con16 (envC 13 con13 (envC 12 con12 env0))))))
noncomputable def C4 : List (FuncId × Func) := [(4, Try.f4), (19, Try.f19)]
def f4.g (n : Nat) (x : (List dVersion) × dIntent × dReader) : Option (Bool) :=
  (F12 x.1).bind fun r1 =>
    bif !r1 then
      ((F13 ()).bind fun r2 =>
        some r2)
    else
      ((F16 x.2.1).bind fun r3 =>
        bif !r3 then
          ((F13 ()).bind fun r4 =>
            some r4)
        else
          ((F17 x).bind fun r5 =>
            (F18 x).bind fun r6 =>
              bif r5.2 == r6.2 then
                ((F45 (r5.1, r6.1)).bind fun r7 =>
                  bif r7 then
                    ((F13 ()).bind fun r8 =>
                      some r8)
                  else
                    (some false))
              else
                (some false)))
set_option maxRecDepth 100000 in
theorem f4.eq (n : Nat) (x : (List dVersion) × dIntent × dReader) : runK TT E4 n ann (tabC C4) 2 4 (argsL [(false, .sl tVersion), (true, tIntent), (true, tReader)] x) [] (readL [(false, .bool)]) = f4.g n x := by
  kernel_rfl
theorem f4.codes : CodesOk Try.prog E4 ann (tabC C4) := tabC_ok (by intro p hp; simp only [C4, List.mem_cons, List.not_mem_nil, or_false] at hp; rcases hp with rfl | rfl <;> first | exact Try.func4 | exact Try.func19) (by kernel_rfl)
theorem f4.ok (h : ∀ X Y, (FL [(false, .sl tVersion), (true, tIntent), (true, tReader)]) X = some Y → ∃ n, f4.g n X = some Y) (e12 : ConOk Try.prog 12 con12) (e13 : ConOk Try.prog 13 con13) (e16 : ConOk Try.prog 16 con16) (e17 : ConOk Try.prog 17 con17) (e18 : ConOk Try.prog 18 con18) (e45 : ConOk Try.prog 45 con45) : ConOk Try.prog 4 (mkCon [(false, .sl tVersion), (true, tIntent), (true, tReader)] [(false, .bool)] true (FL [(false, .sl tVersion), (true, tIntent), (true, tReader)])) :=
  mkCon_ok mixed TT_ok (envC_ok e45 (envC_ok e18 (envC_ok e17 (envC_ok e16 (envC_ok e13 (envC_ok e12 env0_ok)))))) f4.codes (fun _ => List.all_eq_true.1 rfl) fun X Y hF => (h X Y hF).imp fun n hn => (f4.eq n X).trans hn
def con4 : Con := mkCon [(false, .sl tVersion), (true, tIntent), (true, tReader)] [(false, .bool)] true (FL [(false, .sl tVersion), (true, tIntent), (true, tReader)])
/-! ### vellum/vellumlaw08.ChainPrunes -/
def E5 : FuncId → Option Con := (envC 22 con22 (envC 21 con21 (envC 20 con20 (envC 13 con13 (envC 12 con12 env0)))))
noncomputable def C5 : List (FuncId × Func) := [(5, Try.f5)]
def f5.g (n : Nat) (x : (List dVersion) × Int) : Option (Bool) :=
  (F12 x.1).bind fun r1 =>
    bif !r1 then
      ((F13 ()).bind fun r2 =>
        some r2)
    else
      ((F20 x).bind fun r3 =>
        (F21 x).bind fun r4 =>
          bif r3.2 == r4.2 then
            ((F22 (r3.1, r4.1)).bind fun r5 =>
              bif r5 then
                ((F13 ()).bind fun r6 =>
                  some r6)
              else
                (some false))
          else
            (some false))
set_option maxRecDepth 100000 in
theorem f5.eq (n : Nat) (x : (List dVersion) × Int) : runK TT E5 n ann (tabC C5) 1 5 (argsL [(false, .sl tVersion), (false, .int .u64)] x) [] (readL [(false, .bool)]) = f5.g n x := by
  kernel_rfl
theorem f5.codes : CodesOk Try.prog E5 ann (tabC C5) := tabC_ok (by intro p hp; simp only [C5, List.mem_cons, List.not_mem_nil, or_false] at hp; rcases hp with rfl <;> first | exact Try.func5) (by kernel_rfl)
theorem f5.ok (h : ∀ X Y, (FL [(false, .sl tVersion), (false, .int .u64)]) X = some Y → ∃ n, f5.g n X = some Y) (e12 : ConOk Try.prog 12 con12) (e13 : ConOk Try.prog 13 con13) (e20 : ConOk Try.prog 20 con20) (e21 : ConOk Try.prog 21 con21) (e22 : ConOk Try.prog 22 con22) : ConOk Try.prog 5 (mkCon [(false, .sl tVersion), (false, .int .u64)] [(false, .bool)] true (FL [(false, .sl tVersion), (false, .int .u64)])) :=
  mkCon_ok mixed TT_ok (envC_ok e22 (envC_ok e21 (envC_ok e20 (envC_ok e13 (envC_ok e12 env0_ok))))) f5.codes (fun _ => List.all_eq_true.1 rfl) fun X Y hF => (h X Y hF).imp fun n hn => (f5.eq n X).trans hn
def con5 : Con := mkCon [(false, .sl tVersion), (false, .int .u64)] [(false, .bool)] true (FL [(false, .sl tVersion), (false, .int .u64)])
/-! ### vellum/vellumlaw08.ChainAsks -/
def E6 : FuncId → Option Con := (envC 28 con28 (envC 27 con27 (envC 26 con26 (envC 25 con25 (envC 24 con24 (envC 23 con23 (envC 15 con15 (envC 14 con14 (envC 13 con13 (envC 12 con12 env0))))))))))
noncomputable def C6 : List (FuncId × Func) := [(6, Try.f6)]
def f6.g (n : Nat) (x : (List dVersion) × Int × (Int × Int)) : Option (Bool) :=
  (F23 x.1).bind fun r1 =>
    (F24 x.1).bind fun r2 =>
      bif r1 != r2 then
        (some false)
      else
        ((F12 x.1).bind fun r3 =>
          bif !r3 then
            ((F13 ()).bind fun r4 =>
              some r4)
          else
            ((F14 (x.1, x.2.1)).bind fun r5 =>
              (F25 (x.1, x.2.1)).bind fun r6 =>
                bif bif (bif (r5.1 == r6.1) then (r5.2.1 == r6.2.1) else false) then (r5.2.2 == r6.2.2) else false then
                  ((F15 (x.1, x.2.2.1)).bind fun r7 =>
                    (F26 (x.1, x.2.2.1)).bind fun r8 =>
                      bif r7 == r8 then
                        ((F27 (x.1, x.2.2)).bind fun r9 =>
                          (F28 (x.1, x.2.2)).bind fun r10 =>
                            bif r9 == r10 then
                              ((F13 ()).bind fun r11 =>
                                some r11)
                            else
                              (some false))
                      else
                        (some false))
                else
                  (some false)))
set_option maxRecDepth 100000 in
theorem f6.eq (n : Nat) (x : (List dVersion) × Int × (Int × Int)) : runK TT E6 n ann (tabC C6) 1 6 (argsL [(false, .sl tVersion), (false, .int .i64), (true, .pair (.int .u64) (.int .u64))] x) [] (readL [(false, .bool)]) = f6.g n x := by
  kernel_rfl
theorem f6.codes : CodesOk Try.prog E6 ann (tabC C6) := tabC_ok (by intro p hp; simp only [C6, List.mem_cons, List.not_mem_nil, or_false] at hp; rcases hp with rfl <;> first | exact Try.func6) (by kernel_rfl)
theorem f6.ok (h : ∀ X Y, (FL [(false, .sl tVersion), (false, .int .i64), (true, .pair (.int .u64) (.int .u64))]) X = some Y → ∃ n, f6.g n X = some Y) (e12 : ConOk Try.prog 12 con12) (e13 : ConOk Try.prog 13 con13) (e14 : ConOk Try.prog 14 con14) (e15 : ConOk Try.prog 15 con15) (e23 : ConOk Try.prog 23 con23) (e24 : ConOk Try.prog 24 con24) (e25 : ConOk Try.prog 25 con25) (e26 : ConOk Try.prog 26 con26) (e27 : ConOk Try.prog 27 con27) (e28 : ConOk Try.prog 28 con28) : ConOk Try.prog 6 (mkCon [(false, .sl tVersion), (false, .int .i64), (true, .pair (.int .u64) (.int .u64))] [(false, .bool)] true (FL [(false, .sl tVersion), (false, .int .i64), (true, .pair (.int .u64) (.int .u64))])) :=
  mkCon_ok mixed TT_ok (envC_ok e28 (envC_ok e27 (envC_ok e26 (envC_ok e25 (envC_ok e24 (envC_ok e23 (envC_ok e15 (envC_ok e14 (envC_ok e13 (envC_ok e12 env0_ok)))))))))) f6.codes (fun _ => List.all_eq_true.1 rfl) fun X Y hF => (h X Y hF).imp fun n hn => (f6.eq n X).trans hn
def con6 : Con := mkCon [(false, .sl tVersion), (false, .int .i64), (true, .pair (.int .u64) (.int .u64))] [(false, .bool)] true (FL [(false, .sl tVersion), (false, .int .i64), (true, .pair (.int .u64) (.int .u64))])
/-! ### vellum/vellumlaw08.ChainInstalls -/
def E7 : FuncId → Option Con := (envC 30 con30 (envC 29 con29 (envC 22 con22 (envC 13 con13 env0))))
noncomputable def C7 : List (FuncId × Func) := [(7, Try.f7)]
def f7.g (n : Nat) (x : (List dVersion) × dVersion) : Option (Bool) :=
  (F29 x).bind fun r1 =>
    (F30 x).bind fun r2 =>
      bif r1.2 == r2.2 then
        ((F22 (r1.1, r2.1)).bind fun r3 =>
          bif r3 then
            ((F13 ()).bind fun r4 =>
              some r4)
          else
            (some false))
      else
        (some false)
set_option maxRecDepth 100000 in
theorem f7.eq (n : Nat) (x : (List dVersion) × dVersion) : runK TT E7 n ann (tabC C7) 1 7 (argsL [(false, .sl tVersion), (true, tVersion)] x) [] (readL [(false, .bool)]) = f7.g n x := by
  kernel_rfl
theorem f7.codes : CodesOk Try.prog E7 ann (tabC C7) := tabC_ok (by intro p hp; simp only [C7, List.mem_cons, List.not_mem_nil, or_false] at hp; rcases hp with rfl <;> first | exact Try.func7) (by kernel_rfl)
theorem f7.ok (h : ∀ X Y, (FL [(false, .sl tVersion), (true, tVersion)]) X = some Y → ∃ n, f7.g n X = some Y) (e13 : ConOk Try.prog 13 con13) (e22 : ConOk Try.prog 22 con22) (e29 : ConOk Try.prog 29 con29) (e30 : ConOk Try.prog 30 con30) : ConOk Try.prog 7 (mkCon [(false, .sl tVersion), (true, tVersion)] [(false, .bool)] true (FL [(false, .sl tVersion), (true, tVersion)])) :=
  mkCon_ok mixed TT_ok (envC_ok e30 (envC_ok e29 (envC_ok e22 (envC_ok e13 env0_ok)))) f7.codes (fun _ => List.all_eq_true.1 rfl) fun X Y hF => (h X Y hF).imp fun n hn => (f7.eq n X).trans hn
def con7 : Con := mkCon [(false, .sl tVersion), (true, tVersion)] [(false, .bool)] true (FL [(false, .sl tVersion), (true, tVersion)])
/-! ### vellum/vellumlaw08.ChainKeeps -/
def E8 : FuncId → Option Con := (envC 45 con45 (envC 29 con29 (envC 23 con23 (envC 22 con22 (envC 20 con20 (envC 17 con17 (envC 13 con13 (envC 12 con12 env0))))))))
noncomputable def C8 : List (FuncId × Func) := [(8, Try.f8), (19, Try.f19), (31, Try.f31)]
def f8.g (n : Nat) (x : (List dVersion) × Int × Int) : Option (Bool) :=
  (F12 x.1).bind fun r1 =>
    bif !r1 then
      ((F13 ()).bind fun r2 =>
        some r2)
    else
      ((F20 (x.1, x.2.1)).bind fun r3 =>
        bif r3.2 != IntKind.wrap .i64 ((x.1.length : Int) - (r3.1.length : Int)) then
          (some false)
        else
          ((F23 r3.1).bind fun r4 =>
            bif r4 != (0 : Int) then
              (some false)
            else
              (bif decide (IntKind.wrap .u64 (x.2.1 + x.2.2) < x.2.1) then
                ((F17 (x.1, (((0 : Int), []), ((0 : Int), x.2.1)))).bind fun r5 =>
                  (F17 (r3.1, (((0 : Int), []), ((0 : Int), x.2.1)))).bind fun r6 =>
                    bif !(r5.2 == r6.2) then
                      (some false)
                    else
                      ((F45 (r5.1, r6.1)).bind fun r7 =>
                        bif !r7 then
                          (some false)
                        else
                          ((F20 (r3.1, x.2.1)).bind fun r8 =>
                            bif r8.2 != (0 : Int) then
                              (some false)
                            else
                              ((F22 (r3.1, r8.1)).bind fun r9 =>
                                bif !r9 then
                                  (some false)
                                else
                                  ((F29 (x.1, ((4611686018427387904 : Int), (false, [])))).bind fun r10 =>
                                    (F29 (r3.1, ((4611686018427387904 : Int), (false, [])))).bind fun r11 =>
                                      bif r10.2 != (0 : Int) then
                                        (bif decide ((x.1.length : Int) > (0 : Int)) then
                                          (bif decide (0 ≤ (0 : Int)) && decide ((0 : Int) < (x.1.length : Int)) then
                                            (some ((x.1.getD 0 tVersion.dflt).1 == (4611686018427387904 : Int)))
                                          else
                                            (none))
                                        else
                                          (some false))
                                      else
                                        ((F20 (r10.1, x.2.1)).bind fun r12 =>
                                          (F20 (r11.1, x.2.1)).bind fun r13 =>
                                            bif r11.2 == (0 : Int) then
                                              ((F22 (r12.1, r13.1)).bind fun r14 =>
                                                bif r14 then
                                                  ((F13 ()).bind fun r15 =>
                                                    some r15)
                                                else
                                                  (some false))
                                            else
                                              (some false)))))))
              else
                ((F17 (x.1, (((0 : Int), []), ((0 : Int), IntKind.wrap .u64 (x.2.1 + x.2.2))))).bind fun r16 =>
                  (F17 (r3.1, (((0 : Int), []), ((0 : Int), IntKind.wrap .u64 (x.2.1 + x.2.2))))).bind fun r17 =>
                    bif !(r16.2 == r17.2) then
                      (some false)
                    else
                      ((F45 (r16.1, r17.1)).bind fun r18 =>
                        bif !r18 then
                          (some false)
                        else
                          ((F20 (r3.1, x.2.1)).bind fun r19 =>
                            bif r19.2 != (0 : Int) then
                              (some false)
                            else
                              ((F22 (r3.1, r19.1)).bind fun r20 =>
                                bif !r20 then
                                  (some false)
                                else
                                  ((F29 (x.1, ((4611686018427387904 : Int), (false, [])))).bind fun r21 =>
                                    (F29 (r3.1, ((4611686018427387904 : Int), (false, [])))).bind fun r22 =>
                                      bif r21.2 != (0 : Int) then
                                        (bif decide ((x.1.length : Int) > (0 : Int)) then
                                          (bif decide (0 ≤ (0 : Int)) && decide ((0 : Int) < (x.1.length : Int)) then
                                            (some ((x.1.getD 0 tVersion.dflt).1 == (4611686018427387904 : Int)))
                                          else
                                            (none))
                                        else
                                          (some false))
                                      else
                                        ((F20 (r21.1, x.2.1)).bind fun r23 =>
                                          (F20 (r22.1, x.2.1)).bind fun r24 =>
                                            bif r22.2 == (0 : Int) then
                                              ((F22 (r23.1, r24.1)).bind fun r25 =>
                                                bif r25 then
                                                  ((F13 ()).bind fun r26 =>
                                                    some r26)
                                                else
                                                  (some false))
                                            else
                                              (some false))))))))))
set_option maxRecDepth 100000 in
theorem f8.eq (n : Nat) (x : (List dVersion) × Int × Int) : runK TT E8 n ann (tabC C8) 3 8 (argsL [(false, .sl tVersion), (false, .int .u64), (false, .int .u64)] x) [] (readL [(false, .bool)]) = f8.g n x := by
  kernel_rfl
theorem f8.codes : CodesOk Try.prog E8 ann (tabC C8) := tabC_ok (by intro p hp; simp only [C8, List.mem_cons, List.not_mem_nil, or_false] at hp; rcases hp with rfl | rfl | rfl <;> first | exact Try.func8 | exact Try.func19 | exact Try.func31) (by kernel_rfl)
theorem f8.ok (h : ∀ X Y, (FL [(false, .sl tVersion), (false, .int .u64), (false, .int .u64)]) X = some Y → ∃ n, f8.g n X = some Y) (e12 : ConOk Try.prog 12 con12) (e13 : ConOk Try.prog 13 con13) (e17 : ConOk Try.prog 17 con17) (e20 : ConOk Try.prog 20 con20) (e22 : ConOk Try.prog 22 con22) (e23 : ConOk Try.prog 23 con23) (e29 : ConOk Try.prog 29 con29) (e45 : ConOk Try.prog 45 con45) : ConOk Try.prog 8 (mkCon [(false, .sl tVersion), (false, .int .u64), (false, .int .u64)] [(false, .bool)] true (FL [(false, .sl tVersion), (false, .int .u64), (false, .int .u64)])) :=
  mkCon_ok mixed TT_ok (envC_ok e45 (envC_ok e29 (envC_ok e23 (envC_ok e22 (envC_ok e20 (envC_ok e17 (envC_ok e13 (envC_ok e12 env0_ok)))))))) f8.codes (fun _ => List.all_eq_true.1 rfl) fun X Y hF => (h X Y hF).imp fun n hn => (f8.eq n X).trans hn
def con8 : Con := mkCon [(false, .sl tVersion), (false, .int .u64), (false, .int .u64)] [(false, .bool)] true (FL [(false, .sl tVersion), (false, .int .u64), (false, .int .u64)])
/-! ### vellum/vellumlaw08.ChainWrites -/
def E9 : FuncId → Option Con := (envC 38 con38 (envC 37 con37 (envC 36 con36 (envC 35 con35 (envC 34 con34 (envC 33 con33 (envC 32 con32 (envC 16 con16 (envC 13 con13 env0)))))))))
noncomputable def C9 : List (FuncId × Func) := [(9, Try.f9)]
def f9.g (n : Nat) (x : dLevels) : Option (Bool) :=
  (F16 x.1).bind fun r1 =>
    bif bif (!r1) then (!(bif (decide (x.1.1 > (0 : Int))) then ((x.1.2.length : Int) == (0 : Int)) else false)) else false then
      ((F13 ()).bind fun r2 =>
        some r2)
    else
      ((F32 (x.1, x.2.2)).bind fun r3 =>
        (F33 (x.1, x.2.2)).bind fun r4 =>
          bif r3.2 != r4.2 then
            (some false)
          else
            ((F34 (r3.1, r4.1)).bind fun r5 =>
              bif !r5 then
                (some false)
              else
                ((F16 x.1).bind fun r6 =>
                  bif !r6 then
                    ((F13 ()).bind fun r7 =>
                      some r7)
                  else
                    ((F35 (x.1, x.2.1)).bind fun r8 =>
                      (F36 (x.1, x.2.1)).bind fun r9 =>
                        bif r8.2 == r9.2 then
                          ((F34 (r8.1, r9.1)).bind fun r10 =>
                            bif r10 then
                              ((F37 (x.1, x.2.1)).bind fun r11 =>
                                (F38 (x.1, x.2.1)).bind fun r12 =>
                                  (F34 (r11, (r12.1.1, List.take r12.1.2.1.length r12.1.2.1))).bind fun r13 =>
                                    bif r13 then
                                      ((F13 ()).bind fun r14 =>
                                        some r14)
                                    else
                                      (some false))
                            else
                              (some false))
                        else
                          (some false)))))
set_option maxRecDepth 100000 in
theorem f9.eq (n : Nat) (x : dLevels) : runK TT E9 n ann (tabC C9) 1 9 (argsL [(true, tLevels)] x) [] (readL [(false, .bool)]) = f9.g n x := by
  kernel_rfl
theorem f9.codes : CodesOk Try.prog E9 ann (tabC C9) := tabC_ok (by intro p hp; simp only [C9, List.mem_cons, List.not_mem_nil, or_false] at hp; rcases hp with rfl <;> first | exact Try.func9) (by kernel_rfl)
theorem f9.ok (h : ∀ X Y, (FL [(true, tLevels)]) X = some Y → ∃ n, f9.g n X = some Y) (e13 : ConOk Try.prog 13 con13) (e16 : ConOk Try.prog 16 con16) (e32 : ConOk Try.prog 32 con32) (e33 : ConOk Try.prog 33 con33) (e34 : ConOk Try.prog 34 con34) (e35 : ConOk Try.prog 35 con35) (e36 : ConOk Try.prog 36 con36) (e37 : ConOk Try.prog 37 con37) (e38 : ConOk Try.prog 38 con38) : ConOk Try.prog 9 (mkCon [(true, tLevels)] [(false, .bool)] true (FL [(true, tLevels)])) :=
  mkCon_ok mixed TT_ok (envC_ok e38 (envC_ok e37 (envC_ok e36 (envC_ok e35 (envC_ok e34 (envC_ok e33 (envC_ok e32 (envC_ok e16 (envC_ok e13 env0_ok))))))))) f9.codes (fun _ => List.all_eq_true.1 rfl) fun X Y hF => (h X Y hF).imp fun n hn => (f9.eq n X).trans hn
def con9 : Con := mkCon [(true, tLevels)] [(false, .bool)] true (FL [(true, tLevels)])
/-! ### vellum/vellumlaw08.ChainSaves -/
def E10 : FuncId → Option Con := (envC 45 con45 (envC 37 con37 (envC 35 con35 (envC 34 con34 (envC 32 con32 (envC 17 con17 (envC 16 con16 (envC 13 con13 env0))))))))
noncomputable def C10 : List (FuncId × Func) := [(10, Try.f10), (19, Try.f19)]
def f10.h1 (x : dIntent × Int × (List dWrite)) (r1 : Bool) (r3 : dIntent) (y4 : Int × Int × Int × (List dWrite)) : List AV × List Ob := ([.undef, .val false [.sc (.int .i64) x.2.1], .val false [.sc (.sl tWrite) x.2.2], .val false [.ptr 0 0], .undef, .undef, .undef, .val false [.ptr 1 0], .val false [.ptr 2 0], .val false [.sc (.int .i64) y4.1], .val false [.sc (.int .i64) y4.2.1]] ++ List.replicate 111 .undef, [.box [.sc (.int .i64) x.1.1, .sc (.sl tWrite) x.1.2], .box [.sc (.int .i64) r3.1, .sc (.sl tWrite) r3.2], .box [.sc (.int .i64) y4.2.2.1, .sc (.sl tWrite) y4.2.2.2]])
def f10.L1 (n : Nat) (x : dIntent × Int × (List dWrite)) (r1 : Bool) (r3 : dIntent) (m : Nat) (y4 : Int × Int × Int × (List dWrite)) : Option (Bool) :=
  loopN (ann 10 9).keep 3 (fun fr H k => execK TT 0 E10 (inlD TT E10 n ann (tabC C10) 2) n (ann 10) (subC [1, 1, 1, 1, 1, 1, 0, 1, 0, 0] (bodyOf Try.f10)) fr H k) m (f10.h1 x r1 r3 y4).1 (f10.h1 x r1 r3 y4).2 (kont TT 0 E10 (inlD TT E10 n ann (tabC C10) 2) n (ann 10) [1, 1, 1, 1, 1, 1, 0, 1, 0] (bodyOf Try.f10) (endK TT Try.f10 (readL [(false, .bool)])))
def f10.s1 (n : Nat) (x : dIntent × Int × (List dWrite)) (r1 : Bool) (r3 : dIntent) (S4 : (Int × Int × Int × (List dWrite)) → Option (Bool)) (y4 : Int × Int × Int × (List dWrite)) : Option (Bool) :=
  bif decide (y4.2.1 < (x.2.2.length : Int)) then
    (bif decide (0 ≤ y4.2.1) && decide (y4.2.1 < (x.2.2.length : Int)) then
      (bif decide ((x.2.2.getD y4.2.1.toNat tWrite.dflt).1 < y4.1) then
        (bif (x.2.2.getD y4.2.1.toNat tWrite.dflt).2.1 then
          ((F32 (y4.2.2, (y4.1, ((x.2.2.getD y4.2.1.toNat tWrite.dflt).2.1, [])))).bind fun r5 =>
            bif r5.2 != (0 : Int) then
              (some false)
            else
              (S4 (y4.1, (IntKind.wrap .i64 (y4.2.1 + (1 : Int)), r5.1))))
        else
          ((F32 (y4.2.2, (y4.1, (x.2.2.getD y4.2.1.toNat tWrite.dflt).2))).bind fun r6 =>
            bif r6.2 != (0 : Int) then
              (some false)
            else
              (S4 (y4.1, (IntKind.wrap .i64 (y4.2.1 + (1 : Int)), r6.1)))))
      else
        (bif (x.2.2.getD y4.2.1.toNat tWrite.dflt).2.1 then
          ((F32 (y4.2.2, ((x.2.2.getD y4.2.1.toNat tWrite.dflt).1, ((x.2.2.getD y4.2.1.toNat tWrite.dflt).2.1, [])))).bind fun r7 =>
            bif r7.2 != (0 : Int) then
              (some false)
            else
              (S4 ((x.2.2.getD y4.2.1.toNat tWrite.dflt).1, (IntKind.wrap .i64 (y4.2.1 + (1 : Int)), r7.1))))
        else
          ((F32 (y4.2.2, x.2.2.getD y4.2.1.toNat tWrite.dflt)).bind fun r8 =>
            bif r8.2 != (0 : Int) then
              (some false)
            else
              (S4 ((x.2.2.getD y4.2.1.toNat tWrite.dflt).1, (IntKind.wrap .i64 (y4.2.1 + (1 : Int)), r8.1))))))
    else
      (none))
  else
    (bif (y4.2.2.2.length : Int) == (0 : Int) then
      ((F13 ()).bind fun r9 =>
        some r9)
    else
      ((F35 (y4.2.2, x.2.1)).bind fun r10 =>
        (F17 ([], (y4.2.2, (x.1.1, (1 : Int))))).bind fun r11 =>
          (F17 ([], (r10.1, (x.1.1, (1 : Int))))).bind fun r12 =>
            bif bif (r10.2 == (0 : Int)) then (r11.2 == r12.2) else false then
              ((F45 (r11.1, r12.1)).bind fun r13 =>
                bif r13 then
                  ((F37 (y4.2.2, x.2.1)).bind fun r14 =>
                    (F34 (r14, r3)).bind fun r15 =>
                      bif r15 then
                        ((F13 ()).bind fun r16 =>
                          some r16)
                      else
                        (some false))
                else
                  (some false))
            else
              (some false)))
set_option maxRecDepth 100000 in
theorem f10.l1 (n : Nat) (x : dIntent × Int × (List dWrite)) (r1 : Bool) (r3 : dIntent) (m : Nat) : ∀ (y4 : Int × Int × Int × (List dWrite)), f10.L1 n x r1 r3 m y4 = iter (f10.s1 n x r1 r3) m y4 := by
  exact loop_rec (fun y => (f10.h1 x r1 r3 y).1) (fun y => (f10.h1 x r1 r3 y).2) (f10.s1 n x r1 r3) (fun m y => by kernel_rfl) m
def f10.h2 (x : dIntent × Int × (List dWrite)) (r1 : Bool) (r3 : dIntent) (y17 : Int × Int × Int × (List dWrite)) : List AV × List Ob := ([.undef, .val false [.sc (.int .i64) x.2.1], .val false [.sc (.sl tWrite) x.2.2], .val false [.ptr 0 0], .undef, .undef, .undef, .val false [.ptr 1 0], .val false [.ptr 2 0], .val false [.sc (.int .i64) y17.1], .val false [.sc (.int .i64) y17.2.1]] ++ List.replicate 111 .undef, [.box [.sc (.int .i64) x.1.1, .sc (.sl tWrite) x.1.2], .box [.sc (.int .i64) r3.1, .sc (.sl tWrite) r3.2], .box [.sc (.int .i64) y17.2.2.1, .sc (.sl tWrite) y17.2.2.2]])
def f10.L2 (n : Nat) (x : dIntent × Int × (List dWrite)) (r1 : Bool) (r3 : dIntent) (m : Nat) (y17 : Int × Int × Int × (List dWrite)) : Option (Bool) :=
  loopN (ann 10 9).keep 3 (fun fr H k => execK TT 0 E10 (inlD TT E10 n ann (tabC C10) 2) n (ann 10) (subC [1, 1, 1, 1, 1, 1, 0, 1, 0, 0] (bodyOf Try.f10)) fr H k) m (f10.h2 x r1 r3 y17).1 (f10.h2 x r1 r3 y17).2 (kont TT 0 E10 (inlD TT E10 n ann (tabC C10) 2) n (ann 10) [1, 1, 1, 1, 1, 1, 0, 1, 0] (bodyOf Try.f10) (endK TT Try.f10 (readL [(false, .bool)])))
def f10.s2 (n : Nat) (x : dIntent × Int × (List dWrite)) (r1 : Bool) (r3 : dIntent) (S17 : (Int × Int × Int × (List dWrite)) → Option (Bool)) (y17 : Int × Int × Int × (List dWrite)) : Option (Bool) :=
  bif decide (y17.2.1 < (x.2.2.length : Int)) then
    (bif decide (0 ≤ y17.2.1) && decide (y17.2.1 < (x.2.2.length : Int)) then
      (bif decide ((x.2.2.getD y17.2.1.toNat tWrite.dflt).1 < y17.1) then
        (bif (x.2.2.getD y17.2.1.toNat tWrite.dflt).2.1 then
          ((F32 (y17.2.2, (y17.1, ((x.2.2.getD y17.2.1.toNat tWrite.dflt).2.1, [])))).bind fun r18 =>
            bif r18.2 != (0 : Int) then
              (some false)
            else
              (S17 (y17.1, (IntKind.wrap .i64 (y17.2.1 + (1 : Int)), r18.1))))
        else
          ((F32 (y17.2.2, (y17.1, (x.2.2.getD y17.2.1.toNat tWrite.dflt).2))).bind fun r19 =>
            bif r19.2 != (0 : Int) then
              (some false)
            else
              (S17 (y17.1, (IntKind.wrap .i64 (y17.2.1 + (1 : Int)), r19.1)))))
      else
        (bif (x.2.2.getD y17.2.1.toNat tWrite.dflt).2.1 then
          ((F32 (y17.2.2, ((x.2.2.getD y17.2.1.toNat tWrite.dflt).1, ((x.2.2.getD y17.2.1.toNat tWrite.dflt).2.1, [])))).bind fun r20 =>
            bif r20.2 != (0 : Int) then
              (some false)
            else
              (S17 ((x.2.2.getD y17.2.1.toNat tWrite.dflt).1, (IntKind.wrap .i64 (y17.2.1 + (1 : Int)), r20.1))))
        else
          ((F32 (y17.2.2, x.2.2.getD y17.2.1.toNat tWrite.dflt)).bind fun r21 =>
            bif r21.2 != (0 : Int) then
              (some false)
            else
              (S17 ((x.2.2.getD y17.2.1.toNat tWrite.dflt).1, (IntKind.wrap .i64 (y17.2.1 + (1 : Int)), r21.1))))))
    else
      (none))
  else
    (bif (y17.2.2.2.length : Int) == (0 : Int) then
      ((F13 ()).bind fun r22 =>
        some r22)
    else
      ((F35 (y17.2.2, x.2.1)).bind fun r23 =>
        (F17 ([], (y17.2.2, (x.1.1, (1 : Int))))).bind fun r24 =>
          (F17 ([], (r23.1, (x.1.1, (1 : Int))))).bind fun r25 =>
            bif bif (r23.2 == (0 : Int)) then (r24.2 == r25.2) else false then
              ((F45 (r24.1, r25.1)).bind fun r26 =>
                bif r26 then
                  ((F37 (y17.2.2, x.2.1)).bind fun r27 =>
                    (F34 (r27, r3)).bind fun r28 =>
                      bif r28 then
                        ((F13 ()).bind fun r29 =>
                          some r29)
                      else
                        (some false))
                else
                  (some false))
            else
              (some false)))
set_option maxRecDepth 100000 in
theorem f10.l2 (n : Nat) (x : dIntent × Int × (List dWrite)) (r1 : Bool) (r3 : dIntent) (m : Nat) : ∀ (y17 : Int × Int × Int × (List dWrite)), f10.L2 n x r1 r3 m y17 = iter (f10.s2 n x r1 r3) m y17 := by
  exact loop_rec (fun y => (f10.h2 x r1 r3 y).1) (fun y => (f10.h2 x r1 r3 y).2) (f10.s2 n x r1 r3) (fun m y => by kernel_rfl) m
def f10.g (n : Nat) (x : dIntent × Int × (List dWrite)) : Option (Bool) :=
  (F16 x.1).bind fun r1 =>
    bif bif (bif (!r1) then true else (x.1.1 == (0 : Int))) then true else (decide (x.2.1 < (1 : Int))) then
      ((F13 ()).bind fun r2 =>
        some r2)
    else
      ((F37 (x.1, x.2.1)).bind fun r3 =>
        bif (r3.2.length : Int) == (0 : Int) then
          (iter (f10.s1 n x r1 r3) n (x.2.1, ((0 : Int), (x.1.1, []))))
        else
          (iter (f10.s2 n x r1 r3) n (x.2.1, ((0 : Int), r3))))
def f10.q (n : Nat) (x : dIntent × Int × (List dWrite)) : Option (Bool) :=
  (F16 x.1).bind fun r1 =>
    bif bif (bif (!r1) then true else (x.1.1 == (0 : Int))) then true else (decide (x.2.1 < (1 : Int))) then
      ((F13 ()).bind fun r2 =>
        some r2)
    else
      ((F37 (x.1, x.2.1)).bind fun r3 =>
        bif (r3.2.length : Int) == (0 : Int) then
          (f10.L1 n x r1 r3 n (x.2.1, ((0 : Int), (x.1.1, []))))
        else
          (f10.L2 n x r1 r3 n (x.2.1, ((0 : Int), r3))))
set_option maxRecDepth 100000 in
theorem f10.eq (n : Nat) (x : dIntent × Int × (List dWrite)) : runK TT E10 n ann (tabC C10) 2 10 (argsL [(true, tIntent), (false, .int .i64), (false, .sl tWrite)] x) [] (readL [(false, .bool)]) = f10.g n x := by
  have h : runK TT E10 n ann (tabC C10) 2 10 (argsL [(true, tIntent), (false, .int .i64), (false, .sl tWrite)] x) [] (readL [(false, .bool)]) = f10.q n x := by kernel_rfl
  rw [h]
  simp only [f10.q, f10.g, f10.l1, f10.l2]
theorem f10.codes : CodesOk Try.prog E10 ann (tabC C10) := tabC_ok (by intro p hp; simp only [C10, List.mem_cons, List.not_mem_nil, or_false] at hp; rcases hp with rfl | rfl <;> first | exact Try.func10 | exact Try.func19) (by kernel_rfl)
theorem f10.ok (h : ∀ X Y, (FLB 1048576 [(true, tIntent), (false, .int .i64), (false, .sl tWrite)]) X = some Y → ∃ n, f10.g n X = some Y) (e13 : ConOk Try.prog 13 con13) (e16 : ConOk Try.prog 16 con16) (e17 : ConOk Try.prog 17 con17) (e32 : ConOk Try.prog 32 con32) (e34 : ConOk Try.prog 34 con34) (e35 : ConOk Try.prog 35 con35) (e37 : ConOk Try.prog 37 con37) (e45 : ConOk Try.prog 45 con45) : ConOk Try.prog 10 (mkCon [(true, tIntent), (false, .int .i64), (false, .sl tWrite)] [(false, .bool)] true (FLB 1048576 [(true, tIntent), (false, .int .i64), (false, .sl tWrite)])) :=
  mkCon_ok mixed TT_ok (envC_ok e45 (envC_ok e37 (envC_ok e35 (envC_ok e34 (envC_ok e32 (envC_ok e17 (envC_ok e16 (envC_ok e13 env0_ok)))))))) f10.codes (fun _ => List.all_eq_true.1 rfl) fun X Y hF => (h X Y hF).imp fun n hn => (f10.eq n X).trans hn
def con10 : Con := mkCon [(true, tIntent), (false, .int .i64), (false, .sl tWrite)] [(false, .bool)] true (FLB 1048576 [(true, tIntent), (false, .int .i64), (false, .sl tWrite)])
end
end Go.Proofs.Ytfjmdgdopmfcjaa.AI
