/- Runs of the program's functions over plain data. Printed by aipr.py; Lean checks them. -/
import Derived.Test.YtfgfdpbeddnfhaaGreatDoorBb
set_option linter.unusedVariables false
set_option linter.unusedSimpArgs false
namespace Go.Proofs.YtfgfdpbeddnfhaaGreatDoor.AI
open Go
noncomputable section
def con48 : Con := mkCon [(true, tValue)] [(false, .str), (false, .int .i64)] true F48
def con47 : Con := mkCon [(false, .str), (false, .str)] [(false, .bool)] true F47
def con50 : Con := mkCon [(false, .sl .str), (false, .str)] [(false, .str)] true F50
def con56 : Con := mkCon [(false, .float .f64)] [(false, .int .u64)] true F56
def con57 : Con := mkCon [(false, .str)] [(false, .bool)] true F57
/-! ### vellum/schema.word -/
def E23 : FuncId → Option Con := (envC 47 con47 env0)
noncomputable def C23 : List (FuncId × Func) := [(23, Tryz.f23)]
def f23.g (n : Nat) (x : ByteArray) : Option (Bool) :=
  bif decide ((⟨#[32]⟩ : ByteArray).size + x.size ≤ boundS) then
    (bif decide (((⟨#[32]⟩ : ByteArray) ++ x).size + (⟨#[32]⟩ : ByteArray).size ≤ boundS) then
      ((F47 ((⟨#[32, 97, 110, 100, 32, 98, 111, 111, 108, 32, 98, 121, 116, 101, 115, 32, 99, 114, 101, 97, 116, 101, 32, 100, 101, 102, 97, 117, 108, 116, 32, 102, 97, 108, 115, 101, 32, 102, 108, 111, 97, 116, 32, 102, 111, 114, 101, 105, 103, 110, 32, 105, 110, 32, 105, 110, 100, 101, 120, 32, 105, 110, 116, 32, 105, 115, 32, 107, 101, 121, 32, 110, 111, 116, 32, 110, 117, 108, 108, 32, 111, 114, 32, 112, 114, 105, 109, 97, 114, 121, 32, 114, 101, 102, 101, 114, 101, 110, 99, 101, 115, 32, 116, 97, 98, 108, 101, 32, 116, 101, 120, 116, 32, 116, 114, 117, 101, 32, 117, 110, 105, 113, 117, 101, 32, 97, 98, 111, 114, 116, 32, 97, 115, 32, 97, 115, 99, 32, 97, 116, 32, 97, 118, 103, 32, 98, 101, 103, 105, 110, 32, 98, 101, 116, 119, 101, 101, 110, 32, 98, 121, 32, 99, 111, 109, 109, 105, 116, 32, 99, 111, 117, 110, 116, 32, 100, 101, 108, 101, 116, 101, 32, 100, 101, 115, 99, 32, 100, 114, 111, 112, 32, 102, 114, 111, 109, 32, 103, 114, 111, 117, 112, 32, 105, 110, 115, 101, 114, 116, 32, 105, 110, 116, 111, 32, 108, 105, 109, 105, 116, 32, 109, 97, 120, 32, 109, 105, 110, 32, 111, 102, 32, 111, 114, 100, 101, 114, 32, 114, 101, 108, 101, 97, 115, 101, 32, 114, 111, 108, 108, 98, 97, 99, 107, 32, 115, 97, 118, 101, 112, 111, 105, 110, 116, 32, 115, 101, 108, 101, 99, 116, 32, 115, 101, 116, 32, 115, 117, 109, 32, 116, 111, 32, 117, 112, 100, 97, 116, 101, 32, 118, 97, 108, 117, 101, 115, 32, 119, 104, 101, 114, 101, 32, 119, 105, 116, 104, 32]⟩ : ByteArray), ((⟨#[32]⟩ : ByteArray) ++ x) ++ (⟨#[32]⟩ : ByteArray))).bind fun r1 =>
        some r1)
    else
      (none))
  else
    (none)
set_option maxRecDepth 100000 in
theorem f23.eq (n : Nat) (x : ByteArray) : runK TT E23 n ann (tabC C23) 1 23 (argsL [(false, .str)] x) [] (readL [(false, .bool)]) = f23.g n x := by
  kernel_rfl
set_option maxRecDepth 100000 in
theorem f23.codes : CodesOk Tryz.prog E23 ann (tabC C23) := tabC_ok (by intro p hp; simp only [C23, List.mem_cons, List.not_mem_nil, or_false] at hp; rcases hp with rfl <;> first | exact Tryz.func23) (by kernel_rfl)
theorem f23.ok (h : ∀ X Y, F23 X = some Y → ∃ n, f23.g n X = some Y) (e47 : ConOk Tryz.prog 47 con47) : ConOk Tryz.prog 23 (mkCon [(false, .str)] [(false, .bool)] true F23) :=
  mkCon_ok mixed TT_ok (envC_ok e47 env0_ok) f23.codes (fun _ => List.all_eq_true.1 rfl) fun X Y hF => (h X Y hF).imp fun n hn => (f23.eq n X).trans hn
def con23 : Con := mkCon [(false, .str)] [(false, .bool)] true F23
/-! ### vellum/schema.Name -/
def E8 : FuncId → Option Con := (envC 23 con23 env0)
noncomputable def C8 : List (FuncId × Func) := [(8, Tryz.f8), (22, Tryz.f22), (24, Tryz.f24)]
def f8.h1 (x : ByteArray) (r1 : Bool) (y2 : Int) : List AV × List Ob := ([.val false [.sc .str x], .undef, .undef, .undef, .undef, .undef, .undef, .undef, .undef, .undef, .undef, .undef, .undef, .undef, .undef, .undef, .undef, .undef, .undef, .undef, .undef, .undef, .val false [.sc (.int .i64) (x.size : Int)], .val false [.sc (.int .i64) y2]] ++ List.replicate 15 .undef, [])
def f8.L1 (n : Nat) (x : ByteArray) (r1 : Bool) (m2 : Nat) (y2 : Int) : Option (Bool) :=
  loopN (ann 8 4).keep 0 (fun fr H k => execK TT 0 E8 (inlD TT E8 n ann (tabC C8) 3) n (ann 8) (subC [1, 1, 0, 1, 0, 0] (bodyOf Tryz.f8)) fr H k) m2 (f8.h1 x r1 y2).1 (f8.h1 x r1 y2).2 (kont TT 0 E8 (inlD TT E8 n ann (tabC C8) 3) n (ann 8) [1, 1, 0, 1, 0] (bodyOf Tryz.f8) (endK TT Tryz.f8 (readL [(false, .bool)])))
def f8.s1 (n : Nat) (x : ByteArray) (r1 : Bool) (S2 : Int → Option (Bool)) (y2 : Int) : Option (Bool) :=
  bif decide (y2 < (x.size : Int)) then
    (bif decide (0 ≤ y2) && decide (y2 < (x.size : Int)) then
      (bif !(bif (byteAt x y2 == (95 : Int)) then true else (bif (decide (byteAt x y2 ≥ (97 : Int))) then (decide (byteAt x y2 ≤ (122 : Int))) else false)) then
        (bif decide (0 ≤ y2) && decide (y2 < (x.size : Int)) then
          (bif !(bif (decide (byteAt x y2 ≥ (48 : Int))) then (decide (byteAt x y2 ≤ (57 : Int))) else false) then
            (some false)
          else
            (S2 (IntKind.wrap .i64 (y2 + (1 : Int)))))
        else
          (none))
      else
        (S2 (IntKind.wrap .i64 (y2 + (1 : Int)))))
    else
      (none))
  else
    (some true)
set_option maxRecDepth 100000 in
theorem f8.k1 (n : Nat) (x : ByteArray) (r1 : Bool) (m : Nat) (y : Int) : f8.L1 n x r1 (m + 1) y = f8.s1 n x r1 (f8.L1 n x r1 m) y := by kernel_rfl
theorem f8.l1 (n : Nat) (x : ByteArray) (r1 : Bool) : ∀ (m : Nat) (y2 : Int), f8.L1 n x r1 m y2 = iter (f8.s1 n x r1) m y2 :=
  loop_of (L := f8.L1 n x r1) (step := f8.s1 n x r1) (fun _ => rfl) (f8.k1 n x r1)
def f8.g (n : Nat) (x : ByteArray) : Option (Bool) :=
  bif bif (strEq x (⟨#[]⟩ : ByteArray)) then true else (decide ((x.size : Int) > (63 : Int))) then
    (some false)
  else
    (bif decide (0 ≤ (0 : Int)) && decide ((0 : Int) < (x.size : Int)) then
      (bif !(bif (byteAt x (0 : Int) == (95 : Int)) then true else (bif (decide (byteAt x (0 : Int) ≥ (97 : Int))) then (decide (byteAt x (0 : Int) ≤ (122 : Int))) else false)) then
        (some false)
      else
        ((F23 x).bind fun r1 =>
          bif r1 then
            (some false)
          else
            (iter (f8.s1 n x r1) n (0 : Int))))
    else
      (none))
def f8.q (n : Nat) (x : ByteArray) : Option (Bool) :=
  bif bif (strEq x (⟨#[]⟩ : ByteArray)) then true else (decide ((x.size : Int) > (63 : Int))) then
    (some false)
  else
    (bif decide (0 ≤ (0 : Int)) && decide ((0 : Int) < (x.size : Int)) then
      (bif !(bif (byteAt x (0 : Int) == (95 : Int)) then true else (bif (decide (byteAt x (0 : Int) ≥ (97 : Int))) then (decide (byteAt x (0 : Int) ≤ (122 : Int))) else false)) then
        (some false)
      else
        ((F23 x).bind fun r1 =>
          bif r1 then
            (some false)
          else
            (f8.L1 n x r1 n (0 : Int))))
    else
      (none))
set_option maxRecDepth 100000 in
theorem f8.eq (n : Nat) (x : ByteArray) : runK TT E8 n ann (tabC C8) 3 8 (argsL [(false, .str)] x) [] (readL [(false, .bool)]) = f8.g n x := by
  have h : runK TT E8 n ann (tabC C8) 3 8 (argsL [(false, .str)] x) [] (readL [(false, .bool)]) = f8.q n x := by kernel_rfl
  rw [h]
  simp only [f8.q, f8.g, f8.l1]
set_option maxRecDepth 100000 in
theorem f8.codes : CodesOk Tryz.prog E8 ann (tabC C8) := tabC_ok (by intro p hp; simp only [C8, List.mem_cons, List.not_mem_nil, or_false] at hp; rcases hp with rfl | rfl | rfl <;> first | exact Tryz.func8 | exact Tryz.func22 | exact Tryz.func24) (by kernel_rfl)
theorem f8.ok (h : ∀ X Y, F8 X = some Y → ∃ n, f8.g n X = some Y) (e23 : ConOk Tryz.prog 23 con23) : ConOk Tryz.prog 8 (mkCon [(false, .str)] [(false, .bool)] true F8) :=
  mkCon_ok mixed TT_ok (envC_ok e23 env0_ok) f8.codes (fun _ => List.all_eq_true.1 rfl) fun X Y hF => (h X Y hF).imp fun n hn => (f8.eq n X).trans hn
def con8 : Con := mkCon [(false, .str)] [(false, .bool)] true F8
/-! ### vellum/vellumref03.in -/
def E26 : FuncId → Option Con := env0
noncomputable def C26 : List (FuncId × Func) := [(26, Tryz.f26)]
def f26.h1 (x : (List ByteArray) × ByteArray) (y1 : Int) : List AV × List Ob := ([.val false [.sc (.sl .str) x.1], .val false [.sc .str x.2], .undef, .undef, .undef, .val false [.sc (.int .i64) y1]] ++ List.replicate 12 .undef, [])
def f26.L1 (n : Nat) (x : (List ByteArray) × ByteArray) (m1 : Nat) (y1 : Int) : Option (Bool) :=
  loopN (ann 26 2).keep 0 (fun fr H k => execK TT 0 E26 (inlD TT E26 n ann (tabC C26) 1) n (ann 26) (subC [1, 0, 1, 0, 0] (bodyOf Tryz.f26)) fr H k) m1 (f26.h1 x y1).1 (f26.h1 x y1).2 (kont TT 0 E26 (inlD TT E26 n ann (tabC C26) 1) n (ann 26) [1, 0, 1, 0] (bodyOf Tryz.f26) (endK TT Tryz.f26 (readL [(false, .bool)])))
def f26.s1 (n : Nat) (x : (List ByteArray) × ByteArray) (S1 : Int → Option (Bool)) (y1 : Int) : Option (Bool) :=
  bif decide (y1 < (x.1.length : Int)) then
    (bif decide (0 ≤ y1) && decide (y1 < (x.1.length : Int)) then
      (bif strEq (x.1.getD y1.toNat (Ty.dflt .str)) x.2 then
        (some true)
      else
        (S1 (IntKind.wrap .i64 (y1 + (1 : Int)))))
    else
      (none))
  else
    (some false)
set_option maxRecDepth 100000 in
theorem f26.k1 (n : Nat) (x : (List ByteArray) × ByteArray) (m : Nat) (y : Int) : f26.L1 n x (m + 1) y = f26.s1 n x (f26.L1 n x m) y := by kernel_rfl
theorem f26.l1 (n : Nat) (x : (List ByteArray) × ByteArray) : ∀ (m : Nat) (y1 : Int), f26.L1 n x m y1 = iter (f26.s1 n x) m y1 :=
  loop_of (L := f26.L1 n x) (step := f26.s1 n x) (fun _ => rfl) (f26.k1 n x)
def f26.g (n : Nat) (x : (List ByteArray) × ByteArray) : Option (Bool) :=
  iter (f26.s1 n x) n (0 : Int)
def f26.q (n : Nat) (x : (List ByteArray) × ByteArray) : Option (Bool) :=
  f26.L1 n x n (0 : Int)
set_option maxRecDepth 100000 in
theorem f26.eq (n : Nat) (x : (List ByteArray) × ByteArray) : runK TT E26 n ann (tabC C26) 1 26 (argsL [(false, .sl .str), (false, .str)] x) [] (readL [(false, .bool)]) = f26.g n x := by
  have h : runK TT E26 n ann (tabC C26) 1 26 (argsL [(false, .sl .str), (false, .str)] x) [] (readL [(false, .bool)]) = f26.q n x := by kernel_rfl
  rw [h]
  simp only [f26.q, f26.g, f26.l1]
set_option maxRecDepth 100000 in
theorem f26.codes : CodesOk Tryz.prog E26 ann (tabC C26) := tabC_ok (by intro p hp; simp only [C26, List.mem_cons, List.not_mem_nil, or_false] at hp; rcases hp with rfl <;> first | exact Tryz.func26) (by kernel_rfl)
theorem f26.ok (h : ∀ X Y, F26 X = some Y → ∃ n, f26.g n X = some Y)  : ConOk Tryz.prog 26 (mkCon [(false, .sl .str), (false, .str)] [(false, .bool)] true F26) :=
  mkCon_ok mixed TT_ok env0_ok f26.codes (fun _ => List.all_eq_true.1 rfl) fun X Y hF => (h X Y hF).imp fun n hn => (f26.eq n X).trans hn
def con26 : Con := mkCon [(false, .sl .str), (false, .str)] [(false, .bool)] true F26
/-! ### vellum/vellumref03.words -/
def E27 : FuncId → Option Con := env0
noncomputable def C27 : List (FuncId × Func) := [(27, Tryz.f27)]
def f27.g (n : Nat) (x : Unit) : Option ((List ByteArray)) :=
  some (List.take 55 ([(⟨#[97, 110, 100]⟩ : ByteArray), (⟨#[98, 111, 111, 108]⟩ : ByteArray), (⟨#[98, 121, 116, 101, 115]⟩ : ByteArray), (⟨#[99, 114, 101, 97, 116, 101]⟩ : ByteArray), (⟨#[100, 101, 102, 97, 117, 108, 116]⟩ : ByteArray), (⟨#[102, 97, 108, 115, 101]⟩ : ByteArray), (⟨#[102, 108, 111, 97, 116]⟩ : ByteArray), (⟨#[102, 111, 114, 101, 105, 103, 110]⟩ : ByteArray), (⟨#[105, 110]⟩ : ByteArray), (⟨#[105, 110, 100, 101, 120]⟩ : ByteArray), (⟨#[105, 110, 116]⟩ : ByteArray), (⟨#[105, 115]⟩ : ByteArray), (⟨#[107, 101, 121]⟩ : ByteArray), (⟨#[110, 111, 116]⟩ : ByteArray), (⟨#[110, 117, 108, 108]⟩ : ByteArray), (⟨#[111, 114]⟩ : ByteArray), (⟨#[112, 114, 105, 109, 97, 114, 121]⟩ : ByteArray), (⟨#[114, 101, 102, 101, 114, 101, 110, 99, 101, 115]⟩ : ByteArray), (⟨#[116, 97, 98, 108, 101]⟩ : ByteArray), (⟨#[116, 101, 120, 116]⟩ : ByteArray), (⟨#[116, 114, 117, 101]⟩ : ByteArray), (⟨#[117, 110, 105, 113, 117, 101]⟩ : ByteArray), (⟨#[97, 98, 111, 114, 116]⟩ : ByteArray), (⟨#[97, 115]⟩ : ByteArray), (⟨#[97, 115, 99]⟩ : ByteArray), (⟨#[97, 116]⟩ : ByteArray), (⟨#[97, 118, 103]⟩ : ByteArray), (⟨#[98, 101, 103, 105, 110]⟩ : ByteArray), (⟨#[98, 101, 116, 119, 101, 101, 110]⟩ : ByteArray), (⟨#[98, 121]⟩ : ByteArray), (⟨#[99, 111, 109, 109, 105, 116]⟩ : ByteArray), (⟨#[99, 111, 117, 110, 116]⟩ : ByteArray), (⟨#[100, 101, 108, 101, 116, 101]⟩ : ByteArray), (⟨#[100, 101, 115, 99]⟩ : ByteArray), (⟨#[100, 114, 111, 112]⟩ : ByteArray), (⟨#[102, 114, 111, 109]⟩ : ByteArray), (⟨#[103, 114, 111, 117, 112]⟩ : ByteArray), (⟨#[105, 110, 115, 101, 114, 116]⟩ : ByteArray), (⟨#[105, 110, 116, 111]⟩ : ByteArray), (⟨#[108, 105, 109, 105, 116]⟩ : ByteArray), (⟨#[109, 97, 120]⟩ : ByteArray), (⟨#[109, 105, 110]⟩ : ByteArray), (⟨#[111, 102]⟩ : ByteArray), (⟨#[111, 114, 100, 101, 114]⟩ : ByteArray), (⟨#[114, 101, 108, 101, 97, 115, 101]⟩ : ByteArray), (⟨#[114, 111, 108, 108, 98, 97, 99, 107]⟩ : ByteArray), (⟨#[115, 97, 118, 101, 112, 111, 105, 110, 116]⟩ : ByteArray), (⟨#[115, 101, 108, 101, 99, 116]⟩ : ByteArray), (⟨#[115, 101, 116]⟩ : ByteArray), (⟨#[115, 117, 109]⟩ : ByteArray), (⟨#[116, 111]⟩ : ByteArray), (⟨#[117, 112, 100, 97, 116, 101]⟩ : ByteArray), (⟨#[118, 97, 108, 117, 101, 115]⟩ : ByteArray), (⟨#[119, 104, 101, 114, 101]⟩ : ByteArray), (⟨#[119, 105, 116, 104]⟩ : ByteArray)]))
set_option maxRecDepth 100000 in
theorem f27.eq (n : Nat) (x : Unit) : runK TT E27 n ann (tabC C27) 1 27 (argsL [] x) [] (readL [(false, .sl .str)]) = f27.g n x := by
  kernel_rfl
set_option maxRecDepth 100000 in
theorem f27.codes : CodesOk Tryz.prog E27 ann (tabC C27) := tabC_ok (by intro p hp; simp only [C27, List.mem_cons, List.not_mem_nil, or_false] at hp; rcases hp with rfl <;> first | exact Tryz.func27) (by kernel_rfl)
theorem f27.ok (h : ∀ X Y, F27 X = some Y → ∃ n, f27.g n X = some Y)  : ConOk Tryz.prog 27 (mkCon [] [(false, .sl .str)] false F27) :=
  mkCon_ok mixed TT_ok env0_ok f27.codes (fun h => by cases h) fun X Y hF => (h X Y hF).imp fun n hn => (f27.eq n X).trans hn
def con27 : Con := mkCon [] [(false, .sl .str)] false F27
/-! ### vellum/vellumref03.Name -/
def E9 : FuncId → Option Con := (envC 27 con27 (envC 26 con26 env0))
noncomputable def C9 : List (FuncId × Func) := [(9, Tryz.f9), (25, Tryz.f25), (28, Tryz.f28)]
def f9.h1 (x : ByteArray) (r1 : (List ByteArray)) (r2 : Bool) (y3 : Int) : List AV × List Ob := ([.val false [.sc .str x], .undef, .undef, .val false [.sc (.int .i64) y3]] ++ List.replicate 37 .undef, [])
def f9.L1 (n : Nat) (x : ByteArray) (r1 : (List ByteArray)) (r2 : Bool) (m3 : Nat) (y3 : Int) : Option (Bool) :=
  loopN (ann 9 4).keep 0 (fun fr H k => execK TT 0 E9 (inlD TT E9 n ann (tabC C9) 3) n (ann 9) (subC [1, 1, 0, 1, 0, 0] (bodyOf Tryz.f9)) fr H k) m3 (f9.h1 x r1 r2 y3).1 (f9.h1 x r1 r2 y3).2 (kont TT 0 E9 (inlD TT E9 n ann (tabC C9) 3) n (ann 9) [1, 1, 0, 1, 0] (bodyOf Tryz.f9) (endK TT Tryz.f9 (readL [(false, .bool)])))
def f9.s1 (n : Nat) (x : ByteArray) (r1 : (List ByteArray)) (r2 : Bool) (S3 : Int → Option (Bool)) (y3 : Int) : Option (Bool) :=
  bif decide (y3 < (x.size : Int)) then
    (bif decide (0 ≤ y3) && decide (y3 < (x.size : Int)) then
      (bif !(bif (bif (decide (byteAt x y3 ≥ (97 : Int))) then (decide (byteAt x y3 ≤ (122 : Int))) else false) then true else (byteAt x y3 == (95 : Int))) then
        (bif decide (0 ≤ y3) && decide (y3 < (x.size : Int)) then
          (bif !(bif (decide (byteAt x y3 ≥ (48 : Int))) then (decide (byteAt x y3 ≤ (57 : Int))) else false) then
            (some false)
          else
            (S3 (IntKind.wrap .i64 (y3 + (1 : Int)))))
        else
          (none))
      else
        (S3 (IntKind.wrap .i64 (y3 + (1 : Int)))))
    else
      (none))
  else
    (some true)
set_option maxRecDepth 100000 in
theorem f9.k1 (n : Nat) (x : ByteArray) (r1 : (List ByteArray)) (r2 : Bool) (m : Nat) (y : Int) : f9.L1 n x r1 r2 (m + 1) y = f9.s1 n x r1 r2 (f9.L1 n x r1 r2 m) y := by kernel_rfl
theorem f9.l1 (n : Nat) (x : ByteArray) (r1 : (List ByteArray)) (r2 : Bool) : ∀ (m : Nat) (y3 : Int), f9.L1 n x r1 r2 m y3 = iter (f9.s1 n x r1 r2) m y3 :=
  loop_of (L := f9.L1 n x r1 r2) (step := f9.s1 n x r1 r2) (fun _ => rfl) (f9.k1 n x r1 r2)
def f9.g (n : Nat) (x : ByteArray) : Option (Bool) :=
  bif bif (decide ((x.size : Int) < (1 : Int))) then true else (decide ((x.size : Int) > (63 : Int))) then
    (some false)
  else
    (bif decide (0 ≤ (0 : Int)) && decide ((0 : Int) < (x.size : Int)) then
      (bif !(bif (bif (decide (byteAt x (0 : Int) ≥ (97 : Int))) then (decide (byteAt x (0 : Int) ≤ (122 : Int))) else false) then true else (byteAt x (0 : Int) == (95 : Int))) then
        (some false)
      else
        ((F27 ()).bind fun r1 =>
          (F26 (r1, x)).bind fun r2 =>
            bif r2 then
              (some false)
            else
              (iter (f9.s1 n x r1 r2) n (0 : Int))))
    else
      (none))
def f9.q (n : Nat) (x : ByteArray) : Option (Bool) :=
  bif bif (decide ((x.size : Int) < (1 : Int))) then true else (decide ((x.size : Int) > (63 : Int))) then
    (some false)
  else
    (bif decide (0 ≤ (0 : Int)) && decide ((0 : Int) < (x.size : Int)) then
      (bif !(bif (bif (decide (byteAt x (0 : Int) ≥ (97 : Int))) then (decide (byteAt x (0 : Int) ≤ (122 : Int))) else false) then true else (byteAt x (0 : Int) == (95 : Int))) then
        (some false)
      else
        ((F27 ()).bind fun r1 =>
          (F26 (r1, x)).bind fun r2 =>
            bif r2 then
              (some false)
            else
              (f9.L1 n x r1 r2 n (0 : Int))))
    else
      (none))
set_option maxRecDepth 100000 in
theorem f9.eq (n : Nat) (x : ByteArray) : runK TT E9 n ann (tabC C9) 3 9 (argsL [(false, .str)] x) [] (readL [(false, .bool)]) = f9.g n x := by
  have h : runK TT E9 n ann (tabC C9) 3 9 (argsL [(false, .str)] x) [] (readL [(false, .bool)]) = f9.q n x := by kernel_rfl
  rw [h]
  simp only [f9.q, f9.g, f9.l1]
set_option maxRecDepth 100000 in
theorem f9.codes : CodesOk Tryz.prog E9 ann (tabC C9) := tabC_ok (by intro p hp; simp only [C9, List.mem_cons, List.not_mem_nil, or_false] at hp; rcases hp with rfl | rfl | rfl <;> first | exact Tryz.func9 | exact Tryz.func25 | exact Tryz.func28) (by kernel_rfl)
theorem f9.ok (h : ∀ X Y, F9 X = some Y → ∃ n, f9.g n X = some Y) (e26 : ConOk Tryz.prog 26 con26) (e27 : ConOk Tryz.prog 27 con27) : ConOk Tryz.prog 9 (mkCon [(false, .str)] [(false, .bool)] true F9) :=
  mkCon_ok mixed TT_ok (envC_ok e27 (envC_ok e26 env0_ok)) f9.codes (fun _ => List.all_eq_true.1 rfl) fun X Y hF => (h X Y hF).imp fun n hn => (f9.eq n X).trans hn
def con9 : Con := mkCon [(false, .str)] [(false, .bool)] true F9
/-! ### slices.Index[[]int,int] -/
def E67 : FuncId → Option Con := env0
noncomputable def C67 : List (FuncId × Func) := [(67, Tryz.f67)]
def f67.h1 (x : (List Int) × Int) (y1 : Int) : List AV × List Ob := ([.val false [.sc (.sl (.int .i64)) x.1], .val false [.sc (.int .i64) x.2], .undef, .undef, .undef, .undef, .undef, .val false [.sc (.int .i64) (x.1.length : Int)], .val false [.sc (.int .i64) y1]] ++ List.replicate 10 .undef, [])
def f67.L1 (n : Nat) (x : (List Int) × Int) (m1 : Nat) (y1 : Int) : Option (Int) :=
  loopN (ann 67 2).keep 0 (fun fr H k => execK TT 0 E67 (inlD TT E67 n ann (tabC C67) 1) n (ann 67) (subC [1, 0, 1, 0, 0] (bodyOf Tryz.f67)) fr H k) m1 (f67.h1 x y1).1 (f67.h1 x y1).2 (kont TT 0 E67 (inlD TT E67 n ann (tabC C67) 1) n (ann 67) [1, 0, 1, 0] (bodyOf Tryz.f67) (endK TT Tryz.f67 (readL [(false, .int .i64)])))
def f67.s1 (n : Nat) (x : (List Int) × Int) (S1 : Int → Option (Int)) (y1 : Int) : Option (Int) :=
  bif decide (y1 < (x.1.length : Int)) then
    (bif decide (0 ≤ y1) && decide (y1 < (x.1.length : Int)) then
      (bif x.2 == x.1.getD y1.toNat (Ty.dflt (.int .i64)) then
        (some y1)
      else
        (S1 (IntKind.wrap .i64 (y1 + (1 : Int)))))
    else
      (none))
  else
    (some (-1 : Int))
set_option maxRecDepth 100000 in
theorem f67.k1 (n : Nat) (x : (List Int) × Int) (m : Nat) (y : Int) : f67.L1 n x (m + 1) y = f67.s1 n x (f67.L1 n x m) y := by kernel_rfl
theorem f67.l1 (n : Nat) (x : (List Int) × Int) : ∀ (m : Nat) (y1 : Int), f67.L1 n x m y1 = iter (f67.s1 n x) m y1 :=
  loop_of (L := f67.L1 n x) (step := f67.s1 n x) (fun _ => rfl) (f67.k1 n x)
def f67.g (n : Nat) (x : (List Int) × Int) : Option (Int) :=
  iter (f67.s1 n x) n (0 : Int)
def f67.q (n : Nat) (x : (List Int) × Int) : Option (Int) :=
  f67.L1 n x n (0 : Int)
set_option maxRecDepth 100000 in
theorem f67.eq (n : Nat) (x : (List Int) × Int) : runK TT E67 n ann (tabC C67) 1 67 (argsL [(false, .sl (.int .i64)), (false, .int .i64)] x) [] (readL [(false, .int .i64)]) = f67.g n x := by
  have h : runK TT E67 n ann (tabC C67) 1 67 (argsL [(false, .sl (.int .i64)), (false, .int .i64)] x) [] (readL [(false, .int .i64)]) = f67.q n x := by kernel_rfl
  rw [h]
  simp only [f67.q, f67.g, f67.l1]
set_option maxRecDepth 100000 in
theorem f67.codes : CodesOk Tryz.prog E67 ann (tabC C67) := tabC_ok (by intro p hp; simp only [C67, List.mem_cons, List.not_mem_nil, or_false] at hp; rcases hp with rfl <;> first | exact Tryz.func67) (by kernel_rfl)
theorem f67.ok (h : ∀ X Y, F67 X = some Y → ∃ n, f67.g n X = some Y)  : ConOk Tryz.prog 67 (mkCon [(false, .sl (.int .i64)), (false, .int .i64)] [(false, .int .i64)] true F67) :=
  mkCon_ok mixed TT_ok env0_ok f67.codes (fun _ => List.all_eq_true.1 rfl) fun X Y hF => (h X Y hF).imp fun n hn => (f67.eq n X).trans hn
def con67 : Con := mkCon [(false, .sl (.int .i64)), (false, .int .i64)] [(false, .int .i64)] true F67
/-! ### slices.Contains[[]int,int] -/
def E53 : FuncId → Option Con := (envC 67 con67 env0)
noncomputable def C53 : List (FuncId × Func) := [(53, Tryz.f53)]
def f53.g (n : Nat) (x : (List Int) × Int) : Option (Bool) :=
  (F67 x).bind fun r1 =>
    some (decide (r1 ≥ (0 : Int)))
set_option maxRecDepth 100000 in
theorem f53.eq (n : Nat) (x : (List Int) × Int) : runK TT E53 n ann (tabC C53) 1 53 (argsL [(false, .sl (.int .i64)), (false, .int .i64)] x) [] (readL [(false, .bool)]) = f53.g n x := by
  kernel_rfl
set_option maxRecDepth 100000 in
theorem f53.codes : CodesOk Tryz.prog E53 ann (tabC C53) := tabC_ok (by intro p hp; simp only [C53, List.mem_cons, List.not_mem_nil, or_false] at hp; rcases hp with rfl <;> first | exact Tryz.func53) (by kernel_rfl)
theorem f53.ok (h : ∀ X Y, F53 X = some Y → ∃ n, f53.g n X = some Y) (e67 : ConOk Tryz.prog 67 con67) : ConOk Tryz.prog 53 (mkCon [(false, .sl (.int .i64)), (false, .int .i64)] [(false, .bool)] true F53) :=
  mkCon_ok mixed TT_ok (envC_ok e67 env0_ok) f53.codes (fun _ => List.all_eq_true.1 rfl) fun X Y hF => (h X Y hF).imp fun n hn => (f53.eq n X).trans hn
def con53 : Con := mkCon [(false, .sl (.int .i64)), (false, .int .i64)] [(false, .bool)] true F53
/-! ### vellum/schema.columnsOf -/
def E33 : FuncId → Option Con := (envC 53 con53 env0)
noncomputable def C33 : List (FuncId × Func) := [(33, Tryz.f33)]
def f33.h1 (x : dTable × (List Int)) (y1 : Int) : List AV × List Ob := ([.undef, .val false [.sc (.sl (.int .i64)) x.2], .val false [.ptr 0 0], .undef, .undef, .undef, .undef, .undef, .undef, .undef, .undef, .undef, .undef, .undef, .undef, .val false [.sc (.sl (.int .i64)) x.2], .val false [.sc (.int .i64) (x.2.length : Int)], .val false [.sc (.int .i64) y1]] ++ List.replicate 21 .undef, [.box [.sc .str x.1.1, .sc (.sl tColumn) x.1.2.1, .sc (.sl (.int .i64)) x.1.2.2.1, .sc (.sl tIndex) x.1.2.2.2.1, .sc (.sl tRef) x.1.2.2.2.2]])
def f33.L1 (n : Nat) (x : dTable × (List Int)) (m1 : Nat) (y1 : Int) : Option (Bool) :=
  loopN (ann 33 4).keep 1 (fun fr H k => execK TT 0 E33 (inlD TT E33 n ann (tabC C33) 1) n (ann 33) (subC [1, 1, 0, 1, 0, 0] (bodyOf Tryz.f33)) fr H k) m1 (f33.h1 x y1).1 (f33.h1 x y1).2 (kont TT 0 E33 (inlD TT E33 n ann (tabC C33) 1) n (ann 33) [1, 1, 0, 1, 0] (bodyOf Tryz.f33) (endK TT Tryz.f33 (readL [(false, .bool)])))
def f33.s1 (n : Nat) (x : dTable × (List Int)) (S1 : Int → Option (Bool)) (y1 : Int) : Option (Bool) :=
  bif decide (y1 < (x.2.length : Int)) then
    (bif decide (0 ≤ y1) && decide (y1 < (x.2.length : Int)) then
      (bif bif (decide (x.2.getD y1.toNat (Ty.dflt (.int .i64)) < (0 : Int))) then true else (decide (x.2.getD y1.toNat (Ty.dflt (.int .i64)) ≥ (x.1.2.1.length : Int))) then
        (some false)
      else
        (bif decide (0 ≤ y1) && decide (y1 ≤ (x.2.length : Int)) then
          ((F53 (List.take y1.toNat x.2, x.2.getD y1.toNat (Ty.dflt (.int .i64)))).bind fun r2 =>
            bif r2 then
              (some false)
            else
              (S1 (IntKind.wrap .i64 (y1 + (1 : Int)))))
        else
          (none)))
    else
      (none))
  else
    (some true)
set_option maxRecDepth 100000 in
theorem f33.k1 (n : Nat) (x : dTable × (List Int)) (m : Nat) (y : Int) : f33.L1 n x (m + 1) y = f33.s1 n x (f33.L1 n x m) y := by kernel_rfl
theorem f33.l1 (n : Nat) (x : dTable × (List Int)) : ∀ (m : Nat) (y1 : Int), f33.L1 n x m y1 = iter (f33.s1 n x) m y1 :=
  loop_of (L := f33.L1 n x) (step := f33.s1 n x) (fun _ => rfl) (f33.k1 n x)
def f33.g (n : Nat) (x : dTable × (List Int)) : Option (Bool) :=
  bif bif (decide ((x.2.length : Int) < (1 : Int))) then true else (decide ((x.2.length : Int) > (64 : Int))) then
    (some false)
  else
    (iter (f33.s1 n x) n (0 : Int))
def f33.q (n : Nat) (x : dTable × (List Int)) : Option (Bool) :=
  bif bif (decide ((x.2.length : Int) < (1 : Int))) then true else (decide ((x.2.length : Int) > (64 : Int))) then
    (some false)
  else
    (f33.L1 n x n (0 : Int))
set_option maxRecDepth 100000 in
theorem f33.eq (n : Nat) (x : dTable × (List Int)) : runK TT E33 n ann (tabC C33) 1 33 (argsL [(true, tTable), (false, .sl (.int .i64))] x) [] (readL [(false, .bool)]) = f33.g n x := by
  have h : runK TT E33 n ann (tabC C33) 1 33 (argsL [(true, tTable), (false, .sl (.int .i64))] x) [] (readL [(false, .bool)]) = f33.q n x := by kernel_rfl
  rw [h]
  simp only [f33.q, f33.g, f33.l1]
set_option maxRecDepth 100000 in
theorem f33.codes : CodesOk Tryz.prog E33 ann (tabC C33) := tabC_ok (by intro p hp; simp only [C33, List.mem_cons, List.not_mem_nil, or_false] at hp; rcases hp with rfl <;> first | exact Tryz.func33) (by kernel_rfl)
theorem f33.ok (h : ∀ X Y, F33 X = some Y → ∃ n, f33.g n X = some Y) (e53 : ConOk Tryz.prog 53 con53) : ConOk Tryz.prog 33 (mkCon [(true, tTable), (false, .sl (.int .i64))] [(false, .bool)] true F33) :=
  mkCon_ok mixed TT_ok (envC_ok e53 env0_ok) f33.codes (fun _ => List.all_eq_true.1 rfl) fun X Y hF => (h X Y hF).imp fun n hn => (f33.eq n X).trans hn
def con33 : Con := mkCon [(true, tTable), (false, .sl (.int .i64))] [(false, .bool)] true F33
/-! ### slices.IndexFunc[[]vellum/api.Column,vellum/api.Column] -/
def E45a : FuncId → Option Con := env0
noncomputable def C45a : List (FuncId × Func) := [(45, Tryz.f45), (46, Tryz.f46)]
def f45a.h1 (x : (List dColumn) × ByteArray) (y1 : Int) : List AV × List Ob := ([.val false [.sc (.sl tColumn) x.1], .val false [.fnr 46 [⟨.str, x.2⟩]], .undef, .undef, .undef, .undef, .undef, .val false [.sc (.int .i64) (x.1.length : Int)], .val false [.sc (.int .i64) y1]] ++ List.replicate 10 .undef, [])
def f45a.L1 (n : Nat) (x : (List dColumn) × ByteArray) (m1 : Nat) (y1 : Int) : Option (Int) :=
  loopN (ann 45 2).keep 0 (fun fr H k => execK TT 0 E45a (inlD TT E45a n ann (tabC C45a) 2) n (ann 45) (subC [1, 0, 1, 0, 0] (bodyOf Tryz.f45)) fr H k) m1 (f45a.h1 x y1).1 (f45a.h1 x y1).2 (kont TT 0 E45a (inlD TT E45a n ann (tabC C45a) 2) n (ann 45) [1, 0, 1, 0] (bodyOf Tryz.f45) (endK TT Tryz.f45 (readL [(false, .int .i64)])))
def f45a.s1 (n : Nat) (x : (List dColumn) × ByteArray) (S1 : Int → Option (Int)) (y1 : Int) : Option (Int) :=
  bif decide (y1 < (x.1.length : Int)) then
    (bif decide (0 ≤ y1) && decide (y1 < (x.1.length : Int)) then
      (bif strEq (x.1.getD y1.toNat tColumn.dflt).1 x.2 then
        (some y1)
      else
        (S1 (IntKind.wrap .i64 (y1 + (1 : Int)))))
    else
      (none))
  else
    (some (-1 : Int))
set_option maxRecDepth 100000 in
theorem f45a.k1 (n : Nat) (x : (List dColumn) × ByteArray) (m : Nat) (y : Int) : f45a.L1 n x (m + 1) y = f45a.s1 n x (f45a.L1 n x m) y := by kernel_rfl
theorem f45a.l1 (n : Nat) (x : (List dColumn) × ByteArray) : ∀ (m : Nat) (y1 : Int), f45a.L1 n x m y1 = iter (f45a.s1 n x) m y1 :=
  loop_of (L := f45a.L1 n x) (step := f45a.s1 n x) (fun _ => rfl) (f45a.k1 n x)
def f45a.g (n : Nat) (x : (List dColumn) × ByteArray) : Option (Int) :=
  iter (f45a.s1 n x) n (0 : Int)
def f45a.q (n : Nat) (x : (List dColumn) × ByteArray) : Option (Int) :=
  f45a.L1 n x n (0 : Int)
set_option maxRecDepth 100000 in
theorem f45a.eq (n : Nat) (x : (List dColumn) × ByteArray) : runK TT E45a n ann (tabC C45a) 2 45 (avL [.dat false (.sl tColumn), .clo 46 [(true, .str)]] x) [] (readL [(false, .int .i64)]) = f45a.g n x := by
  have h : runK TT E45a n ann (tabC C45a) 2 45 (avL [.dat false (.sl tColumn), .clo 46 [(true, .str)]] x) [] (readL [(false, .int .i64)]) = f45a.q n x := by kernel_rfl
  rw [h]
  simp only [f45a.q, f45a.g, f45a.l1]
set_option maxRecDepth 100000 in
theorem f45a.codes : CodesOk Tryz.prog E45a ann (tabC C45a) := tabC_ok (by intro p hp; simp only [C45a, List.mem_cons, List.not_mem_nil, or_false] at hp; rcases hp with rfl | rfl <;> first | exact Tryz.func45 | exact Tryz.func46) (by kernel_rfl)
theorem f45a.ok (h : ∀ X Y, F45a X = some Y → ∃ n, f45a.g n X = some Y)  : ConOk Tryz.prog 45 (gCon [(false, .int .i64)] (PmL [.dat false (.sl tColumn), .clo 46 [(true, .str)]]) (fun l H => lookPL H [.dat false (.sl tColumn), .clo 46 [(true, .str)]] l) F45a) :=
  mkConF_ok mixed TT_ok env0_ok f45a.codes (List.all_eq_true.1 rfl) fun X Y hF => (h X Y hF).imp fun n hn => (f45a.eq n X).trans hn
/-! ### slices.IndexFunc[[]vellum/api.Column,vellum/api.Column] -/
def E45b : FuncId → Option Con := env0
noncomputable def C45b : List (FuncId × Func) := [(45, Tryz.f45), (52, Tryz.f52)]
def f45b.h1 (x : (List dColumn) × dColumn) (y1 : Int) : List AV × List Ob := ([.val false [.sc (.sl tColumn) x.1], .val false [.fnr 52 [⟨tColumn, x.2⟩]], .undef, .undef, .undef, .undef, .undef, .val false [.sc (.int .i64) (x.1.length : Int)], .val false [.sc (.int .i64) y1]] ++ List.replicate 10 .undef, [])
def f45b.L1 (n : Nat) (x : (List dColumn) × dColumn) (m1 : Nat) (y1 : Int) : Option (Int) :=
  loopN (ann 45 2).keep 0 (fun fr H k => execK TT 0 E45b (inlD TT E45b n ann (tabC C45b) 2) n (ann 45) (subC [1, 0, 1, 0, 0] (bodyOf Tryz.f45)) fr H k) m1 (f45b.h1 x y1).1 (f45b.h1 x y1).2 (kont TT 0 E45b (inlD TT E45b n ann (tabC C45b) 2) n (ann 45) [1, 0, 1, 0] (bodyOf Tryz.f45) (endK TT Tryz.f45 (readL [(false, .int .i64)])))
def f45b.s1 (n : Nat) (x : (List dColumn) × dColumn) (S1 : Int → Option (Int)) (y1 : Int) : Option (Int) :=
  bif decide (y1 < (x.1.length : Int)) then
    (bif decide (0 ≤ y1) && decide (y1 < (x.1.length : Int)) then
      (bif strEq (x.1.getD y1.toNat tColumn.dflt).1 x.2.1 then
        (some y1)
      else
        (S1 (IntKind.wrap .i64 (y1 + (1 : Int)))))
    else
      (none))
  else
    (some (-1 : Int))
set_option maxRecDepth 100000 in
theorem f45b.k1 (n : Nat) (x : (List dColumn) × dColumn) (m : Nat) (y : Int) : f45b.L1 n x (m + 1) y = f45b.s1 n x (f45b.L1 n x m) y := by kernel_rfl
theorem f45b.l1 (n : Nat) (x : (List dColumn) × dColumn) : ∀ (m : Nat) (y1 : Int), f45b.L1 n x m y1 = iter (f45b.s1 n x) m y1 :=
  loop_of (L := f45b.L1 n x) (step := f45b.s1 n x) (fun _ => rfl) (f45b.k1 n x)
def f45b.g (n : Nat) (x : (List dColumn) × dColumn) : Option (Int) :=
  iter (f45b.s1 n x) n (0 : Int)
def f45b.q (n : Nat) (x : (List dColumn) × dColumn) : Option (Int) :=
  f45b.L1 n x n (0 : Int)
set_option maxRecDepth 100000 in
theorem f45b.eq (n : Nat) (x : (List dColumn) × dColumn) : runK TT E45b n ann (tabC C45b) 2 45 (avL [.dat false (.sl tColumn), .clo 52 [(true, tColumn)]] x) [] (readL [(false, .int .i64)]) = f45b.g n x := by
  have h : runK TT E45b n ann (tabC C45b) 2 45 (avL [.dat false (.sl tColumn), .clo 52 [(true, tColumn)]] x) [] (readL [(false, .int .i64)]) = f45b.q n x := by kernel_rfl
  rw [h]
  simp only [f45b.q, f45b.g, f45b.l1]
set_option maxRecDepth 100000 in
theorem f45b.codes : CodesOk Tryz.prog E45b ann (tabC C45b) := tabC_ok (by intro p hp; simp only [C45b, List.mem_cons, List.not_mem_nil, or_false] at hp; rcases hp with rfl | rfl <;> first | exact Tryz.func45 | exact Tryz.func52) (by kernel_rfl)
theorem f45b.ok (h : ∀ X Y, F45b X = some Y → ∃ n, f45b.g n X = some Y)  : ConOk Tryz.prog 45 (gCon [(false, .int .i64)] (PmL [.dat false (.sl tColumn), .clo 52 [(true, tColumn)]]) (fun l H => lookPL H [.dat false (.sl tColumn), .clo 52 [(true, tColumn)]] l) F45b) :=
  mkConF_ok mixed TT_ok env0_ok f45b.codes (List.all_eq_true.1 rfl) fun X Y hF => (h X Y hF).imp fun n hn => (f45b.eq n X).trans hn
def con45 : Con := gCon [(false, .int .i64)] ((PmL [.dat false (.sl tColumn), .clo 46 [(true, .str)]]) ⊕ (PmL [.dat false (.sl tColumn), .clo 52 [(true, tColumn)]])) (orLook 46 (fun l H => lookPL H [.dat false (.sl tColumn), .clo 46 [(true, .str)]] l) (fun l H => lookPL H [.dat false (.sl tColumn), .clo 52 [(true, tColumn)]] l)) (orF F45a F45b)
/-! ### slices.ContainsFunc[[]vellum/api.Column,vellum/api.Column] -/
def E51 : FuncId → Option Con := (envC 45 con45 env0)
noncomputable def C51 : List (FuncId × Func) := [(51, Tryz.f51), (52, Tryz.f52)]
def f51.g (n : Nat) (x : (List dColumn) × dColumn) : Option (Bool) :=
  (F45b x).bind fun r1 =>
    some (decide (r1 ≥ (0 : Int)))
set_option maxRecDepth 100000 in
theorem f51.eq (n : Nat) (x : (List dColumn) × dColumn) : runK TT E51 n ann (tabC C51) 2 51 (avL [.dat false (.sl tColumn), .clo 52 [(true, tColumn)]] x) [] (readL [(false, .bool)]) = f51.g n x := by
  kernel_rfl
set_option maxRecDepth 100000 in
theorem f51.codes : CodesOk Tryz.prog E51 ann (tabC C51) := tabC_ok (by intro p hp; simp only [C51, List.mem_cons, List.not_mem_nil, or_false] at hp; rcases hp with rfl | rfl <;> first | exact Tryz.func51 | exact Tryz.func52) (by kernel_rfl)
theorem f51.ok (h : ∀ X Y, F51 X = some Y → ∃ n, f51.g n X = some Y) (e45 : ConOk Tryz.prog 45 con45) : ConOk Tryz.prog 51 (mkConF [.dat false (.sl tColumn), .clo 52 [(true, tColumn)]] [(false, .bool)] F51) :=
  mkConF_ok mixed TT_ok (envC_ok e45 env0_ok) f51.codes (List.all_eq_true.1 rfl) fun X Y hF => (h X Y hF).imp fun n hn => (f51.eq n X).trans hn
def con51 : Con := mkConF [.dat false (.sl tColumn), .clo 52 [(true, tColumn)]] [(false, .bool)] F51
/-! ### slices.IndexFunc[[]int,int] -/
def E54 : FuncId → Option Con := env0
noncomputable def C54 : List (FuncId × Func) := [(54, Tryz.f54), (35, Tryz.f35)]
def f54.h1 (x : (List Int) × dTable) (y1 : Int) : List AV × List Ob := ([.val false [.sc (.sl (.int .i64)) x.1], .val false [.fnr 35 [⟨tTable, x.2⟩]], .undef, .undef, .undef, .undef, .undef, .val false [.sc (.int .i64) (x.1.length : Int)], .val false [.sc (.int .i64) y1]] ++ List.replicate 10 .undef, [])
def f54.L1 (n : Nat) (x : (List Int) × dTable) (m1 : Nat) (y1 : Int) : Option (Int) :=
  loopN (ann 54 2).keep 0 (fun fr H k => execK TT 0 E54 (inlD TT E54 n ann (tabC C54) 2) n (ann 54) (subC [1, 0, 1, 0, 0] (bodyOf Tryz.f54)) fr H k) m1 (f54.h1 x y1).1 (f54.h1 x y1).2 (kont TT 0 E54 (inlD TT E54 n ann (tabC C54) 2) n (ann 54) [1, 0, 1, 0] (bodyOf Tryz.f54) (endK TT Tryz.f54 (readL [(false, .int .i64)])))
def f54.s1 (n : Nat) (x : (List Int) × dTable) (S1 : Int → Option (Int)) (y1 : Int) : Option (Int) :=
  bif decide (y1 < (x.1.length : Int)) then
    (bif decide (0 ≤ y1) && decide (y1 < (x.1.length : Int)) then
      (bif decide (0 ≤ x.1.getD y1.toNat (Ty.dflt (.int .i64))) && decide (x.1.getD y1.toNat (Ty.dflt (.int .i64)) < (x.2.2.1.length : Int)) then
        (bif (x.2.2.1.getD ((x.1.getD y1.toNat (Ty.dflt (.int .i64))).toNat) tColumn.dflt).2.2.1 then
          (some y1)
        else
          (S1 (IntKind.wrap .i64 (y1 + (1 : Int)))))
      else
        (none))
    else
      (none))
  else
    (some (-1 : Int))
set_option maxRecDepth 100000 in
theorem f54.k1 (n : Nat) (x : (List Int) × dTable) (m : Nat) (y : Int) : f54.L1 n x (m + 1) y = f54.s1 n x (f54.L1 n x m) y := by kernel_rfl
theorem f54.l1 (n : Nat) (x : (List Int) × dTable) : ∀ (m : Nat) (y1 : Int), f54.L1 n x m y1 = iter (f54.s1 n x) m y1 :=
  loop_of (L := f54.L1 n x) (step := f54.s1 n x) (fun _ => rfl) (f54.k1 n x)
def f54.g (n : Nat) (x : (List Int) × dTable) : Option (Int) :=
  iter (f54.s1 n x) n (0 : Int)
def f54.q (n : Nat) (x : (List Int) × dTable) : Option (Int) :=
  f54.L1 n x n (0 : Int)
set_option maxRecDepth 100000 in
theorem f54.eq (n : Nat) (x : (List Int) × dTable) : runK TT E54 n ann (tabC C54) 2 54 (avL [.dat false (.sl (.int .i64)), .clo 35 [(true, tTable)]] x) [] (readL [(false, .int .i64)]) = f54.g n x := by
  have h : runK TT E54 n ann (tabC C54) 2 54 (avL [.dat false (.sl (.int .i64)), .clo 35 [(true, tTable)]] x) [] (readL [(false, .int .i64)]) = f54.q n x := by kernel_rfl
  rw [h]
  simp only [f54.q, f54.g, f54.l1]
set_option maxRecDepth 100000 in
theorem f54.codes : CodesOk Tryz.prog E54 ann (tabC C54) := tabC_ok (by intro p hp; simp only [C54, List.mem_cons, List.not_mem_nil, or_false] at hp; rcases hp with rfl | rfl <;> first | exact Tryz.func54 | exact Tryz.func35) (by kernel_rfl)
theorem f54.ok (h : ∀ X Y, F54 X = some Y → ∃ n, f54.g n X = some Y)  : ConOk Tryz.prog 54 (mkConF [.dat false (.sl (.int .i64)), .clo 35 [(true, tTable)]] [(false, .int .i64)] F54) :=
  mkConF_ok mixed TT_ok env0_ok f54.codes (List.all_eq_true.1 rfl) fun X Y hF => (h X Y hF).imp fun n hn => (f54.eq n X).trans hn
def con54 : Con := mkConF [.dat false (.sl (.int .i64)), .clo 35 [(true, tTable)]] [(false, .int .i64)] F54
/-! ### slices.ContainsFunc[[]int,int] -/
def E34 : FuncId → Option Con := (envC 54 con54 env0)
noncomputable def C34 : List (FuncId × Func) := [(34, Tryz.f34), (35, Tryz.f35)]
def f34.g (n : Nat) (x : (List Int) × dTable) : Option (Bool) :=
  (F54 x).bind fun r1 =>
    some (decide (r1 ≥ (0 : Int)))
set_option maxRecDepth 100000 in
theorem f34.eq (n : Nat) (x : (List Int) × dTable) : runK TT E34 n ann (tabC C34) 2 34 (avL [.dat false (.sl (.int .i64)), .clo 35 [(true, tTable)]] x) [] (readL [(false, .bool)]) = f34.g n x := by
  kernel_rfl
set_option maxRecDepth 100000 in
theorem f34.codes : CodesOk Tryz.prog E34 ann (tabC C34) := tabC_ok (by intro p hp; simp only [C34, List.mem_cons, List.not_mem_nil, or_false] at hp; rcases hp with rfl | rfl <;> first | exact Tryz.func34 | exact Tryz.func35) (by kernel_rfl)
theorem f34.ok (h : ∀ X Y, F34 X = some Y → ∃ n, f34.g n X = some Y) (e54 : ConOk Tryz.prog 54 con54) : ConOk Tryz.prog 34 (mkConF [.dat false (.sl (.int .i64)), .clo 35 [(true, tTable)]] [(false, .bool)] F34) :=
  mkConF_ok mixed TT_ok (envC_ok e54 env0_ok) f34.codes (List.all_eq_true.1 rfl) fun X Y hF => (h X Y hF).imp fun n hn => (f34.eq n X).trans hn
def con34 : Con := mkConF [.dat false (.sl (.int .i64)), .clo 35 [(true, tTable)]] [(false, .bool)] F34
/-! ### slices.IndexFunc[[]vellum/api.Index,vellum/api.Index] -/
def E55 : FuncId → Option Con := env0
noncomputable def C55 : List (FuncId × Func) := [(55, Tryz.f55), (37, Tryz.f37)]
def f55.h1 (x : (List dIndex) × dIndex) (y1 : Int) : List AV × List Ob := ([.val false [.sc (.sl tIndex) x.1], .val false [.fnr 37 [⟨tIndex, x.2⟩]], .undef, .undef, .undef, .undef, .undef, .val false [.sc (.int .i64) (x.1.length : Int)], .val false [.sc (.int .i64) y1]] ++ List.replicate 10 .undef, [])
def f55.L1 (n : Nat) (x : (List dIndex) × dIndex) (m1 : Nat) (y1 : Int) : Option (Int) :=
  loopN (ann 55 2).keep 0 (fun fr H k => execK TT 0 E55 (inlD TT E55 n ann (tabC C55) 2) n (ann 55) (subC [1, 0, 1, 0, 0] (bodyOf Tryz.f55)) fr H k) m1 (f55.h1 x y1).1 (f55.h1 x y1).2 (kont TT 0 E55 (inlD TT E55 n ann (tabC C55) 2) n (ann 55) [1, 0, 1, 0] (bodyOf Tryz.f55) (endK TT Tryz.f55 (readL [(false, .int .i64)])))
def f55.s1 (n : Nat) (x : (List dIndex) × dIndex) (S1 : Int → Option (Int)) (y1 : Int) : Option (Int) :=
  bif decide (y1 < (x.1.length : Int)) then
    (bif decide (0 ≤ y1) && decide (y1 < (x.1.length : Int)) then
      (bif strEq (x.1.getD y1.toNat tIndex.dflt).1 x.2.1 then
        (some y1)
      else
        (S1 (IntKind.wrap .i64 (y1 + (1 : Int)))))
    else
      (none))
  else
    (some (-1 : Int))
set_option maxRecDepth 100000 in
theorem f55.k1 (n : Nat) (x : (List dIndex) × dIndex) (m : Nat) (y : Int) : f55.L1 n x (m + 1) y = f55.s1 n x (f55.L1 n x m) y := by kernel_rfl
theorem f55.l1 (n : Nat) (x : (List dIndex) × dIndex) : ∀ (m : Nat) (y1 : Int), f55.L1 n x m y1 = iter (f55.s1 n x) m y1 :=
  loop_of (L := f55.L1 n x) (step := f55.s1 n x) (fun _ => rfl) (f55.k1 n x)
def f55.g (n : Nat) (x : (List dIndex) × dIndex) : Option (Int) :=
  iter (f55.s1 n x) n (0 : Int)
def f55.q (n : Nat) (x : (List dIndex) × dIndex) : Option (Int) :=
  f55.L1 n x n (0 : Int)
set_option maxRecDepth 100000 in
theorem f55.eq (n : Nat) (x : (List dIndex) × dIndex) : runK TT E55 n ann (tabC C55) 2 55 (avL [.dat false (.sl tIndex), .clo 37 [(true, tIndex)]] x) [] (readL [(false, .int .i64)]) = f55.g n x := by
  have h : runK TT E55 n ann (tabC C55) 2 55 (avL [.dat false (.sl tIndex), .clo 37 [(true, tIndex)]] x) [] (readL [(false, .int .i64)]) = f55.q n x := by kernel_rfl
  rw [h]
  simp only [f55.q, f55.g, f55.l1]
set_option maxRecDepth 100000 in
theorem f55.codes : CodesOk Tryz.prog E55 ann (tabC C55) := tabC_ok (by intro p hp; simp only [C55, List.mem_cons, List.not_mem_nil, or_false] at hp; rcases hp with rfl | rfl <;> first | exact Tryz.func55 | exact Tryz.func37) (by kernel_rfl)
theorem f55.ok (h : ∀ X Y, F55 X = some Y → ∃ n, f55.g n X = some Y)  : ConOk Tryz.prog 55 (mkConF [.dat false (.sl tIndex), .clo 37 [(true, tIndex)]] [(false, .int .i64)] F55) :=
  mkConF_ok mixed TT_ok env0_ok f55.codes (List.all_eq_true.1 rfl) fun X Y hF => (h X Y hF).imp fun n hn => (f55.eq n X).trans hn
def con55 : Con := mkConF [.dat false (.sl tIndex), .clo 37 [(true, tIndex)]] [(false, .int .i64)] F55
/-! ### slices.ContainsFunc[[]vellum/api.Index,vellum/api.Index] -/
def E36 : FuncId → Option Con := (envC 55 con55 env0)
noncomputable def C36 : List (FuncId × Func) := [(36, Tryz.f36), (37, Tryz.f37)]
def f36.g (n : Nat) (x : (List dIndex) × dIndex) : Option (Bool) :=
  (F55 x).bind fun r1 =>
    some (decide (r1 ≥ (0 : Int)))
set_option maxRecDepth 100000 in
theorem f36.eq (n : Nat) (x : (List dIndex) × dIndex) : runK TT E36 n ann (tabC C36) 2 36 (avL [.dat false (.sl tIndex), .clo 37 [(true, tIndex)]] x) [] (readL [(false, .bool)]) = f36.g n x := by
  kernel_rfl
set_option maxRecDepth 100000 in
theorem f36.codes : CodesOk Tryz.prog E36 ann (tabC C36) := tabC_ok (by intro p hp; simp only [C36, List.mem_cons, List.not_mem_nil, or_false] at hp; rcases hp with rfl | rfl <;> first | exact Tryz.func36 | exact Tryz.func37) (by kernel_rfl)
theorem f36.ok (h : ∀ X Y, F36 X = some Y → ∃ n, f36.g n X = some Y) (e55 : ConOk Tryz.prog 55 con55) : ConOk Tryz.prog 36 (mkConF [.dat false (.sl tIndex), .clo 37 [(true, tIndex)]] [(false, .bool)] F36) :=
  mkConF_ok mixed TT_ok (envC_ok e55 env0_ok) f36.codes (List.all_eq_true.1 rfl) fun X Y hF => (h X Y hF).imp fun n hn => (f36.eq n X).trans hn
def con36 : Con := mkConF [.dat false (.sl tIndex), .clo 37 [(true, tIndex)]] [(false, .bool)] F36
/-! ### vellum/value.Check -/
def E42 : FuncId → Option Con := (envC 57 con57 (envC 56 con56 env0))
noncomputable def C42 : List (FuncId × Func) := [(42, Tryz.f42)]
def f42.g (n : Nat) (x : dValue) : Option (Int) :=
  bif bif (decide (x.1 < (0 : Int))) then true else (decide (x.1 > (5 : Int))) then
    (bif bif (decide (x.1 < (0 : Int))) then true else (decide (x.1 > (5 : Int))) then
      (some (10 : Int))
    else
      (bif decide ((x.2.2.2.size : Int) > (65536 : Int)) then
        (some (3 : Int))
      else
        (some (0 : Int))))
  else
    (bif bif (bif (x.1 == (1 : Int)) then (x.2.1 != (0 : Int)) else false) then (x.2.1 != (1 : Int)) else false then
      (bif bif (bif (x.1 == (1 : Int)) then (x.2.1 != (0 : Int)) else false) then (x.2.1 != (1 : Int)) else false then
        (some (10 : Int))
      else
        (bif decide ((x.2.2.2.size : Int) > (65536 : Int)) then
          (some (3 : Int))
        else
          (some (0 : Int))))
    else
      (bif bif (bif (x.1 != (1 : Int)) then (x.1 != (2 : Int)) else false) then (x.2.1 != (0 : Int)) else false then
        (bif bif (bif (x.1 != (1 : Int)) then (x.1 != (2 : Int)) else false) then (x.2.1 != (0 : Int)) else false then
          (some (10 : Int))
        else
          (bif decide ((x.2.2.2.size : Int) > (65536 : Int)) then
            (some (3 : Int))
          else
            (some (0 : Int))))
      else
        (bif x.1 != (3 : Int) then
          ((F56 x.2.2.1).bind fun r1 =>
            bif r1 != (0 : Int) then
              (bif r1 != (0 : Int) then
                (some (10 : Int))
              else
                (bif decide ((x.2.2.2.size : Int) > (65536 : Int)) then
                  (some (3 : Int))
                else
                  (some (0 : Int))))
            else
              (bif bif (!(bif (x.1 == (4 : Int)) then true else (x.1 == (5 : Int)))) then (!(strEq x.2.2.2 (⟨#[]⟩ : ByteArray))) else false then
                (bif bif (!(bif (x.1 == (4 : Int)) then true else (x.1 == (5 : Int)))) then (!(strEq x.2.2.2 (⟨#[]⟩ : ByteArray))) else false then
                  (some (10 : Int))
                else
                  (bif decide ((x.2.2.2.size : Int) > (65536 : Int)) then
                    (some (3 : Int))
                  else
                    (some (0 : Int))))
              else
                (bif x.1 == (4 : Int) then
                  ((F57 x.2.2.2).bind fun r2 =>
                    bif !r2 then
                      (some (10 : Int))
                    else
                      (bif decide ((x.2.2.2.size : Int) > (65536 : Int)) then
                        (some (3 : Int))
                      else
                        (some (0 : Int))))
                else
                  (bif decide ((x.2.2.2.size : Int) > (65536 : Int)) then
                    (some (3 : Int))
                  else
                    (some (0 : Int))))))
        else
          (bif bif (!(bif (x.1 == (4 : Int)) then true else (x.1 == (5 : Int)))) then (!(strEq x.2.2.2 (⟨#[]⟩ : ByteArray))) else false then
            (bif bif (!(bif (x.1 == (4 : Int)) then true else (x.1 == (5 : Int)))) then (!(strEq x.2.2.2 (⟨#[]⟩ : ByteArray))) else false then
              (some (10 : Int))
            else
              (bif decide ((x.2.2.2.size : Int) > (65536 : Int)) then
                (some (3 : Int))
              else
                (some (0 : Int))))
          else
            (bif x.1 == (4 : Int) then
              ((F57 x.2.2.2).bind fun r3 =>
                bif !r3 then
                  (some (10 : Int))
                else
                  (bif decide ((x.2.2.2.size : Int) > (65536 : Int)) then
                    (some (3 : Int))
                  else
                    (some (0 : Int))))
            else
              (bif decide ((x.2.2.2.size : Int) > (65536 : Int)) then
                (some (3 : Int))
              else
                (some (0 : Int))))))))
set_option maxRecDepth 100000 in
theorem f42.eq (n : Nat) (x : dValue) : runK TT E42 n ann (tabC C42) 1 42 (argsL [(true, tValue)] x) [] (readL [(false, .int .i64)]) = f42.g n x := by
  kernel_rfl
set_option maxRecDepth 100000 in
theorem f42.codes : CodesOk Tryz.prog E42 ann (tabC C42) := tabC_ok (by intro p hp; simp only [C42, List.mem_cons, List.not_mem_nil, or_false] at hp; rcases hp with rfl <;> first | exact Tryz.func42) (by kernel_rfl)
theorem f42.ok (h : ∀ X Y, F42 X = some Y → ∃ n, f42.g n X = some Y) (e56 : ConOk Tryz.prog 56 con56) (e57 : ConOk Tryz.prog 57 con57) : ConOk Tryz.prog 42 (mkCon [(true, tValue)] [(false, .int .i64)] true F42) :=
  mkCon_ok mixed TT_ok (envC_ok e57 (envC_ok e56 env0_ok)) f42.codes (fun _ => List.all_eq_true.1 rfl) fun X Y hF => (h X Y hF).imp fun n hn => (f42.eq n X).trans hn
def con42 : Con := mkCon [(true, tValue)] [(false, .int .i64)] true F42
/-! ### vellum/vellumref01.Check -/
def E43 : FuncId → Option Con := (envC 57 con57 (envC 56 con56 env0))
noncomputable def C43 : List (FuncId × Func) := [(43, Tryz.f43)]
def f43.g (n : Nat) (x : dValue) : Option (Int) :=
  bif bif (decide (x.1 < (0 : Int))) then true else (decide (x.1 > (5 : Int))) then
    (some (10 : Int))
  else
    (bif bif (bif (bif (x.1 == (1 : Int)) then (x.2.1 != (0 : Int)) else false) then (x.2.1 != (1 : Int)) else false) then true else (bif (bif (x.1 != (1 : Int)) then (x.1 != (2 : Int)) else false) then (x.2.1 != (0 : Int)) else false) then
      (some (10 : Int))
    else
      (bif x.1 != (3 : Int) then
        ((F56 x.2.2.1).bind fun r1 =>
          bif r1 != (0 : Int) then
            (some (10 : Int))
          else
            (bif bif (bif (x.1 != (4 : Int)) then (x.1 != (5 : Int)) else false) then (!(strEq x.2.2.2 (⟨#[]⟩ : ByteArray))) else false then
              (some (10 : Int))
            else
              (bif x.1 == (4 : Int) then
                ((F57 x.2.2.2).bind fun r2 =>
                  bif !r2 then
                    (some (10 : Int))
                  else
                    (bif decide ((x.2.2.2.size : Int) > (65536 : Int)) then
                      (some (3 : Int))
                    else
                      (some (0 : Int))))
              else
                (bif decide ((x.2.2.2.size : Int) > (65536 : Int)) then
                  (some (3 : Int))
                else
                  (some (0 : Int))))))
      else
        (bif bif (bif (x.1 != (4 : Int)) then (x.1 != (5 : Int)) else false) then (!(strEq x.2.2.2 (⟨#[]⟩ : ByteArray))) else false then
          (some (10 : Int))
        else
          (bif x.1 == (4 : Int) then
            ((F57 x.2.2.2).bind fun r3 =>
              bif !r3 then
                (some (10 : Int))
              else
                (bif decide ((x.2.2.2.size : Int) > (65536 : Int)) then
                  (some (3 : Int))
                else
                  (some (0 : Int))))
          else
            (bif decide ((x.2.2.2.size : Int) > (65536 : Int)) then
              (some (3 : Int))
            else
              (some (0 : Int)))))))
set_option maxRecDepth 100000 in
theorem f43.eq (n : Nat) (x : dValue) : runK TT E43 n ann (tabC C43) 1 43 (argsL [(true, tValue)] x) [] (readL [(false, .int .i64)]) = f43.g n x := by
  kernel_rfl
set_option maxRecDepth 100000 in
theorem f43.codes : CodesOk Tryz.prog E43 ann (tabC C43) := tabC_ok (by intro p hp; simp only [C43, List.mem_cons, List.not_mem_nil, or_false] at hp; rcases hp with rfl <;> first | exact Tryz.func43) (by kernel_rfl)
theorem f43.ok (h : ∀ X Y, F43 X = some Y → ∃ n, f43.g n X = some Y) (e56 : ConOk Tryz.prog 56 con56) (e57 : ConOk Tryz.prog 57 con57) : ConOk Tryz.prog 43 (mkCon [(true, tValue)] [(false, .int .i64)] true F43) :=
  mkCon_ok mixed TT_ok (envC_ok e57 (envC_ok e56 env0_ok)) f43.codes (fun _ => List.all_eq_true.1 rfl) fun X Y hF => (h X Y hF).imp fun n hn => (f43.eq n X).trans hn
def con43 : Con := mkCon [(true, tValue)] [(false, .int .i64)] true F43
/-! ### vellum/schema.checkColumns -/
def E32 : FuncId → Option Con := (envC 51 con51 (envC 42 con42 (envC 8 con8 env0)))
noncomputable def C32 : List (FuncId × Func) := [(32, Tryz.f32)]
def f32.h1 (x : dTable) (y1 : Int) : List AV × List Ob := ([.undef, .val false [.ptr 0 0], .undef, .undef, .undef, .undef, .undef, .val false [.sc (.sl tColumn) x.2.1], .val false [.sc (.int .i64) (x.2.1.length : Int)], .val false [.sc (.int .i64) y1]] ++ List.replicate 43 .undef, [.box [.sc .str x.1, .sc (.sl tColumn) x.2.1, .sc (.sl (.int .i64)) x.2.2.1, .sc (.sl tIndex) x.2.2.2.1, .sc (.sl tRef) x.2.2.2.2]])
def f32.L1 (n : Nat) (x : dTable) (m1 : Nat) (y1 : Int) : Option (Int) :=
  loopN (ann 32 2).keep 1 (fun fr H k => execK TT 0 E32 (inlD TT E32 n ann (tabC C32) 1) n (ann 32) (subC [1, 0, 1, 0, 0] (bodyOf Tryz.f32)) fr H k) m1 (f32.h1 x y1).1 (f32.h1 x y1).2 (kont TT 0 E32 (inlD TT E32 n ann (tabC C32) 1) n (ann 32) [1, 0, 1, 0] (bodyOf Tryz.f32) (endK TT Tryz.f32 (readL [(false, .int .i64)])))
def f32.s1 (n : Nat) (x : dTable) (S1 : Int → Option (Int)) (y1 : Int) : Option (Int) :=
  bif decide (y1 < (x.2.1.length : Int)) then
    (bif decide (0 ≤ y1) && decide (y1 < (x.2.1.length : Int)) then
      (bif decide (0 ≤ y1) && decide (y1 ≤ (x.2.1.length : Int)) then
        ((F51 (List.take y1.toNat x.2.1, x.2.1.getD y1.toNat tColumn.dflt)).bind fun r2 =>
          (F8 (x.2.1.getD y1.toNat tColumn.dflt).1).bind fun r3 =>
            bif !r3 then
              (some (30 : Int))
            else
              (bif r2 then
                (some (31 : Int))
              else
                (bif bif (decide ((x.2.1.getD y1.toNat tColumn.dflt).2.1 < (1 : Int))) then true else (decide ((x.2.1.getD y1.toNat tColumn.dflt).2.1 > (5 : Int))) then
                  (bif bif (decide ((x.2.1.getD y1.toNat tColumn.dflt).2.1 < (1 : Int))) then true else (decide ((x.2.1.getD y1.toNat tColumn.dflt).2.1 > (5 : Int))) then
                    (some (32 : Int))
                  else
                    (S1 (IntKind.wrap .i64 (y1 + (1 : Int)))))
                else
                  ((F42 (x.2.1.getD y1.toNat tColumn.dflt).2.2.2).bind fun r4 =>
                    bif r4 != (0 : Int) then
                      (bif r4 != (0 : Int) then
                        (some (32 : Int))
                      else
                        (S1 (IntKind.wrap .i64 (y1 + (1 : Int)))))
                    else
                      (bif bif ((x.2.1.getD y1.toNat tColumn.dflt).2.2.2.1 != (0 : Int)) then ((x.2.1.getD y1.toNat tColumn.dflt).2.2.2.1 != (x.2.1.getD y1.toNat tColumn.dflt).2.1) else false then
                        (some (32 : Int))
                      else
                        (S1 (IntKind.wrap .i64 (y1 + (1 : Int)))))))))
      else
        (none))
    else
      (none))
  else
    (some (0 : Int))
set_option maxRecDepth 100000 in
theorem f32.k1 (n : Nat) (x : dTable) (m : Nat) (y : Int) : f32.L1 n x (m + 1) y = f32.s1 n x (f32.L1 n x m) y := by kernel_rfl
theorem f32.l1 (n : Nat) (x : dTable) : ∀ (m : Nat) (y1 : Int), f32.L1 n x m y1 = iter (f32.s1 n x) m y1 :=
  loop_of (L := f32.L1 n x) (step := f32.s1 n x) (fun _ => rfl) (f32.k1 n x)
def f32.g (n : Nat) (x : dTable) : Option (Int) :=
  iter (f32.s1 n x) n (0 : Int)
def f32.q (n : Nat) (x : dTable) : Option (Int) :=
  f32.L1 n x n (0 : Int)
set_option maxRecDepth 100000 in
theorem f32.eq (n : Nat) (x : dTable) : runK TT E32 n ann (tabC C32) 1 32 (argsL [(true, tTable)] x) [] (readL [(false, .int .i64)]) = f32.g n x := by
  have h : runK TT E32 n ann (tabC C32) 1 32 (argsL [(true, tTable)] x) [] (readL [(false, .int .i64)]) = f32.q n x := by kernel_rfl
  rw [h]
  simp only [f32.q, f32.g, f32.l1]
set_option maxRecDepth 100000 in
theorem f32.codes : CodesOk Tryz.prog E32 ann (tabC C32) := tabC_ok (by intro p hp; simp only [C32, List.mem_cons, List.not_mem_nil, or_false] at hp; rcases hp with rfl <;> first | exact Tryz.func32) (by kernel_rfl)
theorem f32.ok (h : ∀ X Y, F32 X = some Y → ∃ n, f32.g n X = some Y) (e8 : ConOk Tryz.prog 8 con8) (e42 : ConOk Tryz.prog 42 con42) (e51 : ConOk Tryz.prog 51 con51) : ConOk Tryz.prog 32 (mkCon [(true, tTable)] [(false, .int .i64)] true F32) :=
  mkCon_ok mixed TT_ok (envC_ok e51 (envC_ok e42 (envC_ok e8 env0_ok))) f32.codes (fun _ => List.all_eq_true.1 rfl) fun X Y hF => (h X Y hF).imp fun n hn => (f32.eq n X).trans hn
def con32 : Con := mkCon [(true, tTable)] [(false, .int .i64)] true F32
/-! ### vellum/schema.Check -/
def E11 : FuncId → Option Con := (envC 36 con36 (envC 34 con34 (envC 33 con33 (envC 32 con32 (envC 8 con8 env0)))))
noncomputable def C11 : List (FuncId × Func) := [(11, Tryz.f11)]
def f11.h1 (x : dTable) (r1 : Bool) (r2 : Int) (r3 : Bool) (r4 : Bool) (y5 : Int) (y9 : Int) : List AV × List Ob := ([.undef, .val false [.ptr 0 0], .undef, .undef, .undef, .undef, .undef, .undef, .undef, .undef, .undef, .undef, .undef, .undef, .undef, .undef, .undef, .undef, .undef, .undef, .undef, .undef, .undef, .undef, .undef, .undef, .undef, .undef, .undef, .undef, .undef, .undef, .undef, .undef, .undef, .undef, .undef, .undef, .undef, .undef, .undef, .undef, .undef, .undef, .undef, .undef, .undef, .undef, .undef, .undef, .undef, .undef, .undef, .undef, .undef, .undef, .undef, .undef, .undef, .undef, .undef, .undef, .undef, .undef, .undef, .undef, .undef, .undef, .undef, .undef, .undef, .undef, .undef, .undef, .undef, .undef, .undef, .undef, .undef, .undef, .undef, .undef, .val false [.sc (.sl tRef) x.2.2.2.2], .val false [.sc (.int .i64) (x.2.2.2.2.length : Int)], .val false [.sc (.int .i64) y9]] ++ List.replicate 15 .undef, [.box [.sc .str x.1, .sc (.sl tColumn) x.2.1, .sc (.sl (.int .i64)) x.2.2.1, .sc (.sl tIndex) x.2.2.2.1, .sc (.sl tRef) x.2.2.2.2]])
def f11.h2 (x : dTable) (r1 : Bool) (r2 : Int) (r3 : Bool) (r4 : Bool) (y5 : Int) : List AV × List Ob := ([.undef, .val false [.ptr 0 0], .undef, .undef, .undef, .undef, .undef, .undef, .undef, .undef, .undef, .undef, .undef, .undef, .undef, .undef, .undef, .undef, .undef, .undef, .undef, .undef, .undef, .undef, .undef, .undef, .undef, .undef, .undef, .undef, .undef, .undef, .undef, .undef, .undef, .undef, .undef, .undef, .undef, .undef, .undef, .undef, .undef, .undef, .undef, .undef, .undef, .undef, .undef, .undef, .undef, .undef, .undef, .undef, .val false [.sc (.sl tIndex) x.2.2.2.1], .val false [.sc (.int .i64) (x.2.2.2.1.length : Int)], .val false [.sc (.int .i64) y5]] ++ List.replicate 43 .undef, [.box [.sc .str x.1, .sc (.sl tColumn) x.2.1, .sc (.sl (.int .i64)) x.2.2.1, .sc (.sl tIndex) x.2.2.2.1, .sc (.sl tRef) x.2.2.2.2]])
def f11.L1 (n : Nat) (x : dTable) (r1 : Bool) (r2 : Int) (r3 : Bool) (r4 : Bool) (y5 : Int) (m9 : Nat) (y9 : Int) : Option (Int) :=
  loopN (ann 11 23).keep 1 (fun fr H k => execK TT 0 E11 (inlD TT E11 n ann (tabC C11) 1) n (ann 11) (subC [1, 1, 1, 1, 1, 1, 0, 1, 0, 0] (bodyOf Tryz.f11)) fr H k) m9 (f11.h1 x r1 r2 r3 r4 y5 y9).1 (f11.h1 x r1 r2 r3 r4 y5 y9).2 (kont TT 0 E11 (inlD TT E11 n ann (tabC C11) 1) n (ann 11) [1, 1, 1, 1, 1, 1, 0, 1, 0] (bodyOf Tryz.f11) (endK TT Tryz.f11 (readL [(false, .int .i64)])))
def f11.L2 (n : Nat) (x : dTable) (r1 : Bool) (r2 : Int) (r3 : Bool) (r4 : Bool) (m5 : Nat) (y5 : Int) : Option (Int) :=
  loopN (ann 11 12).keep 1 (fun fr H k => execK TT 0 E11 (inlD TT E11 n ann (tabC C11) 1) n (ann 11) (subC [1, 1, 1, 1, 1, 0, 1, 0, 0] (bodyOf Tryz.f11)) fr H k) m5 (f11.h2 x r1 r2 r3 r4 y5).1 (f11.h2 x r1 r2 r3 r4 y5).2 (kont TT 0 E11 (inlD TT E11 n ann (tabC C11) 1) n (ann 11) [1, 1, 1, 1, 1, 0, 1, 0] (bodyOf Tryz.f11) (endK TT Tryz.f11 (readL [(false, .int .i64)])))
def f11.s1 (n : Nat) (x : dTable) (r1 : Bool) (r2 : Int) (r3 : Bool) (r4 : Bool) (y5 : Int) (S9 : Int → Option (Int)) (y9 : Int) : Option (Int) :=
  bif decide (y9 < (x.2.2.2.2.length : Int)) then
    (bif decide (0 ≤ y9) && decide (y9 < (x.2.2.2.2.length : Int)) then
      ((F8 (x.2.2.2.2.getD y9.toNat tRef.dflt).2).bind fun r10 =>
        bif !r10 then
          (some (30 : Int))
        else
          ((F33 (x, (x.2.2.2.2.getD y9.toNat tRef.dflt).1)).bind fun r11 =>
            bif !r11 then
              (some (33 : Int))
            else
              (S9 (IntKind.wrap .i64 (y9 + (1 : Int))))))
    else
      (none))
  else
    (some (0 : Int))
set_option maxRecDepth 100000 in
theorem f11.k1 (n : Nat) (x : dTable) (r1 : Bool) (r2 : Int) (r3 : Bool) (r4 : Bool) (y5 : Int) (m : Nat) (y : Int) : f11.L1 n x r1 r2 r3 r4 y5 (m + 1) y = f11.s1 n x r1 r2 r3 r4 y5 (f11.L1 n x r1 r2 r3 r4 y5 m) y := by kernel_rfl
theorem f11.l1 (n : Nat) (x : dTable) (r1 : Bool) (r2 : Int) (r3 : Bool) (r4 : Bool) (y5 : Int) : ∀ (m : Nat) (y9 : Int), f11.L1 n x r1 r2 r3 r4 y5 m y9 = iter (f11.s1 n x r1 r2 r3 r4 y5) m y9 :=
  loop_of (L := f11.L1 n x r1 r2 r3 r4 y5) (step := f11.s1 n x r1 r2 r3 r4 y5) (fun _ => rfl) (f11.k1 n x r1 r2 r3 r4 y5)
def f11.s2 (n : Nat) (x : dTable) (r1 : Bool) (r2 : Int) (r3 : Bool) (r4 : Bool) (S5 : Int → Option (Int)) (y5 : Int) : Option (Int) :=
  bif decide (y5 < (x.2.2.2.1.length : Int)) then
    (bif decide (0 ≤ y5) && decide (y5 < (x.2.2.2.1.length : Int)) then
      (bif decide (0 ≤ y5) && decide (y5 ≤ (x.2.2.2.1.length : Int)) then
        ((F36 (List.take y5.toNat x.2.2.2.1, x.2.2.2.1.getD y5.toNat tIndex.dflt)).bind fun r6 =>
          (F8 (x.2.2.2.1.getD y5.toNat tIndex.dflt).1).bind fun r7 =>
            bif !r7 then
              (some (30 : Int))
            else
              (bif r6 then
                (some (31 : Int))
              else
                ((F33 (x, (x.2.2.2.1.getD y5.toNat tIndex.dflt).2.1)).bind fun r8 =>
                  bif !r8 then
                    (some (33 : Int))
                  else
                    (S5 (IntKind.wrap .i64 (y5 + (1 : Int)))))))
      else
        (none))
    else
      (none))
  else
    (iter (f11.s1 n x r1 r2 r3 r4 y5) n (0 : Int))
def f11.r2 (n : Nat) (x : dTable) (r1 : Bool) (r2 : Int) (r3 : Bool) (r4 : Bool) (m5 : Nat) (S5 : Int → Option (Int)) (y5 : Int) : Option (Int) :=
  bif decide (y5 < (x.2.2.2.1.length : Int)) then
    (bif decide (0 ≤ y5) && decide (y5 < (x.2.2.2.1.length : Int)) then
      (bif decide (0 ≤ y5) && decide (y5 ≤ (x.2.2.2.1.length : Int)) then
        ((F36 (List.take y5.toNat x.2.2.2.1, x.2.2.2.1.getD y5.toNat tIndex.dflt)).bind fun r6 =>
          (F8 (x.2.2.2.1.getD y5.toNat tIndex.dflt).1).bind fun r7 =>
            bif !r7 then
              (some (30 : Int))
            else
              (bif r6 then
                (some (31 : Int))
              else
                ((F33 (x, (x.2.2.2.1.getD y5.toNat tIndex.dflt).2.1)).bind fun r8 =>
                  bif !r8 then
                    (some (33 : Int))
                  else
                    (S5 (IntKind.wrap .i64 (y5 + (1 : Int)))))))
      else
        (none))
    else
      (none))
  else
    (f11.L1 n x r1 r2 r3 r4 y5 n (0 : Int))
set_option maxRecDepth 100000 in
theorem f11.k2 (n : Nat) (x : dTable) (r1 : Bool) (r2 : Int) (r3 : Bool) (r4 : Bool) (m : Nat) (y : Int) : f11.L2 n x r1 r2 r3 r4 (m + 1) y = f11.s2 n x r1 r2 r3 r4 (f11.L2 n x r1 r2 r3 r4 m) y := by
  have h : f11.L2 n x r1 r2 r3 r4 (m + 1) y = f11.r2 n x r1 r2 r3 r4 m (f11.L2 n x r1 r2 r3 r4 m) y := by kernel_rfl
  rw [h]
  simp only [f11.r2, f11.s2, f11.l1]
theorem f11.l2 (n : Nat) (x : dTable) (r1 : Bool) (r2 : Int) (r3 : Bool) (r4 : Bool) : ∀ (m : Nat) (y5 : Int), f11.L2 n x r1 r2 r3 r4 m y5 = iter (f11.s2 n x r1 r2 r3 r4) m y5 :=
  loop_of (L := f11.L2 n x r1 r2 r3 r4) (step := f11.s2 n x r1 r2 r3 r4) (fun _ => rfl) (f11.k2 n x r1 r2 r3 r4)
def f11.g (n : Nat) (x : dTable) : Option (Int) :=
  (F8 x.1).bind fun r1 =>
    bif !r1 then
      (some (30 : Int))
    else
      (bif bif (bif (bif (decide ((x.2.1.length : Int) < (1 : Int))) then true else (decide ((x.2.1.length : Int) > (64 : Int)))) then true else (decide ((x.2.2.2.1.length : Int) > (16 : Int)))) then true else (decide ((x.2.2.2.2.length : Int) > (16 : Int))) then
        (some (2 : Int))
      else
        ((F32 x).bind fun r2 =>
          bif r2 != (0 : Int) then
            (some r2)
          else
            ((F33 (x, x.2.2.1)).bind fun r3 =>
              bif !r3 then
                (some (33 : Int))
              else
                ((F34 (x.2.2.1, x)).bind fun r4 =>
                  bif r4 then
                    (some (33 : Int))
                  else
                    (iter (f11.s2 n x r1 r2 r3 r4) n (0 : Int))))))
def f11.q (n : Nat) (x : dTable) : Option (Int) :=
  (F8 x.1).bind fun r1 =>
    bif !r1 then
      (some (30 : Int))
    else
      (bif bif (bif (bif (decide ((x.2.1.length : Int) < (1 : Int))) then true else (decide ((x.2.1.length : Int) > (64 : Int)))) then true else (decide ((x.2.2.2.1.length : Int) > (16 : Int)))) then true else (decide ((x.2.2.2.2.length : Int) > (16 : Int))) then
        (some (2 : Int))
      else
        ((F32 x).bind fun r2 =>
          bif r2 != (0 : Int) then
            (some r2)
          else
            ((F33 (x, x.2.2.1)).bind fun r3 =>
              bif !r3 then
                (some (33 : Int))
              else
                ((F34 (x.2.2.1, x)).bind fun r4 =>
                  bif r4 then
                    (some (33 : Int))
                  else
                    (f11.L2 n x r1 r2 r3 r4 n (0 : Int))))))
set_option maxRecDepth 100000 in
theorem f11.eq (n : Nat) (x : dTable) : runK TT E11 n ann (tabC C11) 1 11 (argsL [(true, tTable)] x) [] (readL [(false, .int .i64)]) = f11.g n x := by
  have h : runK TT E11 n ann (tabC C11) 1 11 (argsL [(true, tTable)] x) [] (readL [(false, .int .i64)]) = f11.q n x := by kernel_rfl
  rw [h]
  simp only [f11.q, f11.g, f11.l1, f11.l2]
set_option maxRecDepth 100000 in
theorem f11.codes : CodesOk Tryz.prog E11 ann (tabC C11) := tabC_ok (by intro p hp; simp only [C11, List.mem_cons, List.not_mem_nil, or_false] at hp; rcases hp with rfl <;> first | exact Tryz.func11) (by kernel_rfl)
theorem f11.ok (h : ∀ X Y, F11 X = some Y → ∃ n, f11.g n X = some Y) (e8 : ConOk Tryz.prog 8 con8) (e32 : ConOk Tryz.prog 32 con32) (e33 : ConOk Tryz.prog 33 con33) (e34 : ConOk Tryz.prog 34 con34) (e36 : ConOk Tryz.prog 36 con36) : ConOk Tryz.prog 11 (mkCon [(true, tTable)] [(false, .int .i64)] true F11) :=
  mkCon_ok mixed TT_ok (envC_ok e36 (envC_ok e34 (envC_ok e33 (envC_ok e32 (envC_ok e8 env0_ok))))) f11.codes (fun _ => List.all_eq_true.1 rfl) fun X Y hF => (h X Y hF).imp fun n hn => (f11.eq n X).trans hn
def con11 : Con := mkCon [(true, tTable)] [(false, .int .i64)] true F11
/-! ### vellum/schema.Column -/
def E20 : FuncId → Option Con := (envC 45 con45 env0)
noncomputable def C20 : List (FuncId × Func) := [(20, Tryz.f20)]
def f20.g (n : Nat) (x : dTable × ByteArray) : Option (Int × Int) :=
  (F45a (x.1.2.1, x.2)).bind fun r1 =>
    bif decide (r1 < (0 : Int)) then
      (some ((0 : Int), (5 : Int)))
    else
      (some (r1, (0 : Int)))
set_option maxRecDepth 100000 in
theorem f20.eq (n : Nat) (x : dTable × ByteArray) : runK TT E20 n ann (tabC C20) 1 20 (argsL [(true, tTable), (false, .str)] x) [] (readL [(false, .int .i64), (false, .int .i64)]) = f20.g n x := by
  kernel_rfl
set_option maxRecDepth 100000 in
theorem f20.codes : CodesOk Tryz.prog E20 ann (tabC C20) := tabC_ok (by intro p hp; simp only [C20, List.mem_cons, List.not_mem_nil, or_false] at hp; rcases hp with rfl <;> first | exact Tryz.func20) (by kernel_rfl)
theorem f20.ok (h : ∀ X Y, F20 X = some Y → ∃ n, f20.g n X = some Y) (e45 : ConOk Tryz.prog 45 con45) : ConOk Tryz.prog 20 (mkCon [(true, tTable), (false, .str)] [(false, .int .i64), (false, .int .i64)] true F20) :=
  mkCon_ok mixed TT_ok (envC_ok e45 env0_ok) f20.codes (fun _ => List.all_eq_true.1 rfl) fun X Y hF => (h X Y hF).imp fun n hn => (f20.eq n X).trans hn
def con20 : Con := mkCon [(true, tTable), (false, .str)] [(false, .int .i64), (false, .int .i64)] true F20
/-! ### vellum/vellumref03.Column -/
def E21 : FuncId → Option Con := env0
noncomputable def C21 : List (FuncId × Func) := [(21, Tryz.f21)]
def f21.h1 (x : dTable × ByteArray) (y1 : Int) : List AV × List Ob := ([.undef, .val false [.sc .str x.2], .val false [.ptr 0 0], .undef, .undef, .undef, .val false [.sc (.int .i64) y1]] ++ List.replicate 16 .undef, [.box [.sc .str x.1.1, .sc (.sl tColumn) x.1.2.1, .sc (.sl (.int .i64)) x.1.2.2.1, .sc (.sl tIndex) x.1.2.2.2.1, .sc (.sl tRef) x.1.2.2.2.2]])
def f21.L1 (n : Nat) (x : dTable × ByteArray) (m1 : Nat) (y1 : Int) : Option (Int × Int) :=
  loopN (ann 21 2).keep 1 (fun fr H k => execK TT 0 E21 (inlD TT E21 n ann (tabC C21) 1) n (ann 21) (subC [1, 0, 1, 0, 0] (bodyOf Tryz.f21)) fr H k) m1 (f21.h1 x y1).1 (f21.h1 x y1).2 (kont TT 0 E21 (inlD TT E21 n ann (tabC C21) 1) n (ann 21) [1, 0, 1, 0] (bodyOf Tryz.f21) (endK TT Tryz.f21 (readL [(false, .int .i64), (false, .int .i64)])))
def f21.s1 (n : Nat) (x : dTable × ByteArray) (S1 : Int → Option (Int × Int)) (y1 : Int) : Option (Int × Int) :=
  bif decide (y1 < (x.1.2.1.length : Int)) then
    (bif decide (0 ≤ y1) && decide (y1 < (x.1.2.1.length : Int)) then
      (bif strEq (x.1.2.1.getD y1.toNat tColumn.dflt).1 x.2 then
        (some (y1, (0 : Int)))
      else
        (S1 (IntKind.wrap .i64 (y1 + (1 : Int)))))
    else
      (none))
  else
    (some ((0 : Int), (5 : Int)))
set_option maxRecDepth 100000 in
theorem f21.k1 (n : Nat) (x : dTable × ByteArray) (m : Nat) (y : Int) : f21.L1 n x (m + 1) y = f21.s1 n x (f21.L1 n x m) y := by kernel_rfl
theorem f21.l1 (n : Nat) (x : dTable × ByteArray) : ∀ (m : Nat) (y1 : Int), f21.L1 n x m y1 = iter (f21.s1 n x) m y1 :=
  loop_of (L := f21.L1 n x) (step := f21.s1 n x) (fun _ => rfl) (f21.k1 n x)
def f21.g (n : Nat) (x : dTable × ByteArray) : Option (Int × Int) :=
  iter (f21.s1 n x) n (0 : Int)
def f21.q (n : Nat) (x : dTable × ByteArray) : Option (Int × Int) :=
  f21.L1 n x n (0 : Int)
set_option maxRecDepth 100000 in
theorem f21.eq (n : Nat) (x : dTable × ByteArray) : runK TT E21 n ann (tabC C21) 1 21 (argsL [(true, tTable), (false, .str)] x) [] (readL [(false, .int .i64), (false, .int .i64)]) = f21.g n x := by
  have h : runK TT E21 n ann (tabC C21) 1 21 (argsL [(true, tTable), (false, .str)] x) [] (readL [(false, .int .i64), (false, .int .i64)]) = f21.q n x := by kernel_rfl
  rw [h]
  simp only [f21.q, f21.g, f21.l1]
set_option maxRecDepth 100000 in
theorem f21.codes : CodesOk Tryz.prog E21 ann (tabC C21) := tabC_ok (by intro p hp; simp only [C21, List.mem_cons, List.not_mem_nil, or_false] at hp; rcases hp with rfl <;> first | exact Tryz.func21) (by kernel_rfl)
theorem f21.ok (h : ∀ X Y, F21 X = some Y → ∃ n, f21.g n X = some Y)  : ConOk Tryz.prog 21 (mkCon [(true, tTable), (false, .str)] [(false, .int .i64), (false, .int .i64)] true F21) :=
  mkCon_ok mixed TT_ok env0_ok f21.codes (fun _ => List.all_eq_true.1 rfl) fun X Y hF => (h X Y hF).imp fun n hn => (f21.eq n X).trans hn
def con21 : Con := mkCon [(true, tTable), (false, .str)] [(false, .int .i64), (false, .int .i64)] true F21
/-! ### vellum/vellumref03.copied -/
def E38 : FuncId → Option Con := env0
noncomputable def C38 : List (FuncId × Func) := [(38, Tryz.f38)]
def f38.h1 (x : (List Int)) (y1 : Nat × Int × (List Int)) : List AV × List Ob := ([.val false [.sc (.sl (.int .i64)) x], .undef, .undef, .val false [.own 0 y1.1], .val false [.sc (.int .i64) y1.2.1]] ++ List.replicate 15 .undef, [.arr 3 (.int .i64) y1.2.2])
def f38.L1 (n : Nat) (x : (List Int)) (m1 : Nat) (y1 : Nat × Int × (List Int)) : Option ((List Int)) :=
  loopN (ann 38 3).keep 1 (fun fr H k => execK TT 0 E38 (inlD TT E38 n ann (tabC C38) 1) n (ann 38) (subC [1, 1, 0, 1, 0, 0] (bodyOf Tryz.f38)) fr H k) m1 (f38.h1 x y1).1 (f38.h1 x y1).2 (kont TT 0 E38 (inlD TT E38 n ann (tabC C38) 1) n (ann 38) [1, 1, 0, 1, 0] (bodyOf Tryz.f38) (endK TT Tryz.f38 (readL [(false, .sl (.int .i64))])))
def f38.s1 (n : Nat) (x : (List Int)) (S1 : (Nat × Int × (List Int)) → Option ((List Int))) (y1 : Nat × Int × (List Int)) : Option ((List Int)) :=
  bif decide (y1.2.1 < (x.length : Int)) then
    (bif decide (0 ≤ y1.2.1) && decide (y1.2.1 < (x.length : Int)) then
      (bif decide ((y1.1 + 1) * 8 ≤ boundN) then
        (S1 (y1.1 + 1, (IntKind.wrap .i64 (y1.2.1 + (1 : Int)), List.take y1.1 y1.2.2 ++ ([x.getD y1.2.1.toNat (Ty.dflt (.int .i64))]))))
      else
        (none))
    else
      (none))
  else
    (some (List.take y1.1 y1.2.2))
set_option maxRecDepth 100000 in
theorem f38.k1 (n : Nat) (x : (List Int)) (m : Nat) (y : Nat × Int × (List Int)) : f38.L1 n x (m + 1) y = f38.s1 n x (f38.L1 n x m) y := by kernel_rfl
theorem f38.l1 (n : Nat) (x : (List Int)) : ∀ (m : Nat) (y1 : Nat × Int × (List Int)), f38.L1 n x m y1 = iter (f38.s1 n x) m y1 :=
  loop_of (L := f38.L1 n x) (step := f38.s1 n x) (fun _ => rfl) (f38.k1 n x)
def f38.g (n : Nat) (x : (List Int)) : Option ((List Int)) :=
  iter (f38.s1 n x) n (0, ((0 : Int), []))
def f38.q (n : Nat) (x : (List Int)) : Option ((List Int)) :=
  f38.L1 n x n (0, ((0 : Int), []))
set_option maxRecDepth 100000 in
theorem f38.eq (n : Nat) (x : (List Int)) : runK TT E38 n ann (tabC C38) 1 38 (argsL [(false, .sl (.int .i64))] x) [] (readL [(false, .sl (.int .i64))]) = f38.g n x := by
  have h : runK TT E38 n ann (tabC C38) 1 38 (argsL [(false, .sl (.int .i64))] x) [] (readL [(false, .sl (.int .i64))]) = f38.q n x := by kernel_rfl
  rw [h]
  simp only [f38.q, f38.g, f38.l1]
set_option maxRecDepth 100000 in
theorem f38.codes : CodesOk Tryz.prog E38 ann (tabC C38) := tabC_ok (by intro p hp; simp only [C38, List.mem_cons, List.not_mem_nil, or_false] at hp; rcases hp with rfl <;> first | exact Tryz.func38) (by kernel_rfl)
theorem f38.ok (h : ∀ X Y, F38 X = some Y → ∃ n, f38.g n X = some Y)  : ConOk Tryz.prog 38 (mkCon [(false, .sl (.int .i64))] [(false, .sl (.int .i64))] false F38) :=
  mkCon_ok mixed TT_ok env0_ok f38.codes (fun h => by cases h) fun X Y hF => (h X Y hF).imp fun n hn => (f38.eq n X).trans hn
def con38 : Con := mkCon [(false, .sl (.int .i64))] [(false, .sl (.int .i64))] false F38
end
end Go.Proofs.YtfgfdpbeddnfhaaGreatDoor.AI
