/- Runs of the program's functions over plain data. Printed by aipr.py; Lean checks them. -/
import Derived.Test.YtjedleoebjmkgaaBc
set_option linter.unusedVariables false
set_option linter.unusedSimpArgs false
namespace Go.Proofs.Ytjedleoebjmkgaa.AI
open Go
noncomputable section
/-! ### vellum/vellumref17.sorted -/
class Rec48 where
  F : (List dPoint) → Option ((List dPoint))
section
variable [Rec48]
def conS48 : Con := mkCon [(false, .sl tPoint)] [(false, .sl tPoint)] false Rec48.F
def E48 : FuncId → Option Con := (envC 49 con49 (envC 48 conS48 env0))
noncomputable def C48 : List (FuncId × Func) := [(48, Try.f48)]
def f48.h1 (x : (List dPoint)) (r1 : (List dPoint)) (r2 : (List dPoint)) (y3 : (List dPoint) × (List dPoint) × Nat × (List dPoint)) : List AV × List Ob := ([.undef, .undef, .undef, .val false [.sc (.sl tPoint) y3.1], .val false [.sc (.sl tPoint) y3.2.1], .val false [.own 0 y3.2.2.1]] ++ List.replicate 75 .undef, [.arr 33 tPoint y3.2.2.2])
def f48.L1 (n : Nat) (x : (List dPoint)) (r1 : (List dPoint)) (r2 : (List dPoint)) (m3 : Nat) (y3 : (List dPoint) × (List dPoint) × Nat × (List dPoint)) : Option ((List dPoint)) :=
  loopN (ann 48 5).keep 1 (fun fr H k => execK TT 0 E48 (inlD TT E48 n ann (tabC C48) 1) n (ann 48) (subC [1, 1, 1, 1, 0, 0, 0] (bodyOf Try.f48)) fr H k) m3 (f48.h1 x r1 r2 y3).1 (f48.h1 x r1 r2 y3).2 (kont TT 0 E48 (inlD TT E48 n ann (tabC C48) 1) n (ann 48) [1, 1, 1, 1, 0, 0] (bodyOf Try.f48) (endK TT Try.f48 (readL [(false, .sl tPoint)])))
def f48.s1 (n : Nat) (x : (List dPoint)) (r1 : (List dPoint)) (r2 : (List dPoint)) (S3 : ((List dPoint) × (List dPoint) × Nat × (List dPoint)) → Option ((List dPoint))) (y3 : (List dPoint) × (List dPoint) × Nat × (List dPoint)) : Option ((List dPoint)) :=
  bif bif (decide ((y3.1.length : Int) > (0 : Int))) then true else (decide ((y3.2.1.length : Int) > (0 : Int))) then
    (bif (y3.2.1.length : Int) == (0 : Int) then
      (bif decide (0 ≤ (0 : Int)) && decide ((0 : Int) < (y3.1.length : Int)) then
        (bif decide ((y3.2.2.1 + 1) * 32 ≤ boundN) then
          (bif decide (0 ≤ (1 : Int)) && decide ((1 : Int) ≤ (y3.1.length : Int)) then
            (S3 (List.drop 1 y3.1, (y3.2.1, (y3.2.2.1 + 1, List.take y3.2.2.1 y3.2.2.2 ++ ([y3.1.getD 0 tPoint.dflt])))))
          else
            (none))
        else
          (none))
      else
        (none))
    else
      (bif decide ((y3.1.length : Int) > (0 : Int)) then
        (bif decide (0 ≤ (0 : Int)) && decide ((0 : Int) < (y3.1.length : Int)) then
          (bif decide (0 ≤ (0 : Int)) && decide ((0 : Int) < (y3.2.1.length : Int)) then
            ((F49 (y3.1.getD 0 tPoint.dflt, y3.2.1.getD 0 tPoint.dflt)).bind fun r4 =>
              bif decide (r4 < (0 : Int)) then
                (bif decide (0 ≤ (0 : Int)) && decide ((0 : Int) < (y3.1.length : Int)) then
                  (bif decide ((y3.2.2.1 + 1) * 32 ≤ boundN) then
                    (bif decide (0 ≤ (1 : Int)) && decide ((1 : Int) ≤ (y3.1.length : Int)) then
                      (S3 (List.drop 1 y3.1, (y3.2.1, (y3.2.2.1 + 1, List.take y3.2.2.1 y3.2.2.2 ++ ([y3.1.getD 0 tPoint.dflt])))))
                    else
                      (none))
                  else
                    (none))
                else
                  (none))
              else
                (bif decide ((y3.1.length : Int) > (0 : Int)) then
                  (bif decide (0 ≤ (0 : Int)) && decide ((0 : Int) < (y3.1.length : Int)) then
                    (bif decide (0 ≤ (0 : Int)) && decide ((0 : Int) < (y3.2.1.length : Int)) then
                      ((F49 (y3.1.getD 0 tPoint.dflt, y3.2.1.getD 0 tPoint.dflt)).bind fun r5 =>
                        bif r5 == (0 : Int) then
                          (bif decide (0 ≤ (1 : Int)) && decide ((1 : Int) ≤ (y3.1.length : Int)) then
                            (bif decide (0 ≤ (0 : Int)) && decide ((0 : Int) < (y3.2.1.length : Int)) then
                              (bif decide ((y3.2.2.1 + 1) * 32 ≤ boundN) then
                                (bif decide (0 ≤ (1 : Int)) && decide ((1 : Int) ≤ (y3.2.1.length : Int)) then
                                  (S3 (List.drop 1 y3.1, (List.drop 1 y3.2.1, (y3.2.2.1 + 1, List.take y3.2.2.1 y3.2.2.2 ++ ([y3.2.1.getD 0 tPoint.dflt])))))
                                else
                                  (none))
                              else
                                (none))
                            else
                              (none))
                          else
                            (none))
                        else
                          (bif decide (0 ≤ (0 : Int)) && decide ((0 : Int) < (y3.2.1.length : Int)) then
                            (bif decide ((y3.2.2.1 + 1) * 32 ≤ boundN) then
                              (bif decide (0 ≤ (1 : Int)) && decide ((1 : Int) ≤ (y3.2.1.length : Int)) then
                                (S3 (y3.1, (List.drop 1 y3.2.1, (y3.2.2.1 + 1, List.take y3.2.2.1 y3.2.2.2 ++ ([y3.2.1.getD 0 tPoint.dflt])))))
                              else
                                (none))
                            else
                              (none))
                          else
                            (none)))
                    else
                      (none))
                  else
                    (none))
                else
                  (bif decide (0 ≤ (0 : Int)) && decide ((0 : Int) < (y3.2.1.length : Int)) then
                    (bif decide ((y3.2.2.1 + 1) * 32 ≤ boundN) then
                      (bif decide (0 ≤ (1 : Int)) && decide ((1 : Int) ≤ (y3.2.1.length : Int)) then
                        (S3 (y3.1, (List.drop 1 y3.2.1, (y3.2.2.1 + 1, List.take y3.2.2.1 y3.2.2.2 ++ ([y3.2.1.getD 0 tPoint.dflt])))))
                      else
                        (none))
                    else
                      (none))
                  else
                    (none))))
          else
            (none))
        else
          (none))
      else
        (bif decide ((y3.1.length : Int) > (0 : Int)) then
          (bif decide (0 ≤ (0 : Int)) && decide ((0 : Int) < (y3.1.length : Int)) then
            (bif decide (0 ≤ (0 : Int)) && decide ((0 : Int) < (y3.2.1.length : Int)) then
              ((F49 (y3.1.getD 0 tPoint.dflt, y3.2.1.getD 0 tPoint.dflt)).bind fun r6 =>
                bif r6 == (0 : Int) then
                  (bif decide (0 ≤ (1 : Int)) && decide ((1 : Int) ≤ (y3.1.length : Int)) then
                    (bif decide (0 ≤ (0 : Int)) && decide ((0 : Int) < (y3.2.1.length : Int)) then
                      (bif decide ((y3.2.2.1 + 1) * 32 ≤ boundN) then
                        (bif decide (0 ≤ (1 : Int)) && decide ((1 : Int) ≤ (y3.2.1.length : Int)) then
                          (S3 (List.drop 1 y3.1, (List.drop 1 y3.2.1, (y3.2.2.1 + 1, List.take y3.2.2.1 y3.2.2.2 ++ ([y3.2.1.getD 0 tPoint.dflt])))))
                        else
                          (none))
                      else
                        (none))
                    else
                      (none))
                  else
                    (none))
                else
                  (bif decide (0 ≤ (0 : Int)) && decide ((0 : Int) < (y3.2.1.length : Int)) then
                    (bif decide ((y3.2.2.1 + 1) * 32 ≤ boundN) then
                      (bif decide (0 ≤ (1 : Int)) && decide ((1 : Int) ≤ (y3.2.1.length : Int)) then
                        (S3 (y3.1, (List.drop 1 y3.2.1, (y3.2.2.1 + 1, List.take y3.2.2.1 y3.2.2.2 ++ ([y3.2.1.getD 0 tPoint.dflt])))))
                      else
                        (none))
                    else
                      (none))
                  else
                    (none)))
            else
              (none))
          else
            (none))
        else
          (bif decide (0 ≤ (0 : Int)) && decide ((0 : Int) < (y3.2.1.length : Int)) then
            (bif decide ((y3.2.2.1 + 1) * 32 ≤ boundN) then
              (bif decide (0 ≤ (1 : Int)) && decide ((1 : Int) ≤ (y3.2.1.length : Int)) then
                (S3 (y3.1, (List.drop 1 y3.2.1, (y3.2.2.1 + 1, List.take y3.2.2.1 y3.2.2.2 ++ ([y3.2.1.getD 0 tPoint.dflt])))))
              else
                (none))
            else
              (none))
          else
            (none)))))
  else
    (some (List.take y3.2.2.1 y3.2.2.2))
set_option maxRecDepth 100000 in
theorem f48.k1 (n : Nat) (x : (List dPoint)) (r1 : (List dPoint)) (r2 : (List dPoint)) (m : Nat) (y : (List dPoint) × (List dPoint) × Nat × (List dPoint)) : f48.L1 n x r1 r2 (m + 1) y = f48.s1 n x r1 r2 (f48.L1 n x r1 r2 m) y := by kernel_rfl
theorem f48.l1 (n : Nat) (x : (List dPoint)) (r1 : (List dPoint)) (r2 : (List dPoint)) : ∀ (m : Nat) (y3 : (List dPoint) × (List dPoint) × Nat × (List dPoint)), f48.L1 n x r1 r2 m y3 = iter (f48.s1 n x r1 r2) m y3 :=
  loop_of (L := f48.L1 n x r1 r2) (step := f48.s1 n x r1 r2) (fun _ => rfl) (f48.k1 n x r1 r2)
def f48.g (n : Nat) (x : (List dPoint)) : Option ((List dPoint)) :=
  bif decide ((x.length : Int) < (2 : Int)) then
    (some x)
  else
    (bif decide (0 ≤ IntKind.wrap .i64 (Int.tdiv (x.length : Int) (2 : Int))) && decide (IntKind.wrap .i64 (Int.tdiv (x.length : Int) (2 : Int)) ≤ (x.length : Int)) then
      ((Rec48.F (List.take ((IntKind.wrap .i64 (Int.tdiv (x.length : Int) (2 : Int))).toNat) x)).bind fun r1 =>
        bif decide (0 ≤ IntKind.wrap .i64 (Int.tdiv (x.length : Int) (2 : Int))) && decide (IntKind.wrap .i64 (Int.tdiv (x.length : Int) (2 : Int)) ≤ (x.length : Int)) then
          ((Rec48.F (List.drop ((IntKind.wrap .i64 (Int.tdiv (x.length : Int) (2 : Int))).toNat) x)).bind fun r2 =>
            iter (f48.s1 n x r1 r2) n (r1, (r2, (0, []))))
        else
          (none))
    else
      (none))
def f48.q (n : Nat) (x : (List dPoint)) : Option ((List dPoint)) :=
  bif decide ((x.length : Int) < (2 : Int)) then
    (some x)
  else
    (bif decide (0 ≤ IntKind.wrap .i64 (Int.tdiv (x.length : Int) (2 : Int))) && decide (IntKind.wrap .i64 (Int.tdiv (x.length : Int) (2 : Int)) ≤ (x.length : Int)) then
      ((Rec48.F (List.take ((IntKind.wrap .i64 (Int.tdiv (x.length : Int) (2 : Int))).toNat) x)).bind fun r1 =>
        bif decide (0 ≤ IntKind.wrap .i64 (Int.tdiv (x.length : Int) (2 : Int))) && decide (IntKind.wrap .i64 (Int.tdiv (x.length : Int) (2 : Int)) ≤ (x.length : Int)) then
          ((Rec48.F (List.drop ((IntKind.wrap .i64 (Int.tdiv (x.length : Int) (2 : Int))).toNat) x)).bind fun r2 =>
            f48.L1 n x r1 r2 n (r1, (r2, (0, []))))
        else
          (none))
    else
      (none))
set_option maxRecDepth 100000 in
theorem f48.eq (n : Nat) (x : (List dPoint)) : runK TT E48 n ann (tabC C48) 1 48 (argsL [(false, .sl tPoint)] x) [] (readL [(false, .sl tPoint)]) = f48.g n x := by
  have h : runK TT E48 n ann (tabC C48) 1 48 (argsL [(false, .sl tPoint)] x) [] (readL [(false, .sl tPoint)]) = f48.q n x := by kernel_rfl
  rw [h]
  simp only [f48.q, f48.g, f48.l1]
set_option maxRecDepth 100000 in
theorem f48.codes : CodesOk Try.prog E48 ann (tabC C48) := tabC_ok (by intro p hp; simp only [C48, List.mem_cons, List.not_mem_nil, or_false] at hp; rcases hp with rfl <;> first | exact Try.func48) (by kernel_rfl)
theorem f48.ok (G : (List dPoint) → Option ((List dPoint))) (h : ∀ X Y, G X = some Y → ∃ n, f48.g n X = some Y) (e48 : ConOk Try.prog 48 conS48) (e49 : ConOk Try.prog 49 con49) : ConOk Try.prog 48 (mkCon [(false, .sl tPoint)] [(false, .sl tPoint)] false G) :=
  mkCon_ok mixed TT_ok (envC_ok e49 (envC_ok e48 env0_ok)) f48.codes (fun h => by cases h) fun X Y hF => (h X Y hF).imp fun n hn => (f48.eq n X).trans hn
end
def con48 : Con := mkCon [(false, .sl tPoint)] [(false, .sl tPoint)] false F48
/-! ### vellum/vellumref17.Both -/
def E34 : FuncId → Option Con := (envC 49 con49 (envC 48 con48 env0))
noncomputable def C34 : List (FuncId × Func) := [(34, Try.f34)]
def f34.h1 (x : dFoot × dFoot) (r1 : (List dPoint)) (r2 : (List dPoint)) (y3 : (List dPoint) × (List dPoint)) : List AV × List Ob := ([.undef, .undef, .undef, .undef, .val false [.ptr 2 0], .undef, .val false [.sc (.sl tPoint) y3.1], .val false [.sc (.sl tPoint) y3.2]] ++ List.replicate 41 .undef, [.box [.sc (.sl tPoint) x.1.1, .sc (.sl tSpan) x.1.2.1, .sc (.sl tPoint) x.1.2.2], .box [.sc (.sl tPoint) x.2.1, .sc (.sl tSpan) x.2.2.1, .sc (.sl tPoint) x.2.2.2], .box [.sc (.int .i64) (0 : Int), .sc (.int .i64) (0 : Int), .sc .str (⟨#[]⟩ : ByteArray)]])
def f34.L1 (n : Nat) (x : dFoot × dFoot) (r1 : (List dPoint)) (r2 : (List dPoint)) (m3 : Nat) (y3 : (List dPoint) × (List dPoint)) : Option (dPoint × Bool) :=
  loopN (ann 34 2).keep 3 (fun fr H k => execK TT 0 E34 (inlD TT E34 n ann (tabC C34) 1) n (ann 34) (subC [1, 1, 0, 0, 0] (bodyOf Try.f34)) fr H k) m3 (f34.h1 x r1 r2 y3).1 (f34.h1 x r1 r2 y3).2 (kont TT 0 E34 (inlD TT E34 n ann (tabC C34) 1) n (ann 34) [1, 1, 0, 0] (bodyOf Try.f34) (endK TT Try.f34 (readL [(true, tPoint), (false, .bool)])))
def f34.s1 (n : Nat) (x : dFoot × dFoot) (r1 : (List dPoint)) (r2 : (List dPoint)) (S3 : ((List dPoint) × (List dPoint)) → Option (dPoint × Bool)) (y3 : (List dPoint) × (List dPoint)) : Option (dPoint × Bool) :=
  bif bif (decide ((y3.1.length : Int) > (0 : Int))) then (decide ((y3.2.length : Int) > (0 : Int))) else false then
    (bif decide (0 ≤ (0 : Int)) && decide ((0 : Int) < (y3.1.length : Int)) then
      (bif decide (0 ≤ (0 : Int)) && decide ((0 : Int) < (y3.2.length : Int)) then
        ((F49 (y3.1.getD 0 tPoint.dflt, y3.2.getD 0 tPoint.dflt)).bind fun r4 =>
          bif r4 == (0 : Int) then
            (bif decide (0 ≤ (0 : Int)) && decide ((0 : Int) < (y3.1.length : Int)) then
              (bif (y3.1.getD 0 tPoint.dflt).2.1 == (-1 : Int) then
                (bif decide (0 ≤ (0 : Int)) && decide ((0 : Int) < (y3.1.length : Int)) then
                  (some (y3.1.getD 0 tPoint.dflt, true))
                else
                  (none))
              else
                (bif decide (r4 ≤ (0 : Int)) then
                  (bif decide (0 ≤ (1 : Int)) && decide ((1 : Int) ≤ (y3.1.length : Int)) then
                    (S3 (List.drop 1 y3.1, y3.2))
                  else
                    (none))
                else
                  (bif decide (0 ≤ (1 : Int)) && decide ((1 : Int) ≤ (y3.2.length : Int)) then
                    (S3 (y3.1, List.drop 1 y3.2))
                  else
                    (none))))
            else
              (none))
          else
            (bif decide (r4 ≤ (0 : Int)) then
              (bif decide (0 ≤ (1 : Int)) && decide ((1 : Int) ≤ (y3.1.length : Int)) then
                (S3 (List.drop 1 y3.1, y3.2))
              else
                (none))
            else
              (bif decide (0 ≤ (1 : Int)) && decide ((1 : Int) ≤ (y3.2.length : Int)) then
                (S3 (y3.1, List.drop 1 y3.2))
              else
                (none))))
      else
        (none))
    else
      (none))
  else
    (some (((0 : Int), ((0 : Int), (⟨#[]⟩ : ByteArray))), false))
set_option maxRecDepth 100000 in
theorem f34.k1 (n : Nat) (x : dFoot × dFoot) (r1 : (List dPoint)) (r2 : (List dPoint)) (m : Nat) (y : (List dPoint) × (List dPoint)) : f34.L1 n x r1 r2 (m + 1) y = f34.s1 n x r1 r2 (f34.L1 n x r1 r2 m) y := by kernel_rfl
theorem f34.l1 (n : Nat) (x : dFoot × dFoot) (r1 : (List dPoint)) (r2 : (List dPoint)) : ∀ (m : Nat) (y3 : (List dPoint) × (List dPoint)), f34.L1 n x r1 r2 m y3 = iter (f34.s1 n x r1 r2) m y3 :=
  loop_of (L := f34.L1 n x r1 r2) (step := f34.s1 n x r1 r2) (fun _ => rfl) (f34.k1 n x r1 r2)
def f34.g (n : Nat) (x : dFoot × dFoot) : Option (dPoint × Bool) :=
  (F48 x.1.2.2).bind fun r1 =>
    (F48 x.2.2.2).bind fun r2 =>
      iter (f34.s1 n x r1 r2) n (r1, r2)
def f34.q (n : Nat) (x : dFoot × dFoot) : Option (dPoint × Bool) :=
  (F48 x.1.2.2).bind fun r1 =>
    (F48 x.2.2.2).bind fun r2 =>
      f34.L1 n x r1 r2 n (r1, r2)
set_option maxRecDepth 100000 in
theorem f34.eq (n : Nat) (x : dFoot × dFoot) : runK TT E34 n ann (tabC C34) 1 34 (argsL [(true, tFoot), (true, tFoot)] x) [] (readL [(true, tPoint), (false, .bool)]) = f34.g n x := by
  have h : runK TT E34 n ann (tabC C34) 1 34 (argsL [(true, tFoot), (true, tFoot)] x) [] (readL [(true, tPoint), (false, .bool)]) = f34.q n x := by kernel_rfl
  rw [h]
  simp only [f34.q, f34.g, f34.l1]
set_option maxRecDepth 100000 in
theorem f34.codes : CodesOk Try.prog E34 ann (tabC C34) := tabC_ok (by intro p hp; simp only [C34, List.mem_cons, List.not_mem_nil, or_false] at hp; rcases hp with rfl <;> first | exact Try.func34) (by kernel_rfl)
theorem f34.ok (h : ∀ X Y, F34 X = some Y → ∃ n, f34.g n X = some Y) (e48 : ConOk Try.prog 48 con48) (e49 : ConOk Try.prog 49 con49) : ConOk Try.prog 34 (mkCon [(true, tFoot), (true, tFoot)] [(true, tPoint), (false, .bool)] true F34) :=
  mkCon_ok mixed TT_ok (envC_ok e49 (envC_ok e48 env0_ok)) f34.codes (fun _ => List.all_eq_true.1 rfl) fun X Y hF => (h X Y hF).imp fun n hn => (f34.eq n X).trans hn
def con34 : Con := mkCon [(true, tFoot), (true, tFoot)] [(true, tPoint), (false, .bool)] true F34
/-! ### vellum/vellumref18.Wrote -/
def E15 : FuncId → Option Con := (envC 34 con34 (envC 32 con32 env0))
noncomputable def C15 : List (FuncId × Func) := [(15, Try.f15)]
def f15.h1 (x : (List dRcommit) × dFoot × Int) (r1 : Int) (y2 : Int) : List AV × List Ob := ([.val false [.sc (.sl tRcommit) x.1], .undef, .val false [.sc (.int .u64) x.2.2], .undef, .val false [.ptr 0 0], .undef, .val false [.ptr 1 0], .undef, .val false [.sc (.int .i64) y2]] ++ List.replicate 39 .undef, [.box [.sc (.sl tPoint) x.2.1.1, .sc (.sl tSpan) x.2.1.2.1, .sc (.sl tPoint) x.2.1.2.2], .box [.sc (.int .u64) (0 : Int), .sc (.int .i64) (0 : Int), .sc (.int .i64) (0 : Int), .sc .str (⟨#[]⟩ : ByteArray)]])
def f15.L1 (n : Nat) (x : (List dRcommit) × dFoot × Int) (r1 : Int) (m2 : Nat) (y2 : Int) : Option (dClash × Bool) :=
  loopN (ann 15 4).keep 2 (fun fr H k => execK TT 0 E15 (inlD TT E15 n ann (tabC C15) 1) n (ann 15) (subC [1, 1, 0, 1, 0, 0] (bodyOf Try.f15)) fr H k) m2 (f15.h1 x r1 y2).1 (f15.h1 x r1 y2).2 (kont TT 0 E15 (inlD TT E15 n ann (tabC C15) 1) n (ann 15) [1, 1, 0, 1, 0] (bodyOf Try.f15) (endK TT Try.f15 (readL [(true, tClash), (false, .bool)])))
def f15.s1 (n : Nat) (x : (List dRcommit) × dFoot × Int) (r1 : Int) (S2 : Int → Option (dClash × Bool)) (y2 : Int) : Option (dClash × Bool) :=
  bif decide (y2 < (x.1.length : Int)) then
    (bif decide (0 ≤ y2) && decide (y2 < (x.1.length : Int)) then
      (bif decide ((x.1.getD y2.toNat tRcommit.dflt).1 ≤ x.2.2) then
        (S2 (IntKind.wrap .i64 (y2 + (1 : Int))))
      else
        (bif decide (0 ≤ y2) && decide (y2 < (x.1.length : Int)) then
          ((F34 (x.2.1, ([], ([], (x.1.getD y2.toNat tRcommit.dflt).2)))).bind fun r3 =>
            bif r3.2 then
              (bif decide (0 ≤ y2) && decide (y2 < (x.1.length : Int)) then
                (some (((x.1.getD y2.toNat tRcommit.dflt).1, r3.1), true))
              else
                (none))
            else
              (S2 (IntKind.wrap .i64 (y2 + (1 : Int)))))
        else
          (none)))
    else
      (none))
  else
    (some (((0 : Int), ((0 : Int), ((0 : Int), (⟨#[]⟩ : ByteArray)))), false))
set_option maxRecDepth 100000 in
theorem f15.k1 (n : Nat) (x : (List dRcommit) × dFoot × Int) (r1 : Int) (m : Nat) (y : Int) : f15.L1 n x r1 (m + 1) y = f15.s1 n x r1 (f15.L1 n x r1 m) y := by kernel_rfl
theorem f15.l1 (n : Nat) (x : (List dRcommit) × dFoot × Int) (r1 : Int) : ∀ (m : Nat) (y2 : Int), f15.L1 n x r1 m y2 = iter (f15.s1 n x r1) m y2 :=
  loop_of (L := f15.L1 n x r1) (step := f15.s1 n x r1) (fun _ => rfl) (f15.k1 n x r1)
def f15.g (n : Nat) (x : (List dRcommit) × dFoot × Int) : Option (dClash × Bool) :=
  (F32 x.2.1).bind fun r1 =>
    bif r1 != (0 : Int) then
      (some (((0 : Int), ((0 : Int), ((0 : Int), (⟨#[]⟩ : ByteArray)))), false))
    else
      (iter (f15.s1 n x r1) n (0 : Int))
def f15.q (n : Nat) (x : (List dRcommit) × dFoot × Int) : Option (dClash × Bool) :=
  (F32 x.2.1).bind fun r1 =>
    bif r1 != (0 : Int) then
      (some (((0 : Int), ((0 : Int), ((0 : Int), (⟨#[]⟩ : ByteArray)))), false))
    else
      (f15.L1 n x r1 n (0 : Int))
set_option maxRecDepth 100000 in
theorem f15.eq (n : Nat) (x : (List dRcommit) × dFoot × Int) : runK TT E15 n ann (tabC C15) 1 15 (argsL [(false, .sl tRcommit), (true, tFoot), (false, .int .u64)] x) [] (readL [(true, tClash), (false, .bool)]) = f15.g n x := by
  have h : runK TT E15 n ann (tabC C15) 1 15 (argsL [(false, .sl tRcommit), (true, tFoot), (false, .int .u64)] x) [] (readL [(true, tClash), (false, .bool)]) = f15.q n x := by kernel_rfl
  rw [h]
  simp only [f15.q, f15.g, f15.l1]
set_option maxRecDepth 100000 in
theorem f15.codes : CodesOk Try.prog E15 ann (tabC C15) := tabC_ok (by intro p hp; simp only [C15, List.mem_cons, List.not_mem_nil, or_false] at hp; rcases hp with rfl <;> first | exact Try.func15) (by kernel_rfl)
theorem f15.ok (h : ∀ X Y, F15 X = some Y → ∃ n, f15.g n X = some Y) (e32 : ConOk Try.prog 32 con32) (e34 : ConOk Try.prog 34 con34) : ConOk Try.prog 15 (mkCon [(false, .sl tRcommit), (true, tFoot), (false, .int .u64)] [(true, tClash), (false, .bool)] true F15) :=
  mkCon_ok mixed TT_ok (envC_ok e34 (envC_ok e32 env0_ok)) f15.codes (fun _ => List.all_eq_true.1 rfl) fun X Y hF => (h X Y hF).imp fun n hn => (f15.eq n X).trans hn
def con15 : Con := mkCon [(false, .sl tRcommit), (true, tFoot), (false, .int .u64)] [(true, tClash), (false, .bool)] true F15
/-! ### vellum/vellumref18.Try -/
def E22 : FuncId → Option Con := (envC 32 con32 (envC 15 con15 (envC 13 con13 env0)))
noncomputable def C22 : List (FuncId × Func) := [(22, Try.f22)]
def f22.g (n : Nat) (x : (List dRcommit) × dAttempt) : Option (dClash × Int) :=
  (F32 x.2.2.1).bind fun r1 =>
    bif r1 != (0 : Int) then
      (some (((0 : Int), ((0 : Int), ((0 : Int), (⟨#[]⟩ : ByteArray)))), r1))
    else
      (bif bif (decide (x.2.2.2 < (1 : Int))) then true else (decide (x.2.2.2 > (3 : Int))) then
        (some (((0 : Int), ((0 : Int), ((0 : Int), (⟨#[]⟩ : ByteArray)))), (200 : Int)))
      else
        (bif decide (x.2.2.2 ≥ (2 : Int)) then
          ((F15 (x.1, (x.2.2.1, x.2.1))).bind fun r2 =>
            bif r2.2 then
              (some (r2.1, (112 : Int)))
            else
              (bif x.2.2.2 == (3 : Int) then
                ((F13 (x.1, (x.2.2.1, x.2.1))).bind fun r3 =>
                  bif r3.2 then
                    (some (r3.1, (205 : Int)))
                  else
                    (some (((0 : Int), ((0 : Int), ((0 : Int), (⟨#[]⟩ : ByteArray)))), (0 : Int))))
              else
                (some (((0 : Int), ((0 : Int), ((0 : Int), (⟨#[]⟩ : ByteArray)))), (0 : Int)))))
        else
          (bif x.2.2.2 == (3 : Int) then
            ((F13 (x.1, (x.2.2.1, x.2.1))).bind fun r4 =>
              bif r4.2 then
                (some (r4.1, (205 : Int)))
              else
                (some (((0 : Int), ((0 : Int), ((0 : Int), (⟨#[]⟩ : ByteArray)))), (0 : Int))))
          else
            (some (((0 : Int), ((0 : Int), ((0 : Int), (⟨#[]⟩ : ByteArray)))), (0 : Int))))))
set_option maxRecDepth 100000 in
theorem f22.eq (n : Nat) (x : (List dRcommit) × dAttempt) : runK TT E22 n ann (tabC C22) 1 22 (argsL [(false, .sl tRcommit), (true, tAttempt)] x) [] (readL [(true, tClash), (false, .int .i64)]) = f22.g n x := by
  kernel_rfl
set_option maxRecDepth 100000 in
theorem f22.codes : CodesOk Try.prog E22 ann (tabC C22) := tabC_ok (by intro p hp; simp only [C22, List.mem_cons, List.not_mem_nil, or_false] at hp; rcases hp with rfl <;> first | exact Try.func22) (by kernel_rfl)
theorem f22.ok (h : ∀ X Y, F22 X = some Y → ∃ n, f22.g n X = some Y) (e13 : ConOk Try.prog 13 con13) (e15 : ConOk Try.prog 15 con15) (e32 : ConOk Try.prog 32 con32) : ConOk Try.prog 22 (mkCon [(false, .sl tRcommit), (true, tAttempt)] [(true, tClash), (false, .int .i64)] true F22) :=
  mkCon_ok mixed TT_ok (envC_ok e32 (envC_ok e15 (envC_ok e13 env0_ok))) f22.codes (fun _ => List.all_eq_true.1 rfl) fun X Y hF => (h X Y hF).imp fun n hn => (f22.eq n X).trans hn
def con22 : Con := mkCon [(false, .sl tRcommit), (true, tAttempt)] [(true, tClash), (false, .int .i64)] true F22
/-! ### vellum/valid.Schedule -/
def E25 : FuncId → Option Con := (envC 23 con23 (envC 21 con21 env0))
noncomputable def C25 : List (FuncId × Func) := [(25, Try.f25), (29, Try.f29)]
def f25.h1 (x : Int × (List dAttempt)) (y1 : Int × Nat × Int × Bool × Nat × (List dFate) × (List dCommit)) : List AV × List Ob := ([.val false [.sc (.int .u64) y1.1], .undef, .undef, .undef, .undef, .undef, .val false [.ptr 0 0], .val false [.own 1 y1.2.1], .undef, .undef, .undef, .undef, .undef, .undef, .undef, .undef, .undef, .undef, .undef, .undef, .undef, .val false [.sc (.sl tAttempt) x.2], .val false [.sc (.int .i64) (x.2.length : Int)], .val false [.sc (.int .i64) y1.2.2.1]] ++ List.replicate 34 .undef, [.box [.sc .bool y1.2.2.2.1, .own 2 y1.2.2.2.2.1], .arr 71 tFate y1.2.2.2.2.2.1, .arr 85 tCommit y1.2.2.2.2.2.2])
def f25.L1 (n : Nat) (x : Int × (List dAttempt)) (m1 : Nat) (y1 : Int × Nat × Int × Bool × Nat × (List dFate) × (List dCommit)) : Option ((List dFate) × Int) :=
  loopN (ann 25 8).keep 3 (fun fr H k => execK TT 0 E25 (inlD TT E25 n ann (tabC C25) 2) n (ann 25) (subC [1, 1, 1, 1, 0, 1, 0, 0] (bodyOf Try.f25)) fr H k) m1 (f25.h1 x y1).1 (f25.h1 x y1).2 (kont TT 0 E25 (inlD TT E25 n ann (tabC C25) 2) n (ann 25) [1, 1, 1, 1, 0, 1, 0] (bodyOf Try.f25) (endK TT Try.f25 (readL [(false, .sl tFate), (false, .int .i64)])))
def f25.s1 (n : Nat) (x : Int × (List dAttempt)) (S1 : (Int × Nat × Int × Bool × Nat × (List dFate) × (List dCommit)) → Option ((List dFate) × Int)) (y1 : Int × Nat × Int × Bool × Nat × (List dFate) × (List dCommit)) : Option ((List dFate) × Int) :=
  bif decide (y1.2.2.1 < (x.2.length : Int)) then
    (bif decide (0 ≤ y1.2.2.1) && decide (y1.2.2.1 < (x.2.length : Int)) then
      ((F21 ((y1.2.2.2.1, List.take y1.2.2.2.2.1 y1.2.2.2.2.2.2), x.2.getD y1.2.2.1.toNat tAttempt.dflt)).bind fun r2 =>
        bif r2.2 != (0 : Int) then
          (bif decide ((y1.2.1 + 1) * 56 ≤ boundN) then
            (S1 (y1.1, (y1.2.1 + 1, (IntKind.wrap .i64 (y1.2.2.1 + (1 : Int)), (y1.2.2.2.1, (y1.2.2.2.2.1, (List.take y1.2.1 y1.2.2.2.2.2.1 ++ ([((0 : Int), (r2.2, r2.1))]), y1.2.2.2.2.2.2)))))))
          else
            (none))
        else
          (bif y1.1 == (4611686018427387904 : Int) then
            (bif decide ((y1.2.1 + 1) * 56 ≤ boundN) then
              (S1 (y1.1, (y1.2.1 + 1, (IntKind.wrap .i64 (y1.2.2.1 + (1 : Int)), (y1.2.2.2.1, (y1.2.2.2.2.1, (List.take y1.2.1 y1.2.2.2.2.2.1 ++ ([((0 : Int), ((4 : Int), r2.1))]), y1.2.2.2.2.2.2)))))))
            else
              (none))
          else
            ((F23 ((y1.2.2.2.1, List.take y1.2.2.2.2.1 y1.2.2.2.2.2.2), (IntKind.wrap .u64 (y1.1 + (1 : Int)), (x.2.getD y1.2.2.1.toNat tAttempt.dflt).2.1))).bind fun r3 =>
              bif decide ((y1.2.1 + 1) * 56 ≤ boundN) then
                (S1 (IntKind.wrap .u64 (y1.1 + (1 : Int)), (y1.2.1 + 1, (IntKind.wrap .i64 (y1.2.2.1 + (1 : Int)), (r3.1.1, (r3.1.2.length, (List.take y1.2.1 y1.2.2.2.2.2.1 ++ ([(IntKind.wrap .u64 (y1.1 + (1 : Int)), (r2.2, r2.1))]), r3.1.2)))))))
              else
                (none))))
    else
      (none))
  else
    (some (List.take y1.2.1 y1.2.2.2.2.2.1, (0 : Int)))
set_option maxRecDepth 100000 in
theorem f25.k1 (n : Nat) (x : Int × (List dAttempt)) (m : Nat) (y : Int × Nat × Int × Bool × Nat × (List dFate) × (List dCommit)) : f25.L1 n x (m + 1) y = f25.s1 n x (f25.L1 n x m) y := by kernel_rfl
theorem f25.l1 (n : Nat) (x : Int × (List dAttempt)) : ∀ (m : Nat) (y1 : Int × Nat × Int × Bool × Nat × (List dFate) × (List dCommit)), f25.L1 n x m y1 = iter (f25.s1 n x) m y1 :=
  loop_of (L := f25.L1 n x) (step := f25.s1 n x) (fun _ => rfl) (f25.k1 n x)
def f25.g (n : Nat) (x : Int × (List dAttempt)) : Option ((List dFate) × Int) :=
  bif decide (x.1 > (4611686018427387904 : Int)) then
    (some ([], (1 : Int)))
  else
    (bif decide ((x.2.length : Int) > (4096 : Int)) then
      (some ([], (2 : Int)))
    else
      (iter (f25.s1 n x) n (x.1, (0, ((0 : Int), (true, (0, ([], []))))))))
def f25.q (n : Nat) (x : Int × (List dAttempt)) : Option ((List dFate) × Int) :=
  bif decide (x.1 > (4611686018427387904 : Int)) then
    (some ([], (1 : Int)))
  else
    (bif decide ((x.2.length : Int) > (4096 : Int)) then
      (some ([], (2 : Int)))
    else
      (f25.L1 n x n (x.1, (0, ((0 : Int), (true, (0, ([], []))))))))
set_option maxRecDepth 100000 in
theorem f25.eq (n : Nat) (x : Int × (List dAttempt)) : runK TT E25 n ann (tabC C25) 2 25 (argsL [(false, .int .u64), (false, .sl tAttempt)] x) [] (readL [(false, .sl tFate), (false, .int .i64)]) = f25.g n x := by
  have h : runK TT E25 n ann (tabC C25) 2 25 (argsL [(false, .int .u64), (false, .sl tAttempt)] x) [] (readL [(false, .sl tFate), (false, .int .i64)]) = f25.q n x := by kernel_rfl
  rw [h]
  simp only [f25.q, f25.g, f25.l1]
set_option maxRecDepth 100000 in
theorem f25.codes : CodesOk Try.prog E25 ann (tabC C25) := tabC_ok (by intro p hp; simp only [C25, List.mem_cons, List.not_mem_nil, or_false] at hp; rcases hp with rfl | rfl <;> first | exact Try.func25 | exact Try.func29) (by kernel_rfl)
theorem f25.ok (h : ∀ X Y, F25 X = some Y → ∃ n, f25.g n X = some Y) (e21 : ConOk Try.prog 21 con21) (e23 : ConOk Try.prog 23 con23) : ConOk Try.prog 25 (mkCon [(false, .int .u64), (false, .sl tAttempt)] [(false, .sl tFate), (false, .int .i64)] false F25) :=
  mkCon_ok mixed TT_ok (envC_ok e23 (envC_ok e21 env0_ok)) f25.codes (fun h => by cases h) fun X Y hF => (h X Y hF).imp fun n hn => (f25.eq n X).trans hn
def con25 : Con := mkCon [(false, .int .u64), (false, .sl tAttempt)] [(false, .sl tFate), (false, .int .i64)] false F25
/-! ### vellum/vellumref18.Schedule -/
def E26 : FuncId → Option Con := (envC 30 con30 (envC 22 con22 env0))
noncomputable def C26 : List (FuncId × Func) := [(26, Try.f26)]
def f26.h1 (x : Int × (List dAttempt)) (y1 : Int × (List dRcommit) × Nat × Int × (List dFate)) : List AV × List Ob := ([.val false [.sc (.int .u64) y1.1], .val false [.sc (.sl tAttempt) x.2], .undef, .undef, .undef, .undef, .val false [.sc (.sl tRcommit) y1.2.1], .val false [.own 0 y1.2.2.1], .val false [.sc (.int .i64) y1.2.2.2.1]] ++ List.replicate 54 .undef, [.arr 71 tFate y1.2.2.2.2])
def f26.L1 (n : Nat) (x : Int × (List dAttempt)) (m1 : Nat) (y1 : Int × (List dRcommit) × Nat × Int × (List dFate)) : Option ((List dFate) × Int) :=
  loopN (ann 26 8).keep 1 (fun fr H k => execK TT 0 E26 (inlD TT E26 n ann (tabC C26) 1) n (ann 26) (subC [1, 1, 1, 1, 1, 0, 1, 0, 0] (bodyOf Try.f26)) fr H k) m1 (f26.h1 x y1).1 (f26.h1 x y1).2 (kont TT 0 E26 (inlD TT E26 n ann (tabC C26) 1) n (ann 26) [1, 1, 1, 1, 1, 0, 1, 0] (bodyOf Try.f26) (endK TT Try.f26 (readL [(false, .sl tFate), (false, .int .i64)])))
def f26.s1 (n : Nat) (x : Int × (List dAttempt)) (S1 : (Int × (List dRcommit) × Nat × Int × (List dFate)) → Option ((List dFate) × Int)) (y1 : Int × (List dRcommit) × Nat × Int × (List dFate)) : Option ((List dFate) × Int) :=
  bif decide (y1.2.2.2.1 < (x.2.length : Int)) then
    (bif decide (0 ≤ y1.2.2.2.1) && decide (y1.2.2.2.1 < (x.2.length : Int)) then
      ((F22 (y1.2.1, x.2.getD y1.2.2.2.1.toNat tAttempt.dflt)).bind fun r2 =>
        bif bif (r2.2 == (0 : Int)) then (y1.1 == (4611686018427387904 : Int)) else false then
          (bif decide ((y1.2.2.1 + 1) * 56 ≤ boundN) then
            (S1 (y1.1, (y1.2.1, (y1.2.2.1 + 1, (IntKind.wrap .i64 (y1.2.2.2.1 + (1 : Int)), List.take y1.2.2.1 y1.2.2.2.2 ++ ([((0 : Int), ((4 : Int), r2.1))]))))))
          else
            (none))
        else
          (bif r2.2 == (0 : Int) then
            (bif decide (0 ≤ y1.2.2.2.1) && decide (y1.2.2.2.1 < (x.2.length : Int)) then
              ((F30 (y1.2.1, (IntKind.wrap .u64 (y1.1 + (1 : Int)), (x.2.getD y1.2.2.2.1.toNat tAttempt.dflt).2.1))).bind fun r3 =>
                bif decide ((y1.2.2.1 + 1) * 56 ≤ boundN) then
                  (S1 (IntKind.wrap .u64 (y1.1 + (1 : Int)), (r3.1, (y1.2.2.1 + 1, (IntKind.wrap .i64 (y1.2.2.2.1 + (1 : Int)), List.take y1.2.2.1 y1.2.2.2.2 ++ ([(IntKind.wrap .u64 (y1.1 + (1 : Int)), (r2.2, r2.1))]))))))
                else
                  (none))
            else
              (none))
          else
            (bif decide ((y1.2.2.1 + 1) * 56 ≤ boundN) then
              (S1 (y1.1, (y1.2.1, (y1.2.2.1 + 1, (IntKind.wrap .i64 (y1.2.2.2.1 + (1 : Int)), List.take y1.2.2.1 y1.2.2.2.2 ++ ([((0 : Int), (r2.2, r2.1))]))))))
            else
              (none))))
    else
      (none))
  else
    (some (List.take y1.2.2.1 y1.2.2.2.2, (0 : Int)))
set_option maxRecDepth 100000 in
theorem f26.k1 (n : Nat) (x : Int × (List dAttempt)) (m : Nat) (y : Int × (List dRcommit) × Nat × Int × (List dFate)) : f26.L1 n x (m + 1) y = f26.s1 n x (f26.L1 n x m) y := by kernel_rfl
theorem f26.l1 (n : Nat) (x : Int × (List dAttempt)) : ∀ (m : Nat) (y1 : Int × (List dRcommit) × Nat × Int × (List dFate)), f26.L1 n x m y1 = iter (f26.s1 n x) m y1 :=
  loop_of (L := f26.L1 n x) (step := f26.s1 n x) (fun _ => rfl) (f26.k1 n x)
def f26.g (n : Nat) (x : Int × (List dAttempt)) : Option ((List dFate) × Int) :=
  bif decide (x.1 > (4611686018427387904 : Int)) then
    (some ([], (1 : Int)))
  else
    (bif decide ((x.2.length : Int) > (4096 : Int)) then
      (some ([], (2 : Int)))
    else
      (iter (f26.s1 n x) n (x.1, ([], (0, ((0 : Int), []))))))
def f26.q (n : Nat) (x : Int × (List dAttempt)) : Option ((List dFate) × Int) :=
  bif decide (x.1 > (4611686018427387904 : Int)) then
    (some ([], (1 : Int)))
  else
    (bif decide ((x.2.length : Int) > (4096 : Int)) then
      (some ([], (2 : Int)))
    else
      (f26.L1 n x n (x.1, ([], (0, ((0 : Int), []))))))
set_option maxRecDepth 100000 in
theorem f26.eq (n : Nat) (x : Int × (List dAttempt)) : runK TT E26 n ann (tabC C26) 1 26 (argsL [(false, .int .u64), (false, .sl tAttempt)] x) [] (readL [(false, .sl tFate), (false, .int .i64)]) = f26.g n x := by
  have h : runK TT E26 n ann (tabC C26) 1 26 (argsL [(false, .int .u64), (false, .sl tAttempt)] x) [] (readL [(false, .sl tFate), (false, .int .i64)]) = f26.q n x := by kernel_rfl
  rw [h]
  simp only [f26.q, f26.g, f26.l1]
set_option maxRecDepth 100000 in
theorem f26.codes : CodesOk Try.prog E26 ann (tabC C26) := tabC_ok (by intro p hp; simp only [C26, List.mem_cons, List.not_mem_nil, or_false] at hp; rcases hp with rfl <;> first | exact Try.func26) (by kernel_rfl)
theorem f26.ok (h : ∀ X Y, F26 X = some Y → ∃ n, f26.g n X = some Y) (e22 : ConOk Try.prog 22 con22) (e30 : ConOk Try.prog 30 con30) : ConOk Try.prog 26 (mkCon [(false, .int .u64), (false, .sl tAttempt)] [(false, .sl tFate), (false, .int .i64)] false F26) :=
  mkCon_ok mixed TT_ok (envC_ok e30 (envC_ok e22 env0_ok)) f26.codes (fun h => by cases h) fun X Y hF => (h X Y hF).imp fun n hn => (f26.eq n X).trans hn
def con26 : Con := mkCon [(false, .int .u64), (false, .sl tAttempt)] [(false, .sl tFate), (false, .int .i64)] false F26
/-! ### vellum/vellumlaw18.ValidTrims -/
def E6 : FuncId → Option Con := (envC 30 con30 (envC 23 con23 (envC 21 con21 (envC 19 con19 (envC 17 con17 (envC 16 con16 env0))))))
noncomputable def C6 : List (FuncId × Func) := [(6, Try.f6), (11, Try.f11), (29, Try.f29)]
def f6.h1 (x : (List dCommit) × dAttempt × Int) (y1 : (List dRcommit) × Int × Bool × Nat × (List dCommit)) (r2 : (Bool × List dCommit) × Int) (r3 : (List dRcommit) × Int) (y4 : (List dRcommit) × Int × Bool × Nat × (List dCommit)) : List AV × List Ob := ([.val false [.sc (.sl tCommit) x.1], .undef, .undef, .undef, .undef, .val false [.ptr 3 0], .val false [.sc (.sl tRcommit) y4.1], .val false [.sc (.int .i64) y4.2.1]] ++ List.replicate 45 .undef, [.box [.sc (.int .u64) x.2.1.1, .sc (.sl tPoint) x.2.1.2.1.1, .sc (.sl tSpan) x.2.1.2.1.2.1, .sc (.sl tPoint) x.2.1.2.1.2.2, .sc (.int .i64) x.2.1.2.2], .box [.sc .bool r2.1.1, .own 2 r2.1.2.length], .arr 85 tCommit r2.1.2, .box [.sc .bool y4.2.2.1, .own 4 y4.2.2.2.1], .arr 85 tCommit y4.2.2.2.2])
def f6.h2 (x : (List dCommit) × dAttempt × Int) (y1 : (List dRcommit) × Int × Bool × Nat × (List dCommit)) (y7 : (List dRcommit) × Int × Bool × Nat × (List dCommit)) : List AV × List Ob := ([.val false [.sc (.sl tCommit) x.1], .undef, .undef, .undef, .undef, .val false [.ptr 3 0], .val false [.sc (.sl tRcommit) y7.1], .val false [.sc (.int .i64) y7.2.1]] ++ List.replicate 45 .undef, [.box [.sc (.int .u64) x.2.1.1, .sc (.sl tPoint) x.2.1.2.1.1, .sc (.sl tSpan) x.2.1.2.1.2.1, .sc (.sl tPoint) x.2.1.2.1.2.2, .sc (.int .i64) x.2.1.2.2], .box [.sc .bool y1.2.2.1, .own 2 y1.2.2.2.1], .arr 85 tCommit y1.2.2.2.2, .box [.sc .bool y7.2.2.1, .own 4 y7.2.2.2.1], .arr 85 tCommit y7.2.2.2.2])
def f6.h3 (x : (List dCommit) × dAttempt × Int) (y1 : (List dRcommit) × Int × Bool × Nat × (List dCommit)) : List AV × List Ob := ([.val false [.sc (.sl tCommit) x.1], .undef, .undef, .undef, .undef, .val false [.ptr 1 0], .val false [.sc (.sl tRcommit) y1.1], .val false [.sc (.int .i64) y1.2.1]] ++ List.replicate 45 .undef, [.box [.sc (.int .u64) x.2.1.1, .sc (.sl tPoint) x.2.1.2.1.1, .sc (.sl tSpan) x.2.1.2.1.2.1, .sc (.sl tPoint) x.2.1.2.1.2.2, .sc (.int .i64) x.2.1.2.2], .box [.sc .bool y1.2.2.1, .own 2 y1.2.2.2.1], .arr 85 tCommit y1.2.2.2.2])
def f6.L1 (n : Nat) (x : (List dCommit) × dAttempt × Int) (y1 : (List dRcommit) × Int × Bool × Nat × (List dCommit)) (r2 : (Bool × List dCommit) × Int) (r3 : (List dRcommit) × Int) (m4 : Nat) (y4 : (List dRcommit) × Int × Bool × Nat × (List dCommit)) : Option (Bool) :=
  loopN (ann 11 6).keep 5 (fun fr H k => execK TT 3 E6 (inlD TT E6 n ann (tabC C6) 2) n (ann 11) (subC [1, 1, 1, 1, 0, 1, 0, 0] (bodyOf Try.f11)) fr H k) m4 (f6.h1 x y1 r2 r3 y4).1 (f6.h1 x y1 r2 r3 y4).2 (kont TT 3 E6 (inlD TT E6 n ann (tabC C6) 2) n (ann 11) [1, 1, 1, 1, 0, 1, 0] (bodyOf Try.f11) (endK TT Try.f11 (restK TT 0 E6 (inlD TT E6 n ann (tabC C6) 3) false (ann 6 2).plain (opsOf (subC [1, 1, 0] (bodyOf Try.f6))) 1 ⟨[.val false [.sc (.sl tCommit) x.1], .val true [.sc (.int .u64) x.2.1.1, .sc (.sl tPoint) x.2.1.2.1.1, .sc (.sl tSpan) x.2.1.2.1.2.1, .sc (.sl tPoint) x.2.1.2.1.2.2, .sc (.int .i64) x.2.1.2.2], .val false [.sc (.int .u64) x.2.2], .undef, .val false [.ptr 0 0], .undef, .val false [.sc .bool false], .val false [.nilp], .val false [.nils], .val false [.sc .bool false], .undef, .undef, .undef, .undef, .undef, .undef, .undef, .tup [(false, [.nilp]), (false, [.nils]), (false, [.sc .bool false])], .val false [.sc (.sl tCommit) x.1], .tup [(false, [.nilp]), (false, [.nils]), (false, [.sc .bool false])], .val false [.nilp], .val false [.nils], .val false [.sc .bool false], .undef, .val false [.sc (.sl tCommit) x.1]] ++ List.replicate 42 .undef, [], []⟩ (fun g H => (kont TT 0 E6 (inlD TT E6 n ann (tabC C6) 3) n (ann 6) [1, 1, 0] (bodyOf Try.f6) (endK TT Try.f6 (readL [(false, .bool)]))) .normal (endG g) H))))
def f6.L2 (n : Nat) (x : (List dCommit) × dAttempt × Int) (y1 : (List dRcommit) × Int × Bool × Nat × (List dCommit)) (m7 : Nat) (y7 : (List dRcommit) × Int × Bool × Nat × (List dCommit)) : Option (Bool) :=
  loopN (ann 11 6).keep 5 (fun fr H k => execK TT 3 E6 (inlD TT E6 n ann (tabC C6) 2) n (ann 11) (subC [1, 1, 1, 1, 0, 1, 0, 0] (bodyOf Try.f11)) fr H k) m7 (f6.h2 x y1 y7).1 (f6.h2 x y1 y7).2 (kont TT 3 E6 (inlD TT E6 n ann (tabC C6) 2) n (ann 11) [1, 1, 1, 1, 0, 1, 0] (bodyOf Try.f11) (endK TT Try.f11 (restK TT 0 E6 (inlD TT E6 n ann (tabC C6) 3) false (ann 6 2).plain (opsOf (subC [1, 1, 0] (bodyOf Try.f6))) 1 ⟨[.val false [.sc (.sl tCommit) x.1], .val true [.sc (.int .u64) x.2.1.1, .sc (.sl tPoint) x.2.1.2.1.1, .sc (.sl tSpan) x.2.1.2.1.2.1, .sc (.sl tPoint) x.2.1.2.1.2.2, .sc (.int .i64) x.2.1.2.2], .val false [.sc (.int .u64) x.2.2], .undef, .val false [.ptr 0 0], .undef, .val false [.sc .bool false], .val false [.ptr 1 0], .val false [.sc (.sl tRcommit) y1.1], .val false [.sc .bool true], .undef, .undef, .undef, .undef, .undef, .undef, .undef, .tup [(false, [.ptr 1 0]), (false, [.sc (.sl tRcommit) y1.1]), (false, [.sc .bool true])], .val false [.sc (.sl tCommit) x.1], .tup [(false, [.ptr 1 0]), (false, [.sc (.sl tRcommit) y1.1]), (false, [.sc .bool true])], .val false [.ptr 1 0], .val false [.sc (.sl tRcommit) y1.1], .val false [.sc .bool true], .undef, .val false [.sc (.sl tCommit) x.1]] ++ List.replicate 42 .undef, [], []⟩ (fun g H => (kont TT 0 E6 (inlD TT E6 n ann (tabC C6) 3) n (ann 6) [1, 1, 0] (bodyOf Try.f6) (endK TT Try.f6 (readL [(false, .bool)]))) .normal (endG g) H))))
def f6.L3 (n : Nat) (x : (List dCommit) × dAttempt × Int) (m1 : Nat) (y1 : (List dRcommit) × Int × Bool × Nat × (List dCommit)) : Option (Bool) :=
  loopN (ann 11 6).keep 3 (fun fr H k => execK TT 1 E6 (inlD TT E6 n ann (tabC C6) 2) n (ann 11) (subC [1, 1, 1, 1, 0, 1, 0, 0] (bodyOf Try.f11)) fr H k) m1 (f6.h3 x y1).1 (f6.h3 x y1).2 (kont TT 1 E6 (inlD TT E6 n ann (tabC C6) 2) n (ann 11) [1, 1, 1, 1, 0, 1, 0] (bodyOf Try.f11) (endK TT Try.f11 (restK TT 0 E6 (inlD TT E6 n ann (tabC C6) 3) false (ann 6 1).plain (opsOf (subC [1, 0] (bodyOf Try.f6))) 1 ⟨[.val false [.sc (.sl tCommit) x.1], .val true [.sc (.int .u64) x.2.1.1, .sc (.sl tPoint) x.2.1.2.1.1, .sc (.sl tSpan) x.2.1.2.1.2.1, .sc (.sl tPoint) x.2.1.2.1.2.2, .sc (.int .i64) x.2.1.2.2], .val false [.sc (.int .u64) x.2.2], .undef, .val false [.ptr 0 0], .undef, .val false [.sc .bool false], .undef, .undef, .undef, .undef, .undef, .undef, .undef, .undef, .undef, .undef, .undef, .val false [.sc (.sl tCommit) x.1]] ++ List.replicate 48 .undef, [], []⟩ (fun g H => (kont TT 0 E6 (inlD TT E6 n ann (tabC C6) 3) n (ann 6) [1, 0] (bodyOf Try.f6) (endK TT Try.f6 (readL [(false, .bool)]))) .normal (endG g) H))))
def f6.s1 (n : Nat) (x : (List dCommit) × dAttempt × Int) (y1 : (List dRcommit) × Int × Bool × Nat × (List dCommit)) (r2 : (Bool × List dCommit) × Int) (r3 : (List dRcommit) × Int) (S4 : ((List dRcommit) × Int × Bool × Nat × (List dCommit)) → Option (Bool)) (y4 : (List dRcommit) × Int × Bool × Nat × (List dCommit)) : Option (Bool) :=
  bif decide (y4.2.1 < (x.1.length : Int)) then
    (bif decide (0 ≤ y4.2.1) && decide (y4.2.1 < (x.1.length : Int)) then
      (bif decide (0 ≤ y4.2.1) && decide (y4.2.1 < (x.1.length : Int)) then
        ((F23 ((y4.2.2.1, List.take y4.2.2.2.1 y4.2.2.2.2), x.1.getD y4.2.1.toNat tCommit.dflt)).bind fun r5 =>
          bif decide (0 ≤ y4.2.1) && decide (y4.2.1 < (x.1.length : Int)) then
            (bif decide (0 ≤ y4.2.1) && decide (y4.2.1 < (x.1.length : Int)) then
              ((F30 (y4.1, x.1.getD y4.2.1.toNat tCommit.dflt)).bind fun r6 =>
                bif r5.2 != r6.2 then
                  (some false)
                else
                  (S4 (r6.1, (IntKind.wrap .i64 (y4.2.1 + (1 : Int)), (r5.1.1, (r5.1.2.length, r5.1.2))))))
            else
              (none))
          else
            (none))
      else
        (none))
    else
      (none))
  else
    (some false)
set_option maxRecDepth 100000 in
theorem f6.k1 (n : Nat) (x : (List dCommit) × dAttempt × Int) (y1 : (List dRcommit) × Int × Bool × Nat × (List dCommit)) (r2 : (Bool × List dCommit) × Int) (r3 : (List dRcommit) × Int) (m : Nat) (y : (List dRcommit) × Int × Bool × Nat × (List dCommit)) : f6.L1 n x y1 r2 r3 (m + 1) y = f6.s1 n x y1 r2 r3 (f6.L1 n x y1 r2 r3 m) y := by kernel_rfl
theorem f6.l1 (n : Nat) (x : (List dCommit) × dAttempt × Int) (y1 : (List dRcommit) × Int × Bool × Nat × (List dCommit)) (r2 : (Bool × List dCommit) × Int) (r3 : (List dRcommit) × Int) : ∀ (m : Nat) (y4 : (List dRcommit) × Int × Bool × Nat × (List dCommit)), f6.L1 n x y1 r2 r3 m y4 = iter (f6.s1 n x y1 r2 r3) m y4 :=
  loop_of (L := f6.L1 n x y1 r2 r3) (step := f6.s1 n x y1 r2 r3) (fun _ => rfl) (f6.k1 n x y1 r2 r3)
def f6.s2 (n : Nat) (x : (List dCommit) × dAttempt × Int) (y1 : (List dRcommit) × Int × Bool × Nat × (List dCommit)) (S7 : ((List dRcommit) × Int × Bool × Nat × (List dCommit)) → Option (Bool)) (y7 : (List dRcommit) × Int × Bool × Nat × (List dCommit)) : Option (Bool) :=
  bif decide (y7.2.1 < (x.1.length : Int)) then
    (bif decide (0 ≤ y7.2.1) && decide (y7.2.1 < (x.1.length : Int)) then
      (bif decide (0 ≤ y7.2.1) && decide (y7.2.1 < (x.1.length : Int)) then
        ((F23 ((y7.2.2.1, List.take y7.2.2.2.1 y7.2.2.2.2), x.1.getD y7.2.1.toNat tCommit.dflt)).bind fun r8 =>
          bif decide (0 ≤ y7.2.1) && decide (y7.2.1 < (x.1.length : Int)) then
            (bif decide (0 ≤ y7.2.1) && decide (y7.2.1 < (x.1.length : Int)) then
              ((F30 (y7.1, x.1.getD y7.2.1.toNat tCommit.dflt)).bind fun r9 =>
                bif r8.2 != r9.2 then
                  (some false)
                else
                  (S7 (r9.1, (IntKind.wrap .i64 (y7.2.1 + (1 : Int)), (r8.1.1, (r8.1.2.length, r8.1.2))))))
            else
              (none))
          else
            (none))
      else
        (none))
    else
      (none))
  else
    (bif decide (x.2.1.1 < x.2.2) then
      ((F19 ((y7.2.2.1, List.take y7.2.2.2.1 y7.2.2.2.2), x.2.2)).bind fun r10 =>
        (F21 ((y1.2.2.1, List.take y1.2.2.2.1 y1.2.2.2.2), (x.2.2, x.2.1.2))).bind fun r11 =>
          (F21 ((r10.1.1, List.take r10.1.2.length r10.1.2), (x.2.2, x.2.1.2))).bind fun r12 =>
            bif r11.2 == r12.2 then
              ((F16 (r11.1, r12.1)).bind fun r13 =>
                bif r13 then
                  ((F17 ()).bind fun r14 =>
                    some r14)
                else
                  (some false))
            else
              (some false))
    else
      ((F19 ((y7.2.2.1, List.take y7.2.2.2.1 y7.2.2.2.2), x.2.2)).bind fun r15 =>
        (F21 ((y1.2.2.1, List.take y1.2.2.2.1 y1.2.2.2.2), x.2.1)).bind fun r16 =>
          (F21 ((r15.1.1, List.take r15.1.2.length r15.1.2), x.2.1)).bind fun r17 =>
            bif r16.2 == r17.2 then
              ((F16 (r16.1, r17.1)).bind fun r18 =>
                bif r18 then
                  ((F17 ()).bind fun r19 =>
                    some r19)
                else
                  (some false))
            else
              (some false)))
set_option maxRecDepth 100000 in
theorem f6.k2 (n : Nat) (x : (List dCommit) × dAttempt × Int) (y1 : (List dRcommit) × Int × Bool × Nat × (List dCommit)) (m : Nat) (y : (List dRcommit) × Int × Bool × Nat × (List dCommit)) : f6.L2 n x y1 (m + 1) y = f6.s2 n x y1 (f6.L2 n x y1 m) y := by kernel_rfl
theorem f6.l2 (n : Nat) (x : (List dCommit) × dAttempt × Int) (y1 : (List dRcommit) × Int × Bool × Nat × (List dCommit)) : ∀ (m : Nat) (y7 : (List dRcommit) × Int × Bool × Nat × (List dCommit)), f6.L2 n x y1 m y7 = iter (f6.s2 n x y1) m y7 :=
  loop_of (L := f6.L2 n x y1) (step := f6.s2 n x y1) (fun _ => rfl) (f6.k2 n x y1)
def f6.s3 (n : Nat) (x : (List dCommit) × dAttempt × Int) (S1 : ((List dRcommit) × Int × Bool × Nat × (List dCommit)) → Option (Bool)) (y1 : (List dRcommit) × Int × Bool × Nat × (List dCommit)) : Option (Bool) :=
  bif decide (y1.2.1 < (x.1.length : Int)) then
    (bif decide (0 ≤ y1.2.1) && decide (y1.2.1 < (x.1.length : Int)) then
      (bif decide (0 ≤ y1.2.1) && decide (y1.2.1 < (x.1.length : Int)) then
        ((F23 ((y1.2.2.1, List.take y1.2.2.2.1 y1.2.2.2.2), x.1.getD y1.2.1.toNat tCommit.dflt)).bind fun r2 =>
          bif decide (0 ≤ y1.2.1) && decide (y1.2.1 < (x.1.length : Int)) then
            (bif decide (0 ≤ y1.2.1) && decide (y1.2.1 < (x.1.length : Int)) then
              ((F30 (y1.1, x.1.getD y1.2.1.toNat tCommit.dflt)).bind fun r3 =>
                bif r2.2 != r3.2 then
                  (iter (f6.s1 n x y1 r2 r3) n ([], ((0 : Int), (true, (0, [])))))
                else
                  (S1 (r3.1, (IntKind.wrap .i64 (y1.2.1 + (1 : Int)), (r2.1.1, (r2.1.2.length, r2.1.2))))))
            else
              (none))
          else
            (none))
      else
        (none))
    else
      (none))
  else
    (iter (f6.s2 n x y1) n ([], ((0 : Int), (true, (0, [])))))
def f6.r3 (n : Nat) (x : (List dCommit) × dAttempt × Int) (m1 : Nat) (S1 : ((List dRcommit) × Int × Bool × Nat × (List dCommit)) → Option (Bool)) (y1 : (List dRcommit) × Int × Bool × Nat × (List dCommit)) : Option (Bool) :=
  bif decide (y1.2.1 < (x.1.length : Int)) then
    (bif decide (0 ≤ y1.2.1) && decide (y1.2.1 < (x.1.length : Int)) then
      (bif decide (0 ≤ y1.2.1) && decide (y1.2.1 < (x.1.length : Int)) then
        ((F23 ((y1.2.2.1, List.take y1.2.2.2.1 y1.2.2.2.2), x.1.getD y1.2.1.toNat tCommit.dflt)).bind fun r2 =>
          bif decide (0 ≤ y1.2.1) && decide (y1.2.1 < (x.1.length : Int)) then
            (bif decide (0 ≤ y1.2.1) && decide (y1.2.1 < (x.1.length : Int)) then
              ((F30 (y1.1, x.1.getD y1.2.1.toNat tCommit.dflt)).bind fun r3 =>
                bif r2.2 != r3.2 then
                  (f6.L1 n x y1 r2 r3 n ([], ((0 : Int), (true, (0, [])))))
                else
                  (S1 (r3.1, (IntKind.wrap .i64 (y1.2.1 + (1 : Int)), (r2.1.1, (r2.1.2.length, r2.1.2))))))
            else
              (none))
          else
            (none))
      else
        (none))
    else
      (none))
  else
    (f6.L2 n x y1 n ([], ((0 : Int), (true, (0, [])))))
set_option maxRecDepth 100000 in
theorem f6.k3 (n : Nat) (x : (List dCommit) × dAttempt × Int) (m : Nat) (y : (List dRcommit) × Int × Bool × Nat × (List dCommit)) : f6.L3 n x (m + 1) y = f6.s3 n x (f6.L3 n x m) y := by
  have h : f6.L3 n x (m + 1) y = f6.r3 n x m (f6.L3 n x m) y := by kernel_rfl
  rw [h]
  simp only [f6.r3, f6.s3, f6.l1, f6.l2]
theorem f6.l3 (n : Nat) (x : (List dCommit) × dAttempt × Int) : ∀ (m : Nat) (y1 : (List dRcommit) × Int × Bool × Nat × (List dCommit)), f6.L3 n x m y1 = iter (f6.s3 n x) m y1 :=
  loop_of (L := f6.L3 n x) (step := f6.s3 n x) (fun _ => rfl) (f6.k3 n x)
def f6.g (n : Nat) (x : (List dCommit) × dAttempt × Int) : Option (Bool) :=
  iter (f6.s3 n x) n ([], ((0 : Int), (true, (0, []))))
def f6.q (n : Nat) (x : (List dCommit) × dAttempt × Int) : Option (Bool) :=
  f6.L3 n x n ([], ((0 : Int), (true, (0, []))))
set_option maxRecDepth 100000 in
theorem f6.eq (n : Nat) (x : (List dCommit) × dAttempt × Int) : runK TT E6 n ann (tabC C6) 3 6 (argsL [(false, .sl tCommit), (true, tAttempt), (false, .int .u64)] x) [] (readL [(false, .bool)]) = f6.g n x := by
  have h : runK TT E6 n ann (tabC C6) 3 6 (argsL [(false, .sl tCommit), (true, tAttempt), (false, .int .u64)] x) [] (readL [(false, .bool)]) = f6.q n x := by kernel_rfl
  rw [h]
  simp only [f6.q, f6.g, f6.l1, f6.l2, f6.l3]
set_option maxRecDepth 100000 in
theorem f6.codes : CodesOk Try.prog E6 ann (tabC C6) := tabC_ok (by intro p hp; simp only [C6, List.mem_cons, List.not_mem_nil, or_false] at hp; rcases hp with rfl | rfl | rfl <;> first | exact Try.func6 | exact Try.func11 | exact Try.func29) (by kernel_rfl)
theorem f6.ok (h : ∀ X Y, (FL [(false, .sl tCommit), (true, tAttempt), (false, .int .u64)]) X = some Y → ∃ n, f6.g n X = some Y) (e16 : ConOk Try.prog 16 con16) (e17 : ConOk Try.prog 17 con17) (e19 : ConOk Try.prog 19 con19) (e21 : ConOk Try.prog 21 con21) (e23 : ConOk Try.prog 23 con23) (e30 : ConOk Try.prog 30 con30) : ConOk Try.prog 6 (mkCon [(false, .sl tCommit), (true, tAttempt), (false, .int .u64)] [(false, .bool)] true (FL [(false, .sl tCommit), (true, tAttempt), (false, .int .u64)])) :=
  mkCon_ok mixed TT_ok (envC_ok e30 (envC_ok e23 (envC_ok e21 (envC_ok e19 (envC_ok e17 (envC_ok e16 env0_ok)))))) f6.codes (fun _ => List.all_eq_true.1 rfl) fun X Y hF => (h X Y hF).imp fun n hn => (f6.eq n X).trans hn
def con6 : Con := mkCon [(false, .sl tCommit), (true, tAttempt), (false, .int .u64)] [(false, .bool)] true (FL [(false, .sl tCommit), (true, tAttempt), (false, .int .u64)])
/-! ### vellum/vellumlaw18.ValidNobody -/
def E8 : FuncId → Option Con := (envC 39 con39 (envC 38 con38 (envC 17 con17 env0)))
noncomputable def C8 : List (FuncId × Func) := [(8, Try.f8), (12, Try.f12), (14, Try.f14), (19, Try.f19), (21, Try.f21), (23, Try.f23), (24, Try.f24), (31, Try.f31), (35, Try.f35)]
def f8.h1 (x : dCommit × dAttempt × Int) (y1 : Int) : List AV × List Ob := ([.undef, .undef, .val false [.sc (.int .u64) x.2.2], .val false [.ptr 0 0], .val false [.ptr 1 0], .undef, .undef, .val false [.sc (.int .i64) y1]] ++ List.replicate 69 .undef, [.box [.sc (.int .u64) x.1.1, .sc (.sl tPoint) x.1.2.1, .sc (.sl tSpan) x.1.2.2.1, .sc (.sl tPoint) x.1.2.2.2], .box [.sc (.int .u64) x.2.1.1, .sc (.sl tPoint) x.2.1.2.1.1, .sc (.sl tSpan) x.2.1.2.1.2.1, .sc (.sl tPoint) x.2.1.2.1.2.2, .sc (.int .i64) x.2.1.2.2]])
def f8.L1 (n : Nat) (x : dCommit × dAttempt × Int) (m1 : Nat) (y1 : Int) : Option (Bool) :=
  loopN (ann 8 2).keep 2 (fun fr H k => execK TT 0 E8 (inlD TT E8 n ann (tabC C8) 9) n (ann 8) (subC [1, 0, 1, 0, 0] (bodyOf Try.f8)) fr H k) m1 (f8.h1 x y1).1 (f8.h1 x y1).2 (kont TT 0 E8 (inlD TT E8 n ann (tabC C8) 9) n (ann 8) [1, 0, 1, 0] (bodyOf Try.f8) (endK TT Try.f8 (readL [(false, .bool)])))
def f8.s1 (n : Nat) (x : dCommit × dAttempt × Int) (S1 : Int → Option (Bool)) (y1 : Int) : Option (Bool) :=
  bif decide (y1 < (2 : Int)) then
    (bif y1 == (1 : Int) then
      (S1 (IntKind.wrap .i64 (y1 + (1 : Int))))
    else
      (S1 (IntKind.wrap .i64 (y1 + (1 : Int)))))
  else
    ((F17 ()).bind fun r2 =>
      some r2)
set_option maxRecDepth 100000 in
theorem f8.k1 (n : Nat) (x : dCommit × dAttempt × Int) (m : Nat) (y : Int) : f8.L1 n x (m + 1) y = f8.s1 n x (f8.L1 n x m) y := by kernel_rfl
theorem f8.l1 (n : Nat) (x : dCommit × dAttempt × Int) : ∀ (m : Nat) (y1 : Int), f8.L1 n x m y1 = iter (f8.s1 n x) m y1 :=
  loop_of (L := f8.L1 n x) (step := f8.s1 n x) (fun _ => rfl) (f8.k1 n x)
def f8.g (n : Nat) (x : dCommit × dAttempt × Int) : Option (Bool) :=
  iter (f8.s1 n x) n (0 : Int)
def f8.q (n : Nat) (x : dCommit × dAttempt × Int) : Option (Bool) :=
  f8.L1 n x n (0 : Int)
set_option maxRecDepth 100000 in
theorem f8.eq (n : Nat) (x : dCommit × dAttempt × Int) : runK TT E8 n ann (tabC C8) 9 8 (argsL [(true, tCommit), (true, tAttempt), (false, .int .u64)] x) [] (readL [(false, .bool)]) = f8.g n x := by
  have h : runK TT E8 n ann (tabC C8) 9 8 (argsL [(true, tCommit), (true, tAttempt), (false, .int .u64)] x) [] (readL [(false, .bool)]) = f8.q n x := by kernel_rfl
  rw [h]
  simp only [f8.q, f8.g, f8.l1]
set_option maxRecDepth 100000 in
theorem f8.codes : CodesOk Try.prog E8 ann (tabC C8) := tabC_ok (by intro p hp; simp only [C8, List.mem_cons, List.not_mem_nil, or_false] at hp; rcases hp with rfl | rfl | rfl | rfl | rfl | rfl | rfl | rfl | rfl <;> first | exact Try.func8 | exact Try.func12 | exact Try.func14 | exact Try.func19 | exact Try.func21 | exact Try.func23 | exact Try.func24 | exact Try.func31 | exact Try.func35) (by kernel_rfl)
theorem f8.ok (h : ∀ X Y, (FL [(true, tCommit), (true, tAttempt), (false, .int .u64)]) X = some Y → ∃ n, f8.g n X = some Y) (e17 : ConOk Try.prog 17 con17) (e38 : ConOk Try.prog 38 con38) (e39 : ConOk Try.prog 39 con39) : ConOk Try.prog 8 (mkCon [(true, tCommit), (true, tAttempt), (false, .int .u64)] [(false, .bool)] true (FL [(true, tCommit), (true, tAttempt), (false, .int .u64)])) :=
  mkCon_ok mixed TT_ok (envC_ok e39 (envC_ok e38 (envC_ok e17 env0_ok))) f8.codes (fun _ => List.all_eq_true.1 rfl) fun X Y hF => (h X Y hF).imp fun n hn => (f8.eq n X).trans hn
def con8 : Con := mkCon [(true, tCommit), (true, tAttempt), (false, .int .u64)] [(false, .bool)] true (FL [(true, tCommit), (true, tAttempt), (false, .int .u64)])
/-! ### vellum/vellumlaw18.ValidAsks -/
def E3 : FuncId → Option Con := (envC 30 con30 (envC 23 con23 (envC 17 con17 (envC 16 con16 (envC 15 con15 (envC 14 con14 (envC 13 con13 (envC 12 con12 env0))))))))
noncomputable def C3 : List (FuncId × Func) := [(3, Try.f3), (11, Try.f11), (29, Try.f29)]
def f3.h1 (x : (List dCommit) × dFoot × Int) (y1 : (List dRcommit) × Int × Bool × Nat × (List dCommit)) : List AV × List Ob := ([.val false [.sc (.sl tCommit) x.1], .undef, .undef, .undef, .undef, .val false [.ptr 1 0], .val false [.sc (.sl tRcommit) y1.1], .val false [.sc (.int .i64) y1.2.1]] ++ List.replicate 45 .undef, [.box [.sc (.sl tPoint) x.2.1.1, .sc (.sl tSpan) x.2.1.2.1, .sc (.sl tPoint) x.2.1.2.2], .box [.sc .bool y1.2.2.1, .own 2 y1.2.2.2.1], .arr 85 tCommit y1.2.2.2.2])
def f3.L1 (n : Nat) (x : (List dCommit) × dFoot × Int) (m1 : Nat) (y1 : (List dRcommit) × Int × Bool × Nat × (List dCommit)) : Option (Bool) :=
  loopN (ann 11 6).keep 3 (fun fr H k => execK TT 1 E3 (inlD TT E3 n ann (tabC C3) 2) n (ann 11) (subC [1, 1, 1, 1, 0, 1, 0, 0] (bodyOf Try.f11)) fr H k) m1 (f3.h1 x y1).1 (f3.h1 x y1).2 (kont TT 1 E3 (inlD TT E3 n ann (tabC C3) 2) n (ann 11) [1, 1, 1, 1, 0, 1, 0] (bodyOf Try.f11) (endK TT Try.f11 (restK TT 0 E3 (inlD TT E3 n ann (tabC C3) 3) false (ann 3 1).plain (opsOf (subC [1, 0] (bodyOf Try.f3))) 1 ⟨[.val false [.sc (.sl tCommit) x.1], .val true [.sc (.sl tPoint) x.2.1.1, .sc (.sl tSpan) x.2.1.2.1, .sc (.sl tPoint) x.2.1.2.2], .val false [.sc (.int .u64) x.2.2], .undef, .val false [.ptr 0 0], .undef, .val false [.sc .bool false], .undef, .undef, .undef, .undef, .undef, .undef, .undef, .undef, .undef, .undef, .undef, .undef, .val false [.sc (.sl tCommit) x.1]] ++ List.replicate 55 .undef, [], []⟩ (fun g H => (kont TT 0 E3 (inlD TT E3 n ann (tabC C3) 3) n (ann 3) [1, 0] (bodyOf Try.f3) (endK TT Try.f3 (readL [(false, .bool)]))) .normal (endG g) H))))
def f3.s1 (n : Nat) (x : (List dCommit) × dFoot × Int) (S1 : ((List dRcommit) × Int × Bool × Nat × (List dCommit)) → Option (Bool)) (y1 : (List dRcommit) × Int × Bool × Nat × (List dCommit)) : Option (Bool) :=
  bif decide (y1.2.1 < (x.1.length : Int)) then
    (bif decide (0 ≤ y1.2.1) && decide (y1.2.1 < (x.1.length : Int)) then
      (bif decide (0 ≤ y1.2.1) && decide (y1.2.1 < (x.1.length : Int)) then
        ((F23 ((y1.2.2.1, List.take y1.2.2.2.1 y1.2.2.2.2), x.1.getD y1.2.1.toNat tCommit.dflt)).bind fun r2 =>
          bif decide (0 ≤ y1.2.1) && decide (y1.2.1 < (x.1.length : Int)) then
            (bif decide (0 ≤ y1.2.1) && decide (y1.2.1 < (x.1.length : Int)) then
              ((F30 (y1.1, x.1.getD y1.2.1.toNat tCommit.dflt)).bind fun r3 =>
                bif r2.2 != r3.2 then
                  (some false)
                else
                  (S1 (r3.1, (IntKind.wrap .i64 (y1.2.1 + (1 : Int)), (r2.1.1, (r2.1.2.length, r2.1.2))))))
            else
              (none))
          else
            (none))
      else
        (none))
    else
      (none))
  else
    ((F12 ((y1.2.2.1, List.take y1.2.2.2.1 y1.2.2.2.2), x.2)).bind fun r4 =>
      (F13 (y1.1, x.2)).bind fun r5 =>
        (F14 ((y1.2.2.1, List.take y1.2.2.2.1 y1.2.2.2.2), x.2)).bind fun r6 =>
          (F15 (y1.1, x.2)).bind fun r7 =>
            bif r4.2 == r5.2 then
              ((F16 (r4.1, r5.1)).bind fun r8 =>
                bif bif r8 then (r6.2 == r7.2) else false then
                  ((F16 (r6.1, r7.1)).bind fun r9 =>
                    bif r9 then
                      ((F17 ()).bind fun r10 =>
                        some r10)
                    else
                      (some false))
                else
                  (some false))
            else
              (some false))
set_option maxRecDepth 100000 in
theorem f3.k1 (n : Nat) (x : (List dCommit) × dFoot × Int) (m : Nat) (y : (List dRcommit) × Int × Bool × Nat × (List dCommit)) : f3.L1 n x (m + 1) y = f3.s1 n x (f3.L1 n x m) y := by kernel_rfl
theorem f3.l1 (n : Nat) (x : (List dCommit) × dFoot × Int) : ∀ (m : Nat) (y1 : (List dRcommit) × Int × Bool × Nat × (List dCommit)), f3.L1 n x m y1 = iter (f3.s1 n x) m y1 :=
  loop_of (L := f3.L1 n x) (step := f3.s1 n x) (fun _ => rfl) (f3.k1 n x)
def f3.g (n : Nat) (x : (List dCommit) × dFoot × Int) : Option (Bool) :=
  iter (f3.s1 n x) n ([], ((0 : Int), (true, (0, []))))
def f3.q (n : Nat) (x : (List dCommit) × dFoot × Int) : Option (Bool) :=
  f3.L1 n x n ([], ((0 : Int), (true, (0, []))))
set_option maxRecDepth 100000 in
theorem f3.eq (n : Nat) (x : (List dCommit) × dFoot × Int) : runK TT E3 n ann (tabC C3) 3 3 (argsL [(false, .sl tCommit), (true, tFoot), (false, .int .u64)] x) [] (readL [(false, .bool)]) = f3.g n x := by
  have h : runK TT E3 n ann (tabC C3) 3 3 (argsL [(false, .sl tCommit), (true, tFoot), (false, .int .u64)] x) [] (readL [(false, .bool)]) = f3.q n x := by kernel_rfl
  rw [h]
  simp only [f3.q, f3.g, f3.l1]
set_option maxRecDepth 100000 in
theorem f3.codes : CodesOk Try.prog E3 ann (tabC C3) := tabC_ok (by intro p hp; simp only [C3, List.mem_cons, List.not_mem_nil, or_false] at hp; rcases hp with rfl | rfl | rfl <;> first | exact Try.func3 | exact Try.func11 | exact Try.func29) (by kernel_rfl)
theorem f3.ok (h : ∀ X Y, (FL [(false, .sl tCommit), (true, tFoot), (false, .int .u64)]) X = some Y → ∃ n, f3.g n X = some Y) (e12 : ConOk Try.prog 12 con12) (e13 : ConOk Try.prog 13 con13) (e14 : ConOk Try.prog 14 con14) (e15 : ConOk Try.prog 15 con15) (e16 : ConOk Try.prog 16 con16) (e17 : ConOk Try.prog 17 con17) (e23 : ConOk Try.prog 23 con23) (e30 : ConOk Try.prog 30 con30) : ConOk Try.prog 3 (mkCon [(false, .sl tCommit), (true, tFoot), (false, .int .u64)] [(false, .bool)] true (FL [(false, .sl tCommit), (true, tFoot), (false, .int .u64)])) :=
  mkCon_ok mixed TT_ok (envC_ok e30 (envC_ok e23 (envC_ok e17 (envC_ok e16 (envC_ok e15 (envC_ok e14 (envC_ok e13 (envC_ok e12 env0_ok)))))))) f3.codes (fun _ => List.all_eq_true.1 rfl) fun X Y hF => (h X Y hF).imp fun n hn => (f3.eq n X).trans hn
def con3 : Con := mkCon [(false, .sl tCommit), (true, tFoot), (false, .int .u64)] [(false, .bool)] true (FL [(false, .sl tCommit), (true, tFoot), (false, .int .u64)])
/-! ### vellum/vellumlaw18.ValidTries -/
def E7 : FuncId → Option Con := (envC 30 con30 (envC 23 con23 (envC 22 con22 (envC 21 con21 (envC 18 con18 (envC 17 con17 (envC 16 con16 env0)))))))
noncomputable def C7 : List (FuncId × Func) := [(7, Try.f7), (11, Try.f11), (29, Try.f29)]
def f7.h1 (x : (List dCommit) × dAttempt) (y1 : (List dRcommit) × Int × Bool × Nat × (List dCommit)) (r4 : dClash × Int) (y5 : Int) : List AV × List Ob := ([.undef, .undef, .undef, .val false [.ptr 0 0], .undef, .val false [.ptr 1 0], .val false [.sc (.sl tRcommit) y1.1], .undef, .val false [.ptr 3 0], .val false [.sc (.int .i64) r4.2], .val false [.sc (.int .i64) y5]] ++ List.replicate 41 .undef, [.box [.sc (.int .u64) x.2.1, .sc (.sl tPoint) x.2.2.1.1, .sc (.sl tSpan) x.2.2.1.2.1, .sc (.sl tPoint) x.2.2.1.2.2, .sc (.int .i64) x.2.2.2], .box [.sc .bool y1.2.2.1, .own 2 y1.2.2.2.1], .arr 85 tCommit y1.2.2.2.2, .box [.sc (.int .u64) r4.1.1, .sc (.int .i64) r4.1.2.1, .sc (.int .i64) r4.1.2.2.1, .sc .str r4.1.2.2.2]])
def f7.h2 (x : (List dCommit) × dAttempt) (y1 : (List dRcommit) × Int × Bool × Nat × (List dCommit)) : List AV × List Ob := ([.val false [.sc (.sl tCommit) x.1], .undef, .undef, .undef, .undef, .val false [.ptr 1 0], .val false [.sc (.sl tRcommit) y1.1], .val false [.sc (.int .i64) y1.2.1]] ++ List.replicate 45 .undef, [.box [.sc (.int .u64) x.2.1, .sc (.sl tPoint) x.2.2.1.1, .sc (.sl tSpan) x.2.2.1.2.1, .sc (.sl tPoint) x.2.2.1.2.2, .sc (.int .i64) x.2.2.2], .box [.sc .bool y1.2.2.1, .own 2 y1.2.2.2.1], .arr 85 tCommit y1.2.2.2.2])
def f7.L1 (n : Nat) (x : (List dCommit) × dAttempt) (y1 : (List dRcommit) × Int × Bool × Nat × (List dCommit)) (r4 : dClash × Int) (m5 : Nat) (y5 : Int) : Option (Bool) :=
  loopN (ann 7 6).keep 4 (fun fr H k => execK TT 0 E7 (inlD TT E7 n ann (tabC C7) 3) n (ann 7) (subC [1, 1, 1, 1, 0, 1, 0, 0] (bodyOf Try.f7)) fr H k) m5 (f7.h1 x y1 r4 y5).1 (f7.h1 x y1 r4 y5).2 (kont TT 0 E7 (inlD TT E7 n ann (tabC C7) 3) n (ann 7) [1, 1, 1, 1, 0, 1, 0] (bodyOf Try.f7) (endK TT Try.f7 (readL [(false, .bool)])))
def f7.L2 (n : Nat) (x : (List dCommit) × dAttempt) (m1 : Nat) (y1 : (List dRcommit) × Int × Bool × Nat × (List dCommit)) : Option (Bool) :=
  loopN (ann 11 6).keep 3 (fun fr H k => execK TT 1 E7 (inlD TT E7 n ann (tabC C7) 2) n (ann 11) (subC [1, 1, 1, 1, 0, 1, 0, 0] (bodyOf Try.f11)) fr H k) m1 (f7.h2 x y1).1 (f7.h2 x y1).2 (kont TT 1 E7 (inlD TT E7 n ann (tabC C7) 2) n (ann 11) [1, 1, 1, 1, 0, 1, 0] (bodyOf Try.f11) (endK TT Try.f11 (restK TT 0 E7 (inlD TT E7 n ann (tabC C7) 3) false (ann 7 1).plain (opsOf (subC [1, 0] (bodyOf Try.f7))) 1 ⟨[.val false [.sc (.sl tCommit) x.1], .val true [.sc (.int .u64) x.2.1, .sc (.sl tPoint) x.2.2.1.1, .sc (.sl tSpan) x.2.2.1.2.1, .sc (.sl tPoint) x.2.2.1.2.2, .sc (.int .i64) x.2.2.2], .undef, .val false [.ptr 0 0], .val false [.sc .bool false], .undef, .undef, .undef, .undef, .undef, .undef, .undef, .undef, .undef, .val false [.sc (.sl tCommit) x.1]] ++ List.replicate 37 .undef, [], []⟩ (fun g H => (kont TT 0 E7 (inlD TT E7 n ann (tabC C7) 3) n (ann 7) [1, 0] (bodyOf Try.f7) (endK TT Try.f7 (readL [(false, .bool)]))) .normal (endG g) H))))
def f7.s1 (n : Nat) (x : (List dCommit) × dAttempt) (y1 : (List dRcommit) × Int × Bool × Nat × (List dCommit)) (r4 : dClash × Int) (S5 : Int → Option (Bool)) (y5 : Int) : Option (Bool) :=
  bif decide (y5 < (2 : Int)) then
    ((F21 ((y1.2.2.1, List.take y1.2.2.2.1 y1.2.2.2.2), x.2)).bind fun r6 =>
      bif r6.2 != r4.2 then
        (some false)
      else
        ((F16 (r6.1, r4.1)).bind fun r7 =>
          bif !r7 then
            (some false)
          else
            (S5 (IntKind.wrap .i64 (y5 + (1 : Int))))))
  else
    ((F18 ((y1.2.2.1, List.take y1.2.2.2.1 y1.2.2.2.2), y1.1)).bind fun r8 =>
      bif r8 then
        ((F17 ()).bind fun r9 =>
          some r9)
      else
        (some false))
set_option maxRecDepth 100000 in
theorem f7.k1 (n : Nat) (x : (List dCommit) × dAttempt) (y1 : (List dRcommit) × Int × Bool × Nat × (List dCommit)) (r4 : dClash × Int) (m : Nat) (y : Int) : f7.L1 n x y1 r4 (m + 1) y = f7.s1 n x y1 r4 (f7.L1 n x y1 r4 m) y := by kernel_rfl
theorem f7.l1 (n : Nat) (x : (List dCommit) × dAttempt) (y1 : (List dRcommit) × Int × Bool × Nat × (List dCommit)) (r4 : dClash × Int) : ∀ (m : Nat) (y5 : Int), f7.L1 n x y1 r4 m y5 = iter (f7.s1 n x y1 r4) m y5 :=
  loop_of (L := f7.L1 n x y1 r4) (step := f7.s1 n x y1 r4) (fun _ => rfl) (f7.k1 n x y1 r4)
def f7.s2 (n : Nat) (x : (List dCommit) × dAttempt) (S1 : ((List dRcommit) × Int × Bool × Nat × (List dCommit)) → Option (Bool)) (y1 : (List dRcommit) × Int × Bool × Nat × (List dCommit)) : Option (Bool) :=
  bif decide (y1.2.1 < (x.1.length : Int)) then
    (bif decide (0 ≤ y1.2.1) && decide (y1.2.1 < (x.1.length : Int)) then
      (bif decide (0 ≤ y1.2.1) && decide (y1.2.1 < (x.1.length : Int)) then
        ((F23 ((y1.2.2.1, List.take y1.2.2.2.1 y1.2.2.2.2), x.1.getD y1.2.1.toNat tCommit.dflt)).bind fun r2 =>
          bif decide (0 ≤ y1.2.1) && decide (y1.2.1 < (x.1.length : Int)) then
            (bif decide (0 ≤ y1.2.1) && decide (y1.2.1 < (x.1.length : Int)) then
              ((F30 (y1.1, x.1.getD y1.2.1.toNat tCommit.dflt)).bind fun r3 =>
                bif r2.2 != r3.2 then
                  (some false)
                else
                  (S1 (r3.1, (IntKind.wrap .i64 (y1.2.1 + (1 : Int)), (r2.1.1, (r2.1.2.length, r2.1.2))))))
            else
              (none))
          else
            (none))
      else
        (none))
    else
      (none))
  else
    ((F22 (y1.1, x.2)).bind fun r4 =>
      iter (f7.s1 n x y1 r4) n (0 : Int))
def f7.r2 (n : Nat) (x : (List dCommit) × dAttempt) (m1 : Nat) (S1 : ((List dRcommit) × Int × Bool × Nat × (List dCommit)) → Option (Bool)) (y1 : (List dRcommit) × Int × Bool × Nat × (List dCommit)) : Option (Bool) :=
  bif decide (y1.2.1 < (x.1.length : Int)) then
    (bif decide (0 ≤ y1.2.1) && decide (y1.2.1 < (x.1.length : Int)) then
      (bif decide (0 ≤ y1.2.1) && decide (y1.2.1 < (x.1.length : Int)) then
        ((F23 ((y1.2.2.1, List.take y1.2.2.2.1 y1.2.2.2.2), x.1.getD y1.2.1.toNat tCommit.dflt)).bind fun r2 =>
          bif decide (0 ≤ y1.2.1) && decide (y1.2.1 < (x.1.length : Int)) then
            (bif decide (0 ≤ y1.2.1) && decide (y1.2.1 < (x.1.length : Int)) then
              ((F30 (y1.1, x.1.getD y1.2.1.toNat tCommit.dflt)).bind fun r3 =>
                bif r2.2 != r3.2 then
                  (some false)
                else
                  (S1 (r3.1, (IntKind.wrap .i64 (y1.2.1 + (1 : Int)), (r2.1.1, (r2.1.2.length, r2.1.2))))))
            else
              (none))
          else
            (none))
      else
        (none))
    else
      (none))
  else
    ((F22 (y1.1, x.2)).bind fun r4 =>
      f7.L1 n x y1 r4 n (0 : Int))
set_option maxRecDepth 100000 in
theorem f7.k2 (n : Nat) (x : (List dCommit) × dAttempt) (m : Nat) (y : (List dRcommit) × Int × Bool × Nat × (List dCommit)) : f7.L2 n x (m + 1) y = f7.s2 n x (f7.L2 n x m) y := by
  have h : f7.L2 n x (m + 1) y = f7.r2 n x m (f7.L2 n x m) y := by kernel_rfl
  rw [h]
  simp only [f7.r2, f7.s2, f7.l1]
theorem f7.l2 (n : Nat) (x : (List dCommit) × dAttempt) : ∀ (m : Nat) (y1 : (List dRcommit) × Int × Bool × Nat × (List dCommit)), f7.L2 n x m y1 = iter (f7.s2 n x) m y1 :=
  loop_of (L := f7.L2 n x) (step := f7.s2 n x) (fun _ => rfl) (f7.k2 n x)
def f7.g (n : Nat) (x : (List dCommit) × dAttempt) : Option (Bool) :=
  iter (f7.s2 n x) n ([], ((0 : Int), (true, (0, []))))
def f7.q (n : Nat) (x : (List dCommit) × dAttempt) : Option (Bool) :=
  f7.L2 n x n ([], ((0 : Int), (true, (0, []))))
set_option maxRecDepth 100000 in
theorem f7.eq (n : Nat) (x : (List dCommit) × dAttempt) : runK TT E7 n ann (tabC C7) 3 7 (argsL [(false, .sl tCommit), (true, tAttempt)] x) [] (readL [(false, .bool)]) = f7.g n x := by
  have h : runK TT E7 n ann (tabC C7) 3 7 (argsL [(false, .sl tCommit), (true, tAttempt)] x) [] (readL [(false, .bool)]) = f7.q n x := by kernel_rfl
  rw [h]
  simp only [f7.q, f7.g, f7.l1, f7.l2]
set_option maxRecDepth 100000 in
theorem f7.codes : CodesOk Try.prog E7 ann (tabC C7) := tabC_ok (by intro p hp; simp only [C7, List.mem_cons, List.not_mem_nil, or_false] at hp; rcases hp with rfl | rfl | rfl <;> first | exact Try.func7 | exact Try.func11 | exact Try.func29) (by kernel_rfl)
theorem f7.ok (h : ∀ X Y, (FL [(false, .sl tCommit), (true, tAttempt)]) X = some Y → ∃ n, f7.g n X = some Y) (e16 : ConOk Try.prog 16 con16) (e17 : ConOk Try.prog 17 con17) (e18 : ConOk Try.prog 18 con18) (e21 : ConOk Try.prog 21 con21) (e22 : ConOk Try.prog 22 con22) (e23 : ConOk Try.prog 23 con23) (e30 : ConOk Try.prog 30 con30) : ConOk Try.prog 7 (mkCon [(false, .sl tCommit), (true, tAttempt)] [(false, .bool)] true (FL [(false, .sl tCommit), (true, tAttempt)])) :=
  mkCon_ok mixed TT_ok (envC_ok e30 (envC_ok e23 (envC_ok e22 (envC_ok e21 (envC_ok e18 (envC_ok e17 (envC_ok e16 env0_ok))))))) f7.codes (fun _ => List.all_eq_true.1 rfl) fun X Y hF => (h X Y hF).imp fun n hn => (f7.eq n X).trans hn
def con7 : Con := mkCon [(false, .sl tCommit), (true, tAttempt)] [(false, .bool)] true (FL [(false, .sl tCommit), (true, tAttempt)])
/-! ### vellum/vellumlaw18.ValidSchedules -/
def E9 : FuncId → Option Con := (envC 26 con26 (envC 25 con25 (envC 17 con17 (envC 16 con16 env0))))
noncomputable def C9 : List (FuncId × Func) := [(9, Try.f9)]
def f9.h1 (x : Int × (List dAttempt)) (r1 : (List dFate) × Int) (r2 : (List dFate) × Int) (y3 : Int) : List AV × List Ob := ([.undef, .undef, .undef, .undef, .undef, .val false [.sc (.sl tFate) r1.1], .undef, .val false [.sc (.sl tFate) r2.1], .undef, .val false [.sc (.int .i64) y3]] ++ List.replicate 67 .undef, [])
def f9.L1 (n : Nat) (x : Int × (List dAttempt)) (r1 : (List dFate) × Int) (r2 : (List dFate) × Int) (m3 : Nat) (y3 : Int) : Option (Bool) :=
  loopN (ann 9 6).keep 0 (fun fr H k => execK TT 0 E9 (inlD TT E9 n ann (tabC C9) 1) n (ann 9) (subC [1, 1, 1, 1, 0, 1, 0, 0] (bodyOf Try.f9)) fr H k) m3 (f9.h1 x r1 r2 y3).1 (f9.h1 x r1 r2 y3).2 (kont TT 0 E9 (inlD TT E9 n ann (tabC C9) 1) n (ann 9) [1, 1, 1, 1, 0, 1, 0] (bodyOf Try.f9) (endK TT Try.f9 (readL [(false, .bool)])))
def f9.s1 (n : Nat) (x : Int × (List dAttempt)) (r1 : (List dFate) × Int) (r2 : (List dFate) × Int) (S3 : Int → Option (Bool)) (y3 : Int) : Option (Bool) :=
  bif decide (y3 < (r1.1.length : Int)) then
    (bif decide (0 ≤ y3) && decide (y3 < (r1.1.length : Int)) then
      (bif decide (0 ≤ y3) && decide (y3 < (r2.1.length : Int)) then
        (bif (r1.1.getD y3.toNat tFate.dflt).1 != (r2.1.getD y3.toNat tFate.dflt).1 then
          (some false)
        else
          (bif decide (0 ≤ y3) && decide (y3 < (r1.1.length : Int)) then
            (bif decide (0 ≤ y3) && decide (y3 < (r2.1.length : Int)) then
              (bif (r1.1.getD y3.toNat tFate.dflt).2.1 != (r2.1.getD y3.toNat tFate.dflt).2.1 then
                (some false)
              else
                (bif decide (0 ≤ y3) && decide (y3 < (r1.1.length : Int)) then
                  (bif decide (0 ≤ y3) && decide (y3 < (r2.1.length : Int)) then
                    ((F16 ((r1.1.getD y3.toNat tFate.dflt).2.2, (r2.1.getD y3.toNat tFate.dflt).2.2)).bind fun r4 =>
                      bif !r4 then
                        (some false)
                      else
                        (S3 (IntKind.wrap .i64 (y3 + (1 : Int)))))
                  else
                    (none))
                else
                  (none)))
            else
              (none))
          else
            (none)))
      else
        (none))
    else
      (none))
  else
    ((F17 ()).bind fun r5 =>
      some r5)
set_option maxRecDepth 100000 in
theorem f9.k1 (n : Nat) (x : Int × (List dAttempt)) (r1 : (List dFate) × Int) (r2 : (List dFate) × Int) (m : Nat) (y : Int) : f9.L1 n x r1 r2 (m + 1) y = f9.s1 n x r1 r2 (f9.L1 n x r1 r2 m) y := by kernel_rfl
theorem f9.l1 (n : Nat) (x : Int × (List dAttempt)) (r1 : (List dFate) × Int) (r2 : (List dFate) × Int) : ∀ (m : Nat) (y3 : Int), f9.L1 n x r1 r2 m y3 = iter (f9.s1 n x r1 r2) m y3 :=
  loop_of (L := f9.L1 n x r1 r2) (step := f9.s1 n x r1 r2) (fun _ => rfl) (f9.k1 n x r1 r2)
def f9.g (n : Nat) (x : Int × (List dAttempt)) : Option (Bool) :=
  (F25 x).bind fun r1 =>
    (F26 x).bind fun r2 =>
      bif bif (r1.2 != r2.2) then true else ((r1.1.length : Int) != (r2.1.length : Int)) then
        (some false)
      else
        (iter (f9.s1 n x r1 r2) n (0 : Int))
def f9.q (n : Nat) (x : Int × (List dAttempt)) : Option (Bool) :=
  (F25 x).bind fun r1 =>
    (F26 x).bind fun r2 =>
      bif bif (r1.2 != r2.2) then true else ((r1.1.length : Int) != (r2.1.length : Int)) then
        (some false)
      else
        (f9.L1 n x r1 r2 n (0 : Int))
set_option maxRecDepth 100000 in
theorem f9.eq (n : Nat) (x : Int × (List dAttempt)) : runK TT E9 n ann (tabC C9) 1 9 (argsL [(false, .int .u64), (false, .sl tAttempt)] x) [] (readL [(false, .bool)]) = f9.g n x := by
  have h : runK TT E9 n ann (tabC C9) 1 9 (argsL [(false, .int .u64), (false, .sl tAttempt)] x) [] (readL [(false, .bool)]) = f9.q n x := by kernel_rfl
  rw [h]
  simp only [f9.q, f9.g, f9.l1]
set_option maxRecDepth 100000 in
theorem f9.codes : CodesOk Try.prog E9 ann (tabC C9) := tabC_ok (by intro p hp; simp only [C9, List.mem_cons, List.not_mem_nil, or_false] at hp; rcases hp with rfl <;> first | exact Try.func9) (by kernel_rfl)
theorem f9.ok (h : ∀ X Y, (FL [(false, .int .u64), (false, .sl tAttempt)]) X = some Y → ∃ n, f9.g n X = some Y) (e16 : ConOk Try.prog 16 con16) (e17 : ConOk Try.prog 17 con17) (e25 : ConOk Try.prog 25 con25) (e26 : ConOk Try.prog 26 con26) : ConOk Try.prog 9 (mkCon [(false, .int .u64), (false, .sl tAttempt)] [(false, .bool)] true (FL [(false, .int .u64), (false, .sl tAttempt)])) :=
  mkCon_ok mixed TT_ok (envC_ok e26 (envC_ok e25 (envC_ok e17 (envC_ok e16 env0_ok)))) f9.codes (fun _ => List.all_eq_true.1 rfl) fun X Y hF => (h X Y hF).imp fun n hn => (f9.eq n X).trans hn
def con9 : Con := mkCon [(false, .int .u64), (false, .sl tAttempt)] [(false, .bool)] true (FL [(false, .int .u64), (false, .sl tAttempt)])
/-! ### vellum/vellumlaw18.ValidSerial -/
def E10 : FuncId → Option Con := (envC 28 con28 (envC 27 con27 (envC 25 con25 (envC 17 con17 env0))))
noncomputable def C10 : List (FuncId × Func) := [(10, Try.f10)]
def f10.h1 (x : Int × (List dAttempt)) (r1 : (List dFate) × Int) (y3 : Int) (y4 : Int) : List AV × List Ob := ([.undef, .val false [.sc (.sl tAttempt) x.2], .undef, .undef, .undef, .val false [.sc (.sl tFate) r1.1], .undef, .val false [.sc (.int .i64) y3], .val false [.sc (.int .i64) y4]] ++ List.replicate 119 .undef, [])
def f10.h2 (x : Int × (List dAttempt)) (r1 : (List dFate) × Int) (y3 : Int) : List AV × List Ob := ([.undef, .val false [.sc (.sl tAttempt) x.2], .undef, .undef, .undef, .val false [.sc (.sl tFate) r1.1], .undef, .val false [.sc (.int .i64) y3]] ++ List.replicate 120 .undef, [])
def f10.L1 (n : Nat) (x : Int × (List dAttempt)) (r1 : (List dFate) × Int) (y3 : Int) (m3 : Nat) (m4 : Nat) (y4 : Int) : Option (Bool) :=
  loopN (ann 10 11).keep 0 (fun fr H k => execK TT 0 E10 (inlD TT E10 n ann (tabC C10) 1) n (ann 10) (subC [1, 1, 1, 1, 0, 1, 0, 0, 1, 0, 0, 1, 1, 0, 0] (bodyOf Try.f10)) fr H k) m4 (f10.h1 x r1 y3 y4).1 (f10.h1 x r1 y3 y4).2 (kont TT 0 E10 (inlD TT E10 n ann (tabC C10) 1) n (ann 10) [1, 0, 0, 1, 1, 0] (subC [1, 1, 1, 1, 0, 1, 0, 0] (bodyOf Try.f10)) (loopK (ann 10 7).keep 0 (fun fr H k => execK TT 0 E10 (inlD TT E10 n ann (tabC C10) 1) n (ann 10) (subC [1, 1, 1, 1, 0, 1, 0, 0] (bodyOf Try.f10)) fr H k) m3 (kont TT 0 E10 (inlD TT E10 n ann (tabC C10) 1) n (ann 10) [1, 1, 1, 1, 0, 1, 0] (bodyOf Try.f10) (endK TT Try.f10 (readL [(false, .bool)])))))
def f10.L2 (n : Nat) (x : Int × (List dAttempt)) (r1 : (List dFate) × Int) (m3 : Nat) (y3 : Int) : Option (Bool) :=
  loopN (ann 10 7).keep 0 (fun fr H k => execK TT 0 E10 (inlD TT E10 n ann (tabC C10) 1) n (ann 10) (subC [1, 1, 1, 1, 0, 1, 0, 0] (bodyOf Try.f10)) fr H k) m3 (f10.h2 x r1 y3).1 (f10.h2 x r1 y3).2 (kont TT 0 E10 (inlD TT E10 n ann (tabC C10) 1) n (ann 10) [1, 1, 1, 1, 0, 1, 0] (bodyOf Try.f10) (endK TT Try.f10 (readL [(false, .bool)])))
def f10.s1 (n : Nat) (x : Int × (List dAttempt)) (r1 : (List dFate) × Int) (y3 : Int) (S3 : Int → Option (Bool)) (S4 : Int → Option (Bool)) (y4 : Int) : Option (Bool) :=
  bif decide (y4 < y3) then
    (bif decide (0 ≤ y4) && decide (y4 < (r1.1.length : Int)) then
      (bif (r1.1.getD y4.toNat tFate.dflt).2.1 != (0 : Int) then
        (S4 (IntKind.wrap .i64 (y4 + (1 : Int))))
      else
        (bif decide (0 ≤ y4) && decide (y4 < (r1.1.length : Int)) then
          (bif decide (0 ≤ y3) && decide (y3 < (x.2.length : Int)) then
            (bif decide ((r1.1.getD y4.toNat tFate.dflt).1 ≤ (x.2.getD y3.toNat tAttempt.dflt).1) then
              (S4 (IntKind.wrap .i64 (y4 + (1 : Int))))
            else
              (bif decide (0 ≤ y4) && decide (y4 < (r1.1.length : Int)) then
                (bif decide (0 ≤ y3) && decide (y3 < (r1.1.length : Int)) then
                  (bif decide ((r1.1.getD y4.toNat tFate.dflt).1 ≥ (r1.1.getD y3.toNat tFate.dflt).1) then
                    (some false)
                  else
                    (bif decide (0 ≤ y3) && decide (y3 < (x.2.length : Int)) then
                      (bif decide (0 ≤ y4) && decide (y4 < (x.2.length : Int)) then
                        ((F27 ((x.2.getD y3.toNat tAttempt.dflt).2.1, (x.2.getD y4.toNat tAttempt.dflt).2.1)).bind fun r5 =>
                          bif decide (0 ≤ y3) && decide (y3 < (x.2.length : Int)) then
                            (bif decide (0 ≤ y4) && decide (y4 < (x.2.length : Int)) then
                              ((F28 ((x.2.getD y3.toNat tAttempt.dflt).2.1, (x.2.getD y4.toNat tAttempt.dflt).2.1)).bind fun r6 =>
                                bif decide (0 ≤ y3) && decide (y3 < (x.2.length : Int)) then
                                  (bif bif ((x.2.getD y3.toNat tAttempt.dflt).2.2 == (3 : Int)) then r5.2 else false then
                                    (some false)
                                  else
                                    (bif decide (0 ≤ y3) && decide (y3 < (x.2.length : Int)) then
                                      (bif bif (decide ((x.2.getD y3.toNat tAttempt.dflt).2.2 ≥ (2 : Int))) then r6.2 else false then
                                        (some false)
                                      else
                                        (S4 (IntKind.wrap .i64 (y4 + (1 : Int)))))
                                    else
                                      (none)))
                                else
                                  (none))
                            else
                              (none))
                          else
                            (none))
                      else
                        (none))
                    else
                      (none)))
                else
                  (none))
              else
                (none)))
          else
            (none))
        else
          (none)))
    else
      (none))
  else
    (S3 (IntKind.wrap .i64 (y3 + (1 : Int))))
def f10.r1 (n : Nat) (x : Int × (List dAttempt)) (r1 : (List dFate) × Int) (y3 : Int) (m3 : Nat) (m4 : Nat) (S3 : Int → Option (Bool)) (S4 : Int → Option (Bool)) (y4 : Int) : Option (Bool) :=
  bif decide (y4 < y3) then
    (bif decide (0 ≤ y4) && decide (y4 < (r1.1.length : Int)) then
      (bif (r1.1.getD y4.toNat tFate.dflt).2.1 != (0 : Int) then
        (S4 (IntKind.wrap .i64 (y4 + (1 : Int))))
      else
        (bif decide (0 ≤ y4) && decide (y4 < (r1.1.length : Int)) then
          (bif decide (0 ≤ y3) && decide (y3 < (x.2.length : Int)) then
            (bif decide ((r1.1.getD y4.toNat tFate.dflt).1 ≤ (x.2.getD y3.toNat tAttempt.dflt).1) then
              (S4 (IntKind.wrap .i64 (y4 + (1 : Int))))
            else
              (bif decide (0 ≤ y4) && decide (y4 < (r1.1.length : Int)) then
                (bif decide (0 ≤ y3) && decide (y3 < (r1.1.length : Int)) then
                  (bif decide ((r1.1.getD y4.toNat tFate.dflt).1 ≥ (r1.1.getD y3.toNat tFate.dflt).1) then
                    (some false)
                  else
                    (bif decide (0 ≤ y3) && decide (y3 < (x.2.length : Int)) then
                      (bif decide (0 ≤ y4) && decide (y4 < (x.2.length : Int)) then
                        ((F27 ((x.2.getD y3.toNat tAttempt.dflt).2.1, (x.2.getD y4.toNat tAttempt.dflt).2.1)).bind fun r5 =>
                          bif decide (0 ≤ y3) && decide (y3 < (x.2.length : Int)) then
                            (bif decide (0 ≤ y4) && decide (y4 < (x.2.length : Int)) then
                              ((F28 ((x.2.getD y3.toNat tAttempt.dflt).2.1, (x.2.getD y4.toNat tAttempt.dflt).2.1)).bind fun r6 =>
                                bif decide (0 ≤ y3) && decide (y3 < (x.2.length : Int)) then
                                  (bif bif ((x.2.getD y3.toNat tAttempt.dflt).2.2 == (3 : Int)) then r5.2 else false then
                                    (some false)
                                  else
                                    (bif decide (0 ≤ y3) && decide (y3 < (x.2.length : Int)) then
                                      (bif bif (decide ((x.2.getD y3.toNat tAttempt.dflt).2.2 ≥ (2 : Int))) then r6.2 else false then
                                        (some false)
                                      else
                                        (S4 (IntKind.wrap .i64 (y4 + (1 : Int)))))
                                    else
                                      (none)))
                                else
                                  (none))
                            else
                              (none))
                          else
                            (none))
                      else
                        (none))
                    else
                      (none)))
                else
                  (none))
              else
                (none)))
          else
            (none))
        else
          (none)))
    else
      (none))
  else
    (S3 (IntKind.wrap .i64 (y3 + (1 : Int))))
set_option maxRecDepth 100000 in
theorem f10.k1 (n : Nat) (x : Int × (List dAttempt)) (r1 : (List dFate) × Int) (y3 : Int) (m3 : Nat) (m : Nat) (y : Int) : f10.L1 n x r1 y3 m3 (m + 1) y = f10.s1 n x r1 y3 (f10.L2 n x r1 m3) (f10.L1 n x r1 y3 m3 m) y := by
  have h : f10.L1 n x r1 y3 m3 (m + 1) y = f10.r1 n x r1 y3 m3 m (f10.L2 n x r1 m3) (f10.L1 n x r1 y3 m3 m) y := by kernel_rfl
  rw [h]
  simp only [f10.r1, f10.s1]
theorem f10.l1 (n : Nat) (x : Int × (List dAttempt)) (r1 : (List dFate) × Int) (y3 : Int) (m3 : Nat) : ∀ (m : Nat) (y4 : Int), f10.L1 n x r1 y3 m3 m y4 = iter (f10.s1 n x r1 y3 (f10.L2 n x r1 m3)) m y4 :=
  loop_of (L := f10.L1 n x r1 y3 m3) (step := f10.s1 n x r1 y3 (f10.L2 n x r1 m3)) (fun _ => rfl) (f10.k1 n x r1 y3 m3)
def f10.s2 (n : Nat) (x : Int × (List dAttempt)) (r1 : (List dFate) × Int) (S3 : Int → Option (Bool)) (y3 : Int) : Option (Bool) :=
  bif decide (y3 < (r1.1.length : Int)) then
    (bif decide (0 ≤ y3) && decide (y3 < (r1.1.length : Int)) then
      (bif (r1.1.getD y3.toNat tFate.dflt).2.1 != (0 : Int) then
        (S3 (IntKind.wrap .i64 (y3 + (1 : Int))))
      else
        (iter (f10.s1 n x r1 y3 S3) n (0 : Int)))
    else
      (none))
  else
    ((F17 ()).bind fun r7 =>
      some r7)
def f10.r2 (n : Nat) (x : Int × (List dAttempt)) (r1 : (List dFate) × Int) (m3 : Nat) (S3 : Int → Option (Bool)) (y3 : Int) : Option (Bool) :=
  bif decide (y3 < (r1.1.length : Int)) then
    (bif decide (0 ≤ y3) && decide (y3 < (r1.1.length : Int)) then
      (bif (r1.1.getD y3.toNat tFate.dflt).2.1 != (0 : Int) then
        (S3 (IntKind.wrap .i64 (y3 + (1 : Int))))
      else
        (f10.L1 n x r1 y3 m3 n (0 : Int)))
    else
      (none))
  else
    ((F17 ()).bind fun r7 =>
      some r7)
set_option maxRecDepth 100000 in
theorem f10.k2 (n : Nat) (x : Int × (List dAttempt)) (r1 : (List dFate) × Int) (m : Nat) (y : Int) : f10.L2 n x r1 (m + 1) y = f10.s2 n x r1 (f10.L2 n x r1 m) y := by
  have h : f10.L2 n x r1 (m + 1) y = f10.r2 n x r1 m (f10.L2 n x r1 m) y := by kernel_rfl
  rw [h]
  simp only [f10.r2, f10.s2, f10.l1]
theorem f10.l2 (n : Nat) (x : Int × (List dAttempt)) (r1 : (List dFate) × Int) : ∀ (m : Nat) (y3 : Int), f10.L2 n x r1 m y3 = iter (f10.s2 n x r1) m y3 :=
  loop_of (L := f10.L2 n x r1) (step := f10.s2 n x r1) (fun _ => rfl) (f10.k2 n x r1)
def f10.g (n : Nat) (x : Int × (List dAttempt)) : Option (Bool) :=
  (F25 x).bind fun r1 =>
    bif r1.2 != (0 : Int) then
      (bif (r1.1.length : Int) == (0 : Int) then
        ((F17 ()).bind fun r2 =>
          some r2)
      else
        (some false))
    else
      (bif (r1.1.length : Int) != (x.2.length : Int) then
        (some false)
      else
        (iter (f10.s2 n x r1) n (0 : Int)))
def f10.q (n : Nat) (x : Int × (List dAttempt)) : Option (Bool) :=
  (F25 x).bind fun r1 =>
    bif r1.2 != (0 : Int) then
      (bif (r1.1.length : Int) == (0 : Int) then
        ((F17 ()).bind fun r2 =>
          some r2)
      else
        (some false))
    else
      (bif (r1.1.length : Int) != (x.2.length : Int) then
        (some false)
      else
        (f10.L2 n x r1 n (0 : Int)))
set_option maxRecDepth 100000 in
theorem f10.eq (n : Nat) (x : Int × (List dAttempt)) : runK TT E10 n ann (tabC C10) 1 10 (argsL [(false, .int .u64), (false, .sl tAttempt)] x) [] (readL [(false, .bool)]) = f10.g n x := by
  have h : runK TT E10 n ann (tabC C10) 1 10 (argsL [(false, .int .u64), (false, .sl tAttempt)] x) [] (readL [(false, .bool)]) = f10.q n x := by kernel_rfl
  rw [h]
  simp only [f10.q, f10.g, f10.l1, f10.l2]
set_option maxRecDepth 100000 in
theorem f10.codes : CodesOk Try.prog E10 ann (tabC C10) := tabC_ok (by intro p hp; simp only [C10, List.mem_cons, List.not_mem_nil, or_false] at hp; rcases hp with rfl <;> first | exact Try.func10) (by kernel_rfl)
theorem f10.ok (h : ∀ X Y, (FL [(false, .int .u64), (false, .sl tAttempt)]) X = some Y → ∃ n, f10.g n X = some Y) (e17 : ConOk Try.prog 17 con17) (e25 : ConOk Try.prog 25 con25) (e27 : ConOk Try.prog 27 con27) (e28 : ConOk Try.prog 28 con28) : ConOk Try.prog 10 (mkCon [(false, .int .u64), (false, .sl tAttempt)] [(false, .bool)] true (FL [(false, .int .u64), (false, .sl tAttempt)])) :=
  mkCon_ok mixed TT_ok (envC_ok e28 (envC_ok e27 (envC_ok e25 (envC_ok e17 env0_ok)))) f10.codes (fun _ => List.all_eq_true.1 rfl) fun X Y hF => (h X Y hF).imp fun n hn => (f10.eq n X).trans hn
def con10 : Con := mkCon [(false, .int .u64), (false, .sl tAttempt)] [(false, .bool)] true (FL [(false, .int .u64), (false, .sl tAttempt)])
end
end Go.Proofs.Ytjedleoebjmkgaa.AI
