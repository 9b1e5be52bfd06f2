/- Runs of the program's functions over plain data. Printed by aipr.py; Lean checks them. -/
import Derived.Test.YtjedleoebjmkgaaBz
set_option linter.unusedVariables false
set_option linter.unusedSimpArgs false
namespace Go.Proofs.Ytjedleoebjmkgaa.AI
open Go
noncomputable section
/-! ### vellum/vellumlaw18.ValidLess -/
def E5 : FuncId → Option Con := (envC 30 con30 (envC 23 con23 (envC 21 con21 (envC 17 con17 env0))))
noncomputable def C5 : List (FuncId × Func) := [(5, Try.f5), (11, Try.f11), (29, Try.f29)]
def f5.h1 (x : (List dCommit) × dAttempt × (Int × (Int × Int))) (y1 : (List dRcommit) × Int × Bool × Nat × (List dCommit)) (r4 : dClash × Int) (r5 : dClash × Int) (y7 : Int × Int × Int × Int) : List AV × List Ob := ([.undef, .undef, .undef, .undef, .val false [.ptr 0 0], .val false [.ptr 1 0], .undef, .val false [.ptr 2 0], .undef, .undef, .undef, .undef, .undef, .undef, .val false [.ptr 6 0], .val false [.ptr 7 0], .val false [.sc (.int .i64) y7.1]] ++ List.replicate 105 .undef, [.box [.sc (.int .u64) x.2.1.1, .sc (.sl tPoint) x.2.1.2.1.1, .sc (.sl tSpan) x.2.1.2.1.2.1, .sc (.sl tPoint) x.2.1.2.1.2.2, .sc (.int .i64) x.2.1.2.2], .box [.sc (.int .i64) x.2.2.1, .sc (.int .i64) x.2.2.2.1, .sc (.int .i64) x.2.2.2.2], .box [.sc .bool y1.2.2.1, .own 3 y1.2.2.2.1], .arr 85 tCommit y1.2.2.2.2, .box [.sc (.int .u64) r4.1.1, .sc (.int .i64) r4.1.2.1, .sc (.int .i64) r4.1.2.2.1, .sc .str r4.1.2.2.2], .box [.sc (.int .u64) r5.1.1, .sc (.int .i64) r5.1.2.1, .sc (.int .i64) r5.1.2.2.1, .sc .str r5.1.2.2.2], .box [.sc (.int .u64) x.2.1.1, .sc (.sl tPoint) x.2.1.2.1.1, .sc (.sl tSpan) x.2.1.2.1.2.1, .sc (.sl tPoint) x.2.1.2.1.2.2, .sc (.int .i64) x.2.1.2.2], .box [.sc (.int .i64) y7.2.1, .sc (.int .i64) y7.2.2.1, .sc (.int .i64) y7.2.2.2]])
def f5.h2 (x : (List dCommit) × dAttempt × (Int × (Int × Int))) (y1 : (List dRcommit) × Int × Bool × Nat × (List dCommit)) : List AV × List Ob := ([.val false [.sc (.sl tCommit) x.1], .undef, .undef, .undef, .undef, .val false [.ptr 2 0], .val false [.sc (.sl tRcommit) y1.1], .val false [.sc (.int .i64) y1.2.1]] ++ List.replicate 45 .undef, [.box [.sc (.int .u64) x.2.1.1, .sc (.sl tPoint) x.2.1.2.1.1, .sc (.sl tSpan) x.2.1.2.1.2.1, .sc (.sl tPoint) x.2.1.2.1.2.2, .sc (.int .i64) x.2.1.2.2], .box [.sc (.int .i64) x.2.2.1, .sc (.int .i64) x.2.2.2.1, .sc (.int .i64) x.2.2.2.2], .box [.sc .bool y1.2.2.1, .own 3 y1.2.2.2.1], .arr 85 tCommit y1.2.2.2.2])
def f5.L1 (n : Nat) (x : (List dCommit) × dAttempt × (Int × (Int × Int))) (y1 : (List dRcommit) × Int × Bool × Nat × (List dCommit)) (r4 : dClash × Int) (r5 : dClash × Int) (m7 : Nat) (y7 : Int × Int × Int × Int) : Option (Bool) :=
  loopN (ann 5 13).keep 8 (fun fr H k => execK TT 0 E5 (inlD TT E5 n ann (tabC C5) 3) n (ann 5) (subC [1, 1, 1, 1, 1, 1, 1, 1, 1, 0, 1, 0, 0] (bodyOf Try.f5)) fr H k) m7 (f5.h1 x y1 r4 r5 y7).1 (f5.h1 x y1 r4 r5 y7).2 (kont TT 0 E5 (inlD TT E5 n ann (tabC C5) 3) n (ann 5) [1, 1, 1, 1, 1, 1, 1, 1, 1, 0, 1, 0] (bodyOf Try.f5) (endK TT Try.f5 (readL [(false, .bool)])))
def f5.L2 (n : Nat) (x : (List dCommit) × dAttempt × (Int × (Int × Int))) (m1 : Nat) (y1 : (List dRcommit) × Int × Bool × Nat × (List dCommit)) : Option (Bool) :=
  loopN (ann 11 6).keep 4 (fun fr H k => execK TT 2 E5 (inlD TT E5 n ann (tabC C5) 2) n (ann 11) (subC [1, 1, 1, 1, 0, 1, 0, 0] (bodyOf Try.f11)) fr H k) m1 (f5.h2 x y1).1 (f5.h2 x y1).2 (kont TT 2 E5 (inlD TT E5 n ann (tabC C5) 2) n (ann 11) [1, 1, 1, 1, 0, 1, 0] (bodyOf Try.f11) (endK TT Try.f11 (restK TT 0 E5 (inlD TT E5 n ann (tabC C5) 3) false (ann 5 1).plain (opsOf (subC [1, 0] (bodyOf Try.f5))) 1 ⟨[.val false [.sc (.sl tCommit) x.1], .val true [.sc (.int .u64) x.2.1.1, .sc (.sl tPoint) x.2.1.2.1.1, .sc (.sl tSpan) x.2.1.2.1.2.1, .sc (.sl tPoint) x.2.1.2.1.2.2, .sc (.int .i64) x.2.1.2.2], .val true [.sc (.int .i64) x.2.2.1, .sc (.int .i64) x.2.2.2.1, .sc (.int .i64) x.2.2.2.2], .undef, .val false [.ptr 0 0], .val false [.ptr 1 0], .val false [.sc .bool false], .undef, .undef, .undef, .undef, .undef, .undef, .undef, .undef, .undef, .undef, .undef, .undef, .undef, .val false [.sc (.sl tCommit) x.1]] ++ List.replicate 101 .undef, [], []⟩ (fun g H => (kont TT 0 E5 (inlD TT E5 n ann (tabC C5) 3) n (ann 5) [1, 0] (bodyOf Try.f5) (endK TT Try.f5 (readL [(false, .bool)]))) .normal (endG g) H))))
def f5.s1 (n : Nat) (x : (List dCommit) × dAttempt × (Int × (Int × Int))) (y1 : (List dRcommit) × Int × Bool × Nat × (List dCommit)) (r4 : dClash × Int) (r5 : dClash × Int) (S7 : (Int × Int × Int × Int) → Option (Bool)) (y7 : Int × Int × Int × Int) : Option (Bool) :=
  bif decide (y7.1 < (3 : Int)) then
    (bif y7.1 == (0 : Int) then
      (bif decide (x.2.2.1 ≥ (0 : Int)) then
        (bif y7.1 == (0 : Int) then
          (bif y7.1 == (0 : Int) then
            (bif decide (x.2.2.1 < y7.2.1) then
              (bif y7.1 == (0 : Int) then
                (bif y7.1 == (0 : Int) then
                  (S7 (IntKind.wrap .i64 (y7.1 + (1 : Int)), (x.2.2.1, y7.2.2)))
                else
                  (bif y7.1 == (1 : Int) then
                    (S7 (IntKind.wrap .i64 (y7.1 + (1 : Int)), (y7.2.1, (x.2.2.1, y7.2.2.2))))
                  else
                    (bif y7.1 == (2 : Int) then
                      (S7 (IntKind.wrap .i64 (y7.1 + (1 : Int)), (y7.2.1, (y7.2.2.1, x.2.2.1))))
                    else
                      (none))))
              else
                (bif y7.1 == (1 : Int) then
                  (bif y7.1 == (0 : Int) then
                    (S7 (IntKind.wrap .i64 (y7.1 + (1 : Int)), (x.2.2.2.1, y7.2.2)))
                  else
                    (bif y7.1 == (1 : Int) then
                      (S7 (IntKind.wrap .i64 (y7.1 + (1 : Int)), (y7.2.1, (x.2.2.2.1, y7.2.2.2))))
                    else
                      (bif y7.1 == (2 : Int) then
                        (S7 (IntKind.wrap .i64 (y7.1 + (1 : Int)), (y7.2.1, (y7.2.2.1, x.2.2.2.1))))
                      else
                        (none))))
                else
                  (bif y7.1 == (2 : Int) then
                    (bif y7.1 == (0 : Int) then
                      (S7 (IntKind.wrap .i64 (y7.1 + (1 : Int)), (x.2.2.2.2, y7.2.2)))
                    else
                      (bif y7.1 == (1 : Int) then
                        (S7 (IntKind.wrap .i64 (y7.1 + (1 : Int)), (y7.2.1, (x.2.2.2.2, y7.2.2.2))))
                      else
                        (bif y7.1 == (2 : Int) then
                          (S7 (IntKind.wrap .i64 (y7.1 + (1 : Int)), (y7.2.1, (y7.2.2.1, x.2.2.2.2))))
                        else
                          (none))))
                  else
                    (none))))
            else
              (S7 (IntKind.wrap .i64 (y7.1 + (1 : Int)), y7.2)))
          else
            (bif y7.1 == (1 : Int) then
              (bif decide (x.2.2.1 < y7.2.2.1) then
                (bif y7.1 == (0 : Int) then
                  (bif y7.1 == (0 : Int) then
                    (S7 (IntKind.wrap .i64 (y7.1 + (1 : Int)), (x.2.2.1, y7.2.2)))
                  else
                    (bif y7.1 == (1 : Int) then
                      (S7 (IntKind.wrap .i64 (y7.1 + (1 : Int)), (y7.2.1, (x.2.2.1, y7.2.2.2))))
                    else
                      (bif y7.1 == (2 : Int) then
                        (S7 (IntKind.wrap .i64 (y7.1 + (1 : Int)), (y7.2.1, (y7.2.2.1, x.2.2.1))))
                      else
                        (none))))
                else
                  (bif y7.1 == (1 : Int) then
                    (bif y7.1 == (0 : Int) then
                      (S7 (IntKind.wrap .i64 (y7.1 + (1 : Int)), (x.2.2.2.1, y7.2.2)))
                    else
                      (bif y7.1 == (1 : Int) then
                        (S7 (IntKind.wrap .i64 (y7.1 + (1 : Int)), (y7.2.1, (x.2.2.2.1, y7.2.2.2))))
                      else
                        (bif y7.1 == (2 : Int) then
                          (S7 (IntKind.wrap .i64 (y7.1 + (1 : Int)), (y7.2.1, (y7.2.2.1, x.2.2.2.1))))
                        else
                          (none))))
                  else
                    (bif y7.1 == (2 : Int) then
                      (bif y7.1 == (0 : Int) then
                        (S7 (IntKind.wrap .i64 (y7.1 + (1 : Int)), (x.2.2.2.2, y7.2.2)))
                      else
                        (bif y7.1 == (1 : Int) then
                          (S7 (IntKind.wrap .i64 (y7.1 + (1 : Int)), (y7.2.1, (x.2.2.2.2, y7.2.2.2))))
                        else
                          (bif y7.1 == (2 : Int) then
                            (S7 (IntKind.wrap .i64 (y7.1 + (1 : Int)), (y7.2.1, (y7.2.2.1, x.2.2.2.2))))
                          else
                            (none))))
                    else
                      (none))))
              else
                (S7 (IntKind.wrap .i64 (y7.1 + (1 : Int)), y7.2)))
            else
              (bif y7.1 == (2 : Int) then
                (bif decide (x.2.2.1 < y7.2.2.2) then
                  (bif y7.1 == (0 : Int) then
                    (bif y7.1 == (0 : Int) then
                      (S7 (IntKind.wrap .i64 (y7.1 + (1 : Int)), (x.2.2.1, y7.2.2)))
                    else
                      (bif y7.1 == (1 : Int) then
                        (S7 (IntKind.wrap .i64 (y7.1 + (1 : Int)), (y7.2.1, (x.2.2.1, y7.2.2.2))))
                      else
                        (bif y7.1 == (2 : Int) then
                          (S7 (IntKind.wrap .i64 (y7.1 + (1 : Int)), (y7.2.1, (y7.2.2.1, x.2.2.1))))
                        else
                          (none))))
                  else
                    (bif y7.1 == (1 : Int) then
                      (bif y7.1 == (0 : Int) then
                        (S7 (IntKind.wrap .i64 (y7.1 + (1 : Int)), (x.2.2.2.1, y7.2.2)))
                      else
                        (bif y7.1 == (1 : Int) then
                          (S7 (IntKind.wrap .i64 (y7.1 + (1 : Int)), (y7.2.1, (x.2.2.2.1, y7.2.2.2))))
                        else
                          (bif y7.1 == (2 : Int) then
                            (S7 (IntKind.wrap .i64 (y7.1 + (1 : Int)), (y7.2.1, (y7.2.2.1, x.2.2.2.1))))
                          else
                            (none))))
                    else
                      (bif y7.1 == (2 : Int) then
                        (bif y7.1 == (0 : Int) then
                          (S7 (IntKind.wrap .i64 (y7.1 + (1 : Int)), (x.2.2.2.2, y7.2.2)))
                        else
                          (bif y7.1 == (1 : Int) then
                            (S7 (IntKind.wrap .i64 (y7.1 + (1 : Int)), (y7.2.1, (x.2.2.2.2, y7.2.2.2))))
                          else
                            (bif y7.1 == (2 : Int) then
                              (S7 (IntKind.wrap .i64 (y7.1 + (1 : Int)), (y7.2.1, (y7.2.2.1, x.2.2.2.2))))
                            else
                              (none))))
                      else
                        (none))))
                else
                  (S7 (IntKind.wrap .i64 (y7.1 + (1 : Int)), y7.2)))
              else
                (none))))
        else
          (bif y7.1 == (1 : Int) then
            (bif y7.1 == (0 : Int) then
              (bif decide (x.2.2.2.1 < y7.2.1) then
                (bif y7.1 == (0 : Int) then
                  (bif y7.1 == (0 : Int) then
                    (S7 (IntKind.wrap .i64 (y7.1 + (1 : Int)), (x.2.2.1, y7.2.2)))
                  else
                    (bif y7.1 == (1 : Int) then
                      (S7 (IntKind.wrap .i64 (y7.1 + (1 : Int)), (y7.2.1, (x.2.2.1, y7.2.2.2))))
                    else
                      (bif y7.1 == (2 : Int) then
                        (S7 (IntKind.wrap .i64 (y7.1 + (1 : Int)), (y7.2.1, (y7.2.2.1, x.2.2.1))))
                      else
                        (none))))
                else
                  (bif y7.1 == (1 : Int) then
                    (bif y7.1 == (0 : Int) then
                      (S7 (IntKind.wrap .i64 (y7.1 + (1 : Int)), (x.2.2.2.1, y7.2.2)))
                    else
                      (bif y7.1 == (1 : Int) then
                        (S7 (IntKind.wrap .i64 (y7.1 + (1 : Int)), (y7.2.1, (x.2.2.2.1, y7.2.2.2))))
                      else
                        (bif y7.1 == (2 : Int) then
                          (S7 (IntKind.wrap .i64 (y7.1 + (1 : Int)), (y7.2.1, (y7.2.2.1, x.2.2.2.1))))
                        else
                          (none))))
                  else
                    (bif y7.1 == (2 : Int) then
                      (bif y7.1 == (0 : Int) then
                        (S7 (IntKind.wrap .i64 (y7.1 + (1 : Int)), (x.2.2.2.2, y7.2.2)))
                      else
                        (bif y7.1 == (1 : Int) then
                          (S7 (IntKind.wrap .i64 (y7.1 + (1 : Int)), (y7.2.1, (x.2.2.2.2, y7.2.2.2))))
                        else
                          (bif y7.1 == (2 : Int) then
                            (S7 (IntKind.wrap .i64 (y7.1 + (1 : Int)), (y7.2.1, (y7.2.2.1, x.2.2.2.2))))
                          else
                            (none))))
                    else
                      (none))))
              else
                (S7 (IntKind.wrap .i64 (y7.1 + (1 : Int)), y7.2)))
            else
              (bif y7.1 == (1 : Int) then
                (bif decide (x.2.2.2.1 < y7.2.2.1) then
                  (bif y7.1 == (0 : Int) then
                    (bif y7.1 == (0 : Int) then
                      (S7 (IntKind.wrap .i64 (y7.1 + (1 : Int)), (x.2.2.1, y7.2.2)))
                    else
                      (bif y7.1 == (1 : Int) then
                        (S7 (IntKind.wrap .i64 (y7.1 + (1 : Int)), (y7.2.1, (x.2.2.1, y7.2.2.2))))
                      else
                        (bif y7.1 == (2 : Int) then
                          (S7 (IntKind.wrap .i64 (y7.1 + (1 : Int)), (y7.2.1, (y7.2.2.1, x.2.2.1))))
                        else
                          (none))))
                  else
                    (bif y7.1 == (1 : Int) then
                      (bif y7.1 == (0 : Int) then
                        (S7 (IntKind.wrap .i64 (y7.1 + (1 : Int)), (x.2.2.2.1, y7.2.2)))
                      else
                        (bif y7.1 == (1 : Int) then
                          (S7 (IntKind.wrap .i64 (y7.1 + (1 : Int)), (y7.2.1, (x.2.2.2.1, y7.2.2.2))))
                        else
                          (bif y7.1 == (2 : Int) then
                            (S7 (IntKind.wrap .i64 (y7.1 + (1 : Int)), (y7.2.1, (y7.2.2.1, x.2.2.2.1))))
                          else
                            (none))))
                    else
                      (bif y7.1 == (2 : Int) then
                        (bif y7.1 == (0 : Int) then
                          (S7 (IntKind.wrap .i64 (y7.1 + (1 : Int)), (x.2.2.2.2, y7.2.2)))
                        else
                          (bif y7.1 == (1 : Int) then
                            (S7 (IntKind.wrap .i64 (y7.1 + (1 : Int)), (y7.2.1, (x.2.2.2.2, y7.2.2.2))))
                          else
                            (bif y7.1 == (2 : Int) then
                              (S7 (IntKind.wrap .i64 (y7.1 + (1 : Int)), (y7.2.1, (y7.2.2.1, x.2.2.2.2))))
                            else
                              (none))))
                      else
                        (none))))
                else
                  (S7 (IntKind.wrap .i64 (y7.1 + (1 : Int)), y7.2)))
              else
                (bif y7.1 == (2 : Int) then
                  (bif decide (x.2.2.2.1 < y7.2.2.2) then
                    (bif y7.1 == (0 : Int) then
                      (bif y7.1 == (0 : Int) then
                        (S7 (IntKind.wrap .i64 (y7.1 + (1 : Int)), (x.2.2.1, y7.2.2)))
                      else
                        (bif y7.1 == (1 : Int) then
                          (S7 (IntKind.wrap .i64 (y7.1 + (1 : Int)), (y7.2.1, (x.2.2.1, y7.2.2.2))))
                        else
                          (bif y7.1 == (2 : Int) then
                            (S7 (IntKind.wrap .i64 (y7.1 + (1 : Int)), (y7.2.1, (y7.2.2.1, x.2.2.1))))
                          else
                            (none))))
                    else
                      (bif y7.1 == (1 : Int) then
                        (bif y7.1 == (0 : Int) then
                          (S7 (IntKind.wrap .i64 (y7.1 + (1 : Int)), (x.2.2.2.1, y7.2.2)))
                        else
                          (bif y7.1 == (1 : Int) then
                            (S7 (IntKind.wrap .i64 (y7.1 + (1 : Int)), (y7.2.1, (x.2.2.2.1, y7.2.2.2))))
                          else
                            (bif y7.1 == (2 : Int) then
                              (S7 (IntKind.wrap .i64 (y7.1 + (1 : Int)), (y7.2.1, (y7.2.2.1, x.2.2.2.1))))
                            else
                              (none))))
                      else
                        (bif y7.1 == (2 : Int) then
                          (bif y7.1 == (0 : Int) then
                            (S7 (IntKind.wrap .i64 (y7.1 + (1 : Int)), (x.2.2.2.2, y7.2.2)))
                          else
                            (bif y7.1 == (1 : Int) then
                              (S7 (IntKind.wrap .i64 (y7.1 + (1 : Int)), (y7.2.1, (x.2.2.2.2, y7.2.2.2))))
                            else
                              (bif y7.1 == (2 : Int) then
                                (S7 (IntKind.wrap .i64 (y7.1 + (1 : Int)), (y7.2.1, (y7.2.2.1, x.2.2.2.2))))
                              else
                                (none))))
                        else
                          (none))))
                  else
                    (S7 (IntKind.wrap .i64 (y7.1 + (1 : Int)), y7.2)))
                else
                  (none))))
          else
            (bif y7.1 == (2 : Int) then
              (bif y7.1 == (0 : Int) then
                (bif decide (x.2.2.2.2 < y7.2.1) then
                  (bif y7.1 == (0 : Int) then
                    (bif y7.1 == (0 : Int) then
                      (S7 (IntKind.wrap .i64 (y7.1 + (1 : Int)), (x.2.2.1, y7.2.2)))
                    else
                      (bif y7.1 == (1 : Int) then
                        (S7 (IntKind.wrap .i64 (y7.1 + (1 : Int)), (y7.2.1, (x.2.2.1, y7.2.2.2))))
                      else
                        (bif y7.1 == (2 : Int) then
                          (S7 (IntKind.wrap .i64 (y7.1 + (1 : Int)), (y7.2.1, (y7.2.2.1, x.2.2.1))))
                        else
                          (none))))
                  else
                    (bif y7.1 == (1 : Int) then
                      (bif y7.1 == (0 : Int) then
                        (S7 (IntKind.wrap .i64 (y7.1 + (1 : Int)), (x.2.2.2.1, y7.2.2)))
                      else
                        (bif y7.1 == (1 : Int) then
                          (S7 (IntKind.wrap .i64 (y7.1 + (1 : Int)), (y7.2.1, (x.2.2.2.1, y7.2.2.2))))
                        else
                          (bif y7.1 == (2 : Int) then
                            (S7 (IntKind.wrap .i64 (y7.1 + (1 : Int)), (y7.2.1, (y7.2.2.1, x.2.2.2.1))))
                          else
                            (none))))
                    else
                      (bif y7.1 == (2 : Int) then
                        (bif y7.1 == (0 : Int) then
                          (S7 (IntKind.wrap .i64 (y7.1 + (1 : Int)), (x.2.2.2.2, y7.2.2)))
                        else
                          (bif y7.1 == (1 : Int) then
                            (S7 (IntKind.wrap .i64 (y7.1 + (1 : Int)), (y7.2.1, (x.2.2.2.2, y7.2.2.2))))
                          else
                            (bif y7.1 == (2 : Int) then
                              (S7 (IntKind.wrap .i64 (y7.1 + (1 : Int)), (y7.2.1, (y7.2.2.1, x.2.2.2.2))))
                            else
                              (none))))
                      else
                        (none))))
                else
                  (S7 (IntKind.wrap .i64 (y7.1 + (1 : Int)), y7.2)))
              else
                (bif y7.1 == (1 : Int) then
                  (bif decide (x.2.2.2.2 < y7.2.2.1) then
                    (bif y7.1 == (0 : Int) then
                      (bif y7.1 == (0 : Int) then
                        (S7 (IntKind.wrap .i64 (y7.1 + (1 : Int)), (x.2.2.1, y7.2.2)))
                      else
                        (bif y7.1 == (1 : Int) then
                          (S7 (IntKind.wrap .i64 (y7.1 + (1 : Int)), (y7.2.1, (x.2.2.1, y7.2.2.2))))
                        else
                          (bif y7.1 == (2 : Int) then
                            (S7 (IntKind.wrap .i64 (y7.1 + (1 : Int)), (y7.2.1, (y7.2.2.1, x.2.2.1))))
                          else
                            (none))))
                    else
                      (bif y7.1 == (1 : Int) then
                        (bif y7.1 == (0 : Int) then
                          (S7 (IntKind.wrap .i64 (y7.1 + (1 : Int)), (x.2.2.2.1, y7.2.2)))
                        else
                          (bif y7.1 == (1 : Int) then
                            (S7 (IntKind.wrap .i64 (y7.1 + (1 : Int)), (y7.2.1, (x.2.2.2.1, y7.2.2.2))))
                          else
                            (bif y7.1 == (2 : Int) then
                              (S7 (IntKind.wrap .i64 (y7.1 + (1 : Int)), (y7.2.1, (y7.2.2.1, x.2.2.2.1))))
                            else
                              (none))))
                      else
                        (bif y7.1 == (2 : Int) then
                          (bif y7.1 == (0 : Int) then
                            (S7 (IntKind.wrap .i64 (y7.1 + (1 : Int)), (x.2.2.2.2, y7.2.2)))
                          else
                            (bif y7.1 == (1 : Int) then
                              (S7 (IntKind.wrap .i64 (y7.1 + (1 : Int)), (y7.2.1, (x.2.2.2.2, y7.2.2.2))))
                            else
                              (bif y7.1 == (2 : Int) then
                                (S7 (IntKind.wrap .i64 (y7.1 + (1 : Int)), (y7.2.1, (y7.2.2.1, x.2.2.2.2))))
                              else
                                (none))))
                        else
                          (none))))
                  else
                    (S7 (IntKind.wrap .i64 (y7.1 + (1 : Int)), y7.2)))
                else
                  (bif y7.1 == (2 : Int) then
                    (bif decide (x.2.2.2.2 < y7.2.2.2) then
                      (bif y7.1 == (0 : Int) then
                        (bif y7.1 == (0 : Int) then
                          (S7 (IntKind.wrap .i64 (y7.1 + (1 : Int)), (x.2.2.1, y7.2.2)))
                        else
                          (bif y7.1 == (1 : Int) then
                            (S7 (IntKind.wrap .i64 (y7.1 + (1 : Int)), (y7.2.1, (x.2.2.1, y7.2.2.2))))
                          else
                            (bif y7.1 == (2 : Int) then
                              (S7 (IntKind.wrap .i64 (y7.1 + (1 : Int)), (y7.2.1, (y7.2.2.1, x.2.2.1))))
                            else
                              (none))))
                      else
                        (bif y7.1 == (1 : Int) then
                          (bif y7.1 == (0 : Int) then
                            (S7 (IntKind.wrap .i64 (y7.1 + (1 : Int)), (x.2.2.2.1, y7.2.2)))
                          else
                            (bif y7.1 == (1 : Int) then
                              (S7 (IntKind.wrap .i64 (y7.1 + (1 : Int)), (y7.2.1, (x.2.2.2.1, y7.2.2.2))))
                            else
                              (bif y7.1 == (2 : Int) then
                                (S7 (IntKind.wrap .i64 (y7.1 + (1 : Int)), (y7.2.1, (y7.2.2.1, x.2.2.2.1))))
                              else
                                (none))))
                        else
                          (bif y7.1 == (2 : Int) then
                            (bif y7.1 == (0 : Int) then
                              (S7 (IntKind.wrap .i64 (y7.1 + (1 : Int)), (x.2.2.2.2, y7.2.2)))
                            else
                              (bif y7.1 == (1 : Int) then
                                (S7 (IntKind.wrap .i64 (y7.1 + (1 : Int)), (y7.2.1, (x.2.2.2.2, y7.2.2.2))))
                              else
                                (bif y7.1 == (2 : Int) then
                                  (S7 (IntKind.wrap .i64 (y7.1 + (1 : Int)), (y7.2.1, (y7.2.2.1, x.2.2.2.2))))
                                else
                                  (none))))
                          else
                            (none))))
                    else
                      (S7 (IntKind.wrap .i64 (y7.1 + (1 : Int)), y7.2)))
                  else
                    (none))))
            else
              (none))))
      else
        (S7 (IntKind.wrap .i64 (y7.1 + (1 : Int)), y7.2)))
    else
      (bif y7.1 == (1 : Int) then
        (bif decide (x.2.2.2.1 ≥ (0 : Int)) then
          (bif y7.1 == (0 : Int) then
            (bif y7.1 == (0 : Int) then
              (bif decide (x.2.2.1 < y7.2.1) then
                (bif y7.1 == (0 : Int) then
                  (bif y7.1 == (0 : Int) then
                    (S7 (IntKind.wrap .i64 (y7.1 + (1 : Int)), (x.2.2.1, y7.2.2)))
                  else
                    (bif y7.1 == (1 : Int) then
                      (S7 (IntKind.wrap .i64 (y7.1 + (1 : Int)), (y7.2.1, (x.2.2.1, y7.2.2.2))))
                    else
                      (bif y7.1 == (2 : Int) then
                        (S7 (IntKind.wrap .i64 (y7.1 + (1 : Int)), (y7.2.1, (y7.2.2.1, x.2.2.1))))
                      else
                        (none))))
                else
                  (bif y7.1 == (1 : Int) then
                    (bif y7.1 == (0 : Int) then
                      (S7 (IntKind.wrap .i64 (y7.1 + (1 : Int)), (x.2.2.2.1, y7.2.2)))
                    else
                      (bif y7.1 == (1 : Int) then
                        (S7 (IntKind.wrap .i64 (y7.1 + (1 : Int)), (y7.2.1, (x.2.2.2.1, y7.2.2.2))))
                      else
                        (bif y7.1 == (2 : Int) then
                          (S7 (IntKind.wrap .i64 (y7.1 + (1 : Int)), (y7.2.1, (y7.2.2.1, x.2.2.2.1))))
                        else
                          (none))))
                  else
                    (bif y7.1 == (2 : Int) then
                      (bif y7.1 == (0 : Int) then
                        (S7 (IntKind.wrap .i64 (y7.1 + (1 : Int)), (x.2.2.2.2, y7.2.2)))
                      else
                        (bif y7.1 == (1 : Int) then
                          (S7 (IntKind.wrap .i64 (y7.1 + (1 : Int)), (y7.2.1, (x.2.2.2.2, y7.2.2.2))))
                        else
                          (bif y7.1 == (2 : Int) then
                            (S7 (IntKind.wrap .i64 (y7.1 + (1 : Int)), (y7.2.1, (y7.2.2.1, x.2.2.2.2))))
                          else
                            (none))))
                    else
                      (none))))
              else
                (S7 (IntKind.wrap .i64 (y7.1 + (1 : Int)), y7.2)))
            else
              (bif y7.1 == (1 : Int) then
                (bif decide (x.2.2.1 < y7.2.2.1) then
                  (bif y7.1 == (0 : Int) then
                    (bif y7.1 == (0 : Int) then
                      (S7 (IntKind.wrap .i64 (y7.1 + (1 : Int)), (x.2.2.1, y7.2.2)))
                    else
                      (bif y7.1 == (1 : Int) then
                        (S7 (IntKind.wrap .i64 (y7.1 + (1 : Int)), (y7.2.1, (x.2.2.1, y7.2.2.2))))
                      else
                        (bif y7.1 == (2 : Int) then
                          (S7 (IntKind.wrap .i64 (y7.1 + (1 : Int)), (y7.2.1, (y7.2.2.1, x.2.2.1))))
                        else
                          (none))))
                  else
                    (bif y7.1 == (1 : Int) then
                      (bif y7.1 == (0 : Int) then
                        (S7 (IntKind.wrap .i64 (y7.1 + (1 : Int)), (x.2.2.2.1, y7.2.2)))
                      else
                        (bif y7.1 == (1 : Int) then
                          (S7 (IntKind.wrap .i64 (y7.1 + (1 : Int)), (y7.2.1, (x.2.2.2.1, y7.2.2.2))))
                        else
                          (bif y7.1 == (2 : Int) then
                            (S7 (IntKind.wrap .i64 (y7.1 + (1 : Int)), (y7.2.1, (y7.2.2.1, x.2.2.2.1))))
                          else
                            (none))))
                    else
                      (bif y7.1 == (2 : Int) then
                        (bif y7.1 == (0 : Int) then
                          (S7 (IntKind.wrap .i64 (y7.1 + (1 : Int)), (x.2.2.2.2, y7.2.2)))
                        else
                          (bif y7.1 == (1 : Int) then
                            (S7 (IntKind.wrap .i64 (y7.1 + (1 : Int)), (y7.2.1, (x.2.2.2.2, y7.2.2.2))))
                          else
                            (bif y7.1 == (2 : Int) then
                              (S7 (IntKind.wrap .i64 (y7.1 + (1 : Int)), (y7.2.1, (y7.2.2.1, x.2.2.2.2))))
                            else
                              (none))))
                      else
                        (none))))
                else
                  (S7 (IntKind.wrap .i64 (y7.1 + (1 : Int)), y7.2)))
              else
                (bif y7.1 == (2 : Int) then
                  (bif decide (x.2.2.1 < y7.2.2.2) then
                    (bif y7.1 == (0 : Int) then
                      (bif y7.1 == (0 : Int) then
                        (S7 (IntKind.wrap .i64 (y7.1 + (1 : Int)), (x.2.2.1, y7.2.2)))
                      else
                        (bif y7.1 == (1 : Int) then
                          (S7 (IntKind.wrap .i64 (y7.1 + (1 : Int)), (y7.2.1, (x.2.2.1, y7.2.2.2))))
                        else
                          (bif y7.1 == (2 : Int) then
                            (S7 (IntKind.wrap .i64 (y7.1 + (1 : Int)), (y7.2.1, (y7.2.2.1, x.2.2.1))))
                          else
                            (none))))
                    else
                      (bif y7.1 == (1 : Int) then
                        (bif y7.1 == (0 : Int) then
                          (S7 (IntKind.wrap .i64 (y7.1 + (1 : Int)), (x.2.2.2.1, y7.2.2)))
                        else
                          (bif y7.1 == (1 : Int) then
                            (S7 (IntKind.wrap .i64 (y7.1 + (1 : Int)), (y7.2.1, (x.2.2.2.1, y7.2.2.2))))
                          else
                            (bif y7.1 == (2 : Int) then
                              (S7 (IntKind.wrap .i64 (y7.1 + (1 : Int)), (y7.2.1, (y7.2.2.1, x.2.2.2.1))))
                            else
                              (none))))
                      else
                        (bif y7.1 == (2 : Int) then
                          (bif y7.1 == (0 : Int) then
                            (S7 (IntKind.wrap .i64 (y7.1 + (1 : Int)), (x.2.2.2.2, y7.2.2)))
                          else
                            (bif y7.1 == (1 : Int) then
                              (S7 (IntKind.wrap .i64 (y7.1 + (1 : Int)), (y7.2.1, (x.2.2.2.2, y7.2.2.2))))
                            else
                              (bif y7.1 == (2 : Int) then
                                (S7 (IntKind.wrap .i64 (y7.1 + (1 : Int)), (y7.2.1, (y7.2.2.1, x.2.2.2.2))))
                              else
                                (none))))
                        else
                          (none))))
                  else
                    (S7 (IntKind.wrap .i64 (y7.1 + (1 : Int)), y7.2)))
                else
                  (none))))
          else
            (bif y7.1 == (1 : Int) then
              (bif y7.1 == (0 : Int) then
                (bif decide (x.2.2.2.1 < y7.2.1) then
                  (bif y7.1 == (0 : Int) then
                    (bif y7.1 == (0 : Int) then
                      (S7 (IntKind.wrap .i64 (y7.1 + (1 : Int)), (x.2.2.1, y7.2.2)))
                    else
                      (bif y7.1 == (1 : Int) then
                        (S7 (IntKind.wrap .i64 (y7.1 + (1 : Int)), (y7.2.1, (x.2.2.1, y7.2.2.2))))
                      else
                        (bif y7.1 == (2 : Int) then
                          (S7 (IntKind.wrap .i64 (y7.1 + (1 : Int)), (y7.2.1, (y7.2.2.1, x.2.2.1))))
                        else
                          (none))))
                  else
                    (bif y7.1 == (1 : Int) then
                      (bif y7.1 == (0 : Int) then
                        (S7 (IntKind.wrap .i64 (y7.1 + (1 : Int)), (x.2.2.2.1, y7.2.2)))
                      else
                        (bif y7.1 == (1 : Int) then
                          (S7 (IntKind.wrap .i64 (y7.1 + (1 : Int)), (y7.2.1, (x.2.2.2.1, y7.2.2.2))))
                        else
                          (bif y7.1 == (2 : Int) then
                            (S7 (IntKind.wrap .i64 (y7.1 + (1 : Int)), (y7.2.1, (y7.2.2.1, x.2.2.2.1))))
                          else
                            (none))))
                    else
                      (bif y7.1 == (2 : Int) then
                        (bif y7.1 == (0 : Int) then
                          (S7 (IntKind.wrap .i64 (y7.1 + (1 : Int)), (x.2.2.2.2, y7.2.2)))
                        else
                          (bif y7.1 == (1 : Int) then
                            (S7 (IntKind.wrap .i64 (y7.1 + (1 : Int)), (y7.2.1, (x.2.2.2.2, y7.2.2.2))))
                          else
                            (bif y7.1 == (2 : Int) then
                              (S7 (IntKind.wrap .i64 (y7.1 + (1 : Int)), (y7.2.1, (y7.2.2.1, x.2.2.2.2))))
                            else
                              (none))))
                      else
                        (none))))
                else
                  (S7 (IntKind.wrap .i64 (y7.1 + (1 : Int)), y7.2)))
              else
                (bif y7.1 == (1 : Int) then
                  (bif decide (x.2.2.2.1 < y7.2.2.1) then
                    (bif y7.1 == (0 : Int) then
                      (bif y7.1 == (0 : Int) then
                        (S7 (IntKind.wrap .i64 (y7.1 + (1 : Int)), (x.2.2.1, y7.2.2)))
                      else
                        (bif y7.1 == (1 : Int) then
                          (S7 (IntKind.wrap .i64 (y7.1 + (1 : Int)), (y7.2.1, (x.2.2.1, y7.2.2.2))))
                        else
                          (bif y7.1 == (2 : Int) then
                            (S7 (IntKind.wrap .i64 (y7.1 + (1 : Int)), (y7.2.1, (y7.2.2.1, x.2.2.1))))
                          else
                            (none))))
                    else
                      (bif y7.1 == (1 : Int) then
                        (bif y7.1 == (0 : Int) then
                          (S7 (IntKind.wrap .i64 (y7.1 + (1 : Int)), (x.2.2.2.1, y7.2.2)))
                        else
                          (bif y7.1 == (1 : Int) then
                            (S7 (IntKind.wrap .i64 (y7.1 + (1 : Int)), (y7.2.1, (x.2.2.2.1, y7.2.2.2))))
                          else
                            (bif y7.1 == (2 : Int) then
                              (S7 (IntKind.wrap .i64 (y7.1 + (1 : Int)), (y7.2.1, (y7.2.2.1, x.2.2.2.1))))
                            else
                              (none))))
                      else
                        (bif y7.1 == (2 : Int) then
                          (bif y7.1 == (0 : Int) then
                            (S7 (IntKind.wrap .i64 (y7.1 + (1 : Int)), (x.2.2.2.2, y7.2.2)))
                          else
                            (bif y7.1 == (1 : Int) then
                              (S7 (IntKind.wrap .i64 (y7.1 + (1 : Int)), (y7.2.1, (x.2.2.2.2, y7.2.2.2))))
                            else
                              (bif y7.1 == (2 : Int) then
                                (S7 (IntKind.wrap .i64 (y7.1 + (1 : Int)), (y7.2.1, (y7.2.2.1, x.2.2.2.2))))
                              else
                                (none))))
                        else
                          (none))))
                  else
                    (S7 (IntKind.wrap .i64 (y7.1 + (1 : Int)), y7.2)))
                else
                  (bif y7.1 == (2 : Int) then
                    (bif decide (x.2.2.2.1 < y7.2.2.2) then
                      (bif y7.1 == (0 : Int) then
                        (bif y7.1 == (0 : Int) then
                          (S7 (IntKind.wrap .i64 (y7.1 + (1 : Int)), (x.2.2.1, y7.2.2)))
                        else
                          (bif y7.1 == (1 : Int) then
                            (S7 (IntKind.wrap .i64 (y7.1 + (1 : Int)), (y7.2.1, (x.2.2.1, y7.2.2.2))))
                          else
                            (bif y7.1 == (2 : Int) then
                              (S7 (IntKind.wrap .i64 (y7.1 + (1 : Int)), (y7.2.1, (y7.2.2.1, x.2.2.1))))
                            else
                              (none))))
                      else
                        (bif y7.1 == (1 : Int) then
                          (bif y7.1 == (0 : Int) then
                            (S7 (IntKind.wrap .i64 (y7.1 + (1 : Int)), (x.2.2.2.1, y7.2.2)))
                          else
                            (bif y7.1 == (1 : Int) then
                              (S7 (IntKind.wrap .i64 (y7.1 + (1 : Int)), (y7.2.1, (x.2.2.2.1, y7.2.2.2))))
                            else
                              (bif y7.1 == (2 : Int) then
                                (S7 (IntKind.wrap .i64 (y7.1 + (1 : Int)), (y7.2.1, (y7.2.2.1, x.2.2.2.1))))
                              else
                                (none))))
                        else
                          (bif y7.1 == (2 : Int) then
                            (bif y7.1 == (0 : Int) then
                              (S7 (IntKind.wrap .i64 (y7.1 + (1 : Int)), (x.2.2.2.2, y7.2.2)))
                            else
                              (bif y7.1 == (1 : Int) then
                                (S7 (IntKind.wrap .i64 (y7.1 + (1 : Int)), (y7.2.1, (x.2.2.2.2, y7.2.2.2))))
                              else
                                (bif y7.1 == (2 : Int) then
                                  (S7 (IntKind.wrap .i64 (y7.1 + (1 : Int)), (y7.2.1, (y7.2.2.1, x.2.2.2.2))))
                                else
                                  (none))))
                          else
                            (none))))
                    else
                      (S7 (IntKind.wrap .i64 (y7.1 + (1 : Int)), y7.2)))
                  else
                    (none))))
            else
              (bif y7.1 == (2 : Int) then
                (bif y7.1 == (0 : Int) then
                  (bif decide (x.2.2.2.2 < y7.2.1) then
                    (bif y7.1 == (0 : Int) then
                      (bif y7.1 == (0 : Int) then
                        (S7 (IntKind.wrap .i64 (y7.1 + (1 : Int)), (x.2.2.1, y7.2.2)))
                      else
                        (bif y7.1 == (1 : Int) then
                          (S7 (IntKind.wrap .i64 (y7.1 + (1 : Int)), (y7.2.1, (x.2.2.1, y7.2.2.2))))
                        else
                          (bif y7.1 == (2 : Int) then
                            (S7 (IntKind.wrap .i64 (y7.1 + (1 : Int)), (y7.2.1, (y7.2.2.1, x.2.2.1))))
                          else
                            (none))))
                    else
                      (bif y7.1 == (1 : Int) then
                        (bif y7.1 == (0 : Int) then
                          (S7 (IntKind.wrap .i64 (y7.1 + (1 : Int)), (x.2.2.2.1, y7.2.2)))
                        else
                          (bif y7.1 == (1 : Int) then
                            (S7 (IntKind.wrap .i64 (y7.1 + (1 : Int)), (y7.2.1, (x.2.2.2.1, y7.2.2.2))))
                          else
                            (bif y7.1 == (2 : Int) then
                              (S7 (IntKind.wrap .i64 (y7.1 + (1 : Int)), (y7.2.1, (y7.2.2.1, x.2.2.2.1))))
                            else
                              (none))))
                      else
                        (bif y7.1 == (2 : Int) then
                          (bif y7.1 == (0 : Int) then
                            (S7 (IntKind.wrap .i64 (y7.1 + (1 : Int)), (x.2.2.2.2, y7.2.2)))
                          else
                            (bif y7.1 == (1 : Int) then
                              (S7 (IntKind.wrap .i64 (y7.1 + (1 : Int)), (y7.2.1, (x.2.2.2.2, y7.2.2.2))))
                            else
                              (bif y7.1 == (2 : Int) then
                                (S7 (IntKind.wrap .i64 (y7.1 + (1 : Int)), (y7.2.1, (y7.2.2.1, x.2.2.2.2))))
                              else
                                (none))))
                        else
                          (none))))
                  else
                    (S7 (IntKind.wrap .i64 (y7.1 + (1 : Int)), y7.2)))
                else
                  (bif y7.1 == (1 : Int) then
                    (bif decide (x.2.2.2.2 < y7.2.2.1) then
                      (bif y7.1 == (0 : Int) then
                        (bif y7.1 == (0 : Int) then
                          (S7 (IntKind.wrap .i64 (y7.1 + (1 : Int)), (x.2.2.1, y7.2.2)))
                        else
                          (bif y7.1 == (1 : Int) then
                            (S7 (IntKind.wrap .i64 (y7.1 + (1 : Int)), (y7.2.1, (x.2.2.1, y7.2.2.2))))
                          else
                            (bif y7.1 == (2 : Int) then
                              (S7 (IntKind.wrap .i64 (y7.1 + (1 : Int)), (y7.2.1, (y7.2.2.1, x.2.2.1))))
                            else
                              (none))))
                      else
                        (bif y7.1 == (1 : Int) then
                          (bif y7.1 == (0 : Int) then
                            (S7 (IntKind.wrap .i64 (y7.1 + (1 : Int)), (x.2.2.2.1, y7.2.2)))
                          else
                            (bif y7.1 == (1 : Int) then
                              (S7 (IntKind.wrap .i64 (y7.1 + (1 : Int)), (y7.2.1, (x.2.2.2.1, y7.2.2.2))))
                            else
                              (bif y7.1 == (2 : Int) then
                                (S7 (IntKind.wrap .i64 (y7.1 + (1 : Int)), (y7.2.1, (y7.2.2.1, x.2.2.2.1))))
                              else
                                (none))))
                        else
                          (bif y7.1 == (2 : Int) then
                            (bif y7.1 == (0 : Int) then
                              (S7 (IntKind.wrap .i64 (y7.1 + (1 : Int)), (x.2.2.2.2, y7.2.2)))
                            else
                              (bif y7.1 == (1 : Int) then
                                (S7 (IntKind.wrap .i64 (y7.1 + (1 : Int)), (y7.2.1, (x.2.2.2.2, y7.2.2.2))))
                              else
                                (bif y7.1 == (2 : Int) then
                                  (S7 (IntKind.wrap .i64 (y7.1 + (1 : Int)), (y7.2.1, (y7.2.2.1, x.2.2.2.2))))
                                else
                                  (none))))
                          else
                            (none))))
                    else
                      (S7 (IntKind.wrap .i64 (y7.1 + (1 : Int)), y7.2)))
                  else
                    (bif y7.1 == (2 : Int) then
                      (bif decide (x.2.2.2.2 < y7.2.2.2) then
                        (bif y7.1 == (0 : Int) then
                          (bif y7.1 == (0 : Int) then
                            (S7 (IntKind.wrap .i64 (y7.1 + (1 : Int)), (x.2.2.1, y7.2.2)))
                          else
                            (bif y7.1 == (1 : Int) then
                              (S7 (IntKind.wrap .i64 (y7.1 + (1 : Int)), (y7.2.1, (x.2.2.1, y7.2.2.2))))
                            else
                              (bif y7.1 == (2 : Int) then
                                (S7 (IntKind.wrap .i64 (y7.1 + (1 : Int)), (y7.2.1, (y7.2.2.1, x.2.2.1))))
                              else
                                (none))))
                        else
                          (bif y7.1 == (1 : Int) then
                            (bif y7.1 == (0 : Int) then
                              (S7 (IntKind.wrap .i64 (y7.1 + (1 : Int)), (x.2.2.2.1, y7.2.2)))
                            else
                              (bif y7.1 == (1 : Int) then
                                (S7 (IntKind.wrap .i64 (y7.1 + (1 : Int)), (y7.2.1, (x.2.2.2.1, y7.2.2.2))))
                              else
                                (bif y7.1 == (2 : Int) then
                                  (S7 (IntKind.wrap .i64 (y7.1 + (1 : Int)), (y7.2.1, (y7.2.2.1, x.2.2.2.1))))
                                else
                                  (none))))
                          else
                            (bif y7.1 == (2 : Int) then
                              (bif y7.1 == (0 : Int) then
                                (S7 (IntKind.wrap .i64 (y7.1 + (1 : Int)), (x.2.2.2.2, y7.2.2)))
                              else
                                (bif y7.1 == (1 : Int) then
                                  (S7 (IntKind.wrap .i64 (y7.1 + (1 : Int)), (y7.2.1, (x.2.2.2.2, y7.2.2.2))))
                                else
                                  (bif y7.1 == (2 : Int) then
                                    (S7 (IntKind.wrap .i64 (y7.1 + (1 : Int)), (y7.2.1, (y7.2.2.1, x.2.2.2.2))))
                                  else
                                    (none))))
                            else
                              (none))))
                      else
                        (S7 (IntKind.wrap .i64 (y7.1 + (1 : Int)), y7.2)))
                    else
                      (none))))
              else
                (none))))
        else
          (S7 (IntKind.wrap .i64 (y7.1 + (1 : Int)), y7.2)))
      else
        (bif y7.1 == (2 : Int) then
          (bif decide (x.2.2.2.2 ≥ (0 : Int)) then
            (bif y7.1 == (0 : Int) then
              (bif y7.1 == (0 : Int) then
                (bif decide (x.2.2.1 < y7.2.1) then
                  (bif y7.1 == (0 : Int) then
                    (bif y7.1 == (0 : Int) then
                      (S7 (IntKind.wrap .i64 (y7.1 + (1 : Int)), (x.2.2.1, y7.2.2)))
                    else
                      (bif y7.1 == (1 : Int) then
                        (S7 (IntKind.wrap .i64 (y7.1 + (1 : Int)), (y7.2.1, (x.2.2.1, y7.2.2.2))))
                      else
                        (bif y7.1 == (2 : Int) then
                          (S7 (IntKind.wrap .i64 (y7.1 + (1 : Int)), (y7.2.1, (y7.2.2.1, x.2.2.1))))
                        else
                          (none))))
                  else
                    (bif y7.1 == (1 : Int) then
                      (bif y7.1 == (0 : Int) then
                        (S7 (IntKind.wrap .i64 (y7.1 + (1 : Int)), (x.2.2.2.1, y7.2.2)))
                      else
                        (bif y7.1 == (1 : Int) then
                          (S7 (IntKind.wrap .i64 (y7.1 + (1 : Int)), (y7.2.1, (x.2.2.2.1, y7.2.2.2))))
                        else
                          (bif y7.1 == (2 : Int) then
                            (S7 (IntKind.wrap .i64 (y7.1 + (1 : Int)), (y7.2.1, (y7.2.2.1, x.2.2.2.1))))
                          else
                            (none))))
                    else
                      (bif y7.1 == (2 : Int) then
                        (bif y7.1 == (0 : Int) then
                          (S7 (IntKind.wrap .i64 (y7.1 + (1 : Int)), (x.2.2.2.2, y7.2.2)))
                        else
                          (bif y7.1 == (1 : Int) then
                            (S7 (IntKind.wrap .i64 (y7.1 + (1 : Int)), (y7.2.1, (x.2.2.2.2, y7.2.2.2))))
                          else
                            (bif y7.1 == (2 : Int) then
                              (S7 (IntKind.wrap .i64 (y7.1 + (1 : Int)), (y7.2.1, (y7.2.2.1, x.2.2.2.2))))
                            else
                              (none))))
                      else
                        (none))))
                else
                  (S7 (IntKind.wrap .i64 (y7.1 + (1 : Int)), y7.2)))
              else
                (bif y7.1 == (1 : Int) then
                  (bif decide (x.2.2.1 < y7.2.2.1) then
                    (bif y7.1 == (0 : Int) then
                      (bif y7.1 == (0 : Int) then
                        (S7 (IntKind.wrap .i64 (y7.1 + (1 : Int)), (x.2.2.1, y7.2.2)))
                      else
                        (bif y7.1 == (1 : Int) then
                          (S7 (IntKind.wrap .i64 (y7.1 + (1 : Int)), (y7.2.1, (x.2.2.1, y7.2.2.2))))
                        else
                          (bif y7.1 == (2 : Int) then
                            (S7 (IntKind.wrap .i64 (y7.1 + (1 : Int)), (y7.2.1, (y7.2.2.1, x.2.2.1))))
                          else
                            (none))))
                    else
                      (bif y7.1 == (1 : Int) then
                        (bif y7.1 == (0 : Int) then
                          (S7 (IntKind.wrap .i64 (y7.1 + (1 : Int)), (x.2.2.2.1, y7.2.2)))
                        else
                          (bif y7.1 == (1 : Int) then
                            (S7 (IntKind.wrap .i64 (y7.1 + (1 : Int)), (y7.2.1, (x.2.2.2.1, y7.2.2.2))))
                          else
                            (bif y7.1 == (2 : Int) then
                              (S7 (IntKind.wrap .i64 (y7.1 + (1 : Int)), (y7.2.1, (y7.2.2.1, x.2.2.2.1))))
                            else
                              (none))))
                      else
                        (bif y7.1 == (2 : Int) then
                          (bif y7.1 == (0 : Int) then
                            (S7 (IntKind.wrap .i64 (y7.1 + (1 : Int)), (x.2.2.2.2, y7.2.2)))
                          else
                            (bif y7.1 == (1 : Int) then
                              (S7 (IntKind.wrap .i64 (y7.1 + (1 : Int)), (y7.2.1, (x.2.2.2.2, y7.2.2.2))))
                            else
                              (bif y7.1 == (2 : Int) then
                                (S7 (IntKind.wrap .i64 (y7.1 + (1 : Int)), (y7.2.1, (y7.2.2.1, x.2.2.2.2))))
                              else
                                (none))))
                        else
                          (none))))
                  else
                    (S7 (IntKind.wrap .i64 (y7.1 + (1 : Int)), y7.2)))
                else
                  (bif y7.1 == (2 : Int) then
                    (bif decide (x.2.2.1 < y7.2.2.2) then
                      (bif y7.1 == (0 : Int) then
                        (bif y7.1 == (0 : Int) then
                          (S7 (IntKind.wrap .i64 (y7.1 + (1 : Int)), (x.2.2.1, y7.2.2)))
                        else
                          (bif y7.1 == (1 : Int) then
                            (S7 (IntKind.wrap .i64 (y7.1 + (1 : Int)), (y7.2.1, (x.2.2.1, y7.2.2.2))))
                          else
                            (bif y7.1 == (2 : Int) then
                              (S7 (IntKind.wrap .i64 (y7.1 + (1 : Int)), (y7.2.1, (y7.2.2.1, x.2.2.1))))
                            else
                              (none))))
                      else
                        (bif y7.1 == (1 : Int) then
                          (bif y7.1 == (0 : Int) then
                            (S7 (IntKind.wrap .i64 (y7.1 + (1 : Int)), (x.2.2.2.1, y7.2.2)))
                          else
                            (bif y7.1 == (1 : Int) then
                              (S7 (IntKind.wrap .i64 (y7.1 + (1 : Int)), (y7.2.1, (x.2.2.2.1, y7.2.2.2))))
                            else
                              (bif y7.1 == (2 : Int) then
                                (S7 (IntKind.wrap .i64 (y7.1 + (1 : Int)), (y7.2.1, (y7.2.2.1, x.2.2.2.1))))
                              else
                                (none))))
                        else
                          (bif y7.1 == (2 : Int) then
                            (bif y7.1 == (0 : Int) then
                              (S7 (IntKind.wrap .i64 (y7.1 + (1 : Int)), (x.2.2.2.2, y7.2.2)))
                            else
                              (bif y7.1 == (1 : Int) then
                                (S7 (IntKind.wrap .i64 (y7.1 + (1 : Int)), (y7.2.1, (x.2.2.2.2, y7.2.2.2))))
                              else
                                (bif y7.1 == (2 : Int) then
                                  (S7 (IntKind.wrap .i64 (y7.1 + (1 : Int)), (y7.2.1, (y7.2.2.1, x.2.2.2.2))))
                                else
                                  (none))))
                          else
                            (none))))
                    else
                      (S7 (IntKind.wrap .i64 (y7.1 + (1 : Int)), y7.2)))
                  else
                    (none))))
            else
              (bif y7.1 == (1 : Int) then
                (bif y7.1 == (0 : Int) then
                  (bif decide (x.2.2.2.1 < y7.2.1) then
                    (bif y7.1 == (0 : Int) then
                      (bif y7.1 == (0 : Int) then
                        (S7 (IntKind.wrap .i64 (y7.1 + (1 : Int)), (x.2.2.1, y7.2.2)))
                      else
                        (bif y7.1 == (1 : Int) then
                          (S7 (IntKind.wrap .i64 (y7.1 + (1 : Int)), (y7.2.1, (x.2.2.1, y7.2.2.2))))
                        else
                          (bif y7.1 == (2 : Int) then
                            (S7 (IntKind.wrap .i64 (y7.1 + (1 : Int)), (y7.2.1, (y7.2.2.1, x.2.2.1))))
                          else
                            (none))))
                    else
                      (bif y7.1 == (1 : Int) then
                        (bif y7.1 == (0 : Int) then
                          (S7 (IntKind.wrap .i64 (y7.1 + (1 : Int)), (x.2.2.2.1, y7.2.2)))
                        else
                          (bif y7.1 == (1 : Int) then
                            (S7 (IntKind.wrap .i64 (y7.1 + (1 : Int)), (y7.2.1, (x.2.2.2.1, y7.2.2.2))))
                          else
                            (bif y7.1 == (2 : Int) then
                              (S7 (IntKind.wrap .i64 (y7.1 + (1 : Int)), (y7.2.1, (y7.2.2.1, x.2.2.2.1))))
                            else
                              (none))))
                      else
                        (bif y7.1 == (2 : Int) then
                          (bif y7.1 == (0 : Int) then
                            (S7 (IntKind.wrap .i64 (y7.1 + (1 : Int)), (x.2.2.2.2, y7.2.2)))
                          else
                            (bif y7.1 == (1 : Int) then
                              (S7 (IntKind.wrap .i64 (y7.1 + (1 : Int)), (y7.2.1, (x.2.2.2.2, y7.2.2.2))))
                            else
                              (bif y7.1 == (2 : Int) then
                                (S7 (IntKind.wrap .i64 (y7.1 + (1 : Int)), (y7.2.1, (y7.2.2.1, x.2.2.2.2))))
                              else
                                (none))))
                        else
                          (none))))
                  else
                    (S7 (IntKind.wrap .i64 (y7.1 + (1 : Int)), y7.2)))
                else
                  (bif y7.1 == (1 : Int) then
                    (bif decide (x.2.2.2.1 < y7.2.2.1) then
                      (bif y7.1 == (0 : Int) then
                        (bif y7.1 == (0 : Int) then
                          (S7 (IntKind.wrap .i64 (y7.1 + (1 : Int)), (x.2.2.1, y7.2.2)))
                        else
                          (bif y7.1 == (1 : Int) then
                            (S7 (IntKind.wrap .i64 (y7.1 + (1 : Int)), (y7.2.1, (x.2.2.1, y7.2.2.2))))
                          else
                            (bif y7.1 == (2 : Int) then
                              (S7 (IntKind.wrap .i64 (y7.1 + (1 : Int)), (y7.2.1, (y7.2.2.1, x.2.2.1))))
                            else
                              (none))))
                      else
                        (bif y7.1 == (1 : Int) then
                          (bif y7.1 == (0 : Int) then
                            (S7 (IntKind.wrap .i64 (y7.1 + (1 : Int)), (x.2.2.2.1, y7.2.2)))
                          else
                            (bif y7.1 == (1 : Int) then
                              (S7 (IntKind.wrap .i64 (y7.1 + (1 : Int)), (y7.2.1, (x.2.2.2.1, y7.2.2.2))))
                            else
                              (bif y7.1 == (2 : Int) then
                                (S7 (IntKind.wrap .i64 (y7.1 + (1 : Int)), (y7.2.1, (y7.2.2.1, x.2.2.2.1))))
                              else
                                (none))))
                        else
                          (bif y7.1 == (2 : Int) then
                            (bif y7.1 == (0 : Int) then
                              (S7 (IntKind.wrap .i64 (y7.1 + (1 : Int)), (x.2.2.2.2, y7.2.2)))
                            else
                              (bif y7.1 == (1 : Int) then
                                (S7 (IntKind.wrap .i64 (y7.1 + (1 : Int)), (y7.2.1, (x.2.2.2.2, y7.2.2.2))))
                              else
                                (bif y7.1 == (2 : Int) then
                                  (S7 (IntKind.wrap .i64 (y7.1 + (1 : Int)), (y7.2.1, (y7.2.2.1, x.2.2.2.2))))
                                else
                                  (none))))
                          else
                            (none))))
                    else
                      (S7 (IntKind.wrap .i64 (y7.1 + (1 : Int)), y7.2)))
                  else
                    (bif y7.1 == (2 : Int) then
                      (bif decide (x.2.2.2.1 < y7.2.2.2) then
                        (bif y7.1 == (0 : Int) then
                          (bif y7.1 == (0 : Int) then
                            (S7 (IntKind.wrap .i64 (y7.1 + (1 : Int)), (x.2.2.1, y7.2.2)))
                          else
                            (bif y7.1 == (1 : Int) then
                              (S7 (IntKind.wrap .i64 (y7.1 + (1 : Int)), (y7.2.1, (x.2.2.1, y7.2.2.2))))
                            else
                              (bif y7.1 == (2 : Int) then
                                (S7 (IntKind.wrap .i64 (y7.1 + (1 : Int)), (y7.2.1, (y7.2.2.1, x.2.2.1))))
                              else
                                (none))))
                        else
                          (bif y7.1 == (1 : Int) then
                            (bif y7.1 == (0 : Int) then
                              (S7 (IntKind.wrap .i64 (y7.1 + (1 : Int)), (x.2.2.2.1, y7.2.2)))
                            else
                              (bif y7.1 == (1 : Int) then
                                (S7 (IntKind.wrap .i64 (y7.1 + (1 : Int)), (y7.2.1, (x.2.2.2.1, y7.2.2.2))))
                              else
                                (bif y7.1 == (2 : Int) then
                                  (S7 (IntKind.wrap .i64 (y7.1 + (1 : Int)), (y7.2.1, (y7.2.2.1, x.2.2.2.1))))
                                else
                                  (none))))
                          else
                            (bif y7.1 == (2 : Int) then
                              (bif y7.1 == (0 : Int) then
                                (S7 (IntKind.wrap .i64 (y7.1 + (1 : Int)), (x.2.2.2.2, y7.2.2)))
                              else
                                (bif y7.1 == (1 : Int) then
                                  (S7 (IntKind.wrap .i64 (y7.1 + (1 : Int)), (y7.2.1, (x.2.2.2.2, y7.2.2.2))))
                                else
                                  (bif y7.1 == (2 : Int) then
                                    (S7 (IntKind.wrap .i64 (y7.1 + (1 : Int)), (y7.2.1, (y7.2.2.1, x.2.2.2.2))))
                                  else
                                    (none))))
                            else
                              (none))))
                      else
                        (S7 (IntKind.wrap .i64 (y7.1 + (1 : Int)), y7.2)))
                    else
                      (none))))
              else
                (bif y7.1 == (2 : Int) then
                  (bif y7.1 == (0 : Int) then
                    (bif decide (x.2.2.2.2 < y7.2.1) then
                      (bif y7.1 == (0 : Int) then
                        (bif y7.1 == (0 : Int) then
                          (S7 (IntKind.wrap .i64 (y7.1 + (1 : Int)), (x.2.2.1, y7.2.2)))
                        else
                          (bif y7.1 == (1 : Int) then
                            (S7 (IntKind.wrap .i64 (y7.1 + (1 : Int)), (y7.2.1, (x.2.2.1, y7.2.2.2))))
                          else
                            (bif y7.1 == (2 : Int) then
                              (S7 (IntKind.wrap .i64 (y7.1 + (1 : Int)), (y7.2.1, (y7.2.2.1, x.2.2.1))))
                            else
                              (none))))
                      else
                        (bif y7.1 == (1 : Int) then
                          (bif y7.1 == (0 : Int) then
                            (S7 (IntKind.wrap .i64 (y7.1 + (1 : Int)), (x.2.2.2.1, y7.2.2)))
                          else
                            (bif y7.1 == (1 : Int) then
                              (S7 (IntKind.wrap .i64 (y7.1 + (1 : Int)), (y7.2.1, (x.2.2.2.1, y7.2.2.2))))
                            else
                              (bif y7.1 == (2 : Int) then
                                (S7 (IntKind.wrap .i64 (y7.1 + (1 : Int)), (y7.2.1, (y7.2.2.1, x.2.2.2.1))))
                              else
                                (none))))
                        else
                          (bif y7.1 == (2 : Int) then
                            (bif y7.1 == (0 : Int) then
                              (S7 (IntKind.wrap .i64 (y7.1 + (1 : Int)), (x.2.2.2.2, y7.2.2)))
                            else
                              (bif y7.1 == (1 : Int) then
                                (S7 (IntKind.wrap .i64 (y7.1 + (1 : Int)), (y7.2.1, (x.2.2.2.2, y7.2.2.2))))
                              else
                                (bif y7.1 == (2 : Int) then
                                  (S7 (IntKind.wrap .i64 (y7.1 + (1 : Int)), (y7.2.1, (y7.2.2.1, x.2.2.2.2))))
                                else
                                  (none))))
                          else
                            (none))))
                    else
                      (S7 (IntKind.wrap .i64 (y7.1 + (1 : Int)), y7.2)))
                  else
                    (bif y7.1 == (1 : Int) then
                      (bif decide (x.2.2.2.2 < y7.2.2.1) then
                        (bif y7.1 == (0 : Int) then
                          (bif y7.1 == (0 : Int) then
                            (S7 (IntKind.wrap .i64 (y7.1 + (1 : Int)), (x.2.2.1, y7.2.2)))
                          else
                            (bif y7.1 == (1 : Int) then
                              (S7 (IntKind.wrap .i64 (y7.1 + (1 : Int)), (y7.2.1, (x.2.2.1, y7.2.2.2))))
                            else
                              (bif y7.1 == (2 : Int) then
                                (S7 (IntKind.wrap .i64 (y7.1 + (1 : Int)), (y7.2.1, (y7.2.2.1, x.2.2.1))))
                              else
                                (none))))
                        else
                          (bif y7.1 == (1 : Int) then
                            (bif y7.1 == (0 : Int) then
                              (S7 (IntKind.wrap .i64 (y7.1 + (1 : Int)), (x.2.2.2.1, y7.2.2)))
                            else
                              (bif y7.1 == (1 : Int) then
                                (S7 (IntKind.wrap .i64 (y7.1 + (1 : Int)), (y7.2.1, (x.2.2.2.1, y7.2.2.2))))
                              else
                                (bif y7.1 == (2 : Int) then
                                  (S7 (IntKind.wrap .i64 (y7.1 + (1 : Int)), (y7.2.1, (y7.2.2.1, x.2.2.2.1))))
                                else
                                  (none))))
                          else
                            (bif y7.1 == (2 : Int) then
                              (bif y7.1 == (0 : Int) then
                                (S7 (IntKind.wrap .i64 (y7.1 + (1 : Int)), (x.2.2.2.2, y7.2.2)))
                              else
                                (bif y7.1 == (1 : Int) then
                                  (S7 (IntKind.wrap .i64 (y7.1 + (1 : Int)), (y7.2.1, (x.2.2.2.2, y7.2.2.2))))
                                else
                                  (bif y7.1 == (2 : Int) then
                                    (S7 (IntKind.wrap .i64 (y7.1 + (1 : Int)), (y7.2.1, (y7.2.2.1, x.2.2.2.2))))
                                  else
                                    (none))))
                            else
                              (none))))
                      else
                        (S7 (IntKind.wrap .i64 (y7.1 + (1 : Int)), y7.2)))
                    else
                      (bif y7.1 == (2 : Int) then
                        (bif decide (x.2.2.2.2 < y7.2.2.2) then
                          (bif y7.1 == (0 : Int) then
                            (bif y7.1 == (0 : Int) then
                              (S7 (IntKind.wrap .i64 (y7.1 + (1 : Int)), (x.2.2.1, y7.2.2)))
                            else
                              (bif y7.1 == (1 : Int) then
                                (S7 (IntKind.wrap .i64 (y7.1 + (1 : Int)), (y7.2.1, (x.2.2.1, y7.2.2.2))))
                              else
                                (bif y7.1 == (2 : Int) then
                                  (S7 (IntKind.wrap .i64 (y7.1 + (1 : Int)), (y7.2.1, (y7.2.2.1, x.2.2.1))))
                                else
                                  (none))))
                          else
                            (bif y7.1 == (1 : Int) then
                              (bif y7.1 == (0 : Int) then
                                (S7 (IntKind.wrap .i64 (y7.1 + (1 : Int)), (x.2.2.2.1, y7.2.2)))
                              else
                                (bif y7.1 == (1 : Int) then
                                  (S7 (IntKind.wrap .i64 (y7.1 + (1 : Int)), (y7.2.1, (x.2.2.2.1, y7.2.2.2))))
                                else
                                  (bif y7.1 == (2 : Int) then
                                    (S7 (IntKind.wrap .i64 (y7.1 + (1 : Int)), (y7.2.1, (y7.2.2.1, x.2.2.2.1))))
                                  else
                                    (none))))
                            else
                              (bif y7.1 == (2 : Int) then
                                (bif y7.1 == (0 : Int) then
                                  (S7 (IntKind.wrap .i64 (y7.1 + (1 : Int)), (x.2.2.2.2, y7.2.2)))
                                else
                                  (bif y7.1 == (1 : Int) then
                                    (S7 (IntKind.wrap .i64 (y7.1 + (1 : Int)), (y7.2.1, (x.2.2.2.2, y7.2.2.2))))
                                  else
                                    (bif y7.1 == (2 : Int) then
                                      (S7 (IntKind.wrap .i64 (y7.1 + (1 : Int)), (y7.2.1, (y7.2.2.1, x.2.2.2.2))))
                                    else
                                      (none))))
                              else
                                (none))))
                        else
                          (S7 (IntKind.wrap .i64 (y7.1 + (1 : Int)), y7.2)))
                      else
                        (none))))
                else
                  (none))))
          else
            (S7 (IntKind.wrap .i64 (y7.1 + (1 : Int)), y7.2)))
        else
          (none))))
  else
    (bif decide (0 ≤ y7.2.1) && decide (y7.2.1 ≤ (x.2.1.2.1.1.length : Int)) then
      (bif decide (0 ≤ y7.2.2.1) && decide (y7.2.2.1 ≤ (x.2.1.2.1.2.1.length : Int)) then
        (bif decide (0 ≤ y7.2.2.2) && decide (y7.2.2.2 ≤ (x.2.1.2.1.2.2.length : Int)) then
          (bif decide (x.2.1.1 < (1152921504606846976 : Int)) then
            ((F21 ((y1.2.2.1, List.take y1.2.2.2.1 y1.2.2.2.2), (IntKind.wrap .u64 (x.2.1.1 + (1 : Int)), ((List.take y7.2.1.toNat x.2.1.2.1.1, (List.take y7.2.2.1.toNat x.2.1.2.1.2.1, List.take y7.2.2.2.toNat x.2.1.2.1.2.2)), x.2.1.2.2)))).bind fun r8 =>
              bif r8.2 == (0 : Int) then
                ((F17 ()).bind fun r9 =>
                  some r9)
              else
                (some false))
          else
            ((F21 ((y1.2.2.1, List.take y1.2.2.2.1 y1.2.2.2.2), (x.2.1.1, ((List.take y7.2.1.toNat x.2.1.2.1.1, (List.take y7.2.2.1.toNat x.2.1.2.1.2.1, List.take y7.2.2.2.toNat x.2.1.2.1.2.2)), x.2.1.2.2)))).bind fun r10 =>
              bif r10.2 == (0 : Int) then
                ((F17 ()).bind fun r11 =>
                  some r11)
              else
                (some false)))
        else
          (none))
      else
        (none))
    else
      (none))
set_option maxRecDepth 100000 in
theorem f5.k1 (n : Nat) (x : (List dCommit) × dAttempt × (Int × (Int × Int))) (y1 : (List dRcommit) × Int × Bool × Nat × (List dCommit)) (r4 : dClash × Int) (r5 : dClash × Int) (m : Nat) (y : Int × Int × Int × Int) : f5.L1 n x y1 r4 r5 (m + 1) y = f5.s1 n x y1 r4 r5 (f5.L1 n x y1 r4 r5 m) y := by kernel_rfl
theorem f5.l1 (n : Nat) (x : (List dCommit) × dAttempt × (Int × (Int × Int))) (y1 : (List dRcommit) × Int × Bool × Nat × (List dCommit)) (r4 : dClash × Int) (r5 : dClash × Int) : ∀ (m : Nat) (y7 : Int × Int × Int × Int), f5.L1 n x y1 r4 r5 m y7 = iter (f5.s1 n x y1 r4 r5) m y7 :=
  loop_of (L := f5.L1 n x y1 r4 r5) (step := f5.s1 n x y1 r4 r5) (fun _ => rfl) (f5.k1 n x y1 r4 r5)
def f5.s2 (n : Nat) (x : (List dCommit) × dAttempt × (Int × (Int × Int))) (S1 : ((List dRcommit) × Int × Bool × Nat × (List dCommit)) → Option (Bool)) (y1 : (List dRcommit) × Int × Bool × Nat × (List dCommit)) : Option (Bool) :=
  bif decide (y1.2.1 < (x.1.length : Int)) then
    (bif decide (0 ≤ y1.2.1) && decide (y1.2.1 < (x.1.length : Int)) then
      (bif decide (0 ≤ y1.2.1) && decide (y1.2.1 < (x.1.length : Int)) then
        ((F23 ((y1.2.2.1, List.take y1.2.2.2.1 y1.2.2.2.2), x.1.getD y1.2.1.toNat tCommit.dflt)).bind fun r2 =>
          bif decide (0 ≤ y1.2.1) && decide (y1.2.1 < (x.1.length : Int)) then
            (bif decide (0 ≤ y1.2.1) && decide (y1.2.1 < (x.1.length : Int)) then
              ((F30 (y1.1, x.1.getD y1.2.1.toNat tCommit.dflt)).bind fun r3 =>
                bif r2.2 != r3.2 then
                  (some false)
                else
                  (S1 (r3.1, (IntKind.wrap .i64 (y1.2.1 + (1 : Int)), (r2.1.1, (r2.1.2.length, r2.1.2))))))
            else
              (none))
          else
            (none))
      else
        (none))
    else
      (none))
  else
    ((F21 ((y1.2.2.1, List.take y1.2.2.2.1 y1.2.2.2.2), x.2.1)).bind fun r4 =>
      (F21 ((y1.2.2.1, List.take y1.2.2.2.1 y1.2.2.2.2), ((0 : Int), (([], ([], [])), (3 : Int))))).bind fun r5 =>
        bif r5.2 != (0 : Int) then
          (some false)
        else
          (bif r4.2 != (0 : Int) then
            ((F17 ()).bind fun r6 =>
              some r6)
          else
            (iter (f5.s1 n x y1 r4 r5) n ((0 : Int), ((x.2.1.2.1.1.length : Int), ((x.2.1.2.1.2.1.length : Int), (x.2.1.2.1.2.2.length : Int)))))))
def f5.r2 (n : Nat) (x : (List dCommit) × dAttempt × (Int × (Int × Int))) (m1 : Nat) (S1 : ((List dRcommit) × Int × Bool × Nat × (List dCommit)) → Option (Bool)) (y1 : (List dRcommit) × Int × Bool × Nat × (List dCommit)) : Option (Bool) :=
  bif decide (y1.2.1 < (x.1.length : Int)) then
    (bif decide (0 ≤ y1.2.1) && decide (y1.2.1 < (x.1.length : Int)) then
      (bif decide (0 ≤ y1.2.1) && decide (y1.2.1 < (x.1.length : Int)) then
        ((F23 ((y1.2.2.1, List.take y1.2.2.2.1 y1.2.2.2.2), x.1.getD y1.2.1.toNat tCommit.dflt)).bind fun r2 =>
          bif decide (0 ≤ y1.2.1) && decide (y1.2.1 < (x.1.length : Int)) then
            (bif decide (0 ≤ y1.2.1) && decide (y1.2.1 < (x.1.length : Int)) then
              ((F30 (y1.1, x.1.getD y1.2.1.toNat tCommit.dflt)).bind fun r3 =>
                bif r2.2 != r3.2 then
                  (some false)
                else
                  (S1 (r3.1, (IntKind.wrap .i64 (y1.2.1 + (1 : Int)), (r2.1.1, (r2.1.2.length, r2.1.2))))))
            else
              (none))
          else
            (none))
      else
        (none))
    else
      (none))
  else
    ((F21 ((y1.2.2.1, List.take y1.2.2.2.1 y1.2.2.2.2), x.2.1)).bind fun r4 =>
      (F21 ((y1.2.2.1, List.take y1.2.2.2.1 y1.2.2.2.2), ((0 : Int), (([], ([], [])), (3 : Int))))).bind fun r5 =>
        bif r5.2 != (0 : Int) then
          (some false)
        else
          (bif r4.2 != (0 : Int) then
            ((F17 ()).bind fun r6 =>
              some r6)
          else
            (f5.L1 n x y1 r4 r5 n ((0 : Int), ((x.2.1.2.1.1.length : Int), ((x.2.1.2.1.2.1.length : Int), (x.2.1.2.1.2.2.length : Int)))))))
set_option maxRecDepth 100000 in
theorem f5.k2 (n : Nat) (x : (List dCommit) × dAttempt × (Int × (Int × Int))) (m : Nat) (y : (List dRcommit) × Int × Bool × Nat × (List dCommit)) : f5.L2 n x (m + 1) y = f5.s2 n x (f5.L2 n x m) y := by
  have h : f5.L2 n x (m + 1) y = f5.r2 n x m (f5.L2 n x m) y := by kernel_rfl
  rw [h]
  simp only [f5.r2, f5.s2, f5.l1]
theorem f5.l2 (n : Nat) (x : (List dCommit) × dAttempt × (Int × (Int × Int))) : ∀ (m : Nat) (y1 : (List dRcommit) × Int × Bool × Nat × (List dCommit)), f5.L2 n x m y1 = iter (f5.s2 n x) m y1 :=
  loop_of (L := f5.L2 n x) (step := f5.s2 n x) (fun _ => rfl) (f5.k2 n x)
def f5.g (n : Nat) (x : (List dCommit) × dAttempt × (Int × (Int × Int))) : Option (Bool) :=
  iter (f5.s2 n x) n ([], ((0 : Int), (true, (0, []))))
def f5.q (n : Nat) (x : (List dCommit) × dAttempt × (Int × (Int × Int))) : Option (Bool) :=
  f5.L2 n x n ([], ((0 : Int), (true, (0, []))))
set_option maxRecDepth 100000 in
theorem f5.eq (n : Nat) (x : (List dCommit) × dAttempt × (Int × (Int × Int))) : runK TT E5 n ann (tabC C5) 3 5 (argsL [(false, .sl tCommit), (true, tAttempt), (true, .pair (.int .i64) (.pair (.int .i64) (.int .i64)))] x) [] (readL [(false, .bool)]) = f5.g n x := by
  have h : runK TT E5 n ann (tabC C5) 3 5 (argsL [(false, .sl tCommit), (true, tAttempt), (true, .pair (.int .i64) (.pair (.int .i64) (.int .i64)))] x) [] (readL [(false, .bool)]) = f5.q n x := by kernel_rfl
  rw [h]
  simp only [f5.q, f5.g, f5.l1, f5.l2]
set_option maxRecDepth 100000 in
theorem f5.codes : CodesOk Try.prog E5 ann (tabC C5) := tabC_ok (by intro p hp; simp only [C5, List.mem_cons, List.not_mem_nil, or_false] at hp; rcases hp with rfl | rfl | rfl <;> first | exact Try.func5 | exact Try.func11 | exact Try.func29) (by kernel_rfl)
theorem f5.ok (h : ∀ X Y, (FL [(false, .sl tCommit), (true, tAttempt), (true, .pair (.int .i64) (.pair (.int .i64) (.int .i64)))]) X = some Y → ∃ n, f5.g n X = some Y) (e17 : ConOk Try.prog 17 con17) (e21 : ConOk Try.prog 21 con21) (e23 : ConOk Try.prog 23 con23) (e30 : ConOk Try.prog 30 con30) : ConOk Try.prog 5 (mkCon [(false, .sl tCommit), (true, tAttempt), (true, .pair (.int .i64) (.pair (.int .i64) (.int .i64)))] [(false, .bool)] true (FL [(false, .sl tCommit), (true, tAttempt), (true, .pair (.int .i64) (.pair (.int .i64) (.int .i64)))])) :=
  mkCon_ok mixed TT_ok (envC_ok e30 (envC_ok e23 (envC_ok e21 (envC_ok e17 env0_ok)))) f5.codes (fun _ => List.all_eq_true.1 rfl) fun X Y hF => (h X Y hF).imp fun n hn => (f5.eq n X).trans hn
def con5 : Con := mkCon [(false, .sl tCommit), (true, tAttempt), (true, .pair (.int .i64) (.pair (.int .i64) (.int .i64)))] [(false, .bool)] true (FL [(false, .sl tCommit), (true, tAttempt), (true, .pair (.int .i64) (.pair (.int .i64) (.int .i64)))])
end
end Go.Proofs.Ytjedleoebjmkgaa.AI
