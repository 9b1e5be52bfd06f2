/- Runs of the program's functions over plain data. Printed by aipr.py; Lean checks them. -/
import Derived.Test.YtfgfdpbeddnfhaaGreatDoorBc
set_option linter.unusedVariables false
set_option linter.unusedSimpArgs false
namespace Go.Proofs.YtfgfdpbeddnfhaaGreatDoor.AI
open Go
noncomputable section
/-! ### vellum/vellumref03.Copy -/
def E12 : FuncId → Option Con := (envC 38 con38 env0)
noncomputable def C12 : List (FuncId × Func) := [(12, Tryz.f12)]
def f12.h1 (x : dTable) (r1 : (List Int)) (y2 : Int × Nat × (List dColumn)) (y3 : Int × Nat × (List dIndex)) (y5 : Int × Nat × (List dRef)) : List AV × List Ob := ([.undef, .val false [.ptr 0 0], .val false [.ptr 1 0], .val false [.ptr 2 0], .undef, .undef, .val false [.sc (.int .i64) y5.1]] ++ List.replicate 82 .undef, [.box [.sc .str x.1, .sc (.sl tColumn) x.2.1, .sc (.sl (.int .i64)) x.2.2.1, .sc (.sl tIndex) x.2.2.2.1, .sc (.sl tRef) x.2.2.2.2], .box [.sc .str (⟨#[]⟩ : ByteArray), .nils, .nils, .nils, .nils], .box [.sc .str x.1, .own 3 y2.2.1, .sc (.sl (.int .i64)) r1, .own 4 y3.2.1, .own 5 y5.2.1], .arr 59 tColumn y2.2.2, .arr 62 tIndex y3.2.2, .arr 66 tRef y5.2.2])
def f12.h2 (x : dTable) (r1 : (List Int)) (y2 : Int × Nat × (List dColumn)) (y3 : Int × Nat × (List dIndex)) : List AV × List Ob := ([.undef, .val false [.ptr 0 0], .val false [.ptr 1 0], .val false [.ptr 2 0], .undef, .val false [.sc (.int .i64) y3.1]] ++ List.replicate 83 .undef, [.box [.sc .str x.1, .sc (.sl tColumn) x.2.1, .sc (.sl (.int .i64)) x.2.2.1, .sc (.sl tIndex) x.2.2.2.1, .sc (.sl tRef) x.2.2.2.2], .box [.sc .str (⟨#[]⟩ : ByteArray), .nils, .nils, .nils, .nils], .box [.sc .str x.1, .own 3 y2.2.1, .sc (.sl (.int .i64)) r1, .own 4 y3.2.1, .nils], .arr 59 tColumn y2.2.2, .arr 62 tIndex y3.2.2])
def f12.h3 (x : dTable) (r1 : (List Int)) (y2 : Int × Nat × (List dColumn)) : List AV × List Ob := ([.undef, .val false [.ptr 0 0], .val false [.ptr 1 0], .val false [.ptr 2 0], .val false [.sc (.int .i64) y2.1]] ++ List.replicate 84 .undef, [.box [.sc .str x.1, .sc (.sl tColumn) x.2.1, .sc (.sl (.int .i64)) x.2.2.1, .sc (.sl tIndex) x.2.2.2.1, .sc (.sl tRef) x.2.2.2.2], .box [.sc .str (⟨#[]⟩ : ByteArray), .nils, .nils, .nils, .nils], .box [.sc .str x.1, .own 3 y2.2.1, .sc (.sl (.int .i64)) r1, .nils, .nils], .arr 59 tColumn y2.2.2])
def f12.L1 (n : Nat) (x : dTable) (r1 : (List Int)) (y2 : Int × Nat × (List dColumn)) (y3 : Int × Nat × (List dIndex)) (m5 : Nat) (y5 : Int × Nat × (List dRef)) : Option (dTable) :=
  loopN (ann 12 11).keep 6 (fun fr H k => execK TT 0 E12 (inlD TT E12 n ann (tabC C12) 1) n (ann 12) (subC [1, 1, 1, 1, 0, 1, 0, 0] (bodyOf Tryz.f12)) fr H k) m5 (f12.h1 x r1 y2 y3 y5).1 (f12.h1 x r1 y2 y3 y5).2 (kont TT 0 E12 (inlD TT E12 n ann (tabC C12) 1) n (ann 12) [1, 1, 1, 1, 0, 1, 0] (bodyOf Tryz.f12) (endK TT Tryz.f12 (readL [(true, tTable)])))
def f12.L2 (n : Nat) (x : dTable) (r1 : (List Int)) (y2 : Int × Nat × (List dColumn)) (m3 : Nat) (y3 : Int × Nat × (List dIndex)) : Option (dTable) :=
  loopN (ann 12 7).keep 5 (fun fr H k => execK TT 0 E12 (inlD TT E12 n ann (tabC C12) 1) n (ann 12) (subC [1, 1, 1, 0, 1, 0, 0] (bodyOf Tryz.f12)) fr H k) m3 (f12.h2 x r1 y2 y3).1 (f12.h2 x r1 y2 y3).2 (kont TT 0 E12 (inlD TT E12 n ann (tabC C12) 1) n (ann 12) [1, 1, 1, 0, 1, 0] (bodyOf Tryz.f12) (endK TT Tryz.f12 (readL [(true, tTable)])))
def f12.L3 (n : Nat) (x : dTable) (r1 : (List Int)) (m2 : Nat) (y2 : Int × Nat × (List dColumn)) : Option (dTable) :=
  loopN (ann 12 3).keep 4 (fun fr H k => execK TT 0 E12 (inlD TT E12 n ann (tabC C12) 1) n (ann 12) (subC [1, 1, 0, 1, 0, 0] (bodyOf Tryz.f12)) fr H k) m2 (f12.h3 x r1 y2).1 (f12.h3 x r1 y2).2 (kont TT 0 E12 (inlD TT E12 n ann (tabC C12) 1) n (ann 12) [1, 1, 0, 1, 0] (bodyOf Tryz.f12) (endK TT Tryz.f12 (readL [(true, tTable)])))
def f12.s1 (n : Nat) (x : dTable) (r1 : (List Int)) (y2 : Int × Nat × (List dColumn)) (y3 : Int × Nat × (List dIndex)) (S5 : (Int × Nat × (List dRef)) → Option (dTable)) (y5 : Int × Nat × (List dRef)) : Option (dTable) :=
  bif decide (y5.1 < (x.2.2.2.2.length : Int)) then
    (bif decide (0 ≤ y5.1) && decide (y5.1 < (x.2.2.2.2.length : Int)) then
      ((F38 (x.2.2.2.2.getD y5.1.toNat tRef.dflt).1).bind fun r6 =>
        bif decide (0 ≤ y5.1) && decide (y5.1 < (x.2.2.2.2.length : Int)) then
          (bif decide ((y5.2.1 + 1) * 40 ≤ boundN) then
            (S5 (IntKind.wrap .i64 (y5.1 + (1 : Int)), (y5.2.1 + 1, List.take y5.2.1 y5.2.2 ++ ([(r6, (x.2.2.2.2.getD y5.1.toNat tRef.dflt).2)]))))
          else
            (none))
        else
          (none))
    else
      (none))
  else
    (some (x.1, (List.take y2.2.1 y2.2.2, (r1, (List.take y3.2.1 y3.2.2, List.take y5.2.1 y5.2.2)))))
set_option maxRecDepth 100000 in
theorem f12.k1 (n : Nat) (x : dTable) (r1 : (List Int)) (y2 : Int × Nat × (List dColumn)) (y3 : Int × Nat × (List dIndex)) (m : Nat) (y : Int × Nat × (List dRef)) : f12.L1 n x r1 y2 y3 (m + 1) y = f12.s1 n x r1 y2 y3 (f12.L1 n x r1 y2 y3 m) y := by kernel_rfl
theorem f12.l1 (n : Nat) (x : dTable) (r1 : (List Int)) (y2 : Int × Nat × (List dColumn)) (y3 : Int × Nat × (List dIndex)) : ∀ (m : Nat) (y5 : Int × Nat × (List dRef)), f12.L1 n x r1 y2 y3 m y5 = iter (f12.s1 n x r1 y2 y3) m y5 :=
  loop_of (L := f12.L1 n x r1 y2 y3) (step := f12.s1 n x r1 y2 y3) (fun _ => rfl) (f12.k1 n x r1 y2 y3)
def f12.s2 (n : Nat) (x : dTable) (r1 : (List Int)) (y2 : Int × Nat × (List dColumn)) (S3 : (Int × Nat × (List dIndex)) → Option (dTable)) (y3 : Int × Nat × (List dIndex)) : Option (dTable) :=
  bif decide (y3.1 < (x.2.2.2.1.length : Int)) then
    (bif decide (0 ≤ y3.1) && decide (y3.1 < (x.2.2.2.1.length : Int)) then
      (bif decide (0 ≤ y3.1) && decide (y3.1 < (x.2.2.2.1.length : Int)) then
        ((F38 (x.2.2.2.1.getD y3.1.toNat tIndex.dflt).2.1).bind fun r4 =>
          bif decide (0 ≤ y3.1) && decide (y3.1 < (x.2.2.2.1.length : Int)) then
            (bif decide ((y3.2.1 + 1) * 48 ≤ boundN) then
              (S3 (IntKind.wrap .i64 (y3.1 + (1 : Int)), (y3.2.1 + 1, List.take y3.2.1 y3.2.2 ++ ([((x.2.2.2.1.getD y3.1.toNat tIndex.dflt).1, (r4, (x.2.2.2.1.getD y3.1.toNat tIndex.dflt).2.2))]))))
            else
              (none))
          else
            (none))
      else
        (none))
    else
      (none))
  else
    (iter (f12.s1 n x r1 y2 y3) n ((0 : Int), (0, [])))
def f12.r2 (n : Nat) (x : dTable) (r1 : (List Int)) (y2 : Int × Nat × (List dColumn)) (m3 : Nat) (S3 : (Int × Nat × (List dIndex)) → Option (dTable)) (y3 : Int × Nat × (List dIndex)) : Option (dTable) :=
  bif decide (y3.1 < (x.2.2.2.1.length : Int)) then
    (bif decide (0 ≤ y3.1) && decide (y3.1 < (x.2.2.2.1.length : Int)) then
      (bif decide (0 ≤ y3.1) && decide (y3.1 < (x.2.2.2.1.length : Int)) then
        ((F38 (x.2.2.2.1.getD y3.1.toNat tIndex.dflt).2.1).bind fun r4 =>
          bif decide (0 ≤ y3.1) && decide (y3.1 < (x.2.2.2.1.length : Int)) then
            (bif decide ((y3.2.1 + 1) * 48 ≤ boundN) then
              (S3 (IntKind.wrap .i64 (y3.1 + (1 : Int)), (y3.2.1 + 1, List.take y3.2.1 y3.2.2 ++ ([((x.2.2.2.1.getD y3.1.toNat tIndex.dflt).1, (r4, (x.2.2.2.1.getD y3.1.toNat tIndex.dflt).2.2))]))))
            else
              (none))
          else
            (none))
      else
        (none))
    else
      (none))
  else
    (f12.L1 n x r1 y2 y3 n ((0 : Int), (0, [])))
set_option maxRecDepth 100000 in
theorem f12.k2 (n : Nat) (x : dTable) (r1 : (List Int)) (y2 : Int × Nat × (List dColumn)) (m : Nat) (y : Int × Nat × (List dIndex)) : f12.L2 n x r1 y2 (m + 1) y = f12.s2 n x r1 y2 (f12.L2 n x r1 y2 m) y := by
  have h : f12.L2 n x r1 y2 (m + 1) y = f12.r2 n x r1 y2 m (f12.L2 n x r1 y2 m) y := by kernel_rfl
  rw [h]
  simp only [f12.r2, f12.s2, f12.l1]
theorem f12.l2 (n : Nat) (x : dTable) (r1 : (List Int)) (y2 : Int × Nat × (List dColumn)) : ∀ (m : Nat) (y3 : Int × Nat × (List dIndex)), f12.L2 n x r1 y2 m y3 = iter (f12.s2 n x r1 y2) m y3 :=
  loop_of (L := f12.L2 n x r1 y2) (step := f12.s2 n x r1 y2) (fun _ => rfl) (f12.k2 n x r1 y2)
def f12.s3 (n : Nat) (x : dTable) (r1 : (List Int)) (S2 : (Int × Nat × (List dColumn)) → Option (dTable)) (y2 : Int × Nat × (List dColumn)) : Option (dTable) :=
  bif decide (y2.1 < (x.2.1.length : Int)) then
    (bif decide (0 ≤ y2.1) && decide (y2.1 < (x.2.1.length : Int)) then
      (bif decide ((y2.2.1 + 1) * 72 ≤ boundN) then
        (S2 (IntKind.wrap .i64 (y2.1 + (1 : Int)), (y2.2.1 + 1, List.take y2.2.1 y2.2.2 ++ ([x.2.1.getD y2.1.toNat tColumn.dflt]))))
      else
        (none))
    else
      (none))
  else
    (iter (f12.s2 n x r1 y2) n ((0 : Int), (0, [])))
def f12.r3 (n : Nat) (x : dTable) (r1 : (List Int)) (m2 : Nat) (S2 : (Int × Nat × (List dColumn)) → Option (dTable)) (y2 : Int × Nat × (List dColumn)) : Option (dTable) :=
  bif decide (y2.1 < (x.2.1.length : Int)) then
    (bif decide (0 ≤ y2.1) && decide (y2.1 < (x.2.1.length : Int)) then
      (bif decide ((y2.2.1 + 1) * 72 ≤ boundN) then
        (S2 (IntKind.wrap .i64 (y2.1 + (1 : Int)), (y2.2.1 + 1, List.take y2.2.1 y2.2.2 ++ ([x.2.1.getD y2.1.toNat tColumn.dflt]))))
      else
        (none))
    else
      (none))
  else
    (f12.L2 n x r1 y2 n ((0 : Int), (0, [])))
set_option maxRecDepth 100000 in
theorem f12.k3 (n : Nat) (x : dTable) (r1 : (List Int)) (m : Nat) (y : Int × Nat × (List dColumn)) : f12.L3 n x r1 (m + 1) y = f12.s3 n x r1 (f12.L3 n x r1 m) y := by
  have h : f12.L3 n x r1 (m + 1) y = f12.r3 n x r1 m (f12.L3 n x r1 m) y := by kernel_rfl
  rw [h]
  simp only [f12.r3, f12.s3, f12.l1, f12.l2]
theorem f12.l3 (n : Nat) (x : dTable) (r1 : (List Int)) : ∀ (m : Nat) (y2 : Int × Nat × (List dColumn)), f12.L3 n x r1 m y2 = iter (f12.s3 n x r1) m y2 :=
  loop_of (L := f12.L3 n x r1) (step := f12.s3 n x r1) (fun _ => rfl) (f12.k3 n x r1)
def f12.g (n : Nat) (x : dTable) : Option (dTable) :=
  (F38 x.2.2.1).bind fun r1 =>
    iter (f12.s3 n x r1) n ((0 : Int), (0, []))
def f12.q (n : Nat) (x : dTable) : Option (dTable) :=
  (F38 x.2.2.1).bind fun r1 =>
    f12.L3 n x r1 n ((0 : Int), (0, []))
set_option maxRecDepth 100000 in
theorem f12.eq (n : Nat) (x : dTable) : runK TT E12 n ann (tabC C12) 1 12 (argsL [(true, tTable)] x) [] (readL [(true, tTable)]) = f12.g n x := by
  have h : runK TT E12 n ann (tabC C12) 1 12 (argsL [(true, tTable)] x) [] (readL [(true, tTable)]) = f12.q n x := by kernel_rfl
  rw [h]
  simp only [f12.q, f12.g, f12.l1, f12.l2, f12.l3]
set_option maxRecDepth 100000 in
theorem f12.codes : CodesOk Tryz.prog E12 ann (tabC C12) := tabC_ok (by intro p hp; simp only [C12, List.mem_cons, List.not_mem_nil, or_false] at hp; rcases hp with rfl <;> first | exact Tryz.func12) (by kernel_rfl)
theorem f12.ok (h : ∀ X Y, F12 X = some Y → ∃ n, f12.g n X = some Y) (e38 : ConOk Tryz.prog 38 con38) : ConOk Tryz.prog 12 (mkCon [(true, tTable)] [(true, tTable)] false F12) :=
  mkCon_ok mixed TT_ok (envC_ok e38 env0_ok) f12.codes (fun h => by cases h) fun X Y hF => (h X Y hF).imp fun n hn => (f12.eq n X).trans hn
def con12 : Con := mkCon [(true, tTable)] [(true, tTable)] false F12
/-! ### vellum/vellumref03.some -/
def E40 : FuncId → Option Con := env0
noncomputable def C40 : List (FuncId × Func) := [(40, Tryz.f40)]
def f40.h1 (x : dTable × (List Int)) (y1 : Int) (y2 : Int) : List AV × List Ob := ([.undef, .val false [.sc (.sl (.int .i64)) x.2], .val false [.ptr 0 0], .undef, .undef, .val false [.sc (.int .i64) y1], .val false [.sc (.int .i64) y2], .undef, .undef, .undef, .undef, .undef, .undef, .undef, .undef, .undef, .undef, .undef, .undef, .undef, .undef, .undef, .undef, .undef, .undef, .undef, .undef, .val false [.sc (.sl (.int .i64)) x.2], .val false [.sc (.int .i64) y1], .val false [.elr (.int .i64) (x.2.getD y1.toNat (Ty.dflt (.int .i64))) 0], .val false [.sc (.int .i64) (x.2.getD y1.toNat (Ty.dflt (.int .i64)))], .val false [.ptr 0 1], .val false [.sc (.sl tColumn) x.1.2.1], .val false [.sc (.int .i64) (x.1.2.1.length : Int)], .val false [.sc .bool (decide (x.2.getD y1.toNat (Ty.dflt (.int .i64)) ≥ (x.1.2.1.length : Int)))]] ++ List.replicate 15 .undef, [.box [.sc .str x.1.1, .sc (.sl tColumn) x.1.2.1, .sc (.sl (.int .i64)) x.1.2.2.1, .sc (.sl tIndex) x.1.2.2.2.1, .sc (.sl tRef) x.1.2.2.2.2]])
def f40.h2 (x : dTable × (List Int)) (y1 : Int) : List AV × List Ob := ([.undef, .val false [.sc (.sl (.int .i64)) x.2], .val false [.ptr 0 0], .undef, .undef, .val false [.sc (.int .i64) y1]] ++ List.replicate 44 .undef, [.box [.sc .str x.1.1, .sc (.sl tColumn) x.1.2.1, .sc (.sl (.int .i64)) x.1.2.2.1, .sc (.sl tIndex) x.1.2.2.2.1, .sc (.sl tRef) x.1.2.2.2.2]])
def f40.L1 (n : Nat) (x : dTable × (List Int)) (y1 : Int) (m1 : Nat) (m2 : Nat) (y2 : Int) : Option (Bool) :=
  loopN (ann 40 9).keep 1 (fun fr H k => execK TT 0 E40 (inlD TT E40 n ann (tabC C40) 1) n (ann 40) (subC [1, 1, 0, 1, 0, 0, 1, 0, 0, 1, 1, 0, 0] (bodyOf Tryz.f40)) fr H k) m2 (f40.h1 x y1 y2).1 (f40.h1 x y1 y2).2 (kont TT 0 E40 (inlD TT E40 n ann (tabC C40) 1) n (ann 40) [1, 0, 0, 1, 1, 0] (subC [1, 1, 0, 1, 0, 0] (bodyOf Tryz.f40)) (loopK (ann 40 4).keep 1 (fun fr H k => execK TT 0 E40 (inlD TT E40 n ann (tabC C40) 1) n (ann 40) (subC [1, 1, 0, 1, 0, 0] (bodyOf Tryz.f40)) fr H k) m1 (kont TT 0 E40 (inlD TT E40 n ann (tabC C40) 1) n (ann 40) [1, 1, 0, 1, 0] (bodyOf Tryz.f40) (endK TT Tryz.f40 (readL [(false, .bool)])))))
def f40.L2 (n : Nat) (x : dTable × (List Int)) (m1 : Nat) (y1 : Int) : Option (Bool) :=
  loopN (ann 40 4).keep 1 (fun fr H k => execK TT 0 E40 (inlD TT E40 n ann (tabC C40) 1) n (ann 40) (subC [1, 1, 0, 1, 0, 0] (bodyOf Tryz.f40)) fr H k) m1 (f40.h2 x y1).1 (f40.h2 x y1).2 (kont TT 0 E40 (inlD TT E40 n ann (tabC C40) 1) n (ann 40) [1, 1, 0, 1, 0] (bodyOf Tryz.f40) (endK TT Tryz.f40 (readL [(false, .bool)])))
def f40.s1 (n : Nat) (x : dTable × (List Int)) (y1 : Int) (S1 : Int → Option (Bool)) (S2 : Int → Option (Bool)) (y2 : Int) : Option (Bool) :=
  bif decide (y2 < y1) then
    (bif decide (0 ≤ y2) && decide (y2 < (x.2.length : Int)) then
      (bif decide (0 ≤ y1) && decide (y1 < (x.2.length : Int)) then
        (bif x.2.getD y2.toNat (Ty.dflt (.int .i64)) == x.2.getD y1.toNat (Ty.dflt (.int .i64)) then
          (some false)
        else
          (S2 (IntKind.wrap .i64 (y2 + (1 : Int)))))
      else
        (none))
    else
      (none))
  else
    (S1 (IntKind.wrap .i64 (y1 + (1 : Int))))
def f40.r1 (n : Nat) (x : dTable × (List Int)) (y1 : Int) (m1 : Nat) (m2 : Nat) (S1 : Int → Option (Bool)) (S2 : Int → Option (Bool)) (y2 : Int) : Option (Bool) :=
  bif decide (y2 < y1) then
    (bif decide (0 ≤ y2) && decide (y2 < (x.2.length : Int)) then
      (bif decide (0 ≤ y1) && decide (y1 < (x.2.length : Int)) then
        (bif x.2.getD y2.toNat (Ty.dflt (.int .i64)) == x.2.getD y1.toNat (Ty.dflt (.int .i64)) then
          (some false)
        else
          (S2 (IntKind.wrap .i64 (y2 + (1 : Int)))))
      else
        (none))
    else
      (none))
  else
    (S1 (IntKind.wrap .i64 (y1 + (1 : Int))))
set_option maxRecDepth 100000 in
theorem f40.k1 (n : Nat) (x : dTable × (List Int)) (y1 : Int) (m1 : Nat) (m : Nat) (y : Int) : f40.L1 n x y1 m1 (m + 1) y = f40.s1 n x y1 (f40.L2 n x m1) (f40.L1 n x y1 m1 m) y := by
  have h : f40.L1 n x y1 m1 (m + 1) y = f40.r1 n x y1 m1 m (f40.L2 n x m1) (f40.L1 n x y1 m1 m) y := by kernel_rfl
  rw [h]
  simp only [f40.r1, f40.s1]
theorem f40.l1 (n : Nat) (x : dTable × (List Int)) (y1 : Int) (m1 : Nat) : ∀ (m : Nat) (y2 : Int), f40.L1 n x y1 m1 m y2 = iter (f40.s1 n x y1 (f40.L2 n x m1)) m y2 :=
  loop_of (L := f40.L1 n x y1 m1) (step := f40.s1 n x y1 (f40.L2 n x m1)) (fun _ => rfl) (f40.k1 n x y1 m1)
def f40.s2 (n : Nat) (x : dTable × (List Int)) (S1 : Int → Option (Bool)) (y1 : Int) : Option (Bool) :=
  bif decide (y1 < (x.2.length : Int)) then
    (bif decide (0 ≤ y1) && decide (y1 < (x.2.length : Int)) then
      (bif decide (x.2.getD y1.toNat (Ty.dflt (.int .i64)) < (0 : Int)) then
        (some false)
      else
        (bif decide (0 ≤ y1) && decide (y1 < (x.2.length : Int)) then
          (bif decide (x.2.getD y1.toNat (Ty.dflt (.int .i64)) ≥ (x.1.2.1.length : Int)) then
            (some false)
          else
            (iter (f40.s1 n x y1 S1) n (0 : Int)))
        else
          (none)))
    else
      (none))
  else
    (some true)
def f40.r2 (n : Nat) (x : dTable × (List Int)) (m1 : Nat) (S1 : Int → Option (Bool)) (y1 : Int) : Option (Bool) :=
  bif decide (y1 < (x.2.length : Int)) then
    (bif decide (0 ≤ y1) && decide (y1 < (x.2.length : Int)) then
      (bif decide (x.2.getD y1.toNat (Ty.dflt (.int .i64)) < (0 : Int)) then
        (some false)
      else
        (bif decide (0 ≤ y1) && decide (y1 < (x.2.length : Int)) then
          (bif decide (x.2.getD y1.toNat (Ty.dflt (.int .i64)) ≥ (x.1.2.1.length : Int)) then
            (some false)
          else
            (f40.L1 n x y1 m1 n (0 : Int)))
        else
          (none)))
    else
      (none))
  else
    (some true)
set_option maxRecDepth 100000 in
theorem f40.k2 (n : Nat) (x : dTable × (List Int)) (m : Nat) (y : Int) : f40.L2 n x (m + 1) y = f40.s2 n x (f40.L2 n x m) y := by
  have h : f40.L2 n x (m + 1) y = f40.r2 n x m (f40.L2 n x m) y := by kernel_rfl
  rw [h]
  simp only [f40.r2, f40.s2, f40.l1]
theorem f40.l2 (n : Nat) (x : dTable × (List Int)) : ∀ (m : Nat) (y1 : Int), f40.L2 n x m y1 = iter (f40.s2 n x) m y1 :=
  loop_of (L := f40.L2 n x) (step := f40.s2 n x) (fun _ => rfl) (f40.k2 n x)
def f40.g (n : Nat) (x : dTable × (List Int)) : Option (Bool) :=
  bif bif (decide ((x.2.length : Int) < (1 : Int))) then true else (decide ((x.2.length : Int) > (64 : Int))) then
    (some false)
  else
    (iter (f40.s2 n x) n (0 : Int))
def f40.q (n : Nat) (x : dTable × (List Int)) : Option (Bool) :=
  bif bif (decide ((x.2.length : Int) < (1 : Int))) then true else (decide ((x.2.length : Int) > (64 : Int))) then
    (some false)
  else
    (f40.L2 n x n (0 : Int))
set_option maxRecDepth 100000 in
theorem f40.eq (n : Nat) (x : dTable × (List Int)) : runK TT E40 n ann (tabC C40) 1 40 (argsL [(true, tTable), (false, .sl (.int .i64))] x) [] (readL [(false, .bool)]) = f40.g n x := by
  have h : runK TT E40 n ann (tabC C40) 1 40 (argsL [(true, tTable), (false, .sl (.int .i64))] x) [] (readL [(false, .bool)]) = f40.q n x := by kernel_rfl
  rw [h]
  simp only [f40.q, f40.g, f40.l1, f40.l2]
set_option maxRecDepth 100000 in
theorem f40.codes : CodesOk Tryz.prog E40 ann (tabC C40) := tabC_ok (by intro p hp; simp only [C40, List.mem_cons, List.not_mem_nil, or_false] at hp; rcases hp with rfl <;> first | exact Tryz.func40) (by kernel_rfl)
theorem f40.ok (h : ∀ X Y, F40 X = some Y → ∃ n, f40.g n X = some Y)  : ConOk Tryz.prog 40 (mkCon [(true, tTable), (false, .sl (.int .i64))] [(false, .bool)] true F40) :=
  mkCon_ok mixed TT_ok env0_ok f40.codes (fun _ => List.all_eq_true.1 rfl) fun X Y hF => (h X Y hF).imp fun n hn => (f40.eq n X).trans hn
def con40 : Con := mkCon [(true, tTable), (false, .sl (.int .i64))] [(false, .bool)] true F40
/-! ### vellum/vellumref03.columns -/
def E39 : FuncId → Option Con := (envC 43 con43 (envC 9 con9 env0))
noncomputable def C39 : List (FuncId × Func) := [(39, Tryz.f39)]
def f39.h1 (x : dTable) (y1 : Int) (r2 : Bool) (y3 : Int) : List AV × List Ob := ([.undef, .val false [.ptr 0 0], .undef, .val false [.sc (.int .i64) y1], .val false [.ptr 1 0], .val false [.sc (.int .i64) y3]] ++ List.replicate 58 .undef, [.box [.sc .str x.1, .sc (.sl tColumn) x.2.1, .sc (.sl (.int .i64)) x.2.2.1, .sc (.sl tIndex) x.2.2.2.1, .sc (.sl tRef) x.2.2.2.2], .box [.sc .str (x.2.1.getD y1.toNat tColumn.dflt).1, .sc (.int .i64) (x.2.1.getD y1.toNat tColumn.dflt).2.1, .sc .bool (x.2.1.getD y1.toNat tColumn.dflt).2.2.1, .sc (.int .i64) (x.2.1.getD y1.toNat tColumn.dflt).2.2.2.1, .sc (.int .i64) (x.2.1.getD y1.toNat tColumn.dflt).2.2.2.2.1, .sc (.float .f64) (x.2.1.getD y1.toNat tColumn.dflt).2.2.2.2.2.1, .sc .str (x.2.1.getD y1.toNat tColumn.dflt).2.2.2.2.2.2]])
def f39.h2 (x : dTable) (y1 : Int) : List AV × List Ob := ([.undef, .val false [.ptr 0 0], .undef, .val false [.sc (.int .i64) y1]] ++ List.replicate 60 .undef, [.box [.sc .str x.1, .sc (.sl tColumn) x.2.1, .sc (.sl (.int .i64)) x.2.2.1, .sc (.sl tIndex) x.2.2.2.1, .sc (.sl tRef) x.2.2.2.2]])
def f39.L1 (n : Nat) (x : dTable) (y1 : Int) (r2 : Bool) (m1 : Nat) (m3 : Nat) (y3 : Int) : Option (Int) :=
  loopN (ann 39 8).keep 2 (fun fr H k => execK TT 0 E39 (inlD TT E39 n ann (tabC C39) 1) n (ann 39) (subC [1, 0, 1, 0, 0, 1, 0, 0, 1, 1, 0, 1, 0, 0] (bodyOf Tryz.f39)) fr H k) m3 (f39.h1 x y1 r2 y3).1 (f39.h1 x y1 r2 y3).2 (kont TT 0 E39 (inlD TT E39 n ann (tabC C39) 1) n (ann 39) [1, 0, 0, 1, 1, 0, 1, 0] (subC [1, 0, 1, 0, 0] (bodyOf Tryz.f39)) (loopK (ann 39 2).keep 1 (fun fr H k => execK TT 0 E39 (inlD TT E39 n ann (tabC C39) 1) n (ann 39) (subC [1, 0, 1, 0, 0] (bodyOf Tryz.f39)) fr H k) m1 (kont TT 0 E39 (inlD TT E39 n ann (tabC C39) 1) n (ann 39) [1, 0, 1, 0] (bodyOf Tryz.f39) (endK TT Tryz.f39 (readL [(false, .int .i64)])))))
def f39.L2 (n : Nat) (x : dTable) (m1 : Nat) (y1 : Int) : Option (Int) :=
  loopN (ann 39 2).keep 1 (fun fr H k => execK TT 0 E39 (inlD TT E39 n ann (tabC C39) 1) n (ann 39) (subC [1, 0, 1, 0, 0] (bodyOf Tryz.f39)) fr H k) m1 (f39.h2 x y1).1 (f39.h2 x y1).2 (kont TT 0 E39 (inlD TT E39 n ann (tabC C39) 1) n (ann 39) [1, 0, 1, 0] (bodyOf Tryz.f39) (endK TT Tryz.f39 (readL [(false, .int .i64)])))
def f39.s1 (n : Nat) (x : dTable) (y1 : Int) (r2 : Bool) (S1 : Int → Option (Int)) (S3 : Int → Option (Int)) (y3 : Int) : Option (Int) :=
  bif decide (y3 < y1) then
    (bif decide (0 ≤ y3) && decide (y3 < (x.2.1.length : Int)) then
      (bif strEq (x.2.1.getD y3.toNat tColumn.dflt).1 (x.2.1.getD y1.toNat tColumn.dflt).1 then
        (some (31 : Int))
      else
        (S3 (IntKind.wrap .i64 (y3 + (1 : Int)))))
    else
      (none))
  else
    (bif bif (decide ((x.2.1.getD y1.toNat tColumn.dflt).2.1 < (1 : Int))) then true else (decide ((x.2.1.getD y1.toNat tColumn.dflt).2.1 > (5 : Int))) then
      (some (32 : Int))
    else
      ((F43 (x.2.1.getD y1.toNat tColumn.dflt).2.2.2).bind fun r4 =>
        bif bif (r4 != (0 : Int)) then true else (bif ((x.2.1.getD y1.toNat tColumn.dflt).2.2.2.1 != (x.2.1.getD y1.toNat tColumn.dflt).2.1) then ((x.2.1.getD y1.toNat tColumn.dflt).2.2.2.1 != (0 : Int)) else false) then
          (some (32 : Int))
        else
          (S1 (IntKind.wrap .i64 (y1 + (1 : Int))))))
def f39.r1 (n : Nat) (x : dTable) (y1 : Int) (r2 : Bool) (m1 : Nat) (m3 : Nat) (S1 : Int → Option (Int)) (S3 : Int → Option (Int)) (y3 : Int) : Option (Int) :=
  bif decide (y3 < y1) then
    (bif decide (0 ≤ y3) && decide (y3 < (x.2.1.length : Int)) then
      (bif strEq (x.2.1.getD y3.toNat tColumn.dflt).1 (x.2.1.getD y1.toNat tColumn.dflt).1 then
        (some (31 : Int))
      else
        (S3 (IntKind.wrap .i64 (y3 + (1 : Int)))))
    else
      (none))
  else
    (bif bif (decide ((x.2.1.getD y1.toNat tColumn.dflt).2.1 < (1 : Int))) then true else (decide ((x.2.1.getD y1.toNat tColumn.dflt).2.1 > (5 : Int))) then
      (some (32 : Int))
    else
      ((F43 (x.2.1.getD y1.toNat tColumn.dflt).2.2.2).bind fun r4 =>
        bif bif (r4 != (0 : Int)) then true else (bif ((x.2.1.getD y1.toNat tColumn.dflt).2.2.2.1 != (x.2.1.getD y1.toNat tColumn.dflt).2.1) then ((x.2.1.getD y1.toNat tColumn.dflt).2.2.2.1 != (0 : Int)) else false) then
          (some (32 : Int))
        else
          (S1 (IntKind.wrap .i64 (y1 + (1 : Int))))))
set_option maxRecDepth 100000 in
theorem f39.k1 (n : Nat) (x : dTable) (y1 : Int) (r2 : Bool) (m1 : Nat) (m : Nat) (y : Int) : f39.L1 n x y1 r2 m1 (m + 1) y = f39.s1 n x y1 r2 (f39.L2 n x m1) (f39.L1 n x y1 r2 m1 m) y := by
  have h : f39.L1 n x y1 r2 m1 (m + 1) y = f39.r1 n x y1 r2 m1 m (f39.L2 n x m1) (f39.L1 n x y1 r2 m1 m) y := by kernel_rfl
  rw [h]
  simp only [f39.r1, f39.s1]
theorem f39.l1 (n : Nat) (x : dTable) (y1 : Int) (r2 : Bool) (m1 : Nat) : ∀ (m : Nat) (y3 : Int), f39.L1 n x y1 r2 m1 m y3 = iter (f39.s1 n x y1 r2 (f39.L2 n x m1)) m y3 :=
  loop_of (L := f39.L1 n x y1 r2 m1) (step := f39.s1 n x y1 r2 (f39.L2 n x m1)) (fun _ => rfl) (f39.k1 n x y1 r2 m1)
def f39.s2 (n : Nat) (x : dTable) (S1 : Int → Option (Int)) (y1 : Int) : Option (Int) :=
  bif decide (y1 < (x.2.1.length : Int)) then
    (bif decide (0 ≤ y1) && decide (y1 < (x.2.1.length : Int)) then
      ((F9 (x.2.1.getD y1.toNat tColumn.dflt).1).bind fun r2 =>
        bif !r2 then
          (some (30 : Int))
        else
          (iter (f39.s1 n x y1 r2 S1) n (0 : Int)))
    else
      (none))
  else
    (some (0 : Int))
def f39.r2 (n : Nat) (x : dTable) (m1 : Nat) (S1 : Int → Option (Int)) (y1 : Int) : Option (Int) :=
  bif decide (y1 < (x.2.1.length : Int)) then
    (bif decide (0 ≤ y1) && decide (y1 < (x.2.1.length : Int)) then
      ((F9 (x.2.1.getD y1.toNat tColumn.dflt).1).bind fun r2 =>
        bif !r2 then
          (some (30 : Int))
        else
          (f39.L1 n x y1 r2 m1 n (0 : Int)))
    else
      (none))
  else
    (some (0 : Int))
set_option maxRecDepth 100000 in
theorem f39.k2 (n : Nat) (x : dTable) (m : Nat) (y : Int) : f39.L2 n x (m + 1) y = f39.s2 n x (f39.L2 n x m) y := by
  have h : f39.L2 n x (m + 1) y = f39.r2 n x m (f39.L2 n x m) y := by kernel_rfl
  rw [h]
  simp only [f39.r2, f39.s2, f39.l1]
theorem f39.l2 (n : Nat) (x : dTable) : ∀ (m : Nat) (y1 : Int), f39.L2 n x m y1 = iter (f39.s2 n x) m y1 :=
  loop_of (L := f39.L2 n x) (step := f39.s2 n x) (fun _ => rfl) (f39.k2 n x)
def f39.g (n : Nat) (x : dTable) : Option (Int) :=
  iter (f39.s2 n x) n (0 : Int)
def f39.q (n : Nat) (x : dTable) : Option (Int) :=
  f39.L2 n x n (0 : Int)
set_option maxRecDepth 100000 in
theorem f39.eq (n : Nat) (x : dTable) : runK TT E39 n ann (tabC C39) 1 39 (argsL [(true, tTable)] x) [] (readL [(false, .int .i64)]) = f39.g n x := by
  have h : runK TT E39 n ann (tabC C39) 1 39 (argsL [(true, tTable)] x) [] (readL [(false, .int .i64)]) = f39.q n x := by kernel_rfl
  rw [h]
  simp only [f39.q, f39.g, f39.l1, f39.l2]
set_option maxRecDepth 100000 in
theorem f39.codes : CodesOk Tryz.prog E39 ann (tabC C39) := tabC_ok (by intro p hp; simp only [C39, List.mem_cons, List.not_mem_nil, or_false] at hp; rcases hp with rfl <;> first | exact Tryz.func39) (by kernel_rfl)
theorem f39.ok (h : ∀ X Y, F39 X = some Y → ∃ n, f39.g n X = some Y) (e9 : ConOk Tryz.prog 9 con9) (e43 : ConOk Tryz.prog 43 con43) : ConOk Tryz.prog 39 (mkCon [(true, tTable)] [(false, .int .i64)] true F39) :=
  mkCon_ok mixed TT_ok (envC_ok e43 (envC_ok e9 env0_ok)) f39.codes (fun _ => List.all_eq_true.1 rfl) fun X Y hF => (h X Y hF).imp fun n hn => (f39.eq n X).trans hn
def con39 : Con := mkCon [(true, tTable)] [(false, .int .i64)] true F39
/-! ### vellum/vellumref03.indexes -/
def E41 : FuncId → Option Con := (envC 40 con40 (envC 9 con9 env0))
noncomputable def C41 : List (FuncId × Func) := [(41, Tryz.f41)]
def f41.h1 (x : dTable) (y1 : Int) (r2 : Bool) (y3 : Int) : List AV × List Ob := ([.undef, .val false [.ptr 0 0], .undef, .val false [.sc (.int .i64) y1], .val false [.ptr 1 0], .val false [.sc (.int .i64) y3]] ++ List.replicate 35 .undef, [.box [.sc .str x.1, .sc (.sl tColumn) x.2.1, .sc (.sl (.int .i64)) x.2.2.1, .sc (.sl tIndex) x.2.2.2.1, .sc (.sl tRef) x.2.2.2.2], .box [.sc .str (x.2.2.2.1.getD y1.toNat tIndex.dflt).1, .sc (.sl (.int .i64)) (x.2.2.2.1.getD y1.toNat tIndex.dflt).2.1, .sc .bool (x.2.2.2.1.getD y1.toNat tIndex.dflt).2.2]])
def f41.h2 (x : dTable) (y1 : Int) : List AV × List Ob := ([.undef, .val false [.ptr 0 0], .undef, .val false [.sc (.int .i64) y1]] ++ List.replicate 37 .undef, [.box [.sc .str x.1, .sc (.sl tColumn) x.2.1, .sc (.sl (.int .i64)) x.2.2.1, .sc (.sl tIndex) x.2.2.2.1, .sc (.sl tRef) x.2.2.2.2]])
def f41.L1 (n : Nat) (x : dTable) (y1 : Int) (r2 : Bool) (m1 : Nat) (m3 : Nat) (y3 : Int) : Option (Int) :=
  loopN (ann 41 8).keep 2 (fun fr H k => execK TT 0 E41 (inlD TT E41 n ann (tabC C41) 1) n (ann 41) (subC [1, 0, 1, 0, 0, 1, 0, 0, 1, 1, 0, 1, 0, 0] (bodyOf Tryz.f41)) fr H k) m3 (f41.h1 x y1 r2 y3).1 (f41.h1 x y1 r2 y3).2 (kont TT 0 E41 (inlD TT E41 n ann (tabC C41) 1) n (ann 41) [1, 0, 0, 1, 1, 0, 1, 0] (subC [1, 0, 1, 0, 0] (bodyOf Tryz.f41)) (loopK (ann 41 2).keep 1 (fun fr H k => execK TT 0 E41 (inlD TT E41 n ann (tabC C41) 1) n (ann 41) (subC [1, 0, 1, 0, 0] (bodyOf Tryz.f41)) fr H k) m1 (kont TT 0 E41 (inlD TT E41 n ann (tabC C41) 1) n (ann 41) [1, 0, 1, 0] (bodyOf Tryz.f41) (endK TT Tryz.f41 (readL [(false, .int .i64)])))))
def f41.L2 (n : Nat) (x : dTable) (m1 : Nat) (y1 : Int) : Option (Int) :=
  loopN (ann 41 2).keep 1 (fun fr H k => execK TT 0 E41 (inlD TT E41 n ann (tabC C41) 1) n (ann 41) (subC [1, 0, 1, 0, 0] (bodyOf Tryz.f41)) fr H k) m1 (f41.h2 x y1).1 (f41.h2 x y1).2 (kont TT 0 E41 (inlD TT E41 n ann (tabC C41) 1) n (ann 41) [1, 0, 1, 0] (bodyOf Tryz.f41) (endK TT Tryz.f41 (readL [(false, .int .i64)])))
def f41.s1 (n : Nat) (x : dTable) (y1 : Int) (r2 : Bool) (S1 : Int → Option (Int)) (S3 : Int → Option (Int)) (y3 : Int) : Option (Int) :=
  bif decide (y3 < y1) then
    (bif decide (0 ≤ y3) && decide (y3 < (x.2.2.2.1.length : Int)) then
      (bif strEq (x.2.2.2.1.getD y3.toNat tIndex.dflt).1 (x.2.2.2.1.getD y1.toNat tIndex.dflt).1 then
        (some (31 : Int))
      else
        (S3 (IntKind.wrap .i64 (y3 + (1 : Int)))))
    else
      (none))
  else
    ((F40 (x, (x.2.2.2.1.getD y1.toNat tIndex.dflt).2.1)).bind fun r4 =>
      bif !r4 then
        (some (33 : Int))
      else
        (S1 (IntKind.wrap .i64 (y1 + (1 : Int)))))
def f41.r1 (n : Nat) (x : dTable) (y1 : Int) (r2 : Bool) (m1 : Nat) (m3 : Nat) (S1 : Int → Option (Int)) (S3 : Int → Option (Int)) (y3 : Int) : Option (Int) :=
  bif decide (y3 < y1) then
    (bif decide (0 ≤ y3) && decide (y3 < (x.2.2.2.1.length : Int)) then
      (bif strEq (x.2.2.2.1.getD y3.toNat tIndex.dflt).1 (x.2.2.2.1.getD y1.toNat tIndex.dflt).1 then
        (some (31 : Int))
      else
        (S3 (IntKind.wrap .i64 (y3 + (1 : Int)))))
    else
      (none))
  else
    ((F40 (x, (x.2.2.2.1.getD y1.toNat tIndex.dflt).2.1)).bind fun r4 =>
      bif !r4 then
        (some (33 : Int))
      else
        (S1 (IntKind.wrap .i64 (y1 + (1 : Int)))))
set_option maxRecDepth 100000 in
theorem f41.k1 (n : Nat) (x : dTable) (y1 : Int) (r2 : Bool) (m1 : Nat) (m : Nat) (y : Int) : f41.L1 n x y1 r2 m1 (m + 1) y = f41.s1 n x y1 r2 (f41.L2 n x m1) (f41.L1 n x y1 r2 m1 m) y := by
  have h : f41.L1 n x y1 r2 m1 (m + 1) y = f41.r1 n x y1 r2 m1 m (f41.L2 n x m1) (f41.L1 n x y1 r2 m1 m) y := by kernel_rfl
  rw [h]
  simp only [f41.r1, f41.s1]
theorem f41.l1 (n : Nat) (x : dTable) (y1 : Int) (r2 : Bool) (m1 : Nat) : ∀ (m : Nat) (y3 : Int), f41.L1 n x y1 r2 m1 m y3 = iter (f41.s1 n x y1 r2 (f41.L2 n x m1)) m y3 :=
  loop_of (L := f41.L1 n x y1 r2 m1) (step := f41.s1 n x y1 r2 (f41.L2 n x m1)) (fun _ => rfl) (f41.k1 n x y1 r2 m1)
def f41.s2 (n : Nat) (x : dTable) (S1 : Int → Option (Int)) (y1 : Int) : Option (Int) :=
  bif decide (y1 < (x.2.2.2.1.length : Int)) then
    (bif decide (0 ≤ y1) && decide (y1 < (x.2.2.2.1.length : Int)) then
      ((F9 (x.2.2.2.1.getD y1.toNat tIndex.dflt).1).bind fun r2 =>
        bif !r2 then
          (some (30 : Int))
        else
          (iter (f41.s1 n x y1 r2 S1) n (0 : Int)))
    else
      (none))
  else
    (some (0 : Int))
def f41.r2 (n : Nat) (x : dTable) (m1 : Nat) (S1 : Int → Option (Int)) (y1 : Int) : Option (Int) :=
  bif decide (y1 < (x.2.2.2.1.length : Int)) then
    (bif decide (0 ≤ y1) && decide (y1 < (x.2.2.2.1.length : Int)) then
      ((F9 (x.2.2.2.1.getD y1.toNat tIndex.dflt).1).bind fun r2 =>
        bif !r2 then
          (some (30 : Int))
        else
          (f41.L1 n x y1 r2 m1 n (0 : Int)))
    else
      (none))
  else
    (some (0 : Int))
set_option maxRecDepth 100000 in
theorem f41.k2 (n : Nat) (x : dTable) (m : Nat) (y : Int) : f41.L2 n x (m + 1) y = f41.s2 n x (f41.L2 n x m) y := by
  have h : f41.L2 n x (m + 1) y = f41.r2 n x m (f41.L2 n x m) y := by kernel_rfl
  rw [h]
  simp only [f41.r2, f41.s2, f41.l1]
theorem f41.l2 (n : Nat) (x : dTable) : ∀ (m : Nat) (y1 : Int), f41.L2 n x m y1 = iter (f41.s2 n x) m y1 :=
  loop_of (L := f41.L2 n x) (step := f41.s2 n x) (fun _ => rfl) (f41.k2 n x)
def f41.g (n : Nat) (x : dTable) : Option (Int) :=
  iter (f41.s2 n x) n (0 : Int)
def f41.q (n : Nat) (x : dTable) : Option (Int) :=
  f41.L2 n x n (0 : Int)
set_option maxRecDepth 100000 in
theorem f41.eq (n : Nat) (x : dTable) : runK TT E41 n ann (tabC C41) 1 41 (argsL [(true, tTable)] x) [] (readL [(false, .int .i64)]) = f41.g n x := by
  have h : runK TT E41 n ann (tabC C41) 1 41 (argsL [(true, tTable)] x) [] (readL [(false, .int .i64)]) = f41.q n x := by kernel_rfl
  rw [h]
  simp only [f41.q, f41.g, f41.l1, f41.l2]
set_option maxRecDepth 100000 in
theorem f41.codes : CodesOk Tryz.prog E41 ann (tabC C41) := tabC_ok (by intro p hp; simp only [C41, List.mem_cons, List.not_mem_nil, or_false] at hp; rcases hp with rfl <;> first | exact Tryz.func41) (by kernel_rfl)
theorem f41.ok (h : ∀ X Y, F41 X = some Y → ∃ n, f41.g n X = some Y) (e9 : ConOk Tryz.prog 9 con9) (e40 : ConOk Tryz.prog 40 con40) : ConOk Tryz.prog 41 (mkCon [(true, tTable)] [(false, .int .i64)] true F41) :=
  mkCon_ok mixed TT_ok (envC_ok e40 (envC_ok e9 env0_ok)) f41.codes (fun _ => List.all_eq_true.1 rfl) fun X Y hF => (h X Y hF).imp fun n hn => (f41.eq n X).trans hn
def con41 : Con := mkCon [(true, tTable)] [(false, .int .i64)] true F41
/-! ### vellum/vellumref03.Check -/
def E13 : FuncId → Option Con := (envC 41 con41 (envC 40 con40 (envC 39 con39 (envC 9 con9 env0))))
noncomputable def C13 : List (FuncId × Func) := [(13, Tryz.f13)]
def f13.h1 (x : dTable) (r1 : Bool) (r2 : Int) (r3 : Bool) (y4 : Int) (r5 : Int) (y6 : Int) : List AV × List Ob := ([.undef, .val false [.ptr 0 0], .undef, .undef, .undef, .undef, .val false [.sc (.int .i64) y6]] ++ List.replicate 82 .undef, [.box [.sc .str x.1, .sc (.sl tColumn) x.2.1, .sc (.sl (.int .i64)) x.2.2.1, .sc (.sl tIndex) x.2.2.2.1, .sc (.sl tRef) x.2.2.2.2]])
def f13.h2 (x : dTable) (r1 : Bool) (r2 : Int) (r3 : Bool) (y4 : Int) : List AV × List Ob := ([.undef, .val false [.ptr 0 0], .undef, .undef, .val false [.sc (.int .i64) y4]] ++ List.replicate 84 .undef, [.box [.sc .str x.1, .sc (.sl tColumn) x.2.1, .sc (.sl (.int .i64)) x.2.2.1, .sc (.sl tIndex) x.2.2.2.1, .sc (.sl tRef) x.2.2.2.2]])
def f13.L1 (n : Nat) (x : dTable) (r1 : Bool) (r2 : Int) (r3 : Bool) (y4 : Int) (r5 : Int) (m6 : Nat) (y6 : Int) : Option (Int) :=
  loopN (ann 13 19).keep 1 (fun fr H k => execK TT 0 E13 (inlD TT E13 n ann (tabC C13) 1) n (ann 13) (subC [1, 1, 1, 1, 1, 1, 1, 0, 1, 0, 0] (bodyOf Tryz.f13)) fr H k) m6 (f13.h1 x r1 r2 r3 y4 r5 y6).1 (f13.h1 x r1 r2 r3 y4 r5 y6).2 (kont TT 0 E13 (inlD TT E13 n ann (tabC C13) 1) n (ann 13) [1, 1, 1, 1, 1, 1, 1, 0, 1, 0] (bodyOf Tryz.f13) (endK TT Tryz.f13 (readL [(false, .int .i64)])))
def f13.L2 (n : Nat) (x : dTable) (r1 : Bool) (r2 : Int) (r3 : Bool) (m4 : Nat) (y4 : Int) : Option (Int) :=
  loopN (ann 13 11).keep 1 (fun fr H k => execK TT 0 E13 (inlD TT E13 n ann (tabC C13) 1) n (ann 13) (subC [1, 1, 1, 1, 1, 0, 1, 0, 0] (bodyOf Tryz.f13)) fr H k) m4 (f13.h2 x r1 r2 r3 y4).1 (f13.h2 x r1 r2 r3 y4).2 (kont TT 0 E13 (inlD TT E13 n ann (tabC C13) 1) n (ann 13) [1, 1, 1, 1, 1, 0, 1, 0] (bodyOf Tryz.f13) (endK TT Tryz.f13 (readL [(false, .int .i64)])))
def f13.s1 (n : Nat) (x : dTable) (r1 : Bool) (r2 : Int) (r3 : Bool) (y4 : Int) (r5 : Int) (S6 : Int → Option (Int)) (y6 : Int) : Option (Int) :=
  bif decide (y6 < (x.2.2.2.2.length : Int)) then
    (bif decide (0 ≤ y6) && decide (y6 < (x.2.2.2.2.length : Int)) then
      ((F9 (x.2.2.2.2.getD y6.toNat tRef.dflt).2).bind fun r7 =>
        bif !r7 then
          (some (30 : Int))
        else
          (bif decide (0 ≤ y6) && decide (y6 < (x.2.2.2.2.length : Int)) then
            ((F40 (x, (x.2.2.2.2.getD y6.toNat tRef.dflt).1)).bind fun r8 =>
              bif !r8 then
                (some (33 : Int))
              else
                (S6 (IntKind.wrap .i64 (y6 + (1 : Int)))))
          else
            (none)))
    else
      (none))
  else
    (some (0 : Int))
set_option maxRecDepth 100000 in
theorem f13.k1 (n : Nat) (x : dTable) (r1 : Bool) (r2 : Int) (r3 : Bool) (y4 : Int) (r5 : Int) (m : Nat) (y : Int) : f13.L1 n x r1 r2 r3 y4 r5 (m + 1) y = f13.s1 n x r1 r2 r3 y4 r5 (f13.L1 n x r1 r2 r3 y4 r5 m) y := by kernel_rfl
theorem f13.l1 (n : Nat) (x : dTable) (r1 : Bool) (r2 : Int) (r3 : Bool) (y4 : Int) (r5 : Int) : ∀ (m : Nat) (y6 : Int), f13.L1 n x r1 r2 r3 y4 r5 m y6 = iter (f13.s1 n x r1 r2 r3 y4 r5) m y6 :=
  loop_of (L := f13.L1 n x r1 r2 r3 y4 r5) (step := f13.s1 n x r1 r2 r3 y4 r5) (fun _ => rfl) (f13.k1 n x r1 r2 r3 y4 r5)
def f13.s2 (n : Nat) (x : dTable) (r1 : Bool) (r2 : Int) (r3 : Bool) (S4 : Int → Option (Int)) (y4 : Int) : Option (Int) :=
  bif decide (y4 < (x.2.2.1.length : Int)) then
    (bif decide (0 ≤ y4) && decide (y4 < (x.2.2.1.length : Int)) then
      (bif decide (0 ≤ x.2.2.1.getD y4.toNat (Ty.dflt (.int .i64))) && decide (x.2.2.1.getD y4.toNat (Ty.dflt (.int .i64)) < (x.2.1.length : Int)) then
        (bif (x.2.1.getD ((x.2.2.1.getD y4.toNat (Ty.dflt (.int .i64))).toNat) tColumn.dflt).2.2.1 then
          (some (33 : Int))
        else
          (S4 (IntKind.wrap .i64 (y4 + (1 : Int)))))
      else
        (none))
    else
      (none))
  else
    ((F41 x).bind fun r5 =>
      bif r5 != (0 : Int) then
        (some r5)
      else
        (iter (f13.s1 n x r1 r2 r3 y4 r5) n (0 : Int)))
def f13.r2 (n : Nat) (x : dTable) (r1 : Bool) (r2 : Int) (r3 : Bool) (m4 : Nat) (S4 : Int → Option (Int)) (y4 : Int) : Option (Int) :=
  bif decide (y4 < (x.2.2.1.length : Int)) then
    (bif decide (0 ≤ y4) && decide (y4 < (x.2.2.1.length : Int)) then
      (bif decide (0 ≤ x.2.2.1.getD y4.toNat (Ty.dflt (.int .i64))) && decide (x.2.2.1.getD y4.toNat (Ty.dflt (.int .i64)) < (x.2.1.length : Int)) then
        (bif (x.2.1.getD ((x.2.2.1.getD y4.toNat (Ty.dflt (.int .i64))).toNat) tColumn.dflt).2.2.1 then
          (some (33 : Int))
        else
          (S4 (IntKind.wrap .i64 (y4 + (1 : Int)))))
      else
        (none))
    else
      (none))
  else
    ((F41 x).bind fun r5 =>
      bif r5 != (0 : Int) then
        (some r5)
      else
        (f13.L1 n x r1 r2 r3 y4 r5 n (0 : Int)))
set_option maxRecDepth 100000 in
theorem f13.k2 (n : Nat) (x : dTable) (r1 : Bool) (r2 : Int) (r3 : Bool) (m : Nat) (y : Int) : f13.L2 n x r1 r2 r3 (m + 1) y = f13.s2 n x r1 r2 r3 (f13.L2 n x r1 r2 r3 m) y := by
  have h : f13.L2 n x r1 r2 r3 (m + 1) y = f13.r2 n x r1 r2 r3 m (f13.L2 n x r1 r2 r3 m) y := by kernel_rfl
  rw [h]
  simp only [f13.r2, f13.s2, f13.l1]
theorem f13.l2 (n : Nat) (x : dTable) (r1 : Bool) (r2 : Int) (r3 : Bool) : ∀ (m : Nat) (y4 : Int), f13.L2 n x r1 r2 r3 m y4 = iter (f13.s2 n x r1 r2 r3) m y4 :=
  loop_of (L := f13.L2 n x r1 r2 r3) (step := f13.s2 n x r1 r2 r3) (fun _ => rfl) (f13.k2 n x r1 r2 r3)
def f13.g (n : Nat) (x : dTable) : Option (Int) :=
  (F9 x.1).bind fun r1 =>
    bif !r1 then
      (some (30 : Int))
    else
      (bif bif (bif (bif (decide ((x.2.1.length : Int) < (1 : Int))) then true else (decide ((x.2.1.length : Int) > (64 : Int)))) then true else (decide ((x.2.2.2.1.length : Int) > (16 : Int)))) then true else (decide ((x.2.2.2.2.length : Int) > (16 : Int))) then
        (some (2 : Int))
      else
        ((F39 x).bind fun r2 =>
          bif r2 != (0 : Int) then
            (some r2)
          else
            ((F40 (x, x.2.2.1)).bind fun r3 =>
              bif !r3 then
                (some (33 : Int))
              else
                (iter (f13.s2 n x r1 r2 r3) n (0 : Int)))))
def f13.q (n : Nat) (x : dTable) : Option (Int) :=
  (F9 x.1).bind fun r1 =>
    bif !r1 then
      (some (30 : Int))
    else
      (bif bif (bif (bif (decide ((x.2.1.length : Int) < (1 : Int))) then true else (decide ((x.2.1.length : Int) > (64 : Int)))) then true else (decide ((x.2.2.2.1.length : Int) > (16 : Int)))) then true else (decide ((x.2.2.2.2.length : Int) > (16 : Int))) then
        (some (2 : Int))
      else
        ((F39 x).bind fun r2 =>
          bif r2 != (0 : Int) then
            (some r2)
          else
            ((F40 (x, x.2.2.1)).bind fun r3 =>
              bif !r3 then
                (some (33 : Int))
              else
                (f13.L2 n x r1 r2 r3 n (0 : Int)))))
set_option maxRecDepth 100000 in
theorem f13.eq (n : Nat) (x : dTable) : runK TT E13 n ann (tabC C13) 1 13 (argsL [(true, tTable)] x) [] (readL [(false, .int .i64)]) = f13.g n x := by
  have h : runK TT E13 n ann (tabC C13) 1 13 (argsL [(true, tTable)] x) [] (readL [(false, .int .i64)]) = f13.q n x := by kernel_rfl
  rw [h]
  simp only [f13.q, f13.g, f13.l1, f13.l2]
set_option maxRecDepth 100000 in
theorem f13.codes : CodesOk Tryz.prog E13 ann (tabC C13) := tabC_ok (by intro p hp; simp only [C13, List.mem_cons, List.not_mem_nil, or_false] at hp; rcases hp with rfl <;> first | exact Tryz.func13) (by kernel_rfl)
theorem f13.ok (h : ∀ X Y, F13 X = some Y → ∃ n, f13.g n X = some Y) (e9 : ConOk Tryz.prog 9 con9) (e39 : ConOk Tryz.prog 39 con39) (e40 : ConOk Tryz.prog 40 con40) (e41 : ConOk Tryz.prog 41 con41) : ConOk Tryz.prog 13 (mkCon [(true, tTable)] [(false, .int .i64)] true F13) :=
  mkCon_ok mixed TT_ok (envC_ok e41 (envC_ok e40 (envC_ok e39 (envC_ok e9 env0_ok)))) f13.codes (fun _ => List.all_eq_true.1 rfl) fun X Y hF => (h X Y hF).imp fun n hn => (f13.eq n X).trans hn
def con13 : Con := mkCon [(true, tTable)] [(false, .int .i64)] true F13
/-! ### vellum/schema.Admits -/
def E14 : FuncId → Option Con := (envC 42 con42 (envC 11 con11 env0))
noncomputable def C14 : List (FuncId × Func) := [(14, Tryz.f14)]
def f14.h1 (x : dTable × (List dValue)) (r1 : Int) (y2 : Int) : List AV × List Ob := ([.undef, .val false [.sc (.sl tValue) x.2], .undef, .undef, .undef, .undef, .undef, .undef, .undef, .undef, .undef, .undef, .undef, .undef, .undef, .undef, .undef, .undef, .undef, .undef, .undef, .undef, .val false [.sc (.sl tColumn) x.1.2.1], .val false [.sc (.int .i64) (x.1.2.1.length : Int)], .val false [.sc (.int .i64) y2]] ++ List.replicate 39 .undef, [.box [.sc .str x.1.1, .sc (.sl tColumn) x.1.2.1, .sc (.sl (.int .i64)) x.1.2.2.1, .sc (.sl tIndex) x.1.2.2.2.1, .sc (.sl tRef) x.1.2.2.2.2]])
def f14.L1 (n : Nat) (x : dTable × (List dValue)) (r1 : Int) (m2 : Nat) (y2 : Int) : Option (Int) :=
  loopN (ann 14 7).keep 1 (fun fr H k => execK TT 0 E14 (inlD TT E14 n ann (tabC C14) 1) n (ann 14) (subC [1, 1, 1, 0, 1, 0, 0] (bodyOf Tryz.f14)) fr H k) m2 (f14.h1 x r1 y2).1 (f14.h1 x r1 y2).2 (kont TT 0 E14 (inlD TT E14 n ann (tabC C14) 1) n (ann 14) [1, 1, 1, 0, 1, 0] (bodyOf Tryz.f14) (endK TT Tryz.f14 (readL [(false, .int .i64)])))
def f14.s1 (n : Nat) (x : dTable × (List dValue)) (r1 : Int) (S2 : Int → Option (Int)) (y2 : Int) : Option (Int) :=
  bif decide (y2 < (x.1.2.1.length : Int)) then
    (bif decide (0 ≤ y2) && decide (y2 < (x.1.2.1.length : Int)) then
      (bif decide (0 ≤ y2) && decide (y2 < (x.2.length : Int)) then
        ((F42 (x.2.getD y2.toNat tValue.dflt)).bind fun r3 =>
          bif r3 != (0 : Int) then
            (some r3)
          else
            (bif decide (0 ≤ y2) && decide (y2 < (x.2.length : Int)) then
              (bif bif ((x.2.getD y2.toNat tValue.dflt).1 == (0 : Int)) then (!(x.1.2.1.getD y2.toNat tColumn.dflt).2.2.1) else false then
                (some (35 : Int))
              else
                (bif !((x.2.getD y2.toNat tValue.dflt).1 == (0 : Int)) then
                  (bif decide (0 ≤ y2) && decide (y2 < (x.2.length : Int)) then
                    (bif (x.2.getD y2.toNat tValue.dflt).1 != (x.1.2.1.getD y2.toNat tColumn.dflt).2.1 then
                      (some (32 : Int))
                    else
                      (S2 (IntKind.wrap .i64 (y2 + (1 : Int)))))
                  else
                    (none))
                else
                  (S2 (IntKind.wrap .i64 (y2 + (1 : Int))))))
            else
              (none)))
      else
        (none))
    else
      (none))
  else
    (some (0 : Int))
set_option maxRecDepth 100000 in
theorem f14.k1 (n : Nat) (x : dTable × (List dValue)) (r1 : Int) (m : Nat) (y : Int) : f14.L1 n x r1 (m + 1) y = f14.s1 n x r1 (f14.L1 n x r1 m) y := by kernel_rfl
theorem f14.l1 (n : Nat) (x : dTable × (List dValue)) (r1 : Int) : ∀ (m : Nat) (y2 : Int), f14.L1 n x r1 m y2 = iter (f14.s1 n x r1) m y2 :=
  loop_of (L := f14.L1 n x r1) (step := f14.s1 n x r1) (fun _ => rfl) (f14.k1 n x r1)
def f14.g (n : Nat) (x : dTable × (List dValue)) : Option (Int) :=
  (F11 x.1).bind fun r1 =>
    bif r1 != (0 : Int) then
      (some r1)
    else
      (bif (x.2.length : Int) != (x.1.2.1.length : Int) then
        (some (1 : Int))
      else
        (iter (f14.s1 n x r1) n (0 : Int)))
def f14.q (n : Nat) (x : dTable × (List dValue)) : Option (Int) :=
  (F11 x.1).bind fun r1 =>
    bif r1 != (0 : Int) then
      (some r1)
    else
      (bif (x.2.length : Int) != (x.1.2.1.length : Int) then
        (some (1 : Int))
      else
        (f14.L1 n x r1 n (0 : Int)))
set_option maxRecDepth 100000 in
theorem f14.eq (n : Nat) (x : dTable × (List dValue)) : runK TT E14 n ann (tabC C14) 1 14 (argsL [(true, tTable), (false, .sl tValue)] x) [] (readL [(false, .int .i64)]) = f14.g n x := by
  have h : runK TT E14 n ann (tabC C14) 1 14 (argsL [(true, tTable), (false, .sl tValue)] x) [] (readL [(false, .int .i64)]) = f14.q n x := by kernel_rfl
  rw [h]
  simp only [f14.q, f14.g, f14.l1]
set_option maxRecDepth 100000 in
theorem f14.codes : CodesOk Tryz.prog E14 ann (tabC C14) := tabC_ok (by intro p hp; simp only [C14, List.mem_cons, List.not_mem_nil, or_false] at hp; rcases hp with rfl <;> first | exact Tryz.func14) (by kernel_rfl)
theorem f14.ok (h : ∀ X Y, F14 X = some Y → ∃ n, f14.g n X = some Y) (e11 : ConOk Tryz.prog 11 con11) (e42 : ConOk Tryz.prog 42 con42) : ConOk Tryz.prog 14 (mkCon [(true, tTable), (false, .sl tValue)] [(false, .int .i64)] true F14) :=
  mkCon_ok mixed TT_ok (envC_ok e42 (envC_ok e11 env0_ok)) f14.codes (fun _ => List.all_eq_true.1 rfl) fun X Y hF => (h X Y hF).imp fun n hn => (f14.eq n X).trans hn
def con14 : Con := mkCon [(true, tTable), (false, .sl tValue)] [(false, .int .i64)] true F14
/-! ### vellum/vellumref03.Admits -/
def E16 : FuncId → Option Con := (envC 43 con43 (envC 13 con13 env0))
noncomputable def C16 : List (FuncId × Func) := [(16, Tryz.f16)]
def f16.h1 (x : dTable × (List dValue)) (r1 : Int) (y2 : Int) : List AV × List Ob := ([.undef, .val false [.sc (.sl tValue) x.2], .val false [.ptr 0 0], .undef, .undef, .undef, .val false [.sc (.int .i64) y2]] ++ List.replicate 51 .undef, [.box [.sc .str x.1.1, .sc (.sl tColumn) x.1.2.1, .sc (.sl (.int .i64)) x.1.2.2.1, .sc (.sl tIndex) x.1.2.2.2.1, .sc (.sl tRef) x.1.2.2.2.2]])
def f16.L1 (n : Nat) (x : dTable × (List dValue)) (r1 : Int) (m2 : Nat) (y2 : Int) : Option (Int) :=
  loopN (ann 16 7).keep 1 (fun fr H k => execK TT 0 E16 (inlD TT E16 n ann (tabC C16) 1) n (ann 16) (subC [1, 1, 1, 0, 1, 0, 0] (bodyOf Tryz.f16)) fr H k) m2 (f16.h1 x r1 y2).1 (f16.h1 x r1 y2).2 (kont TT 0 E16 (inlD TT E16 n ann (tabC C16) 1) n (ann 16) [1, 1, 1, 0, 1, 0] (bodyOf Tryz.f16) (endK TT Tryz.f16 (readL [(false, .int .i64)])))
def f16.s1 (n : Nat) (x : dTable × (List dValue)) (r1 : Int) (S2 : Int → Option (Int)) (y2 : Int) : Option (Int) :=
  bif decide (y2 < (x.2.length : Int)) then
    (bif decide (0 ≤ y2) && decide (y2 < (x.2.length : Int)) then
      ((F43 (x.2.getD y2.toNat tValue.dflt)).bind fun r3 =>
        bif r3 != (0 : Int) then
          (some r3)
        else
          (bif decide (0 ≤ y2) && decide (y2 < (x.2.length : Int)) then
            (bif (x.2.getD y2.toNat tValue.dflt).1 == (0 : Int) then
              (bif decide (0 ≤ y2) && decide (y2 < (x.1.2.1.length : Int)) then
                (bif !(x.1.2.1.getD y2.toNat tColumn.dflt).2.2.1 then
                  (some (35 : Int))
                else
                  (S2 (IntKind.wrap .i64 (y2 + (1 : Int)))))
              else
                (none))
            else
              (bif decide (0 ≤ y2) && decide (y2 < (x.2.length : Int)) then
                (bif decide (0 ≤ y2) && decide (y2 < (x.1.2.1.length : Int)) then
                  (bif (x.2.getD y2.toNat tValue.dflt).1 != (x.1.2.1.getD y2.toNat tColumn.dflt).2.1 then
                    (some (32 : Int))
                  else
                    (S2 (IntKind.wrap .i64 (y2 + (1 : Int)))))
                else
                  (none))
              else
                (none)))
          else
            (none)))
    else
      (none))
  else
    (some (0 : Int))
set_option maxRecDepth 100000 in
theorem f16.k1 (n : Nat) (x : dTable × (List dValue)) (r1 : Int) (m : Nat) (y : Int) : f16.L1 n x r1 (m + 1) y = f16.s1 n x r1 (f16.L1 n x r1 m) y := by kernel_rfl
theorem f16.l1 (n : Nat) (x : dTable × (List dValue)) (r1 : Int) : ∀ (m : Nat) (y2 : Int), f16.L1 n x r1 m y2 = iter (f16.s1 n x r1) m y2 :=
  loop_of (L := f16.L1 n x r1) (step := f16.s1 n x r1) (fun _ => rfl) (f16.k1 n x r1)
def f16.g (n : Nat) (x : dTable × (List dValue)) : Option (Int) :=
  (F13 x.1).bind fun r1 =>
    bif r1 != (0 : Int) then
      (some r1)
    else
      (bif (x.2.length : Int) != (x.1.2.1.length : Int) then
        (some (1 : Int))
      else
        (iter (f16.s1 n x r1) n (0 : Int)))
def f16.q (n : Nat) (x : dTable × (List dValue)) : Option (Int) :=
  (F13 x.1).bind fun r1 =>
    bif r1 != (0 : Int) then
      (some r1)
    else
      (bif (x.2.length : Int) != (x.1.2.1.length : Int) then
        (some (1 : Int))
      else
        (f16.L1 n x r1 n (0 : Int)))
set_option maxRecDepth 100000 in
theorem f16.eq (n : Nat) (x : dTable × (List dValue)) : runK TT E16 n ann (tabC C16) 1 16 (argsL [(true, tTable), (false, .sl tValue)] x) [] (readL [(false, .int .i64)]) = f16.g n x := by
  have h : runK TT E16 n ann (tabC C16) 1 16 (argsL [(true, tTable), (false, .sl tValue)] x) [] (readL [(false, .int .i64)]) = f16.q n x := by kernel_rfl
  rw [h]
  simp only [f16.q, f16.g, f16.l1]
set_option maxRecDepth 100000 in
theorem f16.codes : CodesOk Tryz.prog E16 ann (tabC C16) := tabC_ok (by intro p hp; simp only [C16, List.mem_cons, List.not_mem_nil, or_false] at hp; rcases hp with rfl <;> first | exact Tryz.func16) (by kernel_rfl)
theorem f16.ok (h : ∀ X Y, F16 X = some Y → ∃ n, f16.g n X = some Y) (e13 : ConOk Tryz.prog 13 con13) (e43 : ConOk Tryz.prog 43 con43) : ConOk Tryz.prog 16 (mkCon [(true, tTable), (false, .sl tValue)] [(false, .int .i64)] true F16) :=
  mkCon_ok mixed TT_ok (envC_ok e43 (envC_ok e13 env0_ok)) f16.codes (fun _ => List.all_eq_true.1 rfl) fun X Y hF => (h X Y hF).imp fun n hn => (f16.eq n X).trans hn
def con16 : Con := mkCon [(true, tTable), (false, .sl tValue)] [(false, .int .i64)] true F16
/-! ### vellum/vellumref01.Row -/
def E15 : FuncId → Option Con := env0
noncomputable def C15 : List (FuncId × Func) := [(15, Tryz.f15)]
def f15.h1 (x : (List dValue)) (y1 : Nat × Int × (List dValue)) : List AV × List Ob := ([.val false [.sc (.sl tValue) x], .undef, .undef, .val false [.own 0 y1.1], .val false [.sc (.int .i64) y1.2.1]] ++ List.replicate 15 .undef, [.arr 54 tValue y1.2.2])
def f15.L1 (n : Nat) (x : (List dValue)) (m1 : Nat) (y1 : Nat × Int × (List dValue)) : Option ((List dValue)) :=
  loopN (ann 15 3).keep 1 (fun fr H k => execK TT 0 E15 (inlD TT E15 n ann (tabC C15) 1) n (ann 15) (subC [1, 1, 0, 1, 0, 0] (bodyOf Tryz.f15)) fr H k) m1 (f15.h1 x y1).1 (f15.h1 x y1).2 (kont TT 0 E15 (inlD TT E15 n ann (tabC C15) 1) n (ann 15) [1, 1, 0, 1, 0] (bodyOf Tryz.f15) (endK TT Tryz.f15 (readL [(false, .sl tValue)])))
def f15.s1 (n : Nat) (x : (List dValue)) (S1 : (Nat × Int × (List dValue)) → Option ((List dValue))) (y1 : Nat × Int × (List dValue)) : Option ((List dValue)) :=
  bif decide (y1.2.1 < (x.length : Int)) then
    (bif decide (0 ≤ y1.2.1) && decide (y1.2.1 < (x.length : Int)) then
      (bif decide ((y1.1 + 1) * 40 ≤ boundN) then
        (S1 (y1.1 + 1, (IntKind.wrap .i64 (y1.2.1 + (1 : Int)), List.take y1.1 y1.2.2 ++ ([x.getD y1.2.1.toNat tValue.dflt]))))
      else
        (none))
    else
      (none))
  else
    (some (List.take y1.1 y1.2.2))
set_option maxRecDepth 100000 in
theorem f15.k1 (n : Nat) (x : (List dValue)) (m : Nat) (y : Nat × Int × (List dValue)) : f15.L1 n x (m + 1) y = f15.s1 n x (f15.L1 n x m) y := by kernel_rfl
theorem f15.l1 (n : Nat) (x : (List dValue)) : ∀ (m : Nat) (y1 : Nat × Int × (List dValue)), f15.L1 n x m y1 = iter (f15.s1 n x) m y1 :=
  loop_of (L := f15.L1 n x) (step := f15.s1 n x) (fun _ => rfl) (f15.k1 n x)
def f15.g (n : Nat) (x : (List dValue)) : Option ((List dValue)) :=
  iter (f15.s1 n x) n (0, ((0 : Int), []))
def f15.q (n : Nat) (x : (List dValue)) : Option ((List dValue)) :=
  f15.L1 n x n (0, ((0 : Int), []))
set_option maxRecDepth 100000 in
theorem f15.eq (n : Nat) (x : (List dValue)) : runK TT E15 n ann (tabC C15) 1 15 (argsL [(false, .sl tValue)] x) [] (readL [(false, .sl tValue)]) = f15.g n x := by
  have h : runK TT E15 n ann (tabC C15) 1 15 (argsL [(false, .sl tValue)] x) [] (readL [(false, .sl tValue)]) = f15.q n x := by kernel_rfl
  rw [h]
  simp only [f15.q, f15.g, f15.l1]
set_option maxRecDepth 100000 in
theorem f15.codes : CodesOk Tryz.prog E15 ann (tabC C15) := tabC_ok (by intro p hp; simp only [C15, List.mem_cons, List.not_mem_nil, or_false] at hp; rcases hp with rfl <;> first | exact Tryz.func15) (by kernel_rfl)
theorem f15.ok (h : ∀ X Y, F15 X = some Y → ∃ n, f15.g n X = some Y)  : ConOk Tryz.prog 15 (mkCon [(false, .sl tValue)] [(false, .sl tValue)] false F15) :=
  mkCon_ok mixed TT_ok env0_ok f15.codes (fun h => by cases h) fun X Y hF => (h X Y hF).imp fun n hn => (f15.eq n X).trans hn
def con15 : Con := mkCon [(false, .sl tValue)] [(false, .sl tValue)] false F15
/-! ### vellum/vellumref01.Same -/
def E44 : FuncId → Option Con := (envC 56 con56 env0)
noncomputable def C44 : List (FuncId × Func) := [(44, Tryz.f44)]
def f44.g (n : Nat) (x : dValue × dValue) : Option (Bool) :=
  bif bif (x.1.1 == x.2.1) then (x.1.2.1 == x.2.2.1) else false then
    ((F56 x.1.2.2.1).bind fun r1 =>
      (F56 x.2.2.2.1).bind fun r2 =>
        some (bif (r1 == r2) then (strEq x.1.2.2.2 x.2.2.2.2) else false))
  else
    (some false)
set_option maxRecDepth 100000 in
theorem f44.eq (n : Nat) (x : dValue × dValue) : runK TT E44 n ann (tabC C44) 1 44 (argsL [(true, tValue), (true, tValue)] x) [] (readL [(false, .bool)]) = f44.g n x := by
  kernel_rfl
set_option maxRecDepth 100000 in
theorem f44.codes : CodesOk Tryz.prog E44 ann (tabC C44) := tabC_ok (by intro p hp; simp only [C44, List.mem_cons, List.not_mem_nil, or_false] at hp; rcases hp with rfl <;> first | exact Tryz.func44) (by kernel_rfl)
theorem f44.ok (h : ∀ X Y, F44 X = some Y → ∃ n, f44.g n X = some Y) (e56 : ConOk Tryz.prog 56 con56) : ConOk Tryz.prog 44 (mkCon [(true, tValue), (true, tValue)] [(false, .bool)] true F44) :=
  mkCon_ok mixed TT_ok (envC_ok e56 env0_ok) f44.codes (fun _ => List.all_eq_true.1 rfl) fun X Y hF => (h X Y hF).imp fun n hn => (f44.eq n X).trans hn
def con44 : Con := mkCon [(true, tValue), (true, tValue)] [(false, .bool)] true F44
/-! ### vellum/vellumref01.SameRow -/
def E19 : FuncId → Option Con := (envC 44 con44 env0)
noncomputable def C19 : List (FuncId × Func) := [(19, Tryz.f19)]
def f19.h1 (x : (List dValue) × (List dValue)) (y1 : Int) : List AV × List Ob := ([.val false [.sc (.sl tValue) x.1], .val false [.sc (.sl tValue) x.2], .undef, .undef, .undef, .val false [.sc (.int .i64) y1]] ++ List.replicate 21 .undef, [])
def f19.L1 (n : Nat) (x : (List dValue) × (List dValue)) (m1 : Nat) (y1 : Int) : Option (Bool) :=
  loopN (ann 19 4).keep 0 (fun fr H k => execK TT 0 E19 (inlD TT E19 n ann (tabC C19) 1) n (ann 19) (subC [1, 1, 0, 1, 0, 0] (bodyOf Tryz.f19)) fr H k) m1 (f19.h1 x y1).1 (f19.h1 x y1).2 (kont TT 0 E19 (inlD TT E19 n ann (tabC C19) 1) n (ann 19) [1, 1, 0, 1, 0] (bodyOf Tryz.f19) (endK TT Tryz.f19 (readL [(false, .bool)])))
def f19.s1 (n : Nat) (x : (List dValue) × (List dValue)) (S1 : Int → Option (Bool)) (y1 : Int) : Option (Bool) :=
  bif decide (y1 < (x.1.length : Int)) then
    (bif decide (0 ≤ y1) && decide (y1 < (x.1.length : Int)) then
      (bif decide (0 ≤ y1) && decide (y1 < (x.2.length : Int)) then
        ((F44 (x.1.getD y1.toNat tValue.dflt, x.2.getD y1.toNat tValue.dflt)).bind fun r2 =>
          bif !r2 then
            (some false)
          else
            (S1 (IntKind.wrap .i64 (y1 + (1 : Int)))))
      else
        (none))
    else
      (none))
  else
    (some true)
set_option maxRecDepth 100000 in
theorem f19.k1 (n : Nat) (x : (List dValue) × (List dValue)) (m : Nat) (y : Int) : f19.L1 n x (m + 1) y = f19.s1 n x (f19.L1 n x m) y := by kernel_rfl
theorem f19.l1 (n : Nat) (x : (List dValue) × (List dValue)) : ∀ (m : Nat) (y1 : Int), f19.L1 n x m y1 = iter (f19.s1 n x) m y1 :=
  loop_of (L := f19.L1 n x) (step := f19.s1 n x) (fun _ => rfl) (f19.k1 n x)
def f19.g (n : Nat) (x : (List dValue) × (List dValue)) : Option (Bool) :=
  bif (x.1.length : Int) != (x.2.length : Int) then
    (some false)
  else
    (iter (f19.s1 n x) n (0 : Int))
def f19.q (n : Nat) (x : (List dValue) × (List dValue)) : Option (Bool) :=
  bif (x.1.length : Int) != (x.2.length : Int) then
    (some false)
  else
    (f19.L1 n x n (0 : Int))
set_option maxRecDepth 100000 in
theorem f19.eq (n : Nat) (x : (List dValue) × (List dValue)) : runK TT E19 n ann (tabC C19) 1 19 (argsL [(false, .sl tValue), (false, .sl tValue)] x) [] (readL [(false, .bool)]) = f19.g n x := by
  have h : runK TT E19 n ann (tabC C19) 1 19 (argsL [(false, .sl tValue), (false, .sl tValue)] x) [] (readL [(false, .bool)]) = f19.q n x := by kernel_rfl
  rw [h]
  simp only [f19.q, f19.g, f19.l1]
set_option maxRecDepth 100000 in
theorem f19.codes : CodesOk Tryz.prog E19 ann (tabC C19) := tabC_ok (by intro p hp; simp only [C19, List.mem_cons, List.not_mem_nil, or_false] at hp; rcases hp with rfl <;> first | exact Tryz.func19) (by kernel_rfl)
theorem f19.ok (h : ∀ X Y, F19 X = some Y → ∃ n, f19.g n X = some Y) (e44 : ConOk Tryz.prog 44 con44) : ConOk Tryz.prog 19 (mkCon [(false, .sl tValue), (false, .sl tValue)] [(false, .bool)] true F19) :=
  mkCon_ok mixed TT_ok (envC_ok e44 env0_ok) f19.codes (fun _ => List.all_eq_true.1 rfl) fun X Y hF => (h X Y hF).imp fun n hn => (f19.eq n X).trans hn
def con19 : Con := mkCon [(false, .sl tValue), (false, .sl tValue)] [(false, .bool)] true F19
/-! ### vellum/schema.Fill -/
def E17 : FuncId → Option Con := (envC 33 con33 (envC 14 con14 (envC 11 con11 env0)))
noncomputable def C17 : List (FuncId × Func) := [(17, Tryz.f17)]
def f17.h1 (x : dTable × (List Int) × (List dValue)) (r1 : Int) (r2 : Bool) (y3 : Int × (List dValue)) (y4 : Int × (List dValue)) : List AV × List Ob := ([.undef, .undef, .val false [.sc (.sl tValue) x.2.2], .val false [.ptr 0 0], .undef, .undef, .undef, .undef, .undef, .val false [.own 1 ((x.1.2.1.length : Int).toNat)], .undef, .undef, .undef, .undef, .undef, .undef, .undef, .undef, .undef, .undef, .undef, .undef, .undef, .undef, .undef, .undef, .undef, .undef, .undef, .undef, .undef, .undef, .undef, .undef, .undef, .undef, .undef, .undef, .undef, .undef, .undef, .undef, .undef, .undef, .undef, .undef, .undef, .undef, .undef, .undef, .undef, .undef, .undef, .undef, .val false [.sc (.sl (.int .i64)) x.2.1], .val false [.sc (.int .i64) (x.2.1.length : Int)], .val false [.sc (.int .i64) y4.1]] ++ List.replicate 19 .undef, [.box [.sc .str x.1.1, .sc (.sl tColumn) x.1.2.1, .sc (.sl (.int .i64)) x.1.2.2.1, .sc (.sl tIndex) x.1.2.2.2.1, .sc (.sl tRef) x.1.2.2.2.2], .arr 54 tValue y4.2])
def f17.h2 (x : dTable × (List Int) × (List dValue)) (r1 : Int) (r2 : Bool) (y3 : Int × (List dValue)) : List AV × List Ob := ([.undef, .val false [.sc (.sl (.int .i64)) x.2.1], .val false [.sc (.sl tValue) x.2.2], .val false [.ptr 0 0], .undef, .undef, .undef, .undef, .undef, .val false [.own 1 ((x.1.2.1.length : Int).toNat)], .undef, .undef, .undef, .undef, .undef, .undef, .undef, .undef, .undef, .undef, .undef, .undef, .undef, .undef, .undef, .undef, .undef, .undef, .undef, .undef, .undef, .undef, .undef, .undef, .undef, .undef, .undef, .undef, .undef, .undef, .undef, .val false [.sc (.sl tColumn) x.1.2.1], .val false [.sc (.int .i64) (x.1.2.1.length : Int)], .val false [.sc (.int .i64) y3.1]] ++ List.replicate 32 .undef, [.box [.sc .str x.1.1, .sc (.sl tColumn) x.1.2.1, .sc (.sl (.int .i64)) x.1.2.2.1, .sc (.sl tIndex) x.1.2.2.2.1, .sc (.sl tRef) x.1.2.2.2.2], .arr 54 tValue y3.2])
def f17.h3 (x : dTable × (List Int) × (List dValue)) (r1 : Int) (y6 : Int × (List dValue)) (y7 : Int × (List dValue)) : List AV × List Ob := ([.undef, .undef, .val false [.sc (.sl tValue) x.2.2], .val false [.ptr 0 0], .undef, .undef, .undef, .undef, .undef, .val false [.own 1 ((x.1.2.1.length : Int).toNat)], .undef, .undef, .undef, .undef, .undef, .undef, .undef, .undef, .undef, .undef, .undef, .undef, .undef, .undef, .undef, .undef, .undef, .undef, .undef, .undef, .undef, .undef, .undef, .undef, .undef, .undef, .undef, .undef, .undef, .undef, .undef, .undef, .undef, .undef, .undef, .undef, .undef, .undef, .undef, .undef, .undef, .undef, .undef, .undef, .val false [.sc (.sl (.int .i64)) x.2.1], .val false [.sc (.int .i64) (x.2.1.length : Int)], .val false [.sc (.int .i64) y7.1]] ++ List.replicate 19 .undef, [.box [.sc .str x.1.1, .sc (.sl tColumn) x.1.2.1, .sc (.sl (.int .i64)) x.1.2.2.1, .sc (.sl tIndex) x.1.2.2.2.1, .sc (.sl tRef) x.1.2.2.2.2], .arr 54 tValue y7.2])
def f17.h4 (x : dTable × (List Int) × (List dValue)) (r1 : Int) (y6 : Int × (List dValue)) : List AV × List Ob := ([.undef, .val false [.sc (.sl (.int .i64)) x.2.1], .val false [.sc (.sl tValue) x.2.2], .val false [.ptr 0 0], .undef, .undef, .undef, .undef, .undef, .val false [.own 1 ((x.1.2.1.length : Int).toNat)], .undef, .undef, .undef, .undef, .undef, .undef, .undef, .undef, .undef, .undef, .undef, .undef, .undef, .undef, .undef, .undef, .undef, .undef, .undef, .undef, .undef, .undef, .undef, .undef, .undef, .undef, .undef, .undef, .undef, .undef, .undef, .val false [.sc (.sl tColumn) x.1.2.1], .val false [.sc (.int .i64) (x.1.2.1.length : Int)], .val false [.sc (.int .i64) y6.1]] ++ List.replicate 32 .undef, [.box [.sc .str x.1.1, .sc (.sl tColumn) x.1.2.1, .sc (.sl (.int .i64)) x.1.2.2.1, .sc (.sl tIndex) x.1.2.2.2.1, .sc (.sl tRef) x.1.2.2.2.2], .arr 54 tValue y6.2])
def f17.L1 (n : Nat) (x : dTable × (List Int) × (List dValue)) (r1 : Int) (r2 : Bool) (y3 : Int × (List dValue)) (m4 : Nat) (y4 : Int × (List dValue)) : Option ((List dValue) × Int) :=
  loopN (ann 17 13).keep 2 (fun fr H k => execK TT 0 E17 (inlD TT E17 n ann (tabC C17) 1) n (ann 17) (subC [1, 1, 1, 1, 1, 0, 1, 0, 0] (bodyOf Tryz.f17)) fr H k) m4 (f17.h1 x r1 r2 y3 y4).1 (f17.h1 x r1 r2 y3 y4).2 (kont TT 0 E17 (inlD TT E17 n ann (tabC C17) 1) n (ann 17) [1, 1, 1, 1, 1, 0, 1, 0] (bodyOf Tryz.f17) (endK TT Tryz.f17 (readL [(false, .sl tValue), (false, .int .i64)])))
def f17.L2 (n : Nat) (x : dTable × (List Int) × (List dValue)) (r1 : Int) (r2 : Bool) (m3 : Nat) (y3 : Int × (List dValue)) : Option ((List dValue) × Int) :=
  loopN (ann 17 8).keep 2 (fun fr H k => execK TT 0 E17 (inlD TT E17 n ann (tabC C17) 1) n (ann 17) (subC [1, 1, 1, 1, 0, 1, 0, 0] (bodyOf Tryz.f17)) fr H k) m3 (f17.h2 x r1 r2 y3).1 (f17.h2 x r1 r2 y3).2 (kont TT 0 E17 (inlD TT E17 n ann (tabC C17) 1) n (ann 17) [1, 1, 1, 1, 0, 1, 0] (bodyOf Tryz.f17) (endK TT Tryz.f17 (readL [(false, .sl tValue), (false, .int .i64)])))
def f17.L3 (n : Nat) (x : dTable × (List Int) × (List dValue)) (r1 : Int) (y6 : Int × (List dValue)) (m7 : Nat) (y7 : Int × (List dValue)) : Option ((List dValue) × Int) :=
  loopN (ann 17 13).keep 2 (fun fr H k => execK TT 0 E17 (inlD TT E17 n ann (tabC C17) 1) n (ann 17) (subC [1, 1, 1, 1, 1, 0, 1, 0, 0] (bodyOf Tryz.f17)) fr H k) m7 (f17.h3 x r1 y6 y7).1 (f17.h3 x r1 y6 y7).2 (kont TT 0 E17 (inlD TT E17 n ann (tabC C17) 1) n (ann 17) [1, 1, 1, 1, 1, 0, 1, 0] (bodyOf Tryz.f17) (endK TT Tryz.f17 (readL [(false, .sl tValue), (false, .int .i64)])))
def f17.L4 (n : Nat) (x : dTable × (List Int) × (List dValue)) (r1 : Int) (m6 : Nat) (y6 : Int × (List dValue)) : Option ((List dValue) × Int) :=
  loopN (ann 17 8).keep 2 (fun fr H k => execK TT 0 E17 (inlD TT E17 n ann (tabC C17) 1) n (ann 17) (subC [1, 1, 1, 1, 0, 1, 0, 0] (bodyOf Tryz.f17)) fr H k) m6 (f17.h4 x r1 y6).1 (f17.h4 x r1 y6).2 (kont TT 0 E17 (inlD TT E17 n ann (tabC C17) 1) n (ann 17) [1, 1, 1, 1, 0, 1, 0] (bodyOf Tryz.f17) (endK TT Tryz.f17 (readL [(false, .sl tValue), (false, .int .i64)])))
def f17.s1 (n : Nat) (x : dTable × (List Int) × (List dValue)) (r1 : Int) (r2 : Bool) (y3 : Int × (List dValue)) (S4 : (Int × (List dValue)) → Option ((List dValue) × Int)) (y4 : Int × (List dValue)) : Option ((List dValue) × Int) :=
  bif decide (y4.1 < (x.2.1.length : Int)) then
    (bif decide (0 ≤ y4.1) && decide (y4.1 < (x.2.1.length : Int)) then
      (bif decide (0 ≤ y4.1) && decide (y4.1 < (x.2.2.length : Int)) then
        (bif decide (0 ≤ x.2.1.getD y4.1.toNat (Ty.dflt (.int .i64))) && decide (x.2.1.getD y4.1.toNat (Ty.dflt (.int .i64)) < (((x.1.2.1.length : Int).toNat : Nat) : Int)) then
          (S4 (IntKind.wrap .i64 (y4.1 + (1 : Int)), List.set y4.2 ((x.2.1.getD y4.1.toNat (Ty.dflt (.int .i64))).toNat) (x.2.2.getD y4.1.toNat tValue.dflt)))
        else
          (none))
      else
        (none))
    else
      (none))
  else
    ((F14 (x.1, List.take ((x.1.2.1.length : Int).toNat) y4.2)).bind fun r5 =>
      bif r5 != (0 : Int) then
        (some ([], r5))
      else
        (some (List.take ((x.1.2.1.length : Int).toNat) y4.2, (0 : Int))))
set_option maxRecDepth 100000 in
theorem f17.k1 (n : Nat) (x : dTable × (List Int) × (List dValue)) (r1 : Int) (r2 : Bool) (y3 : Int × (List dValue)) (m : Nat) (y : Int × (List dValue)) : f17.L1 n x r1 r2 y3 (m + 1) y = f17.s1 n x r1 r2 y3 (f17.L1 n x r1 r2 y3 m) y := by kernel_rfl
theorem f17.l1 (n : Nat) (x : dTable × (List Int) × (List dValue)) (r1 : Int) (r2 : Bool) (y3 : Int × (List dValue)) : ∀ (m : Nat) (y4 : Int × (List dValue)), f17.L1 n x r1 r2 y3 m y4 = iter (f17.s1 n x r1 r2 y3) m y4 :=
  loop_of (L := f17.L1 n x r1 r2 y3) (step := f17.s1 n x r1 r2 y3) (fun _ => rfl) (f17.k1 n x r1 r2 y3)
def f17.s2 (n : Nat) (x : dTable × (List Int) × (List dValue)) (r1 : Int) (r2 : Bool) (S3 : (Int × (List dValue)) → Option ((List dValue) × Int)) (y3 : Int × (List dValue)) : Option ((List dValue) × Int) :=
  bif decide (y3.1 < (x.1.2.1.length : Int)) then
    (bif decide (0 ≤ y3.1) && decide (y3.1 < (x.1.2.1.length : Int)) then
      (bif decide (0 ≤ y3.1) && decide (y3.1 < (((x.1.2.1.length : Int).toNat : Nat) : Int)) then
        (S3 (IntKind.wrap .i64 (y3.1 + (1 : Int)), List.set y3.2 y3.1.toNat (x.1.2.1.getD y3.1.toNat tColumn.dflt).2.2.2))
      else
        (none))
    else
      (none))
  else
    (iter (f17.s1 n x r1 r2 y3) n ((0 : Int), y3.2))
def f17.r2 (n : Nat) (x : dTable × (List Int) × (List dValue)) (r1 : Int) (r2 : Bool) (m3 : Nat) (S3 : (Int × (List dValue)) → Option ((List dValue) × Int)) (y3 : Int × (List dValue)) : Option ((List dValue) × Int) :=
  bif decide (y3.1 < (x.1.2.1.length : Int)) then
    (bif decide (0 ≤ y3.1) && decide (y3.1 < (x.1.2.1.length : Int)) then
      (bif decide (0 ≤ y3.1) && decide (y3.1 < (((x.1.2.1.length : Int).toNat : Nat) : Int)) then
        (S3 (IntKind.wrap .i64 (y3.1 + (1 : Int)), List.set y3.2 y3.1.toNat (x.1.2.1.getD y3.1.toNat tColumn.dflt).2.2.2))
      else
        (none))
    else
      (none))
  else
    (f17.L1 n x r1 r2 y3 n ((0 : Int), y3.2))
set_option maxRecDepth 100000 in
theorem f17.k2 (n : Nat) (x : dTable × (List Int) × (List dValue)) (r1 : Int) (r2 : Bool) (m : Nat) (y : Int × (List dValue)) : f17.L2 n x r1 r2 (m + 1) y = f17.s2 n x r1 r2 (f17.L2 n x r1 r2 m) y := by
  have h : f17.L2 n x r1 r2 (m + 1) y = f17.r2 n x r1 r2 m (f17.L2 n x r1 r2 m) y := by kernel_rfl
  rw [h]
  simp only [f17.r2, f17.s2, f17.l1]
theorem f17.l2 (n : Nat) (x : dTable × (List Int) × (List dValue)) (r1 : Int) (r2 : Bool) : ∀ (m : Nat) (y3 : Int × (List dValue)), f17.L2 n x r1 r2 m y3 = iter (f17.s2 n x r1 r2) m y3 :=
  loop_of (L := f17.L2 n x r1 r2) (step := f17.s2 n x r1 r2) (fun _ => rfl) (f17.k2 n x r1 r2)
def f17.s3 (n : Nat) (x : dTable × (List Int) × (List dValue)) (r1 : Int) (y6 : Int × (List dValue)) (S7 : (Int × (List dValue)) → Option ((List dValue) × Int)) (y7 : Int × (List dValue)) : Option ((List dValue) × Int) :=
  bif decide (y7.1 < (x.2.1.length : Int)) then
    (bif decide (0 ≤ y7.1) && decide (y7.1 < (x.2.1.length : Int)) then
      (bif decide (0 ≤ y7.1) && decide (y7.1 < (x.2.2.length : Int)) then
        (bif decide (0 ≤ x.2.1.getD y7.1.toNat (Ty.dflt (.int .i64))) && decide (x.2.1.getD y7.1.toNat (Ty.dflt (.int .i64)) < (((x.1.2.1.length : Int).toNat : Nat) : Int)) then
          (S7 (IntKind.wrap .i64 (y7.1 + (1 : Int)), List.set y7.2 ((x.2.1.getD y7.1.toNat (Ty.dflt (.int .i64))).toNat) (x.2.2.getD y7.1.toNat tValue.dflt)))
        else
          (none))
      else
        (none))
    else
      (none))
  else
    ((F14 (x.1, List.take ((x.1.2.1.length : Int).toNat) y7.2)).bind fun r8 =>
      bif r8 != (0 : Int) then
        (some ([], r8))
      else
        (some (List.take ((x.1.2.1.length : Int).toNat) y7.2, (0 : Int))))
set_option maxRecDepth 100000 in
theorem f17.k3 (n : Nat) (x : dTable × (List Int) × (List dValue)) (r1 : Int) (y6 : Int × (List dValue)) (m : Nat) (y : Int × (List dValue)) : f17.L3 n x r1 y6 (m + 1) y = f17.s3 n x r1 y6 (f17.L3 n x r1 y6 m) y := by kernel_rfl
theorem f17.l3 (n : Nat) (x : dTable × (List Int) × (List dValue)) (r1 : Int) (y6 : Int × (List dValue)) : ∀ (m : Nat) (y7 : Int × (List dValue)), f17.L3 n x r1 y6 m y7 = iter (f17.s3 n x r1 y6) m y7 :=
  loop_of (L := f17.L3 n x r1 y6) (step := f17.s3 n x r1 y6) (fun _ => rfl) (f17.k3 n x r1 y6)
def f17.s4 (n : Nat) (x : dTable × (List Int) × (List dValue)) (r1 : Int) (S6 : (Int × (List dValue)) → Option ((List dValue) × Int)) (y6 : Int × (List dValue)) : Option ((List dValue) × Int) :=
  bif decide (y6.1 < (x.1.2.1.length : Int)) then
    (bif decide (0 ≤ y6.1) && decide (y6.1 < (x.1.2.1.length : Int)) then
      (bif decide (0 ≤ y6.1) && decide (y6.1 < (((x.1.2.1.length : Int).toNat : Nat) : Int)) then
        (S6 (IntKind.wrap .i64 (y6.1 + (1 : Int)), List.set y6.2 y6.1.toNat (x.1.2.1.getD y6.1.toNat tColumn.dflt).2.2.2))
      else
        (none))
    else
      (none))
  else
    (iter (f17.s3 n x r1 y6) n ((0 : Int), y6.2))
def f17.r4 (n : Nat) (x : dTable × (List Int) × (List dValue)) (r1 : Int) (m6 : Nat) (S6 : (Int × (List dValue)) → Option ((List dValue) × Int)) (y6 : Int × (List dValue)) : Option ((List dValue) × Int) :=
  bif decide (y6.1 < (x.1.2.1.length : Int)) then
    (bif decide (0 ≤ y6.1) && decide (y6.1 < (x.1.2.1.length : Int)) then
      (bif decide (0 ≤ y6.1) && decide (y6.1 < (((x.1.2.1.length : Int).toNat : Nat) : Int)) then
        (S6 (IntKind.wrap .i64 (y6.1 + (1 : Int)), List.set y6.2 y6.1.toNat (x.1.2.1.getD y6.1.toNat tColumn.dflt).2.2.2))
      else
        (none))
    else
      (none))
  else
    (f17.L3 n x r1 y6 n ((0 : Int), y6.2))
set_option maxRecDepth 100000 in
theorem f17.k4 (n : Nat) (x : dTable × (List Int) × (List dValue)) (r1 : Int) (m : Nat) (y : Int × (List dValue)) : f17.L4 n x r1 (m + 1) y = f17.s4 n x r1 (f17.L4 n x r1 m) y := by
  have h : f17.L4 n x r1 (m + 1) y = f17.r4 n x r1 m (f17.L4 n x r1 m) y := by kernel_rfl
  rw [h]
  simp only [f17.r4, f17.s4, f17.l1, f17.l2, f17.l3]
theorem f17.l4 (n : Nat) (x : dTable × (List Int) × (List dValue)) (r1 : Int) : ∀ (m : Nat) (y6 : Int × (List dValue)), f17.L4 n x r1 m y6 = iter (f17.s4 n x r1) m y6 :=
  loop_of (L := f17.L4 n x r1) (step := f17.s4 n x r1) (fun _ => rfl) (f17.k4 n x r1)
def f17.g (n : Nat) (x : dTable × (List Int) × (List dValue)) : Option ((List dValue) × Int) :=
  (F11 x.1).bind fun r1 =>
    bif r1 != (0 : Int) then
      (some ([], r1))
    else
      (bif (x.2.1.length : Int) != (x.2.2.length : Int) then
        (some ([], (1 : Int)))
      else
        (bif decide ((x.2.1.length : Int) > (0 : Int)) then
          ((F33 (x.1, x.2.1)).bind fun r2 =>
            bif !r2 then
              (some ([], (1 : Int)))
            else
              (bif (decide ((x.1.2.1.length : Int) = (x.1.2.1.length : Int)) && decide (0 ≤ (x.1.2.1.length : Int))) && (decide ((x.1.2.1.length : Int).toNat * 40 ≤ boundN) && decide (0 < 40)) then
                (iter (f17.s2 n x r1 r2) n ((0 : Int), List.replicate ((x.1.2.1.length : Int).toNat) tValue.dflt))
              else
                (none)))
        else
          (bif (decide ((x.1.2.1.length : Int) = (x.1.2.1.length : Int)) && decide (0 ≤ (x.1.2.1.length : Int))) && (decide ((x.1.2.1.length : Int).toNat * 40 ≤ boundN) && decide (0 < 40)) then
            (iter (f17.s4 n x r1) n ((0 : Int), List.replicate ((x.1.2.1.length : Int).toNat) tValue.dflt))
          else
            (none))))
def f17.q (n : Nat) (x : dTable × (List Int) × (List dValue)) : Option ((List dValue) × Int) :=
  (F11 x.1).bind fun r1 =>
    bif r1 != (0 : Int) then
      (some ([], r1))
    else
      (bif (x.2.1.length : Int) != (x.2.2.length : Int) then
        (some ([], (1 : Int)))
      else
        (bif decide ((x.2.1.length : Int) > (0 : Int)) then
          ((F33 (x.1, x.2.1)).bind fun r2 =>
            bif !r2 then
              (some ([], (1 : Int)))
            else
              (bif (decide ((x.1.2.1.length : Int) = (x.1.2.1.length : Int)) && decide (0 ≤ (x.1.2.1.length : Int))) && (decide ((x.1.2.1.length : Int).toNat * 40 ≤ boundN) && decide (0 < 40)) then
                (f17.L2 n x r1 r2 n ((0 : Int), List.replicate ((x.1.2.1.length : Int).toNat) tValue.dflt))
              else
                (none)))
        else
          (bif (decide ((x.1.2.1.length : Int) = (x.1.2.1.length : Int)) && decide (0 ≤ (x.1.2.1.length : Int))) && (decide ((x.1.2.1.length : Int).toNat * 40 ≤ boundN) && decide (0 < 40)) then
            (f17.L4 n x r1 n ((0 : Int), List.replicate ((x.1.2.1.length : Int).toNat) tValue.dflt))
          else
            (none))))
set_option maxRecDepth 100000 in
theorem f17.eq (n : Nat) (x : dTable × (List Int) × (List dValue)) : runK TT E17 n ann (tabC C17) 1 17 (argsL [(true, tTable), (false, .sl (.int .i64)), (false, .sl tValue)] x) [] (readL [(false, .sl tValue), (false, .int .i64)]) = f17.g n x := by
  have h : runK TT E17 n ann (tabC C17) 1 17 (argsL [(true, tTable), (false, .sl (.int .i64)), (false, .sl tValue)] x) [] (readL [(false, .sl tValue), (false, .int .i64)]) = f17.q n x := by kernel_rfl
  rw [h]
  simp only [f17.q, f17.g, f17.l1, f17.l2, f17.l3, f17.l4]
set_option maxRecDepth 100000 in
theorem f17.codes : CodesOk Tryz.prog E17 ann (tabC C17) := tabC_ok (by intro p hp; simp only [C17, List.mem_cons, List.not_mem_nil, or_false] at hp; rcases hp with rfl <;> first | exact Tryz.func17) (by kernel_rfl)
theorem f17.ok (h : ∀ X Y, F17 X = some Y → ∃ n, f17.g n X = some Y) (e11 : ConOk Tryz.prog 11 con11) (e14 : ConOk Tryz.prog 14 con14) (e33 : ConOk Tryz.prog 33 con33) : ConOk Tryz.prog 17 (mkCon [(true, tTable), (false, .sl (.int .i64)), (false, .sl tValue)] [(false, .sl tValue), (false, .int .i64)] false F17) :=
  mkCon_ok mixed TT_ok (envC_ok e33 (envC_ok e14 (envC_ok e11 env0_ok))) f17.codes (fun h => by cases h) fun X Y hF => (h X Y hF).imp fun n hn => (f17.eq n X).trans hn
def con17 : Con := mkCon [(true, tTable), (false, .sl (.int .i64)), (false, .sl tValue)] [(false, .sl tValue), (false, .int .i64)] false F17
/-! ### vellum/vellumref03.Fill -/
def E18 : FuncId → Option Con := (envC 40 con40 (envC 16 con16 (envC 13 con13 env0)))
noncomputable def C18 : List (FuncId × Func) := [(18, Tryz.f18)]
def f18.h1 (x : dTable × (List Int) × (List dValue)) (r1 : Int) (r2 : Bool) (y3 : Nat × Int × (List dValue)) (y4 : Int × Int × Int × Nat × ByteArray) : List AV × List Ob := ([.undef, .val false [.sc (.sl (.int .i64)) x.2.1], .val false [.sc (.sl tValue) x.2.2], .val false [.ptr 0 0], .undef, .undef, .undef, .undef, .undef, .val false [.own 1 y3.1], .val false [.sc (.int .i64) y3.2.1], .val false [.ptr 2 0], .val false [.sc (.int .i64) y4.1]] ++ List.replicate 63 .undef, [.box [.sc .str x.1.1, .sc (.sl tColumn) x.1.2.1, .sc (.sl (.int .i64)) x.1.2.2.1, .sc (.sl tIndex) x.1.2.2.2.1, .sc (.sl tRef) x.1.2.2.2.2], .arr 54 tValue y3.2.2, .box [.sc (.int .i64) y4.2.1, .sc (.int .i64) y4.2.2.1, .sc (.float .f64) y4.2.2.2.1, .sc .str y4.2.2.2.2]])
def f18.h2 (x : dTable × (List Int) × (List dValue)) (r1 : Int) (r2 : Bool) (y3 : Nat × Int × (List dValue)) : List AV × List Ob := ([.undef, .val false [.sc (.sl (.int .i64)) x.2.1], .val false [.sc (.sl tValue) x.2.2], .val false [.ptr 0 0], .undef, .undef, .undef, .undef, .undef, .val false [.own 1 y3.1], .val false [.sc (.int .i64) y3.2.1]] ++ List.replicate 65 .undef, [.box [.sc .str x.1.1, .sc (.sl tColumn) x.1.2.1, .sc (.sl (.int .i64)) x.1.2.2.1, .sc (.sl tIndex) x.1.2.2.2.1, .sc (.sl tRef) x.1.2.2.2.2], .arr 54 tValue y3.2.2])
def f18.h3 (x : dTable × (List Int) × (List dValue)) (r1 : Int) (y6 : Nat × Int × (List dValue)) (y7 : Int × Int × Int × Nat × ByteArray) : List AV × List Ob := ([.undef, .val false [.sc (.sl (.int .i64)) x.2.1], .val false [.sc (.sl tValue) x.2.2], .val false [.ptr 0 0], .undef, .undef, .undef, .undef, .undef, .val false [.own 1 y6.1], .val false [.sc (.int .i64) y6.2.1], .val false [.ptr 2 0], .val false [.sc (.int .i64) y7.1]] ++ List.replicate 63 .undef, [.box [.sc .str x.1.1, .sc (.sl tColumn) x.1.2.1, .sc (.sl (.int .i64)) x.1.2.2.1, .sc (.sl tIndex) x.1.2.2.2.1, .sc (.sl tRef) x.1.2.2.2.2], .arr 54 tValue y6.2.2, .box [.sc (.int .i64) y7.2.1, .sc (.int .i64) y7.2.2.1, .sc (.float .f64) y7.2.2.2.1, .sc .str y7.2.2.2.2]])
def f18.h4 (x : dTable × (List Int) × (List dValue)) (r1 : Int) (y6 : Nat × Int × (List dValue)) : List AV × List Ob := ([.undef, .val false [.sc (.sl (.int .i64)) x.2.1], .val false [.sc (.sl tValue) x.2.2], .val false [.ptr 0 0], .undef, .undef, .undef, .undef, .undef, .val false [.own 1 y6.1], .val false [.sc (.int .i64) y6.2.1]] ++ List.replicate 65 .undef, [.box [.sc .str x.1.1, .sc (.sl tColumn) x.1.2.1, .sc (.sl (.int .i64)) x.1.2.2.1, .sc (.sl tIndex) x.1.2.2.2.1, .sc (.sl tRef) x.1.2.2.2.2], .arr 54 tValue y6.2.2])
def f18.L1 (n : Nat) (x : dTable × (List Int) × (List dValue)) (r1 : Int) (r2 : Bool) (y3 : Nat × Int × (List dValue)) (m3 : Nat) (m4 : Nat) (y4 : Int × Int × Int × Nat × ByteArray) : Option ((List dValue) × Int) :=
  loopN (ann 18 12).keep 3 (fun fr H k => execK TT 0 E18 (inlD TT E18 n ann (tabC C18) 1) n (ann 18) (subC [1, 1, 1, 1, 0, 1, 0, 0, 1, 0, 0, 1, 0, 1, 0, 0] (bodyOf Tryz.f18)) fr H k) m4 (f18.h1 x r1 r2 y3 y4).1 (f18.h1 x r1 r2 y3 y4).2 (kont TT 0 E18 (inlD TT E18 n ann (tabC C18) 1) n (ann 18) [1, 0, 0, 1, 0, 1, 0] (subC [1, 1, 1, 1, 0, 1, 0, 0] (bodyOf Tryz.f18)) (loopK (ann 18 8).keep 2 (fun fr H k => execK TT 0 E18 (inlD TT E18 n ann (tabC C18) 1) n (ann 18) (subC [1, 1, 1, 1, 0, 1, 0, 0] (bodyOf Tryz.f18)) fr H k) m3 (kont TT 0 E18 (inlD TT E18 n ann (tabC C18) 1) n (ann 18) [1, 1, 1, 1, 0, 1, 0] (bodyOf Tryz.f18) (endK TT Tryz.f18 (readL [(false, .sl tValue), (false, .int .i64)])))))
def f18.L2 (n : Nat) (x : dTable × (List Int) × (List dValue)) (r1 : Int) (r2 : Bool) (m3 : Nat) (y3 : Nat × Int × (List dValue)) : Option ((List dValue) × Int) :=
  loopN (ann 18 8).keep 2 (fun fr H k => execK TT 0 E18 (inlD TT E18 n ann (tabC C18) 1) n (ann 18) (subC [1, 1, 1, 1, 0, 1, 0, 0] (bodyOf Tryz.f18)) fr H k) m3 (f18.h2 x r1 r2 y3).1 (f18.h2 x r1 r2 y3).2 (kont TT 0 E18 (inlD TT E18 n ann (tabC C18) 1) n (ann 18) [1, 1, 1, 1, 0, 1, 0] (bodyOf Tryz.f18) (endK TT Tryz.f18 (readL [(false, .sl tValue), (false, .int .i64)])))
def f18.L3 (n : Nat) (x : dTable × (List Int) × (List dValue)) (r1 : Int) (y6 : Nat × Int × (List dValue)) (m6 : Nat) (m7 : Nat) (y7 : Int × Int × Int × Nat × ByteArray) : Option ((List dValue) × Int) :=
  loopN (ann 18 12).keep 3 (fun fr H k => execK TT 0 E18 (inlD TT E18 n ann (tabC C18) 1) n (ann 18) (subC [1, 1, 1, 1, 0, 1, 0, 0, 1, 0, 0, 1, 0, 1, 0, 0] (bodyOf Tryz.f18)) fr H k) m7 (f18.h3 x r1 y6 y7).1 (f18.h3 x r1 y6 y7).2 (kont TT 0 E18 (inlD TT E18 n ann (tabC C18) 1) n (ann 18) [1, 0, 0, 1, 0, 1, 0] (subC [1, 1, 1, 1, 0, 1, 0, 0] (bodyOf Tryz.f18)) (loopK (ann 18 8).keep 2 (fun fr H k => execK TT 0 E18 (inlD TT E18 n ann (tabC C18) 1) n (ann 18) (subC [1, 1, 1, 1, 0, 1, 0, 0] (bodyOf Tryz.f18)) fr H k) m6 (kont TT 0 E18 (inlD TT E18 n ann (tabC C18) 1) n (ann 18) [1, 1, 1, 1, 0, 1, 0] (bodyOf Tryz.f18) (endK TT Tryz.f18 (readL [(false, .sl tValue), (false, .int .i64)])))))
def f18.L4 (n : Nat) (x : dTable × (List Int) × (List dValue)) (r1 : Int) (m6 : Nat) (y6 : Nat × Int × (List dValue)) : Option ((List dValue) × Int) :=
  loopN (ann 18 8).keep 2 (fun fr H k => execK TT 0 E18 (inlD TT E18 n ann (tabC C18) 1) n (ann 18) (subC [1, 1, 1, 1, 0, 1, 0, 0] (bodyOf Tryz.f18)) fr H k) m6 (f18.h4 x r1 y6).1 (f18.h4 x r1 y6).2 (kont TT 0 E18 (inlD TT E18 n ann (tabC C18) 1) n (ann 18) [1, 1, 1, 1, 0, 1, 0] (bodyOf Tryz.f18) (endK TT Tryz.f18 (readL [(false, .sl tValue), (false, .int .i64)])))
def f18.s1 (n : Nat) (x : dTable × (List Int) × (List dValue)) (r1 : Int) (r2 : Bool) (y3 : Nat × Int × (List dValue)) (S3 : (Nat × Int × (List dValue)) → Option ((List dValue) × Int)) (S4 : (Int × Int × Int × Nat × ByteArray) → Option ((List dValue) × Int)) (y4 : Int × Int × Int × Nat × ByteArray) : Option ((List dValue) × Int) :=
  bif decide (y4.1 < (x.2.1.length : Int)) then
    (bif decide (0 ≤ y4.1) && decide (y4.1 < (x.2.1.length : Int)) then
      (bif x.2.1.getD y4.1.toNat (Ty.dflt (.int .i64)) == y3.2.1 then
        (bif decide (0 ≤ y4.1) && decide (y4.1 < (x.2.2.length : Int)) then
          (S4 (IntKind.wrap .i64 (y4.1 + (1 : Int)), x.2.2.getD y4.1.toNat tValue.dflt))
        else
          (none))
      else
        (S4 (IntKind.wrap .i64 (y4.1 + (1 : Int)), y4.2)))
    else
      (none))
  else
    (bif decide ((y3.1 + 1) * 40 ≤ boundN) then
      (S3 (y3.1 + 1, (IntKind.wrap .i64 (y3.2.1 + (1 : Int)), List.take y3.1 y3.2.2 ++ ([y4.2]))))
    else
      (none))
def f18.r1 (n : Nat) (x : dTable × (List Int) × (List dValue)) (r1 : Int) (r2 : Bool) (y3 : Nat × Int × (List dValue)) (m3 : Nat) (m4 : Nat) (S3 : (Nat × Int × (List dValue)) → Option ((List dValue) × Int)) (S4 : (Int × Int × Int × Nat × ByteArray) → Option ((List dValue) × Int)) (y4 : Int × Int × Int × Nat × ByteArray) : Option ((List dValue) × Int) :=
  bif decide (y4.1 < (x.2.1.length : Int)) then
    (bif decide (0 ≤ y4.1) && decide (y4.1 < (x.2.1.length : Int)) then
      (bif x.2.1.getD y4.1.toNat (Ty.dflt (.int .i64)) == y3.2.1 then
        (bif decide (0 ≤ y4.1) && decide (y4.1 < (x.2.2.length : Int)) then
          (S4 (IntKind.wrap .i64 (y4.1 + (1 : Int)), x.2.2.getD y4.1.toNat tValue.dflt))
        else
          (none))
      else
        (S4 (IntKind.wrap .i64 (y4.1 + (1 : Int)), y4.2)))
    else
      (none))
  else
    (bif decide ((y3.1 + 1) * 40 ≤ boundN) then
      (S3 (y3.1 + 1, (IntKind.wrap .i64 (y3.2.1 + (1 : Int)), List.take y3.1 y3.2.2 ++ ([y4.2]))))
    else
      (none))
set_option maxRecDepth 100000 in
theorem f18.k1 (n : Nat) (x : dTable × (List Int) × (List dValue)) (r1 : Int) (r2 : Bool) (y3 : Nat × Int × (List dValue)) (m3 : Nat) (m : Nat) (y : Int × Int × Int × Nat × ByteArray) : f18.L1 n x r1 r2 y3 m3 (m + 1) y = f18.s1 n x r1 r2 y3 (f18.L2 n x r1 r2 m3) (f18.L1 n x r1 r2 y3 m3 m) y := by
  have h : f18.L1 n x r1 r2 y3 m3 (m + 1) y = f18.r1 n x r1 r2 y3 m3 m (f18.L2 n x r1 r2 m3) (f18.L1 n x r1 r2 y3 m3 m) y := by kernel_rfl
  rw [h]
  simp only [f18.r1, f18.s1]
theorem f18.l1 (n : Nat) (x : dTable × (List Int) × (List dValue)) (r1 : Int) (r2 : Bool) (y3 : Nat × Int × (List dValue)) (m3 : Nat) : ∀ (m : Nat) (y4 : Int × Int × Int × Nat × ByteArray), f18.L1 n x r1 r2 y3 m3 m y4 = iter (f18.s1 n x r1 r2 y3 (f18.L2 n x r1 r2 m3)) m y4 :=
  loop_of (L := f18.L1 n x r1 r2 y3 m3) (step := f18.s1 n x r1 r2 y3 (f18.L2 n x r1 r2 m3)) (fun _ => rfl) (f18.k1 n x r1 r2 y3 m3)
def f18.s2 (n : Nat) (x : dTable × (List Int) × (List dValue)) (r1 : Int) (r2 : Bool) (S3 : (Nat × Int × (List dValue)) → Option ((List dValue) × Int)) (y3 : Nat × Int × (List dValue)) : Option ((List dValue) × Int) :=
  bif decide (y3.2.1 < (x.1.2.1.length : Int)) then
    (bif decide (0 ≤ y3.2.1) && decide (y3.2.1 < (x.1.2.1.length : Int)) then
      (iter (f18.s1 n x r1 r2 y3 S3) n ((0 : Int), (x.1.2.1.getD y3.2.1.toNat tColumn.dflt).2.2.2))
    else
      (none))
  else
    ((F16 (x.1, List.take y3.1 y3.2.2)).bind fun r5 =>
      bif r5 != (0 : Int) then
        (some ([], r5))
      else
        (some (List.take y3.1 y3.2.2, (0 : Int))))
def f18.r2 (n : Nat) (x : dTable × (List Int) × (List dValue)) (r1 : Int) (r2 : Bool) (m3 : Nat) (S3 : (Nat × Int × (List dValue)) → Option ((List dValue) × Int)) (y3 : Nat × Int × (List dValue)) : Option ((List dValue) × Int) :=
  bif decide (y3.2.1 < (x.1.2.1.length : Int)) then
    (bif decide (0 ≤ y3.2.1) && decide (y3.2.1 < (x.1.2.1.length : Int)) then
      (f18.L1 n x r1 r2 y3 m3 n ((0 : Int), (x.1.2.1.getD y3.2.1.toNat tColumn.dflt).2.2.2))
    else
      (none))
  else
    ((F16 (x.1, List.take y3.1 y3.2.2)).bind fun r5 =>
      bif r5 != (0 : Int) then
        (some ([], r5))
      else
        (some (List.take y3.1 y3.2.2, (0 : Int))))
set_option maxRecDepth 100000 in
theorem f18.k2 (n : Nat) (x : dTable × (List Int) × (List dValue)) (r1 : Int) (r2 : Bool) (m : Nat) (y : Nat × Int × (List dValue)) : f18.L2 n x r1 r2 (m + 1) y = f18.s2 n x r1 r2 (f18.L2 n x r1 r2 m) y := by
  have h : f18.L2 n x r1 r2 (m + 1) y = f18.r2 n x r1 r2 m (f18.L2 n x r1 r2 m) y := by kernel_rfl
  rw [h]
  simp only [f18.r2, f18.s2, f18.l1]
theorem f18.l2 (n : Nat) (x : dTable × (List Int) × (List dValue)) (r1 : Int) (r2 : Bool) : ∀ (m : Nat) (y3 : Nat × Int × (List dValue)), f18.L2 n x r1 r2 m y3 = iter (f18.s2 n x r1 r2) m y3 :=
  loop_of (L := f18.L2 n x r1 r2) (step := f18.s2 n x r1 r2) (fun _ => rfl) (f18.k2 n x r1 r2)
def f18.s3 (n : Nat) (x : dTable × (List Int) × (List dValue)) (r1 : Int) (y6 : Nat × Int × (List dValue)) (S6 : (Nat × Int × (List dValue)) → Option ((List dValue) × Int)) (S7 : (Int × Int × Int × Nat × ByteArray) → Option ((List dValue) × Int)) (y7 : Int × Int × Int × Nat × ByteArray) : Option ((List dValue) × Int) :=
  bif decide (y7.1 < (x.2.1.length : Int)) then
    (bif decide (0 ≤ y7.1) && decide (y7.1 < (x.2.1.length : Int)) then
      (bif x.2.1.getD y7.1.toNat (Ty.dflt (.int .i64)) == y6.2.1 then
        (bif decide (0 ≤ y7.1) && decide (y7.1 < (x.2.2.length : Int)) then
          (S7 (IntKind.wrap .i64 (y7.1 + (1 : Int)), x.2.2.getD y7.1.toNat tValue.dflt))
        else
          (none))
      else
        (S7 (IntKind.wrap .i64 (y7.1 + (1 : Int)), y7.2)))
    else
      (none))
  else
    (bif decide ((y6.1 + 1) * 40 ≤ boundN) then
      (S6 (y6.1 + 1, (IntKind.wrap .i64 (y6.2.1 + (1 : Int)), List.take y6.1 y6.2.2 ++ ([y7.2]))))
    else
      (none))
def f18.r3 (n : Nat) (x : dTable × (List Int) × (List dValue)) (r1 : Int) (y6 : Nat × Int × (List dValue)) (m6 : Nat) (m7 : Nat) (S6 : (Nat × Int × (List dValue)) → Option ((List dValue) × Int)) (S7 : (Int × Int × Int × Nat × ByteArray) → Option ((List dValue) × Int)) (y7 : Int × Int × Int × Nat × ByteArray) : Option ((List dValue) × Int) :=
  bif decide (y7.1 < (x.2.1.length : Int)) then
    (bif decide (0 ≤ y7.1) && decide (y7.1 < (x.2.1.length : Int)) then
      (bif x.2.1.getD y7.1.toNat (Ty.dflt (.int .i64)) == y6.2.1 then
        (bif decide (0 ≤ y7.1) && decide (y7.1 < (x.2.2.length : Int)) then
          (S7 (IntKind.wrap .i64 (y7.1 + (1 : Int)), x.2.2.getD y7.1.toNat tValue.dflt))
        else
          (none))
      else
        (S7 (IntKind.wrap .i64 (y7.1 + (1 : Int)), y7.2)))
    else
      (none))
  else
    (bif decide ((y6.1 + 1) * 40 ≤ boundN) then
      (S6 (y6.1 + 1, (IntKind.wrap .i64 (y6.2.1 + (1 : Int)), List.take y6.1 y6.2.2 ++ ([y7.2]))))
    else
      (none))
set_option maxRecDepth 100000 in
theorem f18.k3 (n : Nat) (x : dTable × (List Int) × (List dValue)) (r1 : Int) (y6 : Nat × Int × (List dValue)) (m6 : Nat) (m : Nat) (y : Int × Int × Int × Nat × ByteArray) : f18.L3 n x r1 y6 m6 (m + 1) y = f18.s3 n x r1 y6 (f18.L4 n x r1 m6) (f18.L3 n x r1 y6 m6 m) y := by
  have h : f18.L3 n x r1 y6 m6 (m + 1) y = f18.r3 n x r1 y6 m6 m (f18.L4 n x r1 m6) (f18.L3 n x r1 y6 m6 m) y := by kernel_rfl
  rw [h]
  simp only [f18.r3, f18.s3, f18.l1, f18.l2]
theorem f18.l3 (n : Nat) (x : dTable × (List Int) × (List dValue)) (r1 : Int) (y6 : Nat × Int × (List dValue)) (m6 : Nat) : ∀ (m : Nat) (y7 : Int × Int × Int × Nat × ByteArray), f18.L3 n x r1 y6 m6 m y7 = iter (f18.s3 n x r1 y6 (f18.L4 n x r1 m6)) m y7 :=
  loop_of (L := f18.L3 n x r1 y6 m6) (step := f18.s3 n x r1 y6 (f18.L4 n x r1 m6)) (fun _ => rfl) (f18.k3 n x r1 y6 m6)
def f18.s4 (n : Nat) (x : dTable × (List Int) × (List dValue)) (r1 : Int) (S6 : (Nat × Int × (List dValue)) → Option ((List dValue) × Int)) (y6 : Nat × Int × (List dValue)) : Option ((List dValue) × Int) :=
  bif decide (y6.2.1 < (x.1.2.1.length : Int)) then
    (bif decide (0 ≤ y6.2.1) && decide (y6.2.1 < (x.1.2.1.length : Int)) then
      (iter (f18.s3 n x r1 y6 S6) n ((0 : Int), (x.1.2.1.getD y6.2.1.toNat tColumn.dflt).2.2.2))
    else
      (none))
  else
    ((F16 (x.1, List.take y6.1 y6.2.2)).bind fun r8 =>
      bif r8 != (0 : Int) then
        (some ([], r8))
      else
        (some (List.take y6.1 y6.2.2, (0 : Int))))
def f18.r4 (n : Nat) (x : dTable × (List Int) × (List dValue)) (r1 : Int) (m6 : Nat) (S6 : (Nat × Int × (List dValue)) → Option ((List dValue) × Int)) (y6 : Nat × Int × (List dValue)) : Option ((List dValue) × Int) :=
  bif decide (y6.2.1 < (x.1.2.1.length : Int)) then
    (bif decide (0 ≤ y6.2.1) && decide (y6.2.1 < (x.1.2.1.length : Int)) then
      (f18.L3 n x r1 y6 m6 n ((0 : Int), (x.1.2.1.getD y6.2.1.toNat tColumn.dflt).2.2.2))
    else
      (none))
  else
    ((F16 (x.1, List.take y6.1 y6.2.2)).bind fun r8 =>
      bif r8 != (0 : Int) then
        (some ([], r8))
      else
        (some (List.take y6.1 y6.2.2, (0 : Int))))
set_option maxRecDepth 100000 in
theorem f18.k4 (n : Nat) (x : dTable × (List Int) × (List dValue)) (r1 : Int) (m : Nat) (y : Nat × Int × (List dValue)) : f18.L4 n x r1 (m + 1) y = f18.s4 n x r1 (f18.L4 n x r1 m) y := by
  have h : f18.L4 n x r1 (m + 1) y = f18.r4 n x r1 m (f18.L4 n x r1 m) y := by kernel_rfl
  rw [h]
  simp only [f18.r4, f18.s4, f18.l1, f18.l2, f18.l3]
theorem f18.l4 (n : Nat) (x : dTable × (List Int) × (List dValue)) (r1 : Int) : ∀ (m : Nat) (y6 : Nat × Int × (List dValue)), f18.L4 n x r1 m y6 = iter (f18.s4 n x r1) m y6 :=
  loop_of (L := f18.L4 n x r1) (step := f18.s4 n x r1) (fun _ => rfl) (f18.k4 n x r1)
def f18.g (n : Nat) (x : dTable × (List Int) × (List dValue)) : Option ((List dValue) × Int) :=
  (F13 x.1).bind fun r1 =>
    bif r1 != (0 : Int) then
      (some ([], r1))
    else
      (bif (x.2.1.length : Int) != (x.2.2.length : Int) then
        (some ([], (1 : Int)))
      else
        (bif decide ((x.2.1.length : Int) > (0 : Int)) then
          ((F40 (x.1, x.2.1)).bind fun r2 =>
            bif !r2 then
              (some ([], (1 : Int)))
            else
              (iter (f18.s2 n x r1 r2) n (0, ((0 : Int), []))))
        else
          (iter (f18.s4 n x r1) n (0, ((0 : Int), [])))))
def f18.q (n : Nat) (x : dTable × (List Int) × (List dValue)) : Option ((List dValue) × Int) :=
  (F13 x.1).bind fun r1 =>
    bif r1 != (0 : Int) then
      (some ([], r1))
    else
      (bif (x.2.1.length : Int) != (x.2.2.length : Int) then
        (some ([], (1 : Int)))
      else
        (bif decide ((x.2.1.length : Int) > (0 : Int)) then
          ((F40 (x.1, x.2.1)).bind fun r2 =>
            bif !r2 then
              (some ([], (1 : Int)))
            else
              (f18.L2 n x r1 r2 n (0, ((0 : Int), []))))
        else
          (f18.L4 n x r1 n (0, ((0 : Int), [])))))
set_option maxRecDepth 100000 in
theorem f18.eq (n : Nat) (x : dTable × (List Int) × (List dValue)) : runK TT E18 n ann (tabC C18) 1 18 (argsL [(true, tTable), (false, .sl (.int .i64)), (false, .sl tValue)] x) [] (readL [(false, .sl tValue), (false, .int .i64)]) = f18.g n x := by
  have h : runK TT E18 n ann (tabC C18) 1 18 (argsL [(true, tTable), (false, .sl (.int .i64)), (false, .sl tValue)] x) [] (readL [(false, .sl tValue), (false, .int .i64)]) = f18.q n x := by kernel_rfl
  rw [h]
  simp only [f18.q, f18.g, f18.l1, f18.l2, f18.l3, f18.l4]
set_option maxRecDepth 100000 in
theorem f18.codes : CodesOk Tryz.prog E18 ann (tabC C18) := tabC_ok (by intro p hp; simp only [C18, List.mem_cons, List.not_mem_nil, or_false] at hp; rcases hp with rfl <;> first | exact Tryz.func18) (by kernel_rfl)
theorem f18.ok (h : ∀ X Y, F18 X = some Y → ∃ n, f18.g n X = some Y) (e13 : ConOk Tryz.prog 13 con13) (e16 : ConOk Tryz.prog 16 con16) (e40 : ConOk Tryz.prog 40 con40) : ConOk Tryz.prog 18 (mkCon [(true, tTable), (false, .sl (.int .i64)), (false, .sl tValue)] [(false, .sl tValue), (false, .int .i64)] false F18) :=
  mkCon_ok mixed TT_ok (envC_ok e40 (envC_ok e16 (envC_ok e13 env0_ok))) f18.codes (fun h => by cases h) fun X Y hF => (h X Y hF).imp fun n hn => (f18.eq n X).trans hn
def con18 : Con := mkCon [(true, tTable), (false, .sl (.int .i64)), (false, .sl tValue)] [(false, .sl tValue), (false, .int .i64)] false F18
/-! ### vellum/schema.names -/
def E49 : FuncId → Option Con := (envC 50 con50 env0)
noncomputable def C49 : List (FuncId × Func) := [(49, Tryz.f49)]
def f49.h1 (x : dTable × (List Int)) (y1 : Nat × Int × (List ByteArray)) : List AV × List Ob := ([.undef, .undef, .val false [.ptr 0 0], .undef, .undef, .val false [.own 1 y1.1], .undef, .undef, .val false [.sc (.sl (.int .i64)) ([(0 : Int)] : List Int)], .val false [.sc (.int .i64) (([(0 : Int)] : List Int).length : Int)], .val false [.sc (.int .i64) y1.2.1]] ++ List.replicate 17 .undef, [.box [.sc .str (⟨#[116]⟩ : ByteArray), .sc (.sl tColumn) ([((⟨#[97]⟩ : ByteArray), ((2 : Int), (false, ((0 : Int), ((0 : Int), (0, (⟨#[]⟩ : ByteArray)))))))] : List dColumn), .sc (.sl (.int .i64)) ([(0 : Int)] : List Int), .sc (.sl tIndex) ([] : List dIndex), .sc (.sl tRef) ([] : List dRef)], .arr 9 .str y1.2.2])
def f49.L1 (n : Nat) (x : dTable × (List Int)) (m1 : Nat) (y1 : Nat × Int × (List ByteArray)) : Option (ByteArray) :=
  loopN (ann 49 3).keep 2 (fun fr H k => execK TT 0 E49 (inlD TT E49 n ann (tabC C49) 1) n (ann 49) (subC [1, 1, 0, 1, 0, 0] (bodyOf Tryz.f49)) fr H k) m1 (f49.h1 x y1).1 (f49.h1 x y1).2 (kont TT 0 E49 (inlD TT E49 n ann (tabC C49) 1) n (ann 49) [1, 1, 0, 1, 0] (bodyOf Tryz.f49) (endK TT Tryz.f49 (readL [(false, .str)])))
def f49.s1 (n : Nat) (x : dTable × (List Int)) (S1 : (Nat × Int × (List ByteArray)) → Option (ByteArray)) (y1 : Nat × Int × (List ByteArray)) : Option (ByteArray) :=
  bif decide (y1.2.1 < (([(0 : Int)] : List Int).length : Int)) then
    (bif decide (0 ≤ y1.2.1) && decide (y1.2.1 < (([(0 : Int)] : List Int).length : Int)) then
      (bif decide (0 ≤ ([(0 : Int)] : List Int).getD y1.2.1.toNat (Ty.dflt (.int .i64))) && decide (([(0 : Int)] : List Int).getD y1.2.1.toNat (Ty.dflt (.int .i64)) < (([((⟨#[97]⟩ : ByteArray), ((2 : Int), (false, ((0 : Int), ((0 : Int), (0, (⟨#[]⟩ : ByteArray)))))))] : List dColumn).length : Int)) then
        (bif decide ((y1.1 + 1) * 16 ≤ boundN) then
          (S1 (y1.1 + 1, (IntKind.wrap .i64 (y1.2.1 + (1 : Int)), List.take y1.1 y1.2.2 ++ ([(([((⟨#[97]⟩ : ByteArray), ((2 : Int), (false, ((0 : Int), ((0 : Int), (0, (⟨#[]⟩ : ByteArray)))))))] : List dColumn).getD ((([(0 : Int)] : List Int).getD y1.2.1.toNat (Ty.dflt (.int .i64))).toNat) tColumn.dflt).1]))))
        else
          (none))
      else
        (none))
    else
      (none))
  else
    ((F50 (List.take y1.1 y1.2.2, (⟨#[44, 32]⟩ : ByteArray))).bind fun r2 =>
      bif decide ((⟨#[40]⟩ : ByteArray).size + r2.size ≤ boundS) then
        (bif decide (((⟨#[40]⟩ : ByteArray) ++ r2).size + (⟨#[41]⟩ : ByteArray).size ≤ boundS) then
          (some (((⟨#[40]⟩ : ByteArray) ++ r2) ++ (⟨#[41]⟩ : ByteArray)))
        else
          (none))
      else
        (none))
set_option maxRecDepth 100000 in
theorem f49.k1 (n : Nat) (x : dTable × (List Int)) (m : Nat) (y : Nat × Int × (List ByteArray)) : f49.L1 n x (m + 1) y = f49.s1 n x (f49.L1 n x m) y := by kernel_rfl
theorem f49.l1 (n : Nat) (x : dTable × (List Int)) : ∀ (m : Nat) (y1 : Nat × Int × (List ByteArray)), f49.L1 n x m y1 = iter (f49.s1 n x) m y1 :=
  loop_of (L := f49.L1 n x) (step := f49.s1 n x) (fun _ => rfl) (f49.k1 n x)
def f49.g (n : Nat) (x : dTable × (List Int)) : Option (ByteArray) :=
  iter (f49.s1 n x) n (0, ((0 : Int), []))
def f49.q (n : Nat) (x : dTable × (List Int)) : Option (ByteArray) :=
  f49.L1 n x n (0, ((0 : Int), []))
def f49.at : dTable × (List Int) := (((⟨#[116]⟩ : ByteArray), (([((⟨#[97]⟩ : ByteArray), ((2 : Int), (false, ((0 : Int), ((0 : Int), (0, (⟨#[]⟩ : ByteArray)))))))] : List dColumn), (([(0 : Int)] : List Int), (([] : List dIndex), ([] : List dRef))))), ([(0 : Int)] : List Int))
set_option maxRecDepth 100000 in
theorem f49.eq (n : Nat) (x : dTable × (List Int)) : runK TT E49 n ann (tabC C49) 1 49 (argsL [(true, tTable), (false, .sl (.int .i64))] f49.at) [] (readL [(false, .str)]) = f49.g n x := by
  have h : runK TT E49 n ann (tabC C49) 1 49 (argsL [(true, tTable), (false, .sl (.int .i64))] f49.at) [] (readL [(false, .str)]) = f49.q n x := by kernel_rfl
  rw [h]
  simp only [f49.q, f49.g, f49.l1]
set_option maxRecDepth 100000 in
theorem f49.codes : CodesOk Tryz.prog E49 ann (tabC C49) := tabC_ok (by intro p hp; simp only [C49, List.mem_cons, List.not_mem_nil, or_false] at hp; rcases hp with rfl <;> first | exact Tryz.func49) (by kernel_rfl)
theorem f49.ok (h : ∀ X Y, F49 X = some Y → X = f49.at ∧ ∃ n, f49.g n X = some Y) (e50 : ConOk Tryz.prog 50 con50) : ConOk Tryz.prog 49 (mkCon [(true, tTable), (false, .sl (.int .i64))] [(false, .str)] true F49) :=
  mkCon_ok mixed TT_ok (envC_ok e50 env0_ok) f49.codes (fun _ => List.all_eq_true.1 rfl) fun X Y hF => by
    obtain ⟨e, n, hn⟩ := h X Y hF
    subst e
    exact ⟨n, (f49.eq n f49.at).trans hn⟩
def con49 : Con := mkCon [(true, tTable), (false, .sl (.int .i64))] [(false, .str)] true F49
/-! ### vellum/schema.Print -/
def E29 : FuncId → Option Con := (envC 50 con50 (envC 49 con49 (envC 48 con48 (envC 11 con11 env0))))
noncomputable def C29 : List (FuncId × Func) := [(29, Tryz.f29)]
def f29.h1 (x : dTable) (r1 : Int) (y2 : Nat × Int × (List ByteArray)) (r5 : ByteArray) (y6 : Nat × Int × (List ByteArray)) (y8 : Nat × Int × (List ByteArray)) : List AV × List Ob := ([.undef, .val false [.ptr 0 0], .undef, .undef, .undef, .val false [.own 1 y8.1], .undef, .undef, .undef, .undef, .undef, .undef, .undef, .undef, .undef, .undef, .undef, .undef, .undef, .undef, .undef, .undef, .undef, .undef, .undef, .undef, .undef, .undef, .undef, .undef, .undef, .undef, .undef, .undef, .undef, .undef, .undef, .undef, .undef, .undef, .undef, .undef, .undef, .undef, .undef, .undef, .undef, .undef, .undef, .undef, .undef, .undef, .undef, .undef, .undef, .undef, .undef, .undef, .undef, .undef, .undef, .undef, .undef, .undef, .undef, .undef, .undef, .undef, .undef, .undef, .undef, .undef, .undef, .undef, .undef, .undef, .undef, .undef, .undef, .undef, .undef, .undef, .undef, .undef, .undef, .undef, .undef, .undef, .undef, .undef, .undef, .undef, .undef, .undef, .undef, .undef, .val false [.sc (.sl tRef) ([] : List dRef)], .val false [.sc (.int .i64) (([] : List dRef).length : Int)], .val false [.sc (.int .i64) y8.2.1]] ++ List.replicate 28 .undef, [.box [.sc .str (⟨#[116]⟩ : ByteArray), .sc (.sl tColumn) ([((⟨#[97]⟩ : ByteArray), ((2 : Int), (false, ((0 : Int), ((0 : Int), (0, (⟨#[]⟩ : ByteArray)))))))] : List dColumn), .sc (.sl (.int .i64)) ([(0 : Int)] : List Int), .sc (.sl tIndex) ([] : List dIndex), .sc (.sl tRef) ([] : List dRef)], .arr 9 .str y8.2.2, .arr 9 .str ([(⟨#[112, 114, 105, 109, 97, 114, 121, 32, 107, 101, 121, 32]⟩ : ByteArray) ++ r5])])
def f29.h2 (x : dTable) (r1 : Int) (y2 : Nat × Int × (List ByteArray)) (r5 : ByteArray) (y6 : Nat × Int × (List ByteArray)) : List AV × List Ob := ([.undef, .val false [.ptr 0 0], .undef, .undef, .undef, .val false [.own 1 y6.1], .undef, .undef, .undef, .undef, .undef, .undef, .undef, .undef, .undef, .undef, .undef, .undef, .undef, .undef, .undef, .undef, .undef, .undef, .undef, .undef, .undef, .undef, .undef, .undef, .undef, .undef, .undef, .undef, .undef, .undef, .undef, .undef, .undef, .undef, .undef, .undef, .undef, .undef, .undef, .undef, .undef, .undef, .undef, .undef, .undef, .undef, .undef, .undef, .undef, .undef, .undef, .undef, .undef, .undef, .undef, .undef, .undef, .undef, .undef, .undef, .undef, .undef, .undef, .undef, .undef, .val false [.sc (.sl tIndex) ([] : List dIndex)], .val false [.sc (.int .i64) (([] : List dIndex).length : Int)], .val false [.sc (.int .i64) y6.2.1]] ++ List.replicate 53 .undef, [.box [.sc .str (⟨#[116]⟩ : ByteArray), .sc (.sl tColumn) ([((⟨#[97]⟩ : ByteArray), ((2 : Int), (false, ((0 : Int), ((0 : Int), (0, (⟨#[]⟩ : ByteArray)))))))] : List dColumn), .sc (.sl (.int .i64)) ([(0 : Int)] : List Int), .sc (.sl tIndex) ([] : List dIndex), .sc (.sl tRef) ([] : List dRef)], .arr 9 .str y6.2.2, .arr 9 .str ([(⟨#[112, 114, 105, 109, 97, 114, 121, 32, 107, 101, 121, 32]⟩ : ByteArray) ++ r5])])
def f29.h3 (x : dTable) (r1 : Int) (y2 : Nat × Int × (List ByteArray)) : List AV × List Ob := ([.undef, .val false [.ptr 0 0], .undef, .undef, .undef, .val false [.own 1 y2.1], .undef, .undef, .undef, .undef, .undef, .undef, .undef, .undef, .undef, .undef, .undef, .undef, .undef, .undef, .undef, .undef, .undef, .val false [.sc (.sl tColumn) ([((⟨#[97]⟩ : ByteArray), ((2 : Int), (false, ((0 : Int), ((0 : Int), (0, (⟨#[]⟩ : ByteArray)))))))] : List dColumn)], .val false [.sc (.int .i64) (([((⟨#[97]⟩ : ByteArray), ((2 : Int), (false, ((0 : Int), ((0 : Int), (0, (⟨#[]⟩ : ByteArray)))))))] : List dColumn).length : Int)], .val false [.sc (.int .i64) y2.2.1]] ++ List.replicate 101 .undef, [.box [.sc .str (⟨#[116]⟩ : ByteArray), .sc (.sl tColumn) ([((⟨#[97]⟩ : ByteArray), ((2 : Int), (false, ((0 : Int), ((0 : Int), (0, (⟨#[]⟩ : ByteArray)))))))] : List dColumn), .sc (.sl (.int .i64)) ([(0 : Int)] : List Int), .sc (.sl tIndex) ([] : List dIndex), .sc (.sl tRef) ([] : List dRef)], .arr 9 .str y2.2.2])
def f29.L1 (n : Nat) (x : dTable) (r1 : Int) (y2 : Nat × Int × (List ByteArray)) (r5 : ByteArray) (y6 : Nat × Int × (List ByteArray)) (m8 : Nat) (y8 : Nat × Int × (List ByteArray)) : Option (ByteArray × Int) :=
  loopN (ann 29 26).keep 3 (fun fr H k => execK TT 0 E29 (inlD TT E29 n ann (tabC C29) 1) n (ann 29) (subC [1, 1, 1, 1, 1, 1, 0, 1, 0, 0] (bodyOf Tryz.f29)) fr H k) m8 (f29.h1 x r1 y2 r5 y6 y8).1 (f29.h1 x r1 y2 r5 y6 y8).2 (kont TT 0 E29 (inlD TT E29 n ann (tabC C29) 1) n (ann 29) [1, 1, 1, 1, 1, 1, 0, 1, 0] (bodyOf Tryz.f29) (endK TT Tryz.f29 (readL [(false, .str), (false, .int .i64)])))
def f29.L2 (n : Nat) (x : dTable) (r1 : Int) (y2 : Nat × Int × (List ByteArray)) (r5 : ByteArray) (m6 : Nat) (y6 : Nat × Int × (List ByteArray)) : Option (ByteArray × Int) :=
  loopN (ann 29 18).keep 3 (fun fr H k => execK TT 0 E29 (inlD TT E29 n ann (tabC C29) 1) n (ann 29) (subC [1, 1, 1, 1, 1, 0, 1, 0, 0] (bodyOf Tryz.f29)) fr H k) m6 (f29.h2 x r1 y2 r5 y6).1 (f29.h2 x r1 y2 r5 y6).2 (kont TT 0 E29 (inlD TT E29 n ann (tabC C29) 1) n (ann 29) [1, 1, 1, 1, 1, 0, 1, 0] (bodyOf Tryz.f29) (endK TT Tryz.f29 (readL [(false, .str), (false, .int .i64)])))
def f29.L3 (n : Nat) (x : dTable) (r1 : Int) (m2 : Nat) (y2 : Nat × Int × (List ByteArray)) : Option (ByteArray × Int) :=
  loopN (ann 29 6).keep 2 (fun fr H k => execK TT 0 E29 (inlD TT E29 n ann (tabC C29) 1) n (ann 29) (subC [1, 1, 1, 0, 1, 0, 0] (bodyOf Tryz.f29)) fr H k) m2 (f29.h3 x r1 y2).1 (f29.h3 x r1 y2).2 (kont TT 0 E29 (inlD TT E29 n ann (tabC C29) 1) n (ann 29) [1, 1, 1, 0, 1, 0] (bodyOf Tryz.f29) (endK TT Tryz.f29 (readL [(false, .str), (false, .int .i64)])))
def f29.s1 (n : Nat) (x : dTable) (r1 : Int) (y2 : Nat × Int × (List ByteArray)) (r5 : ByteArray) (y6 : Nat × Int × (List ByteArray)) (S8 : (Nat × Int × (List ByteArray)) → Option (ByteArray × Int)) (y8 : Nat × Int × (List ByteArray)) : Option (ByteArray × Int) :=
  bif decide (y8.2.1 < (([] : List dRef).length : Int)) then
    (bif decide (0 ≤ y8.2.1) && decide (y8.2.1 < (([] : List dRef).length : Int)) then
      ((F49 (((⟨#[116]⟩ : ByteArray), (([((⟨#[97]⟩ : ByteArray), ((2 : Int), (false, ((0 : Int), ((0 : Int), (0, (⟨#[]⟩ : ByteArray)))))))] : List dColumn), (([(0 : Int)] : List Int), (([] : List dIndex), ([] : List dRef))))), (([] : List dRef).getD y8.2.1.toNat tRef.dflt).1)).bind fun r9 =>
        bif decide ((⟨#[102, 111, 114, 101, 105, 103, 110, 32, 107, 101, 121, 32]⟩ : ByteArray).size + r9.size ≤ boundS) then
          (bif decide (((⟨#[102, 111, 114, 101, 105, 103, 110, 32, 107, 101, 121, 32]⟩ : ByteArray) ++ r9).size + (⟨#[32, 114, 101, 102, 101, 114, 101, 110, 99, 101, 115, 32]⟩ : ByteArray).size ≤ boundS) then
            (bif decide ((((⟨#[102, 111, 114, 101, 105, 103, 110, 32, 107, 101, 121, 32]⟩ : ByteArray) ++ r9) ++ (⟨#[32, 114, 101, 102, 101, 114, 101, 110, 99, 101, 115, 32]⟩ : ByteArray)).size + (([] : List dRef).getD y8.2.1.toNat tRef.dflt).2.size ≤ boundS) then
              (bif decide ((y8.1 + 1) * 16 ≤ boundN) then
                (S8 (y8.1 + 1, (IntKind.wrap .i64 (y8.2.1 + (1 : Int)), List.take y8.1 y8.2.2 ++ ([(((⟨#[102, 111, 114, 101, 105, 103, 110, 32, 107, 101, 121, 32]⟩ : ByteArray) ++ r9) ++ (⟨#[32, 114, 101, 102, 101, 114, 101, 110, 99, 101, 115, 32]⟩ : ByteArray)) ++ (([] : List dRef).getD y8.2.1.toNat tRef.dflt).2]))))
              else
                (none))
            else
              (none))
          else
            (none))
        else
          (none))
    else
      (none))
  else
    (bif decide ((⟨#[99, 114, 101, 97, 116, 101, 32, 116, 97, 98, 108, 101, 32]⟩ : ByteArray).size + (⟨#[116]⟩ : ByteArray).size ≤ boundS) then
      (bif decide (((⟨#[99, 114, 101, 97, 116, 101, 32, 116, 97, 98, 108, 101, 32]⟩ : ByteArray) ++ (⟨#[116]⟩ : ByteArray)).size + (⟨#[32, 40, 10, 32, 32]⟩ : ByteArray).size ≤ boundS) then
        ((F50 (List.take y8.1 y8.2.2, (⟨#[44, 10, 32, 32]⟩ : ByteArray))).bind fun r10 =>
          bif decide ((((⟨#[99, 114, 101, 97, 116, 101, 32, 116, 97, 98, 108, 101, 32]⟩ : ByteArray) ++ (⟨#[116]⟩ : ByteArray)) ++ (⟨#[32, 40, 10, 32, 32]⟩ : ByteArray)).size + r10.size ≤ boundS) then
            (bif decide (((((⟨#[99, 114, 101, 97, 116, 101, 32, 116, 97, 98, 108, 101, 32]⟩ : ByteArray) ++ (⟨#[116]⟩ : ByteArray)) ++ (⟨#[32, 40, 10, 32, 32]⟩ : ByteArray)) ++ r10).size + (⟨#[10, 41, 10]⟩ : ByteArray).size ≤ boundS) then
              (bif decide (((((((⟨#[99, 114, 101, 97, 116, 101, 32, 116, 97, 98, 108, 101, 32]⟩ : ByteArray) ++ (⟨#[116]⟩ : ByteArray)) ++ (⟨#[32, 40, 10, 32, 32]⟩ : ByteArray)) ++ r10) ++ (⟨#[10, 41, 10]⟩ : ByteArray)).size : Int) > (262144 : Int)) then
                (some ((⟨#[]⟩ : ByteArray), (3 : Int)))
              else
                (some (((((⟨#[99, 114, 101, 97, 116, 101, 32, 116, 97, 98, 108, 101, 32]⟩ : ByteArray) ++ (⟨#[116]⟩ : ByteArray)) ++ (⟨#[32, 40, 10, 32, 32]⟩ : ByteArray)) ++ r10) ++ (⟨#[10, 41, 10]⟩ : ByteArray), (0 : Int))))
            else
              (none))
          else
            (none))
      else
        (none))
    else
      (none))
set_option maxRecDepth 100000 in
theorem f29.k1 (n : Nat) (x : dTable) (r1 : Int) (y2 : Nat × Int × (List ByteArray)) (r5 : ByteArray) (y6 : Nat × Int × (List ByteArray)) (m : Nat) (y : Nat × Int × (List ByteArray)) : f29.L1 n x r1 y2 r5 y6 (m + 1) y = f29.s1 n x r1 y2 r5 y6 (f29.L1 n x r1 y2 r5 y6 m) y := by kernel_rfl
theorem f29.l1 (n : Nat) (x : dTable) (r1 : Int) (y2 : Nat × Int × (List ByteArray)) (r5 : ByteArray) (y6 : Nat × Int × (List ByteArray)) : ∀ (m : Nat) (y8 : Nat × Int × (List ByteArray)), f29.L1 n x r1 y2 r5 y6 m y8 = iter (f29.s1 n x r1 y2 r5 y6) m y8 :=
  loop_of (L := f29.L1 n x r1 y2 r5 y6) (step := f29.s1 n x r1 y2 r5 y6) (fun _ => rfl) (f29.k1 n x r1 y2 r5 y6)
def f29.s2 (n : Nat) (x : dTable) (r1 : Int) (y2 : Nat × Int × (List ByteArray)) (r5 : ByteArray) (S6 : (Nat × Int × (List ByteArray)) → Option (ByteArray × Int)) (y6 : Nat × Int × (List ByteArray)) : Option (ByteArray × Int) :=
  bif decide (y6.2.1 < (([] : List dIndex).length : Int)) then
    (bif decide (0 ≤ y6.2.1) && decide (y6.2.1 < (([] : List dIndex).length : Int)) then
      (bif decide ((⟨#[105, 110, 100, 101, 120, 32]⟩ : ByteArray).size + (([] : List dIndex).getD y6.2.1.toNat tIndex.dflt).1.size ≤ boundS) then
        (bif decide (((⟨#[105, 110, 100, 101, 120, 32]⟩ : ByteArray) ++ (([] : List dIndex).getD y6.2.1.toNat tIndex.dflt).1).size + (⟨#[32]⟩ : ByteArray).size ≤ boundS) then
          ((F49 (((⟨#[116]⟩ : ByteArray), (([((⟨#[97]⟩ : ByteArray), ((2 : Int), (false, ((0 : Int), ((0 : Int), (0, (⟨#[]⟩ : ByteArray)))))))] : List dColumn), (([(0 : Int)] : List Int), (([] : List dIndex), ([] : List dRef))))), (([] : List dIndex).getD y6.2.1.toNat tIndex.dflt).2.1)).bind fun r7 =>
            bif decide ((((⟨#[105, 110, 100, 101, 120, 32]⟩ : ByteArray) ++ (([] : List dIndex).getD y6.2.1.toNat tIndex.dflt).1) ++ (⟨#[32]⟩ : ByteArray)).size + r7.size ≤ boundS) then
              (bif (([] : List dIndex).getD y6.2.1.toNat tIndex.dflt).2.2 then
                (bif decide ((⟨#[117, 110, 105, 113, 117, 101, 32]⟩ : ByteArray).size + ((((⟨#[105, 110, 100, 101, 120, 32]⟩ : ByteArray) ++ (([] : List dIndex).getD y6.2.1.toNat tIndex.dflt).1) ++ (⟨#[32]⟩ : ByteArray)) ++ r7).size ≤ boundS) then
                  (bif decide ((y6.1 + 1) * 16 ≤ boundN) then
                    (S6 (y6.1 + 1, (IntKind.wrap .i64 (y6.2.1 + (1 : Int)), List.take y6.1 y6.2.2 ++ ([(⟨#[117, 110, 105, 113, 117, 101, 32]⟩ : ByteArray) ++ ((((⟨#[105, 110, 100, 101, 120, 32]⟩ : ByteArray) ++ (([] : List dIndex).getD y6.2.1.toNat tIndex.dflt).1) ++ (⟨#[32]⟩ : ByteArray)) ++ r7)]))))
                  else
                    (none))
                else
                  (none))
              else
                (bif decide ((y6.1 + 1) * 16 ≤ boundN) then
                  (S6 (y6.1 + 1, (IntKind.wrap .i64 (y6.2.1 + (1 : Int)), List.take y6.1 y6.2.2 ++ ([(((⟨#[105, 110, 100, 101, 120, 32]⟩ : ByteArray) ++ (([] : List dIndex).getD y6.2.1.toNat tIndex.dflt).1) ++ (⟨#[32]⟩ : ByteArray)) ++ r7]))))
                else
                  (none)))
            else
              (none))
        else
          (none))
      else
        (none))
    else
      (none))
  else
    (iter (f29.s1 n x r1 y2 r5 y6) n (y6.1, ((0 : Int), y6.2.2)))
def f29.r2 (n : Nat) (x : dTable) (r1 : Int) (y2 : Nat × Int × (List ByteArray)) (r5 : ByteArray) (m6 : Nat) (S6 : (Nat × Int × (List ByteArray)) → Option (ByteArray × Int)) (y6 : Nat × Int × (List ByteArray)) : Option (ByteArray × Int) :=
  bif decide (y6.2.1 < (([] : List dIndex).length : Int)) then
    (bif decide (0 ≤ y6.2.1) && decide (y6.2.1 < (([] : List dIndex).length : Int)) then
      (bif decide ((⟨#[105, 110, 100, 101, 120, 32]⟩ : ByteArray).size + (([] : List dIndex).getD y6.2.1.toNat tIndex.dflt).1.size ≤ boundS) then
        (bif decide (((⟨#[105, 110, 100, 101, 120, 32]⟩ : ByteArray) ++ (([] : List dIndex).getD y6.2.1.toNat tIndex.dflt).1).size + (⟨#[32]⟩ : ByteArray).size ≤ boundS) then
          ((F49 (((⟨#[116]⟩ : ByteArray), (([((⟨#[97]⟩ : ByteArray), ((2 : Int), (false, ((0 : Int), ((0 : Int), (0, (⟨#[]⟩ : ByteArray)))))))] : List dColumn), (([(0 : Int)] : List Int), (([] : List dIndex), ([] : List dRef))))), (([] : List dIndex).getD y6.2.1.toNat tIndex.dflt).2.1)).bind fun r7 =>
            bif decide ((((⟨#[105, 110, 100, 101, 120, 32]⟩ : ByteArray) ++ (([] : List dIndex).getD y6.2.1.toNat tIndex.dflt).1) ++ (⟨#[32]⟩ : ByteArray)).size + r7.size ≤ boundS) then
              (bif (([] : List dIndex).getD y6.2.1.toNat tIndex.dflt).2.2 then
                (bif decide ((⟨#[117, 110, 105, 113, 117, 101, 32]⟩ : ByteArray).size + ((((⟨#[105, 110, 100, 101, 120, 32]⟩ : ByteArray) ++ (([] : List dIndex).getD y6.2.1.toNat tIndex.dflt).1) ++ (⟨#[32]⟩ : ByteArray)) ++ r7).size ≤ boundS) then
                  (bif decide ((y6.1 + 1) * 16 ≤ boundN) then
                    (S6 (y6.1 + 1, (IntKind.wrap .i64 (y6.2.1 + (1 : Int)), List.take y6.1 y6.2.2 ++ ([(⟨#[117, 110, 105, 113, 117, 101, 32]⟩ : ByteArray) ++ ((((⟨#[105, 110, 100, 101, 120, 32]⟩ : ByteArray) ++ (([] : List dIndex).getD y6.2.1.toNat tIndex.dflt).1) ++ (⟨#[32]⟩ : ByteArray)) ++ r7)]))))
                  else
                    (none))
                else
                  (none))
              else
                (bif decide ((y6.1 + 1) * 16 ≤ boundN) then
                  (S6 (y6.1 + 1, (IntKind.wrap .i64 (y6.2.1 + (1 : Int)), List.take y6.1 y6.2.2 ++ ([(((⟨#[105, 110, 100, 101, 120, 32]⟩ : ByteArray) ++ (([] : List dIndex).getD y6.2.1.toNat tIndex.dflt).1) ++ (⟨#[32]⟩ : ByteArray)) ++ r7]))))
                else
                  (none)))
            else
              (none))
        else
          (none))
      else
        (none))
    else
      (none))
  else
    (f29.L1 n x r1 y2 r5 y6 n (y6.1, ((0 : Int), y6.2.2)))
set_option maxRecDepth 100000 in
theorem f29.k2 (n : Nat) (x : dTable) (r1 : Int) (y2 : Nat × Int × (List ByteArray)) (r5 : ByteArray) (m : Nat) (y : Nat × Int × (List ByteArray)) : f29.L2 n x r1 y2 r5 (m + 1) y = f29.s2 n x r1 y2 r5 (f29.L2 n x r1 y2 r5 m) y := by
  have h : f29.L2 n x r1 y2 r5 (m + 1) y = f29.r2 n x r1 y2 r5 m (f29.L2 n x r1 y2 r5 m) y := by kernel_rfl
  rw [h]
  simp only [f29.r2, f29.s2, f29.l1]
theorem f29.l2 (n : Nat) (x : dTable) (r1 : Int) (y2 : Nat × Int × (List ByteArray)) (r5 : ByteArray) : ∀ (m : Nat) (y6 : Nat × Int × (List ByteArray)), f29.L2 n x r1 y2 r5 m y6 = iter (f29.s2 n x r1 y2 r5) m y6 :=
  loop_of (L := f29.L2 n x r1 y2 r5) (step := f29.s2 n x r1 y2 r5) (fun _ => rfl) (f29.k2 n x r1 y2 r5)
def f29.s3 (n : Nat) (x : dTable) (r1 : Int) (S2 : (Nat × Int × (List ByteArray)) → Option (ByteArray × Int)) (y2 : Nat × Int × (List ByteArray)) : Option (ByteArray × Int) :=
  bif decide (y2.2.1 < (([((⟨#[97]⟩ : ByteArray), ((2 : Int), (false, ((0 : Int), ((0 : Int), (0, (⟨#[]⟩ : ByteArray)))))))] : List dColumn).length : Int)) then
    (bif decide (0 ≤ y2.2.1) && decide (y2.2.1 < (([((⟨#[97]⟩ : ByteArray), ((2 : Int), (false, ((0 : Int), ((0 : Int), (0, (⟨#[]⟩ : ByteArray)))))))] : List dColumn).length : Int)) then
      (bif decide ((([((⟨#[97]⟩ : ByteArray), ((2 : Int), (false, ((0 : Int), ((0 : Int), (0, (⟨#[]⟩ : ByteArray)))))))] : List dColumn).getD y2.2.1.toNat tColumn.dflt).1.size + (⟨#[32]⟩ : ByteArray).size ≤ boundS) then
        (bif decide (0 ≤ (([((⟨#[97]⟩ : ByteArray), ((2 : Int), (false, ((0 : Int), ((0 : Int), (0, (⟨#[]⟩ : ByteArray)))))))] : List dColumn).getD y2.2.1.toNat tColumn.dflt).2.1) && decide ((([((⟨#[97]⟩ : ByteArray), ((2 : Int), (false, ((0 : Int), ((0 : Int), (0, (⟨#[]⟩ : ByteArray)))))))] : List dColumn).getD y2.2.1.toNat tColumn.dflt).2.1 < (kindsD.length : Int)) then
          (bif decide (((([((⟨#[97]⟩ : ByteArray), ((2 : Int), (false, ((0 : Int), ((0 : Int), (0, (⟨#[]⟩ : ByteArray)))))))] : List dColumn).getD y2.2.1.toNat tColumn.dflt).1 ++ (⟨#[32]⟩ : ByteArray)).size + (kindsD.getD ((([((⟨#[97]⟩ : ByteArray), ((2 : Int), (false, ((0 : Int), ((0 : Int), (0, (⟨#[]⟩ : ByteArray)))))))] : List dColumn).getD y2.2.1.toNat tColumn.dflt).2.1.toNat) (Ty.dflt .str)).size ≤ boundS) then
            (bif !(([((⟨#[97]⟩ : ByteArray), ((2 : Int), (false, ((0 : Int), ((0 : Int), (0, (⟨#[]⟩ : ByteArray)))))))] : List dColumn).getD y2.2.1.toNat tColumn.dflt).2.2.1 then
              (bif decide ((((([((⟨#[97]⟩ : ByteArray), ((2 : Int), (false, ((0 : Int), ((0 : Int), (0, (⟨#[]⟩ : ByteArray)))))))] : List dColumn).getD y2.2.1.toNat tColumn.dflt).1 ++ (⟨#[32]⟩ : ByteArray)) ++ (kindsD.getD ((([((⟨#[97]⟩ : ByteArray), ((2 : Int), (false, ((0 : Int), ((0 : Int), (0, (⟨#[]⟩ : ByteArray)))))))] : List dColumn).getD y2.2.1.toNat tColumn.dflt).2.1.toNat) (Ty.dflt .str))).size + (⟨#[32, 110, 111, 116, 32, 110, 117, 108, 108]⟩ : ByteArray).size ≤ boundS) then
                (bif (([((⟨#[97]⟩ : ByteArray), ((2 : Int), (false, ((0 : Int), ((0 : Int), (0, (⟨#[]⟩ : ByteArray)))))))] : List dColumn).getD y2.2.1.toNat tColumn.dflt).2.2.2.1 != (0 : Int) then
                  ((F48 (([((⟨#[97]⟩ : ByteArray), ((2 : Int), (false, ((0 : Int), ((0 : Int), (0, (⟨#[]⟩ : ByteArray)))))))] : List dColumn).getD y2.2.1.toNat tColumn.dflt).2.2.2).bind fun r3 =>
                    bif decide ((⟨#[32, 100, 101, 102, 97, 117, 108, 116, 32]⟩ : ByteArray).size + r3.1.size ≤ boundS) then
                      (bif decide (((((([((⟨#[97]⟩ : ByteArray), ((2 : Int), (false, ((0 : Int), ((0 : Int), (0, (⟨#[]⟩ : ByteArray)))))))] : List dColumn).getD y2.2.1.toNat tColumn.dflt).1 ++ (⟨#[32]⟩ : ByteArray)) ++ (kindsD.getD ((([((⟨#[97]⟩ : ByteArray), ((2 : Int), (false, ((0 : Int), ((0 : Int), (0, (⟨#[]⟩ : ByteArray)))))))] : List dColumn).getD y2.2.1.toNat tColumn.dflt).2.1.toNat) (Ty.dflt .str))) ++ (⟨#[32, 110, 111, 116, 32, 110, 117, 108, 108]⟩ : ByteArray)).size + ((⟨#[32, 100, 101, 102, 97, 117, 108, 116, 32]⟩ : ByteArray) ++ r3.1).size ≤ boundS) then
                        (bif decide ((y2.1 + 1) * 16 ≤ boundN) then
                          (S2 (y2.1 + 1, (IntKind.wrap .i64 (y2.2.1 + (1 : Int)), List.take y2.1 y2.2.2 ++ ([((((([((⟨#[97]⟩ : ByteArray), ((2 : Int), (false, ((0 : Int), ((0 : Int), (0, (⟨#[]⟩ : ByteArray)))))))] : List dColumn).getD y2.2.1.toNat tColumn.dflt).1 ++ (⟨#[32]⟩ : ByteArray)) ++ (kindsD.getD ((([((⟨#[97]⟩ : ByteArray), ((2 : Int), (false, ((0 : Int), ((0 : Int), (0, (⟨#[]⟩ : ByteArray)))))))] : List dColumn).getD y2.2.1.toNat tColumn.dflt).2.1.toNat) (Ty.dflt .str))) ++ (⟨#[32, 110, 111, 116, 32, 110, 117, 108, 108]⟩ : ByteArray)) ++ ((⟨#[32, 100, 101, 102, 97, 117, 108, 116, 32]⟩ : ByteArray) ++ r3.1)]))))
                        else
                          (none))
                      else
                        (none))
                    else
                      (none))
                else
                  (bif decide ((y2.1 + 1) * 16 ≤ boundN) then
                    (S2 (y2.1 + 1, (IntKind.wrap .i64 (y2.2.1 + (1 : Int)), List.take y2.1 y2.2.2 ++ ([(((([((⟨#[97]⟩ : ByteArray), ((2 : Int), (false, ((0 : Int), ((0 : Int), (0, (⟨#[]⟩ : ByteArray)))))))] : List dColumn).getD y2.2.1.toNat tColumn.dflt).1 ++ (⟨#[32]⟩ : ByteArray)) ++ (kindsD.getD ((([((⟨#[97]⟩ : ByteArray), ((2 : Int), (false, ((0 : Int), ((0 : Int), (0, (⟨#[]⟩ : ByteArray)))))))] : List dColumn).getD y2.2.1.toNat tColumn.dflt).2.1.toNat) (Ty.dflt .str))) ++ (⟨#[32, 110, 111, 116, 32, 110, 117, 108, 108]⟩ : ByteArray)]))))
                  else
                    (none)))
              else
                (none))
            else
              (bif (([((⟨#[97]⟩ : ByteArray), ((2 : Int), (false, ((0 : Int), ((0 : Int), (0, (⟨#[]⟩ : ByteArray)))))))] : List dColumn).getD y2.2.1.toNat tColumn.dflt).2.2.2.1 != (0 : Int) then
                ((F48 (([((⟨#[97]⟩ : ByteArray), ((2 : Int), (false, ((0 : Int), ((0 : Int), (0, (⟨#[]⟩ : ByteArray)))))))] : List dColumn).getD y2.2.1.toNat tColumn.dflt).2.2.2).bind fun r4 =>
                  bif decide ((⟨#[32, 100, 101, 102, 97, 117, 108, 116, 32]⟩ : ByteArray).size + r4.1.size ≤ boundS) then
                    (bif decide ((((([((⟨#[97]⟩ : ByteArray), ((2 : Int), (false, ((0 : Int), ((0 : Int), (0, (⟨#[]⟩ : ByteArray)))))))] : List dColumn).getD y2.2.1.toNat tColumn.dflt).1 ++ (⟨#[32]⟩ : ByteArray)) ++ (kindsD.getD ((([((⟨#[97]⟩ : ByteArray), ((2 : Int), (false, ((0 : Int), ((0 : Int), (0, (⟨#[]⟩ : ByteArray)))))))] : List dColumn).getD y2.2.1.toNat tColumn.dflt).2.1.toNat) (Ty.dflt .str))).size + ((⟨#[32, 100, 101, 102, 97, 117, 108, 116, 32]⟩ : ByteArray) ++ r4.1).size ≤ boundS) then
                      (bif decide ((y2.1 + 1) * 16 ≤ boundN) then
                        (S2 (y2.1 + 1, (IntKind.wrap .i64 (y2.2.1 + (1 : Int)), List.take y2.1 y2.2.2 ++ ([(((([((⟨#[97]⟩ : ByteArray), ((2 : Int), (false, ((0 : Int), ((0 : Int), (0, (⟨#[]⟩ : ByteArray)))))))] : List dColumn).getD y2.2.1.toNat tColumn.dflt).1 ++ (⟨#[32]⟩ : ByteArray)) ++ (kindsD.getD ((([((⟨#[97]⟩ : ByteArray), ((2 : Int), (false, ((0 : Int), ((0 : Int), (0, (⟨#[]⟩ : ByteArray)))))))] : List dColumn).getD y2.2.1.toNat tColumn.dflt).2.1.toNat) (Ty.dflt .str))) ++ ((⟨#[32, 100, 101, 102, 97, 117, 108, 116, 32]⟩ : ByteArray) ++ r4.1)]))))
                      else
                        (none))
                    else
                      (none))
                  else
                    (none))
              else
                (bif decide ((y2.1 + 1) * 16 ≤ boundN) then
                  (S2 (y2.1 + 1, (IntKind.wrap .i64 (y2.2.1 + (1 : Int)), List.take y2.1 y2.2.2 ++ ([((([((⟨#[97]⟩ : ByteArray), ((2 : Int), (false, ((0 : Int), ((0 : Int), (0, (⟨#[]⟩ : ByteArray)))))))] : List dColumn).getD y2.2.1.toNat tColumn.dflt).1 ++ (⟨#[32]⟩ : ByteArray)) ++ (kindsD.getD ((([((⟨#[97]⟩ : ByteArray), ((2 : Int), (false, ((0 : Int), ((0 : Int), (0, (⟨#[]⟩ : ByteArray)))))))] : List dColumn).getD y2.2.1.toNat tColumn.dflt).2.1.toNat) (Ty.dflt .str))]))))
                else
                  (none))))
          else
            (none))
        else
          (none))
      else
        (none))
    else
      (none))
  else
    ((F49 (((⟨#[116]⟩ : ByteArray), (([((⟨#[97]⟩ : ByteArray), ((2 : Int), (false, ((0 : Int), ((0 : Int), (0, (⟨#[]⟩ : ByteArray)))))))] : List dColumn), (([(0 : Int)] : List Int), (([] : List dIndex), ([] : List dRef))))), ([(0 : Int)] : List Int))).bind fun r5 =>
      bif decide ((⟨#[112, 114, 105, 109, 97, 114, 121, 32, 107, 101, 121, 32]⟩ : ByteArray).size + r5.size ≤ boundS) then
        (bif decide ((y2.1 + 1) * 16 ≤ boundN) then
          (iter (f29.s2 n x r1 y2 r5) n (y2.1 + 1, ((0 : Int), List.take y2.1 y2.2.2 ++ ([(⟨#[112, 114, 105, 109, 97, 114, 121, 32, 107, 101, 121, 32]⟩ : ByteArray) ++ r5]))))
        else
          (none))
      else
        (none))
def f29.r3 (n : Nat) (x : dTable) (r1 : Int) (m2 : Nat) (S2 : (Nat × Int × (List ByteArray)) → Option (ByteArray × Int)) (y2 : Nat × Int × (List ByteArray)) : Option (ByteArray × Int) :=
  bif decide (y2.2.1 < (([((⟨#[97]⟩ : ByteArray), ((2 : Int), (false, ((0 : Int), ((0 : Int), (0, (⟨#[]⟩ : ByteArray)))))))] : List dColumn).length : Int)) then
    (bif decide (0 ≤ y2.2.1) && decide (y2.2.1 < (([((⟨#[97]⟩ : ByteArray), ((2 : Int), (false, ((0 : Int), ((0 : Int), (0, (⟨#[]⟩ : ByteArray)))))))] : List dColumn).length : Int)) then
      (bif decide ((([((⟨#[97]⟩ : ByteArray), ((2 : Int), (false, ((0 : Int), ((0 : Int), (0, (⟨#[]⟩ : ByteArray)))))))] : List dColumn).getD y2.2.1.toNat tColumn.dflt).1.size + (⟨#[32]⟩ : ByteArray).size ≤ boundS) then
        (bif decide (0 ≤ (([((⟨#[97]⟩ : ByteArray), ((2 : Int), (false, ((0 : Int), ((0 : Int), (0, (⟨#[]⟩ : ByteArray)))))))] : List dColumn).getD y2.2.1.toNat tColumn.dflt).2.1) && decide ((([((⟨#[97]⟩ : ByteArray), ((2 : Int), (false, ((0 : Int), ((0 : Int), (0, (⟨#[]⟩ : ByteArray)))))))] : List dColumn).getD y2.2.1.toNat tColumn.dflt).2.1 < (kindsD.length : Int)) then
          (bif decide (((([((⟨#[97]⟩ : ByteArray), ((2 : Int), (false, ((0 : Int), ((0 : Int), (0, (⟨#[]⟩ : ByteArray)))))))] : List dColumn).getD y2.2.1.toNat tColumn.dflt).1 ++ (⟨#[32]⟩ : ByteArray)).size + (kindsD.getD ((([((⟨#[97]⟩ : ByteArray), ((2 : Int), (false, ((0 : Int), ((0 : Int), (0, (⟨#[]⟩ : ByteArray)))))))] : List dColumn).getD y2.2.1.toNat tColumn.dflt).2.1.toNat) (Ty.dflt .str)).size ≤ boundS) then
            (bif !(([((⟨#[97]⟩ : ByteArray), ((2 : Int), (false, ((0 : Int), ((0 : Int), (0, (⟨#[]⟩ : ByteArray)))))))] : List dColumn).getD y2.2.1.toNat tColumn.dflt).2.2.1 then
              (bif decide ((((([((⟨#[97]⟩ : ByteArray), ((2 : Int), (false, ((0 : Int), ((0 : Int), (0, (⟨#[]⟩ : ByteArray)))))))] : List dColumn).getD y2.2.1.toNat tColumn.dflt).1 ++ (⟨#[32]⟩ : ByteArray)) ++ (kindsD.getD ((([((⟨#[97]⟩ : ByteArray), ((2 : Int), (false, ((0 : Int), ((0 : Int), (0, (⟨#[]⟩ : ByteArray)))))))] : List dColumn).getD y2.2.1.toNat tColumn.dflt).2.1.toNat) (Ty.dflt .str))).size + (⟨#[32, 110, 111, 116, 32, 110, 117, 108, 108]⟩ : ByteArray).size ≤ boundS) then
                (bif (([((⟨#[97]⟩ : ByteArray), ((2 : Int), (false, ((0 : Int), ((0 : Int), (0, (⟨#[]⟩ : ByteArray)))))))] : List dColumn).getD y2.2.1.toNat tColumn.dflt).2.2.2.1 != (0 : Int) then
                  ((F48 (([((⟨#[97]⟩ : ByteArray), ((2 : Int), (false, ((0 : Int), ((0 : Int), (0, (⟨#[]⟩ : ByteArray)))))))] : List dColumn).getD y2.2.1.toNat tColumn.dflt).2.2.2).bind fun r3 =>
                    bif decide ((⟨#[32, 100, 101, 102, 97, 117, 108, 116, 32]⟩ : ByteArray).size + r3.1.size ≤ boundS) then
                      (bif decide (((((([((⟨#[97]⟩ : ByteArray), ((2 : Int), (false, ((0 : Int), ((0 : Int), (0, (⟨#[]⟩ : ByteArray)))))))] : List dColumn).getD y2.2.1.toNat tColumn.dflt).1 ++ (⟨#[32]⟩ : ByteArray)) ++ (kindsD.getD ((([((⟨#[97]⟩ : ByteArray), ((2 : Int), (false, ((0 : Int), ((0 : Int), (0, (⟨#[]⟩ : ByteArray)))))))] : List dColumn).getD y2.2.1.toNat tColumn.dflt).2.1.toNat) (Ty.dflt .str))) ++ (⟨#[32, 110, 111, 116, 32, 110, 117, 108, 108]⟩ : ByteArray)).size + ((⟨#[32, 100, 101, 102, 97, 117, 108, 116, 32]⟩ : ByteArray) ++ r3.1).size ≤ boundS) then
                        (bif decide ((y2.1 + 1) * 16 ≤ boundN) then
                          (S2 (y2.1 + 1, (IntKind.wrap .i64 (y2.2.1 + (1 : Int)), List.take y2.1 y2.2.2 ++ ([((((([((⟨#[97]⟩ : ByteArray), ((2 : Int), (false, ((0 : Int), ((0 : Int), (0, (⟨#[]⟩ : ByteArray)))))))] : List dColumn).getD y2.2.1.toNat tColumn.dflt).1 ++ (⟨#[32]⟩ : ByteArray)) ++ (kindsD.getD ((([((⟨#[97]⟩ : ByteArray), ((2 : Int), (false, ((0 : Int), ((0 : Int), (0, (⟨#[]⟩ : ByteArray)))))))] : List dColumn).getD y2.2.1.toNat tColumn.dflt).2.1.toNat) (Ty.dflt .str))) ++ (⟨#[32, 110, 111, 116, 32, 110, 117, 108, 108]⟩ : ByteArray)) ++ ((⟨#[32, 100, 101, 102, 97, 117, 108, 116, 32]⟩ : ByteArray) ++ r3.1)]))))
                        else
                          (none))
                      else
                        (none))
                    else
                      (none))
                else
                  (bif decide ((y2.1 + 1) * 16 ≤ boundN) then
                    (S2 (y2.1 + 1, (IntKind.wrap .i64 (y2.2.1 + (1 : Int)), List.take y2.1 y2.2.2 ++ ([(((([((⟨#[97]⟩ : ByteArray), ((2 : Int), (false, ((0 : Int), ((0 : Int), (0, (⟨#[]⟩ : ByteArray)))))))] : List dColumn).getD y2.2.1.toNat tColumn.dflt).1 ++ (⟨#[32]⟩ : ByteArray)) ++ (kindsD.getD ((([((⟨#[97]⟩ : ByteArray), ((2 : Int), (false, ((0 : Int), ((0 : Int), (0, (⟨#[]⟩ : ByteArray)))))))] : List dColumn).getD y2.2.1.toNat tColumn.dflt).2.1.toNat) (Ty.dflt .str))) ++ (⟨#[32, 110, 111, 116, 32, 110, 117, 108, 108]⟩ : ByteArray)]))))
                  else
                    (none)))
              else
                (none))
            else
              (bif (([((⟨#[97]⟩ : ByteArray), ((2 : Int), (false, ((0 : Int), ((0 : Int), (0, (⟨#[]⟩ : ByteArray)))))))] : List dColumn).getD y2.2.1.toNat tColumn.dflt).2.2.2.1 != (0 : Int) then
                ((F48 (([((⟨#[97]⟩ : ByteArray), ((2 : Int), (false, ((0 : Int), ((0 : Int), (0, (⟨#[]⟩ : ByteArray)))))))] : List dColumn).getD y2.2.1.toNat tColumn.dflt).2.2.2).bind fun r4 =>
                  bif decide ((⟨#[32, 100, 101, 102, 97, 117, 108, 116, 32]⟩ : ByteArray).size + r4.1.size ≤ boundS) then
                    (bif decide ((((([((⟨#[97]⟩ : ByteArray), ((2 : Int), (false, ((0 : Int), ((0 : Int), (0, (⟨#[]⟩ : ByteArray)))))))] : List dColumn).getD y2.2.1.toNat tColumn.dflt).1 ++ (⟨#[32]⟩ : ByteArray)) ++ (kindsD.getD ((([((⟨#[97]⟩ : ByteArray), ((2 : Int), (false, ((0 : Int), ((0 : Int), (0, (⟨#[]⟩ : ByteArray)))))))] : List dColumn).getD y2.2.1.toNat tColumn.dflt).2.1.toNat) (Ty.dflt .str))).size + ((⟨#[32, 100, 101, 102, 97, 117, 108, 116, 32]⟩ : ByteArray) ++ r4.1).size ≤ boundS) then
                      (bif decide ((y2.1 + 1) * 16 ≤ boundN) then
                        (S2 (y2.1 + 1, (IntKind.wrap .i64 (y2.2.1 + (1 : Int)), List.take y2.1 y2.2.2 ++ ([(((([((⟨#[97]⟩ : ByteArray), ((2 : Int), (false, ((0 : Int), ((0 : Int), (0, (⟨#[]⟩ : ByteArray)))))))] : List dColumn).getD y2.2.1.toNat tColumn.dflt).1 ++ (⟨#[32]⟩ : ByteArray)) ++ (kindsD.getD ((([((⟨#[97]⟩ : ByteArray), ((2 : Int), (false, ((0 : Int), ((0 : Int), (0, (⟨#[]⟩ : ByteArray)))))))] : List dColumn).getD y2.2.1.toNat tColumn.dflt).2.1.toNat) (Ty.dflt .str))) ++ ((⟨#[32, 100, 101, 102, 97, 117, 108, 116, 32]⟩ : ByteArray) ++ r4.1)]))))
                      else
                        (none))
                    else
                      (none))
                  else
                    (none))
              else
                (bif decide ((y2.1 + 1) * 16 ≤ boundN) then
                  (S2 (y2.1 + 1, (IntKind.wrap .i64 (y2.2.1 + (1 : Int)), List.take y2.1 y2.2.2 ++ ([((([((⟨#[97]⟩ : ByteArray), ((2 : Int), (false, ((0 : Int), ((0 : Int), (0, (⟨#[]⟩ : ByteArray)))))))] : List dColumn).getD y2.2.1.toNat tColumn.dflt).1 ++ (⟨#[32]⟩ : ByteArray)) ++ (kindsD.getD ((([((⟨#[97]⟩ : ByteArray), ((2 : Int), (false, ((0 : Int), ((0 : Int), (0, (⟨#[]⟩ : ByteArray)))))))] : List dColumn).getD y2.2.1.toNat tColumn.dflt).2.1.toNat) (Ty.dflt .str))]))))
                else
                  (none))))
          else
            (none))
        else
          (none))
      else
        (none))
    else
      (none))
  else
    ((F49 (((⟨#[116]⟩ : ByteArray), (([((⟨#[97]⟩ : ByteArray), ((2 : Int), (false, ((0 : Int), ((0 : Int), (0, (⟨#[]⟩ : ByteArray)))))))] : List dColumn), (([(0 : Int)] : List Int), (([] : List dIndex), ([] : List dRef))))), ([(0 : Int)] : List Int))).bind fun r5 =>
      bif decide ((⟨#[112, 114, 105, 109, 97, 114, 121, 32, 107, 101, 121, 32]⟩ : ByteArray).size + r5.size ≤ boundS) then
        (bif decide ((y2.1 + 1) * 16 ≤ boundN) then
          (f29.L2 n x r1 y2 r5 n (y2.1 + 1, ((0 : Int), List.take y2.1 y2.2.2 ++ ([(⟨#[112, 114, 105, 109, 97, 114, 121, 32, 107, 101, 121, 32]⟩ : ByteArray) ++ r5]))))
        else
          (none))
      else
        (none))
set_option maxRecDepth 100000 in
theorem f29.k3 (n : Nat) (x : dTable) (r1 : Int) (m : Nat) (y : Nat × Int × (List ByteArray)) : f29.L3 n x r1 (m + 1) y = f29.s3 n x r1 (f29.L3 n x r1 m) y := by
  have h : f29.L3 n x r1 (m + 1) y = f29.r3 n x r1 m (f29.L3 n x r1 m) y := by kernel_rfl
  rw [h]
  simp only [f29.r3, f29.s3, f29.l1, f29.l2]
theorem f29.l3 (n : Nat) (x : dTable) (r1 : Int) : ∀ (m : Nat) (y2 : Nat × Int × (List ByteArray)), f29.L3 n x r1 m y2 = iter (f29.s3 n x r1) m y2 :=
  loop_of (L := f29.L3 n x r1) (step := f29.s3 n x r1) (fun _ => rfl) (f29.k3 n x r1)
def f29.g (n : Nat) (x : dTable) : Option (ByteArray × Int) :=
  (F11 ((⟨#[116]⟩ : ByteArray), (([((⟨#[97]⟩ : ByteArray), ((2 : Int), (false, ((0 : Int), ((0 : Int), (0, (⟨#[]⟩ : ByteArray)))))))] : List dColumn), (([(0 : Int)] : List Int), (([] : List dIndex), ([] : List dRef)))))).bind fun r1 =>
    bif r1 != (0 : Int) then
      (some ((⟨#[]⟩ : ByteArray), r1))
    else
      (iter (f29.s3 n x r1) n (0, ((0 : Int), [])))
def f29.q (n : Nat) (x : dTable) : Option (ByteArray × Int) :=
  (F11 ((⟨#[116]⟩ : ByteArray), (([((⟨#[97]⟩ : ByteArray), ((2 : Int), (false, ((0 : Int), ((0 : Int), (0, (⟨#[]⟩ : ByteArray)))))))] : List dColumn), (([(0 : Int)] : List Int), (([] : List dIndex), ([] : List dRef)))))).bind fun r1 =>
    bif r1 != (0 : Int) then
      (some ((⟨#[]⟩ : ByteArray), r1))
    else
      (f29.L3 n x r1 n (0, ((0 : Int), [])))
def f29.at : dTable := ((⟨#[116]⟩ : ByteArray), (([((⟨#[97]⟩ : ByteArray), ((2 : Int), (false, ((0 : Int), ((0 : Int), (0, (⟨#[]⟩ : ByteArray)))))))] : List dColumn), (([(0 : Int)] : List Int), (([] : List dIndex), ([] : List dRef)))))
set_option maxRecDepth 100000 in
theorem f29.eq (n : Nat) (x : dTable) : runK TT E29 n ann (tabC C29) 1 29 (argsL [(true, tTable)] f29.at) [] (readL [(false, .str), (false, .int .i64)]) = f29.g n x := by
  have h : runK TT E29 n ann (tabC C29) 1 29 (argsL [(true, tTable)] f29.at) [] (readL [(false, .str), (false, .int .i64)]) = f29.q n x := by kernel_rfl
  rw [h]
  simp only [f29.q, f29.g, f29.l1, f29.l2, f29.l3]
set_option maxRecDepth 100000 in
theorem f29.codes : CodesOk Tryz.prog E29 ann (tabC C29) := tabC_ok (by intro p hp; simp only [C29, List.mem_cons, List.not_mem_nil, or_false] at hp; rcases hp with rfl <;> first | exact Tryz.func29) (by kernel_rfl)
theorem f29.ok (h : ∀ X Y, F29 X = some Y → X = f29.at ∧ ∃ n, f29.g n X = some Y) (e11 : ConOk Tryz.prog 11 con11) (e48 : ConOk Tryz.prog 48 con48) (e49 : ConOk Tryz.prog 49 con49) (e50 : ConOk Tryz.prog 50 con50) : ConOk Tryz.prog 29 (mkCon [(true, tTable)] [(false, .str), (false, .int .i64)] true F29) :=
  mkCon_ok mixed TT_ok (envC_ok e50 (envC_ok e49 (envC_ok e48 (envC_ok e11 env0_ok)))) f29.codes (fun _ => List.all_eq_true.1 rfl) fun X Y hF => by
    obtain ⟨e, n, hn⟩ := h X Y hF
    subst e
    exact ⟨n, (f29.eq n f29.at).trans hn⟩
def con29 : Con := mkCon [(true, tTable)] [(false, .str), (false, .int .i64)] true F29
/-! ### vellum/vellumlaw03.awake -/
def E10 : FuncId → Option Con := (envC 29 con29 (envC 17 con17 (envC 11 con11 env0)))
noncomputable def C10 : List (FuncId × Func) := [(10, Tryz.f10), (30, Tryz.f30), (31, Tryz.f31)]
def f10.g (n : Nat) (x : Unit) : Option (Bool) :=
  (F29 ((⟨#[116]⟩ : ByteArray), (List.take 1 ([((⟨#[97]⟩ : ByteArray), ((2 : Int), (false, ((0 : Int), ((0 : Int), (0, (⟨#[]⟩ : ByteArray)))))))]), (List.take 1 ([(0 : Int)]), ([], []))))).bind fun r1 =>
    (F17 (((⟨#[116]⟩ : ByteArray), (List.take 1 ([((⟨#[97]⟩ : ByteArray), ((2 : Int), (false, ((0 : Int), ((0 : Int), (0, (⟨#[]⟩ : ByteArray)))))))]), (List.take 1 ([(0 : Int)]), ([], [])))), (List.take 1 ([(0 : Int)]), List.take 1 ([((2 : Int), ((4 : Int), (0, (⟨#[]⟩ : ByteArray))))])))).bind fun r2 =>
      bif bif (bif (bif (strEq r1.1 (⟨#[99, 114, 101, 97, 116, 101, 32, 116, 97, 98, 108, 101, 32, 116, 32, 40, 10, 32, 32, 97, 32, 105, 110, 116, 32, 110, 111, 116, 32, 110, 117, 108, 108, 44, 10, 32, 32, 112, 114, 105, 109, 97, 114, 121, 32, 107, 101, 121, 32, 40, 97, 41, 10, 41, 10]⟩ : ByteArray)) then (r1.2 == (0 : Int)) else false) then (r2.2 == (0 : Int)) else false) then ((r2.1.length : Int) == (1 : Int)) else false then
        (bif decide (0 ≤ (0 : Int)) && decide ((0 : Int) < (r2.1.length : Int)) then
          (bif (r2.1.getD 0 tValue.dflt).2.1 == (4 : Int) then
            ((F11 ((⟨#[]⟩ : ByteArray), ([], ([], ([], []))))).bind fun r3 =>
              some (r3 == (30 : Int)))
          else
            (some false))
        else
          (none))
      else
        (some false)
set_option maxRecDepth 100000 in
theorem f10.eq (n : Nat) (x : Unit) : runK TT E10 n ann (tabC C10) 3 10 (argsL [] x) [] (readL [(false, .bool)]) = f10.g n x := by
  kernel_rfl
set_option maxRecDepth 100000 in
theorem f10.codes : CodesOk Tryz.prog E10 ann (tabC C10) := tabC_ok (by intro p hp; simp only [C10, List.mem_cons, List.not_mem_nil, or_false] at hp; rcases hp with rfl | rfl | rfl <;> first | exact Tryz.func10 | exact Tryz.func30 | exact Tryz.func31) (by kernel_rfl)
theorem f10.ok (h : ∀ X Y, F10 X = some Y → ∃ n, f10.g n X = some Y) (e11 : ConOk Tryz.prog 11 con11) (e17 : ConOk Tryz.prog 17 con17) (e29 : ConOk Tryz.prog 29 con29) : ConOk Tryz.prog 10 (mkCon [] [(false, .bool)] true F10) :=
  mkCon_ok mixed TT_ok (envC_ok e29 (envC_ok e17 (envC_ok e11 env0_ok))) f10.codes (fun _ => List.all_eq_true.1 rfl) fun X Y hF => (h X Y hF).imp fun n hn => (f10.eq n X).trans hn
def con10 : Con := mkCon [] [(false, .bool)] true F10
/-! ### vellum/vellumlaw03.SchemaNames -/
def E3 : FuncId → Option Con := (envC 10 con10 (envC 9 con9 (envC 8 con8 env0)))
noncomputable def C3 : List (FuncId × Func) := [(3, Tryz.f3)]
def f3.g (n : Nat) (x : ByteArray) : Option (Bool) :=
  (F8 x).bind fun r1 =>
    (F9 x).bind fun r2 =>
      bif r1 == r2 then
        ((F10 ()).bind fun r3 =>
          some r3)
      else
        (some false)
set_option maxRecDepth 100000 in
theorem f3.eq (n : Nat) (x : ByteArray) : runK TT E3 n ann (tabC C3) 1 3 (argsL [(false, .str)] x) [] (readL [(false, .bool)]) = f3.g n x := by
  kernel_rfl
set_option maxRecDepth 100000 in
theorem f3.codes : CodesOk Tryz.prog E3 ann (tabC C3) := tabC_ok (by intro p hp; simp only [C3, List.mem_cons, List.not_mem_nil, or_false] at hp; rcases hp with rfl <;> first | exact Tryz.func3) (by kernel_rfl)
theorem f3.ok (h : ∀ X Y, (FL [(false, .str)]) X = some Y → ∃ n, f3.g n X = some Y) (e8 : ConOk Tryz.prog 8 con8) (e9 : ConOk Tryz.prog 9 con9) (e10 : ConOk Tryz.prog 10 con10) : ConOk Tryz.prog 3 (mkCon [(false, .str)] [(false, .bool)] true (FL [(false, .str)])) :=
  mkCon_ok mixed TT_ok (envC_ok e10 (envC_ok e9 (envC_ok e8 env0_ok))) f3.codes (fun _ => List.all_eq_true.1 rfl) fun X Y hF => (h X Y hF).imp fun n hn => (f3.eq n X).trans hn
def con3 : Con := mkCon [(false, .str)] [(false, .bool)] true (FL [(false, .str)])
/-! ### vellum/vellumlaw03.SchemaChecks -/
def E4 : FuncId → Option Con := (envC 13 con13 (envC 12 con12 (envC 11 con11 (envC 10 con10 env0))))
noncomputable def C4 : List (FuncId × Func) := [(4, Tryz.f4)]
def f4.g (n : Nat) (x : dTable) : Option (Bool) :=
  (F12 x).bind fun r1 =>
    (F11 r1).bind fun r2 =>
      (F13 x).bind fun r3 =>
        bif r2 == r3 then
          ((F10 ()).bind fun r4 =>
            some r4)
        else
          (some false)
set_option maxRecDepth 100000 in
theorem f4.eq (n : Nat) (x : dTable) : runK TT E4 n ann (tabC C4) 1 4 (argsL [(true, tTable)] x) [] (readL [(false, .bool)]) = f4.g n x := by
  kernel_rfl
set_option maxRecDepth 100000 in
theorem f4.codes : CodesOk Tryz.prog E4 ann (tabC C4) := tabC_ok (by intro p hp; simp only [C4, List.mem_cons, List.not_mem_nil, or_false] at hp; rcases hp with rfl <;> first | exact Tryz.func4) (by kernel_rfl)
theorem f4.ok (h : ∀ X Y, (FL [(true, tTable)]) X = some Y → ∃ n, f4.g n X = some Y) (e10 : ConOk Tryz.prog 10 con10) (e11 : ConOk Tryz.prog 11 con11) (e12 : ConOk Tryz.prog 12 con12) (e13 : ConOk Tryz.prog 13 con13) : ConOk Tryz.prog 4 (mkCon [(true, tTable)] [(false, .bool)] true (FL [(true, tTable)])) :=
  mkCon_ok mixed TT_ok (envC_ok e13 (envC_ok e12 (envC_ok e11 (envC_ok e10 env0_ok)))) f4.codes (fun _ => List.all_eq_true.1 rfl) fun X Y hF => (h X Y hF).imp fun n hn => (f4.eq n X).trans hn
def con4 : Con := mkCon [(true, tTable)] [(false, .bool)] true (FL [(true, tTable)])
/-! ### vellum/vellumlaw03.SchemaAdmits -/
def E5 : FuncId → Option Con := (envC 16 con16 (envC 15 con15 (envC 14 con14 (envC 12 con12 (envC 10 con10 env0)))))
noncomputable def C5 : List (FuncId × Func) := [(5, Tryz.f5)]
def f5.g (n : Nat) (x : dTable × (List dValue)) : Option (Bool) :=
  (F12 x.1).bind fun r1 =>
    (F15 x.2).bind fun r2 =>
      (F14 (r1, r2)).bind fun r3 =>
        (F16 x).bind fun r4 =>
          bif r3 == r4 then
            ((F10 ()).bind fun r5 =>
              some r5)
          else
            (some false)
set_option maxRecDepth 100000 in
theorem f5.eq (n : Nat) (x : dTable × (List dValue)) : runK TT E5 n ann (tabC C5) 1 5 (argsL [(true, tTable), (false, .sl tValue)] x) [] (readL [(false, .bool)]) = f5.g n x := by
  kernel_rfl
set_option maxRecDepth 100000 in
theorem f5.codes : CodesOk Tryz.prog E5 ann (tabC C5) := tabC_ok (by intro p hp; simp only [C5, List.mem_cons, List.not_mem_nil, or_false] at hp; rcases hp with rfl <;> first | exact Tryz.func5) (by kernel_rfl)
theorem f5.ok (h : ∀ X Y, (FL [(true, tTable), (false, .sl tValue)]) X = some Y → ∃ n, f5.g n X = some Y) (e10 : ConOk Tryz.prog 10 con10) (e12 : ConOk Tryz.prog 12 con12) (e14 : ConOk Tryz.prog 14 con14) (e15 : ConOk Tryz.prog 15 con15) (e16 : ConOk Tryz.prog 16 con16) : ConOk Tryz.prog 5 (mkCon [(true, tTable), (false, .sl tValue)] [(false, .bool)] true (FL [(true, tTable), (false, .sl tValue)])) :=
  mkCon_ok mixed TT_ok (envC_ok e16 (envC_ok e15 (envC_ok e14 (envC_ok e12 (envC_ok e10 env0_ok))))) f5.codes (fun _ => List.all_eq_true.1 rfl) fun X Y hF => (h X Y hF).imp fun n hn => (f5.eq n X).trans hn
def con5 : Con := mkCon [(true, tTable), (false, .sl tValue)] [(false, .bool)] true (FL [(true, tTable), (false, .sl tValue)])
/-! ### vellum/vellumlaw03.SchemaFills -/
def E6 : FuncId → Option Con := (envC 19 con19 (envC 18 con18 (envC 17 con17 (envC 15 con15 (envC 12 con12 (envC 10 con10 env0))))))
noncomputable def C6 : List (FuncId × Func) := [(6, Tryz.f6)]
def f6.g (n : Nat) (x : dTable × (List Int) × (List dValue)) : Option (Bool) :=
  (F12 x.1).bind fun r1 =>
    bif decide ((0 + x.2.1.length) * 8 ≤ boundN) then
      ((F15 x.2.2).bind fun r2 =>
        (F17 (r1, (List.take (0 + x.2.1.length) (List.take 0 ([]) ++ x.2.1), r2))).bind fun r3 =>
          (F18 x).bind fun r4 =>
            bif r3.2 == r4.2 then
              ((F19 (r3.1, r4.1)).bind fun r5 =>
                bif r5 then
                  ((F10 ()).bind fun r6 =>
                    some r6)
                else
                  (some false))
            else
              (some false))
    else
      (none)
set_option maxRecDepth 100000 in
theorem f6.eq (n : Nat) (x : dTable × (List Int) × (List dValue)) : runK TT E6 n ann (tabC C6) 1 6 (argsL [(true, tTable), (false, .sl (.int .i64)), (false, .sl tValue)] x) [] (readL [(false, .bool)]) = f6.g n x := by
  kernel_rfl
set_option maxRecDepth 100000 in
theorem f6.codes : CodesOk Tryz.prog E6 ann (tabC C6) := tabC_ok (by intro p hp; simp only [C6, List.mem_cons, List.not_mem_nil, or_false] at hp; rcases hp with rfl <;> first | exact Tryz.func6) (by kernel_rfl)
theorem f6.ok (h : ∀ X Y, (FL [(true, tTable), (false, .sl (.int .i64)), (false, .sl tValue)]) X = some Y → ∃ n, f6.g n X = some Y) (e10 : ConOk Tryz.prog 10 con10) (e12 : ConOk Tryz.prog 12 con12) (e15 : ConOk Tryz.prog 15 con15) (e17 : ConOk Tryz.prog 17 con17) (e18 : ConOk Tryz.prog 18 con18) (e19 : ConOk Tryz.prog 19 con19) : ConOk Tryz.prog 6 (mkCon [(true, tTable), (false, .sl (.int .i64)), (false, .sl tValue)] [(false, .bool)] true (FL [(true, tTable), (false, .sl (.int .i64)), (false, .sl tValue)])) :=
  mkCon_ok mixed TT_ok (envC_ok e19 (envC_ok e18 (envC_ok e17 (envC_ok e15 (envC_ok e12 (envC_ok e10 env0_ok)))))) f6.codes (fun _ => List.all_eq_true.1 rfl) fun X Y hF => (h X Y hF).imp fun n hn => (f6.eq n X).trans hn
def con6 : Con := mkCon [(true, tTable), (false, .sl (.int .i64)), (false, .sl tValue)] [(false, .bool)] true (FL [(true, tTable), (false, .sl (.int .i64)), (false, .sl tValue)])
/-! ### vellum/vellumlaw03.SchemaColumns -/
def E7 : FuncId → Option Con := (envC 21 con21 (envC 20 con20 (envC 12 con12 (envC 10 con10 env0))))
noncomputable def C7 : List (FuncId × Func) := [(7, Tryz.f7)]
def f7.g (n : Nat) (x : dTable × ByteArray) : Option (Bool) :=
  (F12 x.1).bind fun r1 =>
    (F20 (r1, x.2)).bind fun r2 =>
      (F21 x).bind fun r3 =>
        bif bif (r2.1 == r3.1) then (r2.2 == r3.2) else false then
          ((F10 ()).bind fun r4 =>
            some r4)
        else
          (some false)
set_option maxRecDepth 100000 in
theorem f7.eq (n : Nat) (x : dTable × ByteArray) : runK TT E7 n ann (tabC C7) 1 7 (argsL [(true, tTable), (false, .str)] x) [] (readL [(false, .bool)]) = f7.g n x := by
  kernel_rfl
set_option maxRecDepth 100000 in
theorem f7.codes : CodesOk Tryz.prog E7 ann (tabC C7) := tabC_ok (by intro p hp; simp only [C7, List.mem_cons, List.not_mem_nil, or_false] at hp; rcases hp with rfl <;> first | exact Tryz.func7) (by kernel_rfl)
theorem f7.ok (h : ∀ X Y, (FL [(true, tTable), (false, .str)]) X = some Y → ∃ n, f7.g n X = some Y) (e10 : ConOk Tryz.prog 10 con10) (e12 : ConOk Tryz.prog 12 con12) (e20 : ConOk Tryz.prog 20 con20) (e21 : ConOk Tryz.prog 21 con21) : ConOk Tryz.prog 7 (mkCon [(true, tTable), (false, .str)] [(false, .bool)] true (FL [(true, tTable), (false, .str)])) :=
  mkCon_ok mixed TT_ok (envC_ok e21 (envC_ok e20 (envC_ok e12 (envC_ok e10 env0_ok)))) f7.codes (fun _ => List.all_eq_true.1 rfl) fun X Y hF => (h X Y hF).imp fun n hn => (f7.eq n X).trans hn
def con7 : Con := mkCon [(true, tTable), (false, .str)] [(false, .bool)] true (FL [(true, tTable), (false, .str)])
end
end Go.Proofs.YtfgfdpbeddnfhaaGreatDoor.AI
