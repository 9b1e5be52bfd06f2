/- Runs of the program's functions over plain data. Printed by aipr.py; Lean checks them. -/
import Derived.Test.YtfccofgchjieeaaGreatDoorBv
set_option maxRecDepth 100000
set_option linter.unusedVariables false
set_option linter.unusedSimpArgs false
set_option linter.unusedSectionVars false
namespace Go.Proofs.YtfccofgchjieeaaGreatDoor.AI
open Go
noncomputable section
/-! ### vellum/pred.reckon -/
def E59 : FuncId → Option Con := (envC 184 con184 (envC 106 con106 (envC 101 con101 env0)))
noncomputable def C59 : List (FuncId × Func) := [(59, Tryz.f59), (100, Tryz.f100), (105, Tryz.f105), (145, Tryz.f145), (146, Tryz.f146), (152, Tryz.f152), (153, Tryz.f153), (154, Tryz.f154), (155, Tryz.f155), (156, Tryz.f156), (157, Tryz.f157), (158, Tryz.f158), (159, Tryz.f159), (160, Tryz.f160)]
def f59.g (n : Nat) (x : ByteArray × dValue × dValue) : Option (dValue × Int) :=
 bif strEq x.1 (⟨#[43]⟩ : ByteArray) then
 (bif bif (x.2.1.1 == (2 : Int)) then (x.2.2.1 == (2 : Int)) else false then
 (bif (decide (IntKind.wrap .i64 (x.2.1.2.1 + x.2.2.2.1) > x.2.1.2.1)) == (decide (x.2.2.2.1 > (0 : Int))) then
 ((F101 (IntKind.wrap .i64 (x.2.1.2.1 + x.2.2.2.1))).bind fun r1 =>
 some (r1, (0 : Int)))
 else
 (some (zeroV, (152 : Int))))
 else
 ((F106 x.2.1).bind fun r2 =>
 (F106 x.2.2).bind fun r3 =>
 fltB (FloatKind.f64.format.add r2 r3) (fun r4 =>
 bif FloatKind.f64.format.order r4 r4 != some .eq then
 (bif FloatKind.f64.format.order r4 0 == some .eq then
 (bif FloatKind.f64.format.order 0 0 != some .eq then
 ((F184 (9221120237041090560 : Int)).bind fun r5 =>
 some (((3 : Int), ((0 : Int), (r5, (⟨#[]⟩ : ByteArray)))), (0 : Int)))
 else
 (some (((3 : Int), ((0 : Int), (0, (⟨#[]⟩ : ByteArray)))), (0 : Int))))
 else
 (bif FloatKind.f64.format.order r4 r4 != some .eq then
 ((F184 (9221120237041090560 : Int)).bind fun r6 =>
 some (((3 : Int), ((0 : Int), (r6, (⟨#[]⟩ : ByteArray)))), (0 : Int)))
 else
 (some (((3 : Int), ((0 : Int), (r4, (⟨#[]⟩ : ByteArray)))), (0 : Int)))))
 else
 (some (((3 : Int), ((0 : Int), (r4, (⟨#[]⟩ : ByteArray)))), (0 : Int))))
 ((F184 (9221120237041090560 : Int)).bind fun r7 =>
 some (((3 : Int), ((0 : Int), (r7, (⟨#[]⟩ : ByteArray)))), (0 : Int)))))
 else
 (bif strEq x.1 (⟨#[45]⟩ : ByteArray) then
 (bif bif (x.2.1.1 == (2 : Int)) then (x.2.2.1 == (2 : Int)) else false then
 (bif (decide (IntKind.wrap .i64 (x.2.1.2.1 - x.2.2.2.1) < x.2.1.2.1)) == (decide (x.2.2.2.1 > (0 : Int))) then
 ((F101 (IntKind.wrap .i64 (x.2.1.2.1 - x.2.2.2.1))).bind fun r8 =>
 some (r8, (0 : Int)))
 else
 (some (zeroV, (152 : Int))))
 else
 ((F106 x.2.1).bind fun r9 =>
 (F106 x.2.2).bind fun r10 =>
 fltB (FloatKind.f64.format.sub r9 r10) (fun r11 =>
 bif FloatKind.f64.format.order r11 r11 != some .eq then
 (bif FloatKind.f64.format.order r11 0 == some .eq then
 (bif FloatKind.f64.format.order 0 0 != some .eq then
 ((F184 (9221120237041090560 : Int)).bind fun r12 =>
 some (((3 : Int), ((0 : Int), (r12, (⟨#[]⟩ : ByteArray)))), (0 : Int)))
 else
 (some (((3 : Int), ((0 : Int), (0, (⟨#[]⟩ : ByteArray)))), (0 : Int))))
 else
 (bif FloatKind.f64.format.order r11 r11 != some .eq then
 ((F184 (9221120237041090560 : Int)).bind fun r13 =>
 some (((3 : Int), ((0 : Int), (r13, (⟨#[]⟩ : ByteArray)))), (0 : Int)))
 else
 (some (((3 : Int), ((0 : Int), (r11, (⟨#[]⟩ : ByteArray)))), (0 : Int)))))
 else
 (some (((3 : Int), ((0 : Int), (r11, (⟨#[]⟩ : ByteArray)))), (0 : Int))))
 ((F184 (9221120237041090560 : Int)).bind fun r14 =>
 some (((3 : Int), ((0 : Int), (r14, (⟨#[]⟩ : ByteArray)))), (0 : Int)))))
 else
 (bif strEq x.1 (⟨#[42]⟩ : ByteArray) then
 (bif bif (x.2.1.1 == (2 : Int)) then (x.2.2.1 == (2 : Int)) else false then
 (bif bif (x.2.1.2.1 == (0 : Int)) then true else (x.2.2.2.1 == (0 : Int)) then
 ((F101 (0 : Int)).bind fun r15 =>
 some (r15, (0 : Int)))
 else
 (bif x.2.2.2.1 == (0 : Int) then
 (none)
 else
 (bif bif (bif (IntKind.wrap .i64 (Int.tdiv (IntKind.wrap .i64 (x.2.1.2.1 * x.2.2.2.1)) x.2.2.2.1) != x.2.1.2.1) then true else (bif (x.2.1.2.1 == (-9223372036854775808 : Int)) then (x.2.2.2.1 == (-1 : Int)) else false)) then true else (bif (x.2.2.2.1 == (-9223372036854775808 : Int)) then (x.2.1.2.1 == (-1 : Int)) else false) then
 (some (zeroV, (152 : Int)))
 else
 ((F101 (IntKind.wrap .i64 (x.2.1.2.1 * x.2.2.2.1))).bind fun r16 =>
 some (r16, (0 : Int))))))
 else
 ((F106 x.2.1).bind fun r17 =>
 (F106 x.2.2).bind fun r18 =>
 fltB (FloatKind.f64.format.mul r17 r18) (fun r19 =>
 bif FloatKind.f64.format.order r19 r19 != some .eq then
 (bif FloatKind.f64.format.order r19 0 == some .eq then
 (bif FloatKind.f64.format.order 0 0 != some .eq then
 ((F184 (9221120237041090560 : Int)).bind fun r20 =>
 some (((3 : Int), ((0 : Int), (r20, (⟨#[]⟩ : ByteArray)))), (0 : Int)))
 else
 (some (((3 : Int), ((0 : Int), (0, (⟨#[]⟩ : ByteArray)))), (0 : Int))))
 else
 (bif FloatKind.f64.format.order r19 r19 != some .eq then
 ((F184 (9221120237041090560 : Int)).bind fun r21 =>
 some (((3 : Int), ((0 : Int), (r21, (⟨#[]⟩ : ByteArray)))), (0 : Int)))
 else
 (some (((3 : Int), ((0 : Int), (r19, (⟨#[]⟩ : ByteArray)))), (0 : Int)))))
 else
 (some (((3 : Int), ((0 : Int), (r19, (⟨#[]⟩ : ByteArray)))), (0 : Int))))
 ((F184 (9221120237041090560 : Int)).bind fun r22 =>
 some (((3 : Int), ((0 : Int), (r22, (⟨#[]⟩ : ByteArray)))), (0 : Int)))))
 else
 (bif strEq x.1 (⟨#[47]⟩ : ByteArray) then
 (bif bif (x.2.1.1 == (2 : Int)) then (x.2.2.1 == (2 : Int)) else false then
 (bif x.2.2.2.1 == (0 : Int) then
 (some (zeroV, (153 : Int)))
 else
 (bif bif (x.2.1.2.1 == (-9223372036854775808 : Int)) then (x.2.2.2.1 == (-1 : Int)) else false then
 (some (zeroV, (152 : Int)))
 else
 (bif x.2.2.2.1 == (0 : Int) then
 (none)
 else
 ((F101 (IntKind.wrap .i64 (Int.tdiv x.2.1.2.1 x.2.2.2.1))).bind fun r23 =>
 some (r23, (0 : Int))))))
 else
 ((F106 x.2.1).bind fun r24 =>
 (F106 x.2.2).bind fun r25 =>
 fltB (FloatKind.f64.format.div r24 r25) (fun r26 =>
 bif FloatKind.f64.format.order r26 r26 != some .eq then
 (bif FloatKind.f64.format.order r26 0 == some .eq then
 (bif FloatKind.f64.format.order 0 0 != some .eq then
 ((F184 (9221120237041090560 : Int)).bind fun r27 =>
 some (((3 : Int), ((0 : Int), (r27, (⟨#[]⟩ : ByteArray)))), (0 : Int)))
 else
 (some (((3 : Int), ((0 : Int), (0, (⟨#[]⟩ : ByteArray)))), (0 : Int))))
 else
 (bif FloatKind.f64.format.order r26 r26 != some .eq then
 ((F184 (9221120237041090560 : Int)).bind fun r28 =>
 some (((3 : Int), ((0 : Int), (r28, (⟨#[]⟩ : ByteArray)))), (0 : Int)))
 else
 (some (((3 : Int), ((0 : Int), (r26, (⟨#[]⟩ : ByteArray)))), (0 : Int)))))
 else
 (some (((3 : Int), ((0 : Int), (r26, (⟨#[]⟩ : ByteArray)))), (0 : Int))))
 ((F184 (9221120237041090560 : Int)).bind fun r29 =>
 some (((3 : Int), ((0 : Int), (r29, (⟨#[]⟩ : ByteArray)))), (0 : Int)))))
 else
 (bif strEq x.1 (⟨#[37]⟩ : ByteArray) then
 (bif bif (x.2.1.1 == (2 : Int)) then (x.2.2.1 == (2 : Int)) else false then
 (bif x.2.2.2.1 == (0 : Int) then
 (some (zeroV, (153 : Int)))
 else
 (bif x.2.2.2.1 == (-1 : Int) then
 ((F101 (0 : Int)).bind fun r30 =>
 some (r30, (0 : Int)))
 else
 (bif x.2.2.2.1 == (0 : Int) then
 (none)
 else
 ((F101 (Int.tmod x.2.1.2.1 x.2.2.2.1)).bind fun r31 =>
 some (r31, (0 : Int))))))
 else
 ((F106 x.2.1).bind fun r32 =>
 (F106 x.2.2).bind fun r33 =>
 none))
 else
 (bif bif (x.2.1.1 == (2 : Int)) then (x.2.2.1 == (2 : Int)) else false then
 (none)
 else
 ((F106 x.2.1).bind fun r34 =>
 (F106 x.2.2).bind fun r35 =>
 none))))))
theorem f59.eq (n : Nat) (x : ByteArray × dValue × dValue) : runK TT E59 n ann (tabC C59) 14 59 (argsL [(false, .str), (true, tValue), (true, tValue)] x) [] (readL [(true, tValue), (false, .int .i64)]) = f59.g n x := by
 kernel_rfl
theorem f59.codes : CodesOk Tryz.prog E59 ann (tabC C59) := tabC_ok (by intro p hp; simp only [C59, List.mem_cons, List.not_mem_nil, or_false] at hp; rcases hp with rfl | rfl | rfl | rfl | rfl | rfl | rfl | rfl | rfl | rfl | rfl | rfl | rfl | rfl <;> first | exact Tryz.func59 | exact Tryz.func100 | exact Tryz.func105 | exact Tryz.func145 | exact Tryz.func146 | exact Tryz.func152 | exact Tryz.func153 | exact Tryz.func154 | exact Tryz.func155 | exact Tryz.func156 | exact Tryz.func157 | exact Tryz.func158 | exact Tryz.func159 | exact Tryz.func160) (by kernel_rfl)
theorem f59.ok (h : ∀ X Y, F59 X = some Y → ∃ n, f59.g n X = some Y) (e101 : ConOk Tryz.prog 101 con101) (e106 : ConOk Tryz.prog 106 con106) (e184 : ConOk Tryz.prog 184 con184) : ConOk Tryz.prog 59 (mkCon [(false, .str), (true, tValue), (true, tValue)] [(true, tValue), (false, .int .i64)] true F59) :=
 mkCon_ok mixed TT_ok (envC_ok e184 (envC_ok e106 (envC_ok e101 env0_ok))) f59.codes (fun _ => List.all_eq_true.1 rfl) fun X Y hF => (h X Y hF).imp fun n hn => (f59.eq n X).trans hn
def con59 : Con := mkCon [(false, .str), (true, tValue), (true, tValue)] [(true, tValue), (false, .int .i64)] true F59
/-! ### vellum/pred.told -/
def E57 : FuncId → Option Con := env0
noncomputable def C57 : List (FuncId × Func) := [(57, Tryz.f57)]
def f57.g (n : Nat) (x : ByteArray × Int) : Option (Bool) :=
 bif strEq x.1 (⟨#[61]⟩ : ByteArray) then
 (some (x.2 == (0 : Int)))
 else
 (bif strEq x.1 (⟨#[60, 62]⟩ : ByteArray) then
 (some (x.2 != (0 : Int)))
 else
 (bif strEq x.1 (⟨#[60]⟩ : ByteArray) then
 (some (decide (x.2 < (0 : Int))))
 else
 (bif strEq x.1 (⟨#[60, 61]⟩ : ByteArray) then
 (some (decide (x.2 ≤ (0 : Int))))
 else
 (bif strEq x.1 (⟨#[62]⟩ : ByteArray) then
 (some (decide (x.2 > (0 : Int))))
 else
 (some (decide (x.2 ≥ (0 : Int))))))))
theorem f57.eq (n : Nat) (x : ByteArray × Int) : runK TT E57 n ann (tabC C57) 1 57 (argsL [(false, .str), (false, .int .i64)] x) [] (readL [(false, .bool)]) = f57.g n x := by
 kernel_rfl
theorem f57.codes : CodesOk Tryz.prog E57 ann (tabC C57) := tabC_ok (by intro p hp; simp only [C57, List.mem_cons, List.not_mem_nil, or_false] at hp; rcases hp with rfl <;> first | exact Tryz.func57) (by kernel_rfl)
theorem f57.ok (h : ∀ X Y, F57 X = some Y → ∃ n, f57.g n X = some Y)  : ConOk Tryz.prog 57 (mkCon [(false, .str), (false, .int .i64)] [(false, .bool)] true F57) :=
 mkCon_ok mixed TT_ok env0_ok f57.codes (fun _ => List.all_eq_true.1 rfl) fun X Y hF => (h X Y hF).imp fun n hn => (f57.eq n X).trans hn
def con57 : Con := mkCon [(false, .str), (false, .int .i64)] [(false, .bool)] true F57
/-! ### vellum/pred.compare -/
def E58 : FuncId → Option Con := (envC 104 con104 (envC 103 con103 env0))
noncomputable def C58 : List (FuncId × Func) := [(58, Tryz.f58)]
def f58.g (n : Nat) (x : dValue × dValue) : Option (Int) :=
 (F103 x).bind fun r1 =>
 bif r1.2 then
 (some r1.1)
 else
 ((F104 x).bind fun r2 =>
 some r2)
theorem f58.eq (n : Nat) (x : dValue × dValue) : runK TT E58 n ann (tabC C58) 1 58 (argsL [(true, tValue), (true, tValue)] x) [] (readL [(false, .int .i64)]) = f58.g n x := by
 kernel_rfl
theorem f58.codes : CodesOk Tryz.prog E58 ann (tabC C58) := tabC_ok (by intro p hp; simp only [C58, List.mem_cons, List.not_mem_nil, or_false] at hp; rcases hp with rfl <;> first | exact Tryz.func58) (by kernel_rfl)
theorem f58.ok (h : ∀ X Y, F58 X = some Y → ∃ n, f58.g n X = some Y) (e103 : ConOk Tryz.prog 103 con103) (e104 : ConOk Tryz.prog 104 con104) : ConOk Tryz.prog 58 (mkCon [(true, tValue), (true, tValue)] [(false, .int .i64)] true F58) :=
 mkCon_ok mixed TT_ok (envC_ok e104 (envC_ok e103 env0_ok)) f58.codes (fun _ => List.all_eq_true.1 rfl) fun X Y hF => (h X Y hF).imp fun n hn => (f58.eq n X).trans hn
def con58 : Con := mkCon [(true, tValue), (true, tValue)] [(false, .int .i64)] true F58
/-! ### vellum/pred.unary -/
def E53 : FuncId → Option Con := (envC 184 con184 (envC 101 con101 (envC 99 con99 (envC 56 con56 (envC 54 con54 env0)))))
noncomputable def C53 : List (FuncId × Func) := [(53, Tryz.f53), (100, Tryz.f100), (145, Tryz.f145), (146, Tryz.f146)]
def f53.g (n : Nat) (x : ByteArray × dValue) : Option (dValue × Int) :=
 bif strEq x.1 (⟨#[105, 115, 32, 110, 117, 108, 108]⟩ : ByteArray) then
 ((F54 x.2).bind fun r1 =>
 (F56 r1).bind fun r2 =>
 some (r2, (0 : Int)))
 else
 (bif strEq x.1 (⟨#[105, 115, 32, 110, 111, 116, 32, 110, 117, 108, 108]⟩ : ByteArray) then
 ((F54 x.2).bind fun r3 =>
 (F56 (!r3)).bind fun r4 =>
 some (r4, (0 : Int)))
 else
 ((F54 x.2).bind fun r5 =>
 bif r5 then
 (some (zeroV, (0 : Int)))
 else
 (bif strEq x.1 (⟨#[110, 111, 116]⟩ : ByteArray) then
 ((F99 x.2).bind fun r6 =>
 (F56 r6).bind fun r7 =>
 some (r7, (0 : Int)))
 else
 (bif x.2.1 == (3 : Int) then
 (bif FloatKind.f64.format.order (Op.negFloat .f64 x.2.2.2.1) (Op.negFloat .f64 x.2.2.2.1) != some .eq then
 (bif FloatKind.f64.format.order (Op.negFloat .f64 x.2.2.2.1) 0 == some .eq then
 (bif FloatKind.f64.format.order 0 0 != some .eq then
 ((F184 (9221120237041090560 : Int)).bind fun r8 =>
 some (((3 : Int), ((0 : Int), (r8, (⟨#[]⟩ : ByteArray)))), (0 : Int)))
 else
 (some (((3 : Int), ((0 : Int), (0, (⟨#[]⟩ : ByteArray)))), (0 : Int))))
 else
 (bif FloatKind.f64.format.order (Op.negFloat .f64 x.2.2.2.1) (Op.negFloat .f64 x.2.2.2.1) != some .eq then
 ((F184 (9221120237041090560 : Int)).bind fun r9 =>
 some (((3 : Int), ((0 : Int), (r9, (⟨#[]⟩ : ByteArray)))), (0 : Int)))
 else
 (some (((3 : Int), ((0 : Int), (Op.negFloat .f64 x.2.2.2.1, (⟨#[]⟩ : ByteArray)))), (0 : Int)))))
 else
 (some (((3 : Int), ((0 : Int), (Op.negFloat .f64 x.2.2.2.1, (⟨#[]⟩ : ByteArray)))), (0 : Int))))
 else
 (bif x.2.2.1 == (-9223372036854775808 : Int) then
 (some (zeroV, (152 : Int)))
 else
 ((F101 (IntKind.wrap .i64 (0 - x.2.2.1))).bind fun r10 =>
 some (r10, (0 : Int))))))))
theorem f53.eq (n : Nat) (x : ByteArray × dValue) : runK TT E53 n ann (tabC C53) 4 53 (argsL [(false, .str), (true, tValue)] x) [] (readL [(true, tValue), (false, .int .i64)]) = f53.g n x := by
 kernel_rfl
theorem f53.codes : CodesOk Tryz.prog E53 ann (tabC C53) := tabC_ok (by intro p hp; simp only [C53, List.mem_cons, List.not_mem_nil, or_false] at hp; rcases hp with rfl | rfl | rfl | rfl <;> first | exact Tryz.func53 | exact Tryz.func100 | exact Tryz.func145 | exact Tryz.func146) (by kernel_rfl)
theorem f53.ok (h : ∀ X Y, F53 X = some Y → ∃ n, f53.g n X = some Y) (e54 : ConOk Tryz.prog 54 con54) (e56 : ConOk Tryz.prog 56 con56) (e99 : ConOk Tryz.prog 99 con99) (e101 : ConOk Tryz.prog 101 con101) (e184 : ConOk Tryz.prog 184 con184) : ConOk Tryz.prog 53 (mkCon [(false, .str), (true, tValue)] [(true, tValue), (false, .int .i64)] true F53) :=
 mkCon_ok mixed TT_ok (envC_ok e184 (envC_ok e101 (envC_ok e99 (envC_ok e56 (envC_ok e54 env0_ok))))) f53.codes (fun _ => List.all_eq_true.1 rfl) fun X Y hF => (h X Y hF).imp fun n hn => (f53.eq n X).trans hn
def con53 : Con := mkCon [(false, .str), (true, tValue)] [(true, tValue), (false, .int .i64)] true F53
/-! ### vellum/vellumref15.order -/
/-! ### vellum/vellumref15.compared -/
/-! ### vellum/vellumref15.ints -/
class Rec95 where
 F : (ByteArray × Int × Int) → Option (dValue × Int)
section
variable [Rec95]
end
/-! ### vellum/vellumref15.floats -/
/-! ### vellum/vellumref15.real -/
/-! ### vellum/vellumref15.negative -/
/-! ### vellum/vellumref15.unary -/
/-! ### vellum/pred.eval -/
class Rec28 where
 F : (dExpr × (List dValue)) → Option (dValue × Int)
section
variable [Rec28]
def conS28 : Con := mkCon [(true, tExpr), (false, .sl tValue)] [(true, tValue), (false, .int .i64)] true Rec28.F
def E28 : FuncId → Option Con := (envC 99 con99 (envC 59 con59 (envC 58 con58 (envC 57 con57 (envC 56 con56 (envC 55 con55 (envC 54 con54 (envC 53 con53 (envC 28 conS28 (envC 26 con26 env0))))))))))
noncomputable def C28 : List (FuncId × Func) := [(28, Tryz.f28), (51, Tryz.f51), (52, Tryz.f52)]
def f28.h1 (x : dExpr × (List dValue)) (r1 : dValue × Int) (r2 : Bool) (y3 : Bool × Int) : List AV × List Ob := ([.undef, .val false [.sc (.sl tValue) x.2], .undef, .undef, .val false [.ptr 3 0], .undef, .val false [.ptr 4 0], .undef, .val false [.sc .bool y3.1], .undef, .undef, .undef, .undef, .undef, .undef, .undef, .undef, .undef, .undef, .undef, .undef, .undef, .undef, .undef, .undef, .undef, .undef, .undef, .undef, .undef, .val false [.sc (.sl tExpr) (List.drop 1 x.1.kids)], .val false [.sc (.int .i64) ((List.drop 1 x.1.kids).length : Int)], .val false [.sc (.int .i64) y3.2]] ++ List.replicate 31 .undef, [.box [.sc (.int .i64) x.1.lab.1, .sc .str x.1.lab.2.1, .sc (.int .i64) x.1.lab.2.2.1, .sc (.int .i64) x.1.lab.2.2.2.1, .sc (.int .i64) x.1.lab.2.2.2.2.1, .sc (.float .f64) x.1.lab.2.2.2.2.2.1, .sc .str x.1.lab.2.2.2.2.2.2, .sc (.sl tExpr) x.1.kids], .box [.sc (.int .i64) (0 : Int), .sc (.int .i64) (0 : Int), .sc (.float .f64) 0, .sc .str (⟨#[]⟩ : ByteArray)], .box [.sc (.int .i64) x.1.lab.1, .sc .str x.1.lab.2.1, .sc (.int .i64) x.1.lab.2.2.1, .sc (.int .i64) x.1.lab.2.2.2.1, .sc (.int .i64) x.1.lab.2.2.2.2.1, .sc (.float .f64) x.1.lab.2.2.2.2.2.1, .sc .str x.1.lab.2.2.2.2.2.2, .sc (.sl tExpr) x.1.kids], .box [.sc (.int .i64) (0 : Int), .sc (.int .i64) (0 : Int), .sc (.float .f64) 0, .sc .str (⟨#[]⟩ : ByteArray)], .box [.sc (.int .i64) r1.1.1, .sc (.int .i64) r1.1.2.1, .sc (.float .f64) r1.1.2.2.1, .sc .str r1.1.2.2.2]])
def f28.L1 (n : Nat) (x : dExpr × (List dValue)) (r1 : dValue × Int) (r2 : Bool) (m3 : Nat) (y3 : Bool × Int) : Option (dValue × Int) :=
 loopN (ann 51 6).keep 5 (fun fr H k => execK TT 2 E28 (inlD TT E28 n ann (tabC C28) 2) n (ann 51) (subC [1, 1, 1, 1, 0, 1, 0, 0] (bodyOf Tryz.f51)) fr H k) m3 (f28.h1 x r1 r2 y3).1 (f28.h1 x r1 r2 y3).2 (kont TT 2 E28 (inlD TT E28 n ann (tabC C28) 2) n (ann 51) [1, 1, 1, 1, 0, 1, 0] (bodyOf Tryz.f51) (endK TT Tryz.f51 (restK TT 0 E28 (inlD TT E28 n ann (tabC C28) 3) false (ann 28 6).plain (opsOf (subC [1, 0, 0, 1, 1, 1, 1, 1, 0, 0] (bodyOf Tryz.f28))) 2 ⟨[.val true [.sc (.int .i64) x.1.lab.1, .sc .str x.1.lab.2.1, .sc (.int .i64) x.1.lab.2.2.1, .sc (.int .i64) x.1.lab.2.2.2.1, .sc (.int .i64) x.1.lab.2.2.2.2.1, .sc (.float .f64) x.1.lab.2.2.2.2.2.1, .sc .str x.1.lab.2.2.2.2.2.2, .sc (.sl tExpr) x.1.kids], .val false [.sc (.sl tValue) x.2], .val false [.ptr 0 0], .undef, .val false [.ptr 1 0], .val false [.sc (.int .i64) (0 : Int)], .undef, .undef, .undef, .val false [.sc .bool (x.1.lab.1 == (1 : Int))], .val false [.ptr 0 0], .val false [.sc (.int .i64) x.1.lab.1], .val false [.sc .bool (x.1.lab.1 == (1 : Int))], .undef, .undef, .val false [.sc .bool (x.1.lab.1 == (2 : Int))], .val false [.ptr 0 0], .val false [.sc (.int .i64) x.1.lab.1], .val false [.sc .bool (x.1.lab.1 == (2 : Int))], .undef, .undef, .undef, .undef, .undef, .val false [.sc .bool (x.1.lab.1 == (5 : Int))], .val false [.ptr 0 0], .val false [.sc (.int .i64) x.1.lab.1], .val false [.sc .bool (x.1.lab.1 == (5 : Int))], .val true [.sc (.int .i64) x.1.lab.1, .sc .str x.1.lab.2.1, .sc (.int .i64) x.1.lab.2.2.1, .sc (.int .i64) x.1.lab.2.2.2.1, .sc (.int .i64) x.1.lab.2.2.2.2.1, .sc (.float .f64) x.1.lab.2.2.2.2.2.1, .sc .str x.1.lab.2.2.2.2.2.2, .sc (.sl tExpr) x.1.kids], .val false [.sc (.sl tValue) x.2]] ++ List.replicate 80 .undef, [], []⟩ (fun g H => sealK 0 (ann 28 6).plain (endG g) H fun fr H => (kont TT 0 E28 (inlD TT E28 n ann (tabC C28) 3) n (ann 28) [1, 0, 0, 1, 1, 1, 1, 1, 0, 0] (bodyOf Tryz.f28) (endK TT Tryz.f28 (readL [(true, tValue), (false, .int .i64)]))) .normal fr H))))
def f28.s1 (n : Nat) (x : dExpr × (List dValue)) (r1 : dValue × Int) (r2 : Bool) (S3 : (Bool × Int) → Option (dValue × Int)) (y3 : Bool × Int) : Option (dValue × Int) :=
 bif decide (y3.2 < ((List.drop 1 x.1.kids).length : Int)) then
 (bif decide (0 ≤ y3.2) && decide (y3.2 < ((List.drop 1 x.1.kids).length : Int)) then
 ((Rec28.F ((Rose.node (((List.drop 1 x.1.kids).getD y3.2.toNat tExpr.dflt).lab) (((List.drop 1 x.1.kids).getD y3.2.toNat tExpr.dflt).kids)), x.2)).bind fun r4 =>
 bif r4.2 != (0 : Int) then
 (some (zeroV, r4.2))
 else
 ((F54 r1.1).bind fun r5 =>
 bif r5 then
 (S3 (true, IntKind.wrap .i64 (y3.2 + (1 : Int))))
 else
 ((F54 r4.1).bind fun r6 =>
 bif r6 then
 (S3 (true, IntKind.wrap .i64 (y3.2 + (1 : Int))))
 else
 ((F58 (r1.1, r4.1)).bind fun r7 =>
 bif r7 == (0 : Int) then
 ((F56 true).bind fun r8 =>
 some (r8, (0 : Int)))
 else
 (S3 (y3.1, IntKind.wrap .i64 (y3.2 + (1 : Int))))))))
 else
 (none))
 else
 (bif y3.1 then
 (some (zeroV, (0 : Int)))
 else
 ((F56 false).bind fun r9 =>
 some (r9, (0 : Int))))
theorem f28.k1 (n : Nat) (x : dExpr × (List dValue)) (r1 : dValue × Int) (r2 : Bool) (m : Nat) (y : Bool × Int) : f28.L1 n x r1 r2 (m + 1) y = f28.s1 n x r1 r2 (f28.L1 n x r1 r2 m) y := by kernel_rfl
theorem f28.l1 (n : Nat) (x : dExpr × (List dValue)) (r1 : dValue × Int) (r2 : Bool) : ∀ (m : Nat) (y3 : Bool × Int), f28.L1 n x r1 r2 m y3 = iter (f28.s1 n x r1 r2) m y3 :=
 loop_of (L := f28.L1 n x r1 r2) (step := f28.s1 n x r1 r2) (fun _ => rfl) (f28.k1 n x r1 r2)
def f28.g (n : Nat) (x : dExpr × (List dValue)) : Option (dValue × Int) :=
 bif x.1.lab.1 == (1 : Int) then
 (some (x.1.lab.2.2.2, (0 : Int)))
 else
 (bif x.1.lab.1 == (2 : Int) then
 (bif decide (0 ≤ x.1.lab.2.2.1) && decide (x.1.lab.2.2.1 < (x.2.length : Int)) then
 (some (x.2.getD x.1.lab.2.2.1.toNat tValue.dflt, (0 : Int)))
 else
 (none))
 else
 (bif x.1.lab.1 == (5 : Int) then
 (bif decide (0 ≤ (0 : Int)) && decide ((0 : Int) < (x.1.kids.length : Int)) then
 ((Rec28.F ((Rose.node ((x.1.kids.getD 0 tExpr.dflt).lab) ((x.1.kids.getD 0 tExpr.dflt).kids)), x.2)).bind fun r1 =>
 bif r1.2 != (0 : Int) then
 (some (zeroV, r1.2))
 else
 ((F54 r1.1).bind fun r2 =>
 bif decide (0 ≤ (1 : Int)) && decide ((1 : Int) ≤ (x.1.kids.length : Int)) then
 (iter (f28.s1 n x r1 r2) n (r2, (0 : Int)))
 else
 (none)))
 else
 (none))
 else
 (bif bif (strEq x.1.lab.2.1 (⟨#[97, 110, 100]⟩ : ByteArray)) then true else (strEq x.1.lab.2.1 (⟨#[111, 114]⟩ : ByteArray)) then
 (bif strEq x.1.lab.2.1 (⟨#[111, 114]⟩ : ByteArray) then
 (bif decide (0 ≤ (0 : Int)) && decide ((0 : Int) < (x.1.kids.length : Int)) then
 ((Rec28.F ((Rose.node ((x.1.kids.getD 0 tExpr.dflt).lab) ((x.1.kids.getD 0 tExpr.dflt).kids)), x.2)).bind fun r10 =>
 bif r10.2 != (0 : Int) then
 (some r10)
 else
 ((F26 r10.1).bind fun r11 =>
 bif r11 then
 (some r10)
 else
 (bif decide (0 ≤ (1 : Int)) && decide ((1 : Int) < (x.1.kids.length : Int)) then
 ((Rec28.F ((Rose.node ((x.1.kids.getD 1 tExpr.dflt).lab) ((x.1.kids.getD 1 tExpr.dflt).kids)), x.2)).bind fun r12 =>
 bif r12.2 != (0 : Int) then
 (some r12)
 else
 ((F26 r12.1).bind fun r13 =>
 bif r13 then
 (some r12)
 else
 ((F54 r10.1).bind fun r14 =>
 bif !r14 then
 (some r12)
 else
 (some (zeroV, (0 : Int))))))
 else
 (none))))
 else
 (none))
 else
 (bif decide (0 ≤ (0 : Int)) && decide ((0 : Int) < (x.1.kids.length : Int)) then
 ((Rec28.F ((Rose.node ((x.1.kids.getD 0 tExpr.dflt).lab) ((x.1.kids.getD 0 tExpr.dflt).kids)), x.2)).bind fun r15 =>
 bif r15.2 != (0 : Int) then
 (some r15)
 else
 ((F99 r15.1).bind fun r16 =>
 bif r16 then
 (some r15)
 else
 (bif decide (0 ≤ (1 : Int)) && decide ((1 : Int) < (x.1.kids.length : Int)) then
 ((Rec28.F ((Rose.node ((x.1.kids.getD 1 tExpr.dflt).lab) ((x.1.kids.getD 1 tExpr.dflt).kids)), x.2)).bind fun r17 =>
 bif r17.2 != (0 : Int) then
 (some r17)
 else
 ((F99 r17.1).bind fun r18 =>
 bif r18 then
 (some r17)
 else
 ((F54 r15.1).bind fun r19 =>
 bif !r19 then
 (some r17)
 else
 (some (zeroV, (0 : Int))))))
 else
 (none))))
 else
 (none)))
 else
 (bif decide (0 ≤ (0 : Int)) && decide ((0 : Int) < (x.1.kids.length : Int)) then
 ((Rec28.F ((Rose.node ((x.1.kids.getD 0 tExpr.dflt).lab) ((x.1.kids.getD 0 tExpr.dflt).kids)), x.2)).bind fun r20 =>
 bif r20.2 != (0 : Int) then
 (some (zeroV, r20.2))
 else
 (bif x.1.lab.1 == (3 : Int) then
 ((F53 (x.1.lab.2.1, r20.1)).bind fun r21 =>
 some r21)
 else
 (bif decide (0 ≤ (1 : Int)) && decide ((1 : Int) < (x.1.kids.length : Int)) then
 ((Rec28.F ((Rose.node ((x.1.kids.getD 1 tExpr.dflt).lab) ((x.1.kids.getD 1 tExpr.dflt).kids)), x.2)).bind fun r22 =>
 bif r22.2 != (0 : Int) then
 (some (zeroV, r22.2))
 else
 ((F54 r20.1).bind fun r23 =>
 bif r23 then
 (some (zeroV, (0 : Int)))
 else
 ((F54 r22.1).bind fun r24 =>
 bif r24 then
 (some (zeroV, (0 : Int)))
 else
 ((F55 (cpL, x.1.lab.2.1)).bind fun r25 =>
 bif r25 then
 ((F58 (r20.1, r22.1)).bind fun r26 =>
 (F57 (x.1.lab.2.1, r26)).bind fun r27 =>
 (F56 r27).bind fun r28 =>
 some (r28, (0 : Int)))
 else
 ((F59 (x.1.lab.2.1, (r20.1, r22.1))).bind fun r29 =>
 some r29)))))
 else
 (none))))
 else
 (none)))))
def f28.q (n : Nat) (x : dExpr × (List dValue)) : Option (dValue × Int) :=
 bif x.1.lab.1 == (1 : Int) then
 (some (x.1.lab.2.2.2, (0 : Int)))
 else
 (bif x.1.lab.1 == (2 : Int) then
 (bif decide (0 ≤ x.1.lab.2.2.1) && decide (x.1.lab.2.2.1 < (x.2.length : Int)) then
 (some (x.2.getD x.1.lab.2.2.1.toNat tValue.dflt, (0 : Int)))
 else
 (none))
 else
 (bif x.1.lab.1 == (5 : Int) then
 (bif decide (0 ≤ (0 : Int)) && decide ((0 : Int) < (x.1.kids.length : Int)) then
 ((Rec28.F ((Rose.node ((x.1.kids.getD 0 tExpr.dflt).lab) ((x.1.kids.getD 0 tExpr.dflt).kids)), x.2)).bind fun r1 =>
 bif r1.2 != (0 : Int) then
 (some (zeroV, r1.2))
 else
 ((F54 r1.1).bind fun r2 =>
 bif decide (0 ≤ (1 : Int)) && decide ((1 : Int) ≤ (x.1.kids.length : Int)) then
 (f28.L1 n x r1 r2 n (r2, (0 : Int)))
 else
 (none)))
 else
 (none))
 else
 (bif bif (strEq x.1.lab.2.1 (⟨#[97, 110, 100]⟩ : ByteArray)) then true else (strEq x.1.lab.2.1 (⟨#[111, 114]⟩ : ByteArray)) then
 (bif strEq x.1.lab.2.1 (⟨#[111, 114]⟩ : ByteArray) then
 (bif decide (0 ≤ (0 : Int)) && decide ((0 : Int) < (x.1.kids.length : Int)) then
 ((Rec28.F ((Rose.node ((x.1.kids.getD 0 tExpr.dflt).lab) ((x.1.kids.getD 0 tExpr.dflt).kids)), x.2)).bind fun r10 =>
 bif r10.2 != (0 : Int) then
 (some r10)
 else
 ((F26 r10.1).bind fun r11 =>
 bif r11 then
 (some r10)
 else
 (bif decide (0 ≤ (1 : Int)) && decide ((1 : Int) < (x.1.kids.length : Int)) then
 ((Rec28.F ((Rose.node ((x.1.kids.getD 1 tExpr.dflt).lab) ((x.1.kids.getD 1 tExpr.dflt).kids)), x.2)).bind fun r12 =>
 bif r12.2 != (0 : Int) then
 (some r12)
 else
 ((F26 r12.1).bind fun r13 =>
 bif r13 then
 (some r12)
 else
 ((F54 r10.1).bind fun r14 =>
 bif !r14 then
 (some r12)
 else
 (some (zeroV, (0 : Int))))))
 else
 (none))))
 else
 (none))
 else
 (bif decide (0 ≤ (0 : Int)) && decide ((0 : Int) < (x.1.kids.length : Int)) then
 ((Rec28.F ((Rose.node ((x.1.kids.getD 0 tExpr.dflt).lab) ((x.1.kids.getD 0 tExpr.dflt).kids)), x.2)).bind fun r15 =>
 bif r15.2 != (0 : Int) then
 (some r15)
 else
 ((F99 r15.1).bind fun r16 =>
 bif r16 then
 (some r15)
 else
 (bif decide (0 ≤ (1 : Int)) && decide ((1 : Int) < (x.1.kids.length : Int)) then
 ((Rec28.F ((Rose.node ((x.1.kids.getD 1 tExpr.dflt).lab) ((x.1.kids.getD 1 tExpr.dflt).kids)), x.2)).bind fun r17 =>
 bif r17.2 != (0 : Int) then
 (some r17)
 else
 ((F99 r17.1).bind fun r18 =>
 bif r18 then
 (some r17)
 else
 ((F54 r15.1).bind fun r19 =>
 bif !r19 then
 (some r17)
 else
 (some (zeroV, (0 : Int))))))
 else
 (none))))
 else
 (none)))
 else
 (bif decide (0 ≤ (0 : Int)) && decide ((0 : Int) < (x.1.kids.length : Int)) then
 ((Rec28.F ((Rose.node ((x.1.kids.getD 0 tExpr.dflt).lab) ((x.1.kids.getD 0 tExpr.dflt).kids)), x.2)).bind fun r20 =>
 bif r20.2 != (0 : Int) then
 (some (zeroV, r20.2))
 else
 (bif x.1.lab.1 == (3 : Int) then
 ((F53 (x.1.lab.2.1, r20.1)).bind fun r21 =>
 some r21)
 else
 (bif decide (0 ≤ (1 : Int)) && decide ((1 : Int) < (x.1.kids.length : Int)) then
 ((Rec28.F ((Rose.node ((x.1.kids.getD 1 tExpr.dflt).lab) ((x.1.kids.getD 1 tExpr.dflt).kids)), x.2)).bind fun r22 =>
 bif r22.2 != (0 : Int) then
 (some (zeroV, r22.2))
 else
 ((F54 r20.1).bind fun r23 =>
 bif r23 then
 (some (zeroV, (0 : Int)))
 else
 ((F54 r22.1).bind fun r24 =>
 bif r24 then
 (some (zeroV, (0 : Int)))
 else
 ((F55 (cpL, x.1.lab.2.1)).bind fun r25 =>
 bif r25 then
 ((F58 (r20.1, r22.1)).bind fun r26 =>
 (F57 (x.1.lab.2.1, r26)).bind fun r27 =>
 (F56 r27).bind fun r28 =>
 some (r28, (0 : Int)))
 else
 ((F59 (x.1.lab.2.1, (r20.1, r22.1))).bind fun r29 =>
 some r29)))))
 else
 (none))))
 else
 (none)))))
theorem f28.eq (n : Nat) (x : dExpr × (List dValue)) : runK TT E28 n ann (tabC C28) 3 28 (argsL [(true, tExpr), (false, .sl tValue)] x) [] (readL [(true, tValue), (false, .int .i64)]) = f28.g n x := by
 have h : runK TT E28 n ann (tabC C28) 3 28 (argsL [(true, tExpr), (false, .sl tValue)] x) [] (readL [(true, tValue), (false, .int .i64)]) = f28.q n x := by kernel_rfl
 rw [h]
 simp only [f28.q, f28.g, f28.l1]
theorem f28.codes : CodesOk Tryz.prog E28 ann (tabC C28) := tabC_ok (by intro p hp; simp only [C28, List.mem_cons, List.not_mem_nil, or_false] at hp; rcases hp with rfl | rfl | rfl <;> first | exact Tryz.func28 | exact Tryz.func51 | exact Tryz.func52) (by kernel_rfl)
theorem f28.ok (G : (dExpr × (List dValue)) → Option (dValue × Int)) (h : ∀ X Y, G X = some Y → ∃ n, f28.g n X = some Y) (e26 : ConOk Tryz.prog 26 con26) (e28 : ConOk Tryz.prog 28 conS28) (e53 : ConOk Tryz.prog 53 con53) (e54 : ConOk Tryz.prog 54 con54) (e55 : ConOk Tryz.prog 55 con55) (e56 : ConOk Tryz.prog 56 con56) (e57 : ConOk Tryz.prog 57 con57) (e58 : ConOk Tryz.prog 58 con58) (e59 : ConOk Tryz.prog 59 con59) (e99 : ConOk Tryz.prog 99 con99) : ConOk Tryz.prog 28 (mkCon [(true, tExpr), (false, .sl tValue)] [(true, tValue), (false, .int .i64)] true G) :=
 mkCon_ok mixed TT_ok (envC_ok e99 (envC_ok e59 (envC_ok e58 (envC_ok e57 (envC_ok e56 (envC_ok e55 (envC_ok e54 (envC_ok e53 (envC_ok e28 (envC_ok e26 env0_ok)))))))))) f28.codes (fun _ => List.all_eq_true.1 rfl) fun X Y hF => (h X Y hF).imp fun n hn => (f28.eq n X).trans hn
end
def con28 : Con := mkCon [(true, tExpr), (false, .sl tValue)] [(true, tValue), (false, .int .i64)] true F28
/-! ### vellum/vellumref15.worth -/
class Rec45 where
 F : (dExpr × (List dValue)) → Option (dValue × Int)
section
variable [Rec45]
end
/-! ### vellum/pred.Eval -/
def E11 : FuncId → Option Con := (envC 28 con28 (envC 27 con27 (envC 14 con14 env0)))
noncomputable def C11 : List (FuncId × Func) := [(11, Tryz.f11)]
def f11.g (n : Nat) (x : dTable × dExpr × (List dValue)) : Option (dValue × Int) :=
 (F14 (x.1, (Rose.node x.2.1.lab x.2.1.kids))).bind fun r1 =>
 bif r1.2 != (0 : Int) then
 (some (zeroV, r1.2))
 else
 ((F27 (x.1, x.2.2)).bind fun r2 =>
 bif r2 != (0 : Int) then
 (some (zeroV, r2))
 else
 ((F28 ((Rose.node x.2.1.lab x.2.1.kids), x.2.2)).bind fun r3 =>
 bif r3.2 != (0 : Int) then
 (some (zeroV, r3.2))
 else
 (some (r3.1, (0 : Int)))))
theorem f11.eq (n : Nat) (x : dTable × dExpr × (List dValue)) : runK TT E11 n ann (tabC C11) 1 11 (argsL [(true, tTable), (true, tExpr), (false, .sl tValue)] x) [] (readL [(true, tValue), (false, .int .i64)]) = f11.g n x := by
 kernel_rfl
theorem f11.codes : CodesOk Tryz.prog E11 ann (tabC C11) := tabC_ok (by intro p hp; simp only [C11, List.mem_cons, List.not_mem_nil, or_false] at hp; rcases hp with rfl <;> first | exact Tryz.func11) (by kernel_rfl)
theorem f11.ok (h : ∀ X Y, F11 X = some Y → ∃ n, f11.g n X = some Y) (e14 : ConOk Tryz.prog 14 con14) (e27 : ConOk Tryz.prog 27 con27) (e28 : ConOk Tryz.prog 28 con28) : ConOk Tryz.prog 11 (mkCon [(true, tTable), (true, tExpr), (false, .sl tValue)] [(true, tValue), (false, .int .i64)] true F11) :=
 mkCon_ok mixed TT_ok (envC_ok e28 (envC_ok e27 (envC_ok e14 env0_ok))) f11.codes (fun _ => List.all_eq_true.1 rfl) fun X Y hF => (h X Y hF).imp fun n hn => (f11.eq n X).trans hn
def con11 : Con := mkCon [(true, tTable), (true, tExpr), (false, .sl tValue)] [(true, tValue), (false, .int .i64)] true F11
/-! ### vellum/vellumref15.Eval -/
/-! ### vellum/pred.condition -/
def E25 : FuncId → Option Con := (envC 49 con49 (envC 14 con14 env0))
noncomputable def C25 : List (FuncId × Func) := [(25, Tryz.f25)]
def f25.g (n : Nat) (x : dTable × dExpr) : Option (Int) :=
 (F14 (x.1, (Rose.node x.2.lab x.2.kids))).bind fun r1 =>
 bif r1.2 == (0 : Int) then
 ((F49 r1.1).bind fun r2 =>
 bif !r2 then
 (some (151 : Int))
 else
 (some r1.2))
 else
 (some r1.2)
theorem f25.eq (n : Nat) (x : dTable × dExpr) : runK TT E25 n ann (tabC C25) 1 25 (argsL [(true, tTable), (true, tExpr)] x) [] (readL [(false, .int .i64)]) = f25.g n x := by
 kernel_rfl
theorem f25.codes : CodesOk Tryz.prog E25 ann (tabC C25) := tabC_ok (by intro p hp; simp only [C25, List.mem_cons, List.not_mem_nil, or_false] at hp; rcases hp with rfl <;> first | exact Tryz.func25) (by kernel_rfl)
theorem f25.ok (h : ∀ X Y, F25 X = some Y → ∃ n, f25.g n X = some Y) (e14 : ConOk Tryz.prog 14 con14) (e49 : ConOk Tryz.prog 49 con49) : ConOk Tryz.prog 25 (mkCon [(true, tTable), (true, tExpr)] [(false, .int .i64)] true F25) :=
 mkCon_ok mixed TT_ok (envC_ok e49 (envC_ok e14 env0_ok)) f25.codes (fun _ => List.all_eq_true.1 rfl) fun X Y hF => (h X Y hF).imp fun n hn => (f25.eq n X).trans hn
def con25 : Con := mkCon [(true, tTable), (true, tExpr)] [(false, .int .i64)] true F25
/-! ### vellum/vellumref15.asked -/
/-! ### vellum/pred.Takes -/
def E10 : FuncId → Option Con := (envC 26 con26 (envC 25 con25 (envC 11 con11 env0)))
noncomputable def C10 : List (FuncId × Func) := [(10, Tryz.f10)]
def f10.g (n : Nat) (x : dTable × dExpr × (List dValue)) : Option (Bool × Int) :=
 (F25 (x.1, (Rose.node x.2.1.lab x.2.1.kids))).bind fun r1 =>
 bif r1 != (0 : Int) then
 (some (false, r1))
 else
 ((F11 (x.1, ((Rose.node x.2.1.lab x.2.1.kids), x.2.2))).bind fun r2 =>
 (F26 r2.1).bind fun r3 =>
 some (r3, r2.2))
theorem f10.eq (n : Nat) (x : dTable × dExpr × (List dValue)) : runK TT E10 n ann (tabC C10) 1 10 (argsL [(true, tTable), (true, tExpr), (false, .sl tValue)] x) [] (readL [(false, .bool), (false, .int .i64)]) = f10.g n x := by
 kernel_rfl
theorem f10.codes : CodesOk Tryz.prog E10 ann (tabC C10) := tabC_ok (by intro p hp; simp only [C10, List.mem_cons, List.not_mem_nil, or_false] at hp; rcases hp with rfl <;> first | exact Tryz.func10) (by kernel_rfl)
theorem f10.ok (h : ∀ X Y, F10 X = some Y → ∃ n, f10.g n X = some Y) (e11 : ConOk Tryz.prog 11 con11) (e25 : ConOk Tryz.prog 25 con25) (e26 : ConOk Tryz.prog 26 con26) : ConOk Tryz.prog 10 (mkCon [(true, tTable), (true, tExpr), (false, .sl tValue)] [(false, .bool), (false, .int .i64)] true F10) :=
 mkCon_ok mixed TT_ok (envC_ok e26 (envC_ok e25 (envC_ok e11 env0_ok))) f10.codes (fun _ => List.all_eq_true.1 rfl) fun X Y hF => (h X Y hF).imp fun n hn => (f10.eq n X).trans hn
def con10 : Con := mkCon [(true, tTable), (true, tExpr), (false, .sl tValue)] [(false, .bool), (false, .int .i64)] true F10
/-! ### vellum/vellumref15.Takes -/
end
end Go.Proofs.YtfccofgchjieeaaGreatDoor.AI
