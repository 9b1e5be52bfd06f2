/- The seat's types, and what is told of its loops. Printed by aipr.py. -/
import Derived.Test.YthkigadgbckpoaaGreatDoorAjc
import Derived.Test.YthkigadgbckpoaaGreatDoorChecked
set_option linter.unusedVariables false
namespace Go.Proofs.YthkigadgbckpoaaGreatDoor.AI
open Go
abbrev tValue : Ty := .pair (.int .i64) (.pair (.int .i64) (.pair (.float .f64) .str))
abbrev dValue : Type := Int × (Int × (Nat × ByteArray))
def tab : List (TypeId × TI) := [(2, ⟨.int .i64, 1, 8, some (.int .i64), [.dat (.int .i64)]⟩),
  (3, ⟨.int .i64, 1, 8, some (.int .i64), [.dat (.int .i64)]⟩),
  (4, ⟨.bool, 1, 1, some .bool, [.dat .bool]⟩),
  (9, ⟨.str, 1, 16, some .str, [.dat .str]⟩),
  (22, ⟨.float .f64, 1, 8, some (.float .f64), [.dat (.float .f64)]⟩),
  (24, ⟨.struct [(0, 1, false), (1, 1, false), (2, 1, false), (3, 1, false)], 4, 40, some tValue, [.dat (.int .i64), .dat (.int .i64), .dat (.float .f64), .dat .str]⟩),
  (26, ⟨.int .i64, 1, 8, some (.int .i64), [.dat (.int .i64)]⟩),
  (36, ⟨.arr 2 4, 2, 2, some (.pair .bool .bool), [.dat .bool, .dat .bool]⟩),
  (44, ⟨.int .u64, 1, 8, some (.int .u64), [.dat (.int .u64)]⟩)]
def TT : TypeId → Option TI := tabT tab
theorem TT_ok : TOk Tryz.prog TT := tabT_ok (by kernel_rfl)
theorem mixed : Tryz.prog.follows .mixedOrders = true := by kernel_rfl
def ann (f : FuncId) : Nat → Ann :=
  match f with
  | 5 => fun r => match r with
    | 19 => ⟨[], [], [999999]⟩
    | _ => ⟨[], [], []⟩
  | 10 => fun r => match r with
    | 9 => ⟨[], [], [999999]⟩
    | _ => ⟨[], [], []⟩
  | _ => fun _ => ⟨[], [], []⟩
end Go.Proofs.YthkigadgbckpoaaGreatDoor.AI
