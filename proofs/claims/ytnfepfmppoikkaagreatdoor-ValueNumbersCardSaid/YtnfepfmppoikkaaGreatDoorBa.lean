/- The seat's types, and what is told of its loops. Printed by aipr.py. -/
import Derived.Test.YtnfepfmppoikkaaGreatDoorAjc
import Derived.Test.YtnfepfmppoikkaaGreatDoorChecked
set_option linter.unusedVariables false
namespace Go.Proofs.YtnfepfmppoikkaaGreatDoor.AI
open Go
abbrev tValue : Ty := .pair (.int .i64) (.pair (.int .i64) (.pair (.float .f64) .str))
abbrev dValue : Type := Int × (Int × (Nat × ByteArray))
def tab : List (TypeId × TI) := [(2, ⟨.int .i64, 1, 8, some (.int .i64), [.dat (.int .i64)]⟩),
  (3, ⟨.int .i64, 1, 8, some (.int .i64), [.dat (.int .i64)]⟩),
  (4, ⟨.bool, 1, 1, some .bool, [.dat .bool]⟩),
  (9, ⟨.str, 1, 16, some .str, [.dat .str]⟩),
  (22, ⟨.float .f64, 1, 8, some (.float .f64), [.dat (.float .f64)]⟩),
  (24, ⟨.struct [(0, 1, false), (1, 1, false), (2, 1, false), (3, 1, false)], 4, 40, some tValue, [.dat (.int .i64), .dat (.int .i64), .dat (.float .f64), .dat .str]⟩),
  (25, ⟨.int .i64, 1, 8, some (.int .i64), [.dat (.int .i64)]⟩),
  (35, ⟨.int .u64, 1, 8, some (.int .u64), [.dat (.int .u64)]⟩),
  (46, ⟨.arr 2 4, 2, 2, some (.pair .bool .bool), [.dat .bool, .dat .bool]⟩)]
def TT : TypeId → Option TI := tabT tab
theorem TT_ok : TOk Tryz.prog TT := tabT_ok (by kernel_rfl)
theorem mixed : Tryz.prog.follows .mixedOrders = true := by kernel_rfl
def ann (f : FuncId) : Nat → Ann :=
  match f with
  | 3 => fun r => match r with
    | 1 => ⟨[], [], [2, 3, 4, 5, 6, 7, 8, 9]⟩
    | _ => ⟨[], [], []⟩
  | 4 => fun r => match r with
    | 1 => ⟨[], [], [4, 5, 6, 7, 8, 9, 10, 11, 12, 13, 14, 15, 16, 17, 18, 19, 20, 22, 23, 24, 25, 26, 28, 29]⟩
    | _ => ⟨[], [], []⟩
  | 6 => fun r => match r with
    | 3 => ⟨[], [], [23, 24, 25, 26, 27, 28, 29, 30, 31, 32, 33]⟩
    | _ => ⟨[], [], []⟩
  | 7 => fun r => match r with
    | 1 => ⟨[], [], [4, 5, 6, 7, 8, 9, 10, 11, 12, 13, 14, 15, 17, 18]⟩
    | _ => ⟨[], [], []⟩
  | 8 => fun r => match r with
    | 2 => ⟨[], [], [2, 6, 7, 8, 9, 10, 11, 12, 13, 14, 16, 17, 18, 19, 20, 22, 23]⟩
    | _ => ⟨[], [], []⟩
  | 16 => fun r => match r with
    | 1 => ⟨[], [], [4, 5, 6, 7, 8, 9, 10, 11, 12, 13, 14, 15, 17, 18, 19, 20, 21, 22, 23, 24, 26, 27, 28, 29, 30, 31]⟩
    | _ => ⟨[], [], []⟩
  | 17 => fun r => match r with
    | 1 => ⟨[], [], [4, 5, 6, 7, 8, 9, 10, 11, 12, 13, 14, 15, 17, 18, 19, 20, 21, 22, 23, 24, 26, 27, 28, 29, 30, 31]⟩
    | _ => ⟨[], [], []⟩
  | _ => fun _ => ⟨[], [], []⟩
end Go.Proofs.YtnfepfmppoikkaaGreatDoor.AI
