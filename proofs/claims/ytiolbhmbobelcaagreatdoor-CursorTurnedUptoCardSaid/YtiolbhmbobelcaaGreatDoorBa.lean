/- The seat's types, and what is told of its loops. Printed by aipr.py. -/
import Derived.Test.YtiolbhmbobelcaaGreatDoorAjd
import Derived.Test.YtiolbhmbobelcaaGreatDoorAkm
import Derived.Test.YtiolbhmbobelcaaGreatDoorAkr
import Derived.Test.YtiolbhmbobelcaaGreatDoorAks
import Derived.Test.YtiolbhmbobelcaaGreatDoorChecked
set_option linter.unusedVariables false
namespace Go.Proofs.YtiolbhmbobelcaaGreatDoor.AI
open Go
abbrev tValue : Ty := .pair (.int .i64) (.pair (.int .i64) (.pair (.float .f64) .str))
abbrev dValue : Type := Int × (Int × (Nat × ByteArray))
abbrev tColumn : Ty := .pair .str (.pair (.int .i64) (.pair .bool tValue))
abbrev dColumn : Type := ByteArray × (Int × (Bool × dValue))
abbrev tIndex : Ty := .pair .str (.pair (.sl (.int .i64)) .bool)
abbrev dIndex : Type := ByteArray × ((List Int) × Bool)
abbrev tRef : Ty := .pair (.sl (.int .i64)) .str
abbrev dRef : Type := (List Int) × ByteArray
abbrev tTable : Ty := .pair .str (.pair (.sl tColumn) (.pair (.sl (.int .i64)) (.pair (.sl tIndex) (.sl tRef))))
abbrev dTable : Type := ByteArray × ((List dColumn) × ((List Int) × ((List dIndex) × (List dRef))))
abbrev tExpr : Ty := .rose (.pair (.int .i64) (.pair .str (.pair (.int .i64) tValue)))
abbrev dExpr : Type := Rose (Int × (ByteArray × (Int × dValue)))
def tab : List (TypeId × TI) := [(2, ⟨.int .i64, 1, 8, some (.int .i64), [.dat (.int .i64)]⟩),
  (3, ⟨.int .i64, 1, 8, some (.int .i64), [.dat (.int .i64)]⟩),
  (4, ⟨.bool, 1, 1, some .bool, [.dat .bool]⟩),
  (9, ⟨.str, 1, 16, some .str, [.dat .str]⟩),
  (22, ⟨.slice 26, 1, 24, some (.sl tValue), [.nils]⟩),
  (23, ⟨.int .u16, 1, 2, some (.int .u16), [.dat (.int .u16)]⟩),
  (24, ⟨.float .f64, 1, 8, some (.float .f64), [.dat (.float .f64)]⟩),
  (26, ⟨.struct [(0, 1, false), (1, 1, false), (2, 1, false), (3, 1, false)] none, 4, 40, some tValue, [.dat (.int .i64), .dat (.int .i64), .dat (.float .f64), .dat .str]⟩),
  (27, ⟨.int .i64, 1, 8, some (.int .i64), [.dat (.int .i64)]⟩),
  (34, ⟨.ptr, 1, 8, none, [.nilp]⟩),
  (41, ⟨.ptr, 1, 8, none, [.nilp]⟩),
  (43, ⟨.int .u64, 1, 8, some (.int .u64), [.dat (.int .u64)]⟩),
  (47, ⟨.struct [(0, 1, false), (1, 1, false), (2, 1, false)] (some (.pair .str (.pair .str .bool))), 3, 40, some (.pair .str (.pair .str .bool)), [.dat .str, .dat .str, .dat .bool]⟩),
  (54, ⟨.struct [(0, 5, true), (5, 1, false), (6, 1, false), (7, 2, true), (9, 14, true), (23, 1, false), (24, 1, false), (25, 1, false), (26, 1, false), (27, 1, false)] none, 28, 344, none, [.dat .str, .nils, .nils, .nils, .nils, .nilp, .nilp, .dat (.int .i64), .dat (.int .u64), .dat (.int .i64), .dat .str, .dat .str, .dat .bool, .dat (.int .i64), .dat .str, .dat (.int .i64), .dat (.int .i64), .dat (.int .i64), .dat (.float .f64), .dat .str, .nils, .dat .bool, .dat (.int .i64), .dat (.int .i64), .dat .bool, .dat .str, .dat .bool, .dat .bool]⟩),
  (56, ⟨.struct [(0, 1, false), (1, 1, false), (2, 1, false)] none, 3, 48, some (.pair (.int .i64) (.pair .str (.sl tValue))), [.dat (.int .i64), .dat .str, .nils]⟩),
  (81, ⟨.struct [(0, 1, false), (1, 1, false)] none, 2, 16, some (.pair (.int .u64) (.int .u64)), [.dat (.int .u64), .dat (.int .u64)]⟩)]
def TT : TypeId → Option TI := tabT tab
theorem TT_ok : TOk Tryz.prog TT := tabT_ok (by kernel_rfl)
theorem mixed : Tryz.prog.follows .mixedOrders = true := by kernel_rfl
def ann (f : FuncId) : Nat → Ann :=
  match f with
  | 3 => fun r => match r with
    | 3 => ⟨[0, 1, 5, 6], [(5, none, 26, tValue)], []⟩
    | 7 => ⟨[0, 1, 5, 7], [], []⟩
    | 10 => ⟨[], [], [45, 49, 50, 51, 55, 56, 57, 61]⟩
    | 13 => ⟨[0, 5, 8, 9], [], []⟩
    | 19 => ⟨[0, 5, 8, 10], [], []⟩
    | _ => ⟨[], [], []⟩
  | 4 => fun r => match r with
    | 2 => ⟨[0, 3], [], []⟩
    | _ => ⟨[], [], []⟩
  | 7 => fun r => match r with
    | 5 => ⟨[0, 4, 6, 21, 22, 23], [(6, none, 26, tValue)], []⟩
    | 21 => ⟨[0, 4, 10, 66, 67, 68], [], []⟩
    | _ => ⟨[], [], []⟩
  | 9 => fun r => match r with
    | 4 => ⟨[], [], [999999]⟩
    | 6 => ⟨[], [], [999999]⟩
    | _ => ⟨[], [], []⟩
  | 10 => fun r => match r with
    | 8 => ⟨[], [], [999999]⟩
    | 9 => ⟨[], [], [999999]⟩
    | _ => ⟨[], [], []⟩
  | 11 => fun r => match r with
    | 7 => ⟨[0, 1, 4, 6, 7, 8, 9], [(6, none, 26, tValue)], []⟩
    | 23 => ⟨[0, 4, 6, 11, 12], [], []⟩
    | 25 => ⟨[], [], [13, 100, 103, 104]⟩
    | _ => ⟨[], [], []⟩
  | 12 => fun r => match r with
    | 1 => ⟨[], [], [4, 5, 6, 7, 8, 9, 10, 11, 12, 13, 14, 15, 17, 18, 19, 20, 21, 22, 23, 24, 26, 27, 28, 29, 30, 31]⟩
    | _ => ⟨[], [], []⟩
  | 16 => fun r => match r with
    | 3 => ⟨[0, 1, 4, 6, 7, 16, 17, 18], [], []⟩
    | 20 => ⟨[], [], [5000010]⟩
    | 22 => ⟨[0, 1, 4, 10, 54, 55, 56], [], []⟩
    | 24 => ⟨[], [], [5000010, 6000010]⟩
    | 26 => ⟨[], [], [6000010]⟩
    | _ => ⟨[], [], []⟩
  | 30 => fun r => match r with
    | 1 => ⟨[], [], [2, 3, 4, 5, 6, 7, 8, 9, 10, 11, 12, 13, 14]⟩
    | _ => ⟨[], [], []⟩
  | 50 => fun r => match r with
    | 19 => ⟨[], [], [999999]⟩
    | _ => ⟨[], [], []⟩
  | 68 => fun r => match r with
    | 9 => ⟨[], [], [999999]⟩
    | _ => ⟨[], [], []⟩
  | _ => fun _ => ⟨[], [], []⟩
end Go.Proofs.YtiolbhmbobelcaaGreatDoor.AI
