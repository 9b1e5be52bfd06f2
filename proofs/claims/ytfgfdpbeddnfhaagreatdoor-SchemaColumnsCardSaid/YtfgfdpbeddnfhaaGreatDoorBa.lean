/- The seat's types, and what is told of its loops. Printed by aipr.py. -/
import Derived.Test.YtfgfdpbeddnfhaaGreatDoorAjc
import Derived.Test.YtfgfdpbeddnfhaaGreatDoorChecked
set_option linter.unusedVariables false
namespace Go.Proofs.YtfgfdpbeddnfhaaGreatDoor.AI
open Go
abbrev tValue : Ty := .pair (.int .i64) (.pair (.int .i64) (.pair (.float .f64) .str))
abbrev dValue : Type := Int × (Int × (Nat × ByteArray))
abbrev tColumn : Ty := .pair .str (.pair (.int .i64) (.pair .bool tValue))
abbrev dColumn : Type := ByteArray × (Int × (Bool × dValue))
abbrev tIndex : Ty := .pair .str (.pair (.sl (.int .i64)) .bool)
abbrev dIndex : Type := ByteArray × ((List Int) × Bool)
abbrev tRef : Ty := .pair (.sl (.int .i64)) .str
abbrev dRef : Type := (List Int) × ByteArray
abbrev tTable : Ty := .pair .str (.pair (.sl tColumn) (.pair (.sl (.int .i64)) (.pair (.sl tIndex) (.sl tRef))))
abbrev dTable : Type := ByteArray × ((List dColumn) × ((List Int) × ((List dIndex) × (List dRef))))
def tab : List (TypeId × TI) := [(2, ⟨.int .i64, 1, 8, some (.int .i64), [.dat (.int .i64)]⟩),
  (3, ⟨.int .i64, 1, 8, some (.int .i64), [.dat (.int .i64)]⟩),
  (4, ⟨.bool, 1, 1, some .bool, [.dat .bool]⟩),
  (5, ⟨.int .u8, 1, 1, some (.int .u8), [.dat (.int .u8)]⟩),
  (9, ⟨.str, 1, 16, some .str, [.dat .str]⟩),
  (24, ⟨.slice 59, 1, 24, some (.sl tColumn), [.nils]⟩),
  (25, ⟨.slice 3, 1, 24, some (.sl (.int .i64)), [.nils]⟩),
  (26, ⟨.slice 62, 1, 24, some (.sl tIndex), [.nils]⟩),
  (27, ⟨.slice 66, 1, 24, some (.sl tRef), [.nils]⟩),
  (29, ⟨.struct [(0, 1, false), (1, 1, false), (2, 1, false), (3, 1, false), (4, 1, false)], 5, 112, some tTable, [.dat .str, .nils, .nils, .nils, .nils]⟩),
  (30, ⟨.int .i64, 1, 8, some (.int .i64), [.dat (.int .i64)]⟩),
  (34, ⟨.slice 54, 1, 24, some (.sl tValue), [.nils]⟩),
  (47, ⟨.slice 9, 1, 24, some (.sl .str), [.nils]⟩),
  (52, ⟨.float .f64, 1, 8, some (.float .f64), [.dat (.float .f64)]⟩),
  (54, ⟨.struct [(0, 1, false), (1, 1, false), (2, 1, false), (3, 1, false)], 4, 40, some tValue, [.dat (.int .i64), .dat (.int .i64), .dat (.float .f64), .dat .str]⟩),
  (59, ⟨.struct [(0, 1, false), (1, 1, false), (2, 1, false), (3, 4, true)], 7, 72, some tColumn, [.dat .str, .dat (.int .i64), .dat .bool, .dat (.int .i64), .dat (.int .i64), .dat (.float .f64), .dat .str]⟩),
  (60, ⟨.func, 1, 8, none, [.nilf]⟩),
  (62, ⟨.struct [(0, 1, false), (1, 1, false), (2, 1, false)], 3, 48, some tIndex, [.dat .str, .nils, .dat .bool]⟩),
  (64, ⟨.func, 1, 8, none, [.nilf]⟩),
  (66, ⟨.struct [(0, 1, false), (1, 1, false)], 2, 40, some tRef, [.nils, .dat .str]⟩),
  (71, ⟨.func, 1, 8, none, [.nilf]⟩),
  (80, ⟨.int .u64, 1, 8, some (.int .u64), [.dat (.int .u64)]⟩)]
def TT : TypeId → Option TI := tabT tab
theorem TT_ok : TOk Tryz.prog TT := tabT_ok (by kernel_rfl)
theorem mixed : Tryz.prog.follows .mixedOrders = true := by kernel_rfl
def ann (f : FuncId) : Nat → Ann :=
  match f with
  | 4 => fun r => match r with
    | 1 => ⟨[], [], [2, 3, 4, 5, 6, 7, 8, 9, 10]⟩
    | _ => ⟨[], [], []⟩
  | 5 => fun r => match r with
    | 1 => ⟨[], [], [4, 5, 6, 7, 8, 9, 10, 11, 12, 13, 14, 15]⟩
    | _ => ⟨[], [], []⟩
  | 8 => fun r => match r with
    | 4 => ⟨[0, 22, 23], [], []⟩
    | _ => ⟨[], [], []⟩
  | 9 => fun r => match r with
    | 4 => ⟨[0, 3], [], []⟩
    | _ => ⟨[], [], []⟩
  | 11 => fun r => match r with
    | 12 => ⟨[1, 54, 55, 56], [], []⟩
    | 23 => ⟨[1, 82, 83, 84], [], []⟩
    | _ => ⟨[], [], []⟩
  | 12 => fun r => match r with
    | 1 => ⟨[], [], [3, 7, 8, 9, 10, 11, 12]⟩
    | 3 => ⟨[1, 2, 3, 4], [(3, some 1, 59, tColumn)], []⟩
    | 5 => ⟨[], [], [20, 22, 23, 24, 25, 26, 29]⟩
    | 7 => ⟨[1, 2, 3, 5], [(3, some 3, 62, tIndex)], []⟩
    | 9 => ⟨[], [], [37, 39, 40, 41, 42, 43, 44, 45, 46, 47, 48, 49, 50, 51, 52, 53, 54, 55, 56, 57, 58, 61]⟩
    | 11 => ⟨[1, 2, 3, 6], [(3, some 4, 66, tRef)], []⟩
    | 13 => ⟨[], [], [69, 71, 72, 73, 74, 75, 76, 77, 78, 79, 80, 81, 82, 83, 84, 87]⟩
    | _ => ⟨[], [], []⟩
  | 13 => fun r => match r with
    | 11 => ⟨[1, 4], [], []⟩
    | 13 => ⟨[], [], [50, 51, 52, 53, 54, 55, 56, 57, 58, 59]⟩
    | 19 => ⟨[1, 6], [], []⟩
    | 23 => ⟨[], [], [80, 81, 82, 83, 84, 85, 86, 87, 88]⟩
    | _ => ⟨[], [], []⟩
  | 14 => fun r => match r with
    | 7 => ⟨[1, 22, 23, 24], [], []⟩
    | 15 => ⟨[], [], [50, 51, 52, 53, 54, 55, 56, 57, 58, 59, 60, 61]⟩
    | _ => ⟨[], [], []⟩
  | 15 => fun r => match r with
    | 3 => ⟨[0, 3, 4], [], []⟩
    | _ => ⟨[], [], []⟩
  | 16 => fun r => match r with
    | 7 => ⟨[1, 2, 6], [], []⟩
    | 15 => ⟨[], [], [46, 47, 48, 49, 50, 51, 52, 53, 54, 55, 56, 57]⟩
    | _ => ⟨[], [], []⟩
  | 17 => fun r => match r with
    | 8 => ⟨[1, 2, 3, 9, 41, 42, 43], [], []⟩
    | 13 => ⟨[2, 3, 9, 54, 55, 56], [], []⟩
    | _ => ⟨[], [], []⟩
  | 18 => fun r => match r with
    | 8 => ⟨[1, 2, 3, 9, 10], [], []⟩
    | 12 => ⟨[1, 2, 3, 9, 10, 11, 12], [], []⟩
    | _ => ⟨[], [], []⟩
  | 19 => fun r => match r with
    | 4 => ⟨[0, 1, 5], [], []⟩
    | 6 => ⟨[], [], [17, 18, 19, 20, 21, 22, 23, 24, 25, 26]⟩
    | _ => ⟨[], [], []⟩
  | 21 => fun r => match r with
    | 2 => ⟨[1, 2, 6], [], []⟩
    | _ => ⟨[], [], []⟩
  | 26 => fun r => match r with
    | 2 => ⟨[0, 1, 5], [], []⟩
    | _ => ⟨[], [], []⟩
  | 29 => fun r => match r with
    | 6 => ⟨[1, 5, 23, 24, 25], [(5, none, 9, .str)], []⟩
    | 8 => ⟨[], [], [8, 29, 30, 31, 32, 33, 34, 35, 36, 37]⟩
    | 18 => ⟨[1, 5, 71, 72, 73], [], []⟩
    | 20 => ⟨[], [], [13, 77, 78, 79, 80, 81, 82, 83, 84, 85]⟩
    | 26 => ⟨[1, 5, 96, 97, 98], [], []⟩
    | 28 => ⟨[], [], [103, 104, 105, 106, 107, 108, 109, 110, 111]⟩
    | 30 => ⟨[], [], [16, 115, 116, 117, 118, 121, 122]⟩
    | _ => ⟨[], [], []⟩
  | 32 => fun r => match r with
    | 2 => ⟨[1, 7, 8, 9], [], []⟩
    | _ => ⟨[], [], []⟩
  | 33 => fun r => match r with
    | 4 => ⟨[1, 2, 15, 16, 17], [], []⟩
    | _ => ⟨[], [], []⟩
  | 38 => fun r => match r with
    | 3 => ⟨[0, 3, 4], [], []⟩
    | _ => ⟨[], [], []⟩
  | 39 => fun r => match r with
    | 2 => ⟨[1, 3], [], []⟩
    | 8 => ⟨[1, 3, 4, 5], [], []⟩
    | 10 => ⟨[], [], [27, 28, 29, 30, 31, 32, 33, 34, 35]⟩
    | _ => ⟨[], [], []⟩
  | 40 => fun r => match r with
    | 4 => ⟨[1, 2, 5], [], []⟩
    | 6 => ⟨[], [], [21, 22, 23, 24, 25, 26, 27, 28, 29, 30, 31, 32, 33, 34]⟩
    | 9 => ⟨[1, 2, 5, 6, 27, 28, 29, 30, 31, 32, 33, 34], [], []⟩
    | 11 => ⟨[], [], [41, 42, 43, 44, 45, 46, 47, 48, 49]⟩
    | _ => ⟨[], [], []⟩
  | 41 => fun r => match r with
    | 2 => ⟨[1, 3], [], []⟩
    | 8 => ⟨[1, 3, 4, 5], [], []⟩
    | 10 => ⟨[], [], [27, 28, 29, 30, 31, 32, 33, 34, 35]⟩
    | _ => ⟨[], [], []⟩
  | 44 => fun r => match r with
    | 1 => ⟨[], [], [4, 5, 6, 7, 8, 9, 10, 11, 12, 13, 14, 15, 17, 18, 19, 20, 21, 22, 23, 24, 26, 27, 28, 29, 30, 31]⟩
    | _ => ⟨[], [], []⟩
  | 45 => fun r => match r with
    | 2 => ⟨[0, 1, 7, 8], [], []⟩
    | _ => ⟨[], [], []⟩
  | 49 => fun r => match r with
    | 3 => ⟨[2, 5, 8, 9, 10], [(5, none, 9, .str)], []⟩
    | _ => ⟨[], [], []⟩
  | 54 => fun r => match r with
    | 2 => ⟨[0, 1, 7, 8], [], []⟩
    | _ => ⟨[], [], []⟩
  | 55 => fun r => match r with
    | 2 => ⟨[0, 1, 7, 8], [], []⟩
    | _ => ⟨[], [], []⟩
  | 67 => fun r => match r with
    | 2 => ⟨[0, 1, 7, 8], [], []⟩
    | _ => ⟨[], [], []⟩
  | _ => fun _ => ⟨[], [], []⟩
end Go.Proofs.YtfgfdpbeddnfhaaGreatDoor.AI
