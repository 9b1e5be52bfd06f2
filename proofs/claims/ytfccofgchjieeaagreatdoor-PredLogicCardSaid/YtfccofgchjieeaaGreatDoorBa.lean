/- The seat's types, and what is told of its loops. Printed by aipr.py. -/
import Derived.Test.YtfccofgchjieeaaGreatDoorAjd
import Derived.Test.YtfccofgchjieeaaGreatDoorAkm
import Derived.Test.YtfccofgchjieeaaGreatDoorAkr
import Derived.Test.YtfccofgchjieeaaGreatDoorAks
import Derived.Test.YtfccofgchjieeaaGreatDoorChecked
set_option linter.unusedVariables false
namespace Go.Proofs.YtfccofgchjieeaaGreatDoor.AI
open Go
abbrev tValue : Ty := .pair (.int .i64) (.pair (.int .i64) (.pair (.float .f64) .str))
abbrev dValue : Type := Int × (Int × (Nat × ByteArray))
abbrev tColumn : Ty := .pair .str (.pair (.int .i64) (.pair .bool tValue))
abbrev dColumn : Type := ByteArray × (Int × (Bool × dValue))
abbrev tIndex : Ty := .pair .str (.pair (.sl (.int .i64)) .bool)
abbrev dIndex : Type := ByteArray × ((List Int) × Bool)
abbrev tRef : Ty := .pair (.sl (.int .i64)) .str
abbrev dRef : Type := (List Int) × ByteArray
abbrev tTable : Ty := .pair .str (.pair (.sl tColumn) (.pair (.sl (.int .i64)) (.pair (.sl tIndex) (.sl tRef))))
abbrev dTable : Type := ByteArray × ((List dColumn) × ((List Int) × ((List dIndex) × (List dRef))))
abbrev tExpr : Ty := .rose (.pair (.int .i64) (.pair .str (.pair (.int .i64) tValue)))
abbrev dExpr : Type := Rose (Int × (ByteArray × (Int × dValue)))
abbrev tGiven : Ty := .pair tTable (.pair tExpr (.sl tValue))
abbrev dGiven : Type := dTable × (dExpr × (List dValue))
def tab : List (TypeId × TI) := [(1, ⟨.func, 1, 8, none, [.nilf]⟩),
  (2, ⟨.int .i64, 1, 8, some (.int .i64), [.dat (.int .i64)]⟩),
  (3, ⟨.int .i64, 1, 8, some (.int .i64), [.dat (.int .i64)]⟩),
  (4, ⟨.bool, 1, 1, some .bool, [.dat .bool]⟩),
  (5, ⟨.int .u8, 1, 1, some (.int .u8), [.dat (.int .u8)]⟩),
  (9, ⟨.str, 1, 16, some .str, [.dat .str]⟩),
  (22, ⟨.slice 74, 1, 24, some (.sl tColumn), [.nils]⟩),
  (23, ⟨.slice 3, 1, 24, some (.sl (.int .i64)), [.nils]⟩),
  (24, ⟨.slice 76, 1, 24, some (.sl tIndex), [.nils]⟩),
  (25, ⟨.slice 78, 1, 24, some (.sl tRef), [.nils]⟩),
  (27, ⟨.struct [(0, 1, false), (1, 1, false), (2, 1, false), (3, 1, false), (4, 1, false)] none, 5, 112, some tTable, [.dat .str, .nils, .nils, .nils, .nils]⟩),
  (28, ⟨.float .f64, 1, 8, some (.float .f64), [.dat (.float .f64)]⟩),
  (30, ⟨.struct [(0, 1, false), (1, 1, false), (2, 1, false), (3, 1, false)] none, 4, 40, some tValue, [.dat (.int .i64), .dat (.int .i64), .dat (.float .f64), .dat .str]⟩),
  (31, ⟨.slice 33, 1, 24, some (.sl tExpr), [.nils]⟩),
  (33, ⟨.struct [(0, 1, false), (1, 1, false), (2, 1, false), (3, 4, true), (7, 1, false)] none, 8, 96, some tExpr, [.dat (.int .i64), .dat .str, .dat (.int .i64), .dat (.int .i64), .dat (.int .i64), .dat (.float .f64), .dat .str, .nils]⟩),
  (34, ⟨.slice 30, 1, 24, some (.sl tValue), [.nils]⟩),
  (36, ⟨.struct [(0, 5, true), (5, 8, true), (13, 1, false)] none, 14, 232, some tGiven, [.dat .str, .nils, .nils, .nils, .nils, .dat (.int .i64), .dat .str, .dat (.int .i64), .dat (.int .i64), .dat (.int .i64), .dat (.float .f64), .dat .str, .nils, .nils]⟩),
  (39, ⟨.int .i64, 1, 8, some (.int .i64), [.dat (.int .i64)]⟩),
  (59, ⟨.int .u64, 1, 8, some (.int .u64), [.dat (.int .u64)]⟩),
  (66, ⟨.ptr, 1, 8, none, [.nilp]⟩),
  (68, ⟨.struct [(0, 5, true), (5, 1, false)] none, 6, 120, some (.pair tTable (.int .i64)), [.dat .str, .nils, .nils, .nils, .nils, .dat (.int .i64)]⟩),
  (74, ⟨.struct [(0, 1, false), (1, 1, false), (2, 1, false), (3, 4, true)] none, 7, 72, some tColumn, [.dat .str, .dat (.int .i64), .dat .bool, .dat (.int .i64), .dat (.int .i64), .dat (.float .f64), .dat .str]⟩),
  (76, ⟨.struct [(0, 1, false), (1, 1, false), (2, 1, false)] none, 3, 48, some tIndex, [.dat .str, .nils, .dat .bool]⟩),
  (78, ⟨.struct [(0, 1, false), (1, 1, false)] none, 2, 40, some tRef, [.nils, .dat .str]⟩),
  (84, ⟨.func, 1, 8, none, [.nilf]⟩),
  (88, ⟨.slice 9, 1, 24, some (.sl .str), [.nils]⟩),
  (95, ⟨.ptr, 1, 8, none, [.nilp]⟩),
  (97, ⟨.struct [(0, 5, true), (5, 1, false), (6, 1, false), (7, 1, false), (8, 1, false)] none, 9, 152, some (.pair tTable (.pair (.sl .str) (.pair .bool (.pair .bool (.int .i64))))), [.dat .str, .nils, .nils, .nils, .nils, .nils, .dat .bool, .dat .bool, .dat (.int .i64)]⟩),
  (98, ⟨.func, 1, 8, none, [.nilf]⟩),
  (99, ⟨.func, 1, 8, none, [.nilf]⟩),
  (103, ⟨.func, 1, 8, none, [.nilf]⟩),
  (117, ⟨.func, 1, 8, none, [.nilf]⟩),
  (118, ⟨.func, 1, 8, none, [.nilf]⟩),
  (120, ⟨.struct [(0, 1, false), (1, 1, false)] none, 2, 16, none, [.nilf, .nilf]⟩),
  (121, ⟨.tab [.nilf, .nilf], 1, 8, none, [.nilm]⟩),
  (131, ⟨.func, 1, 8, none, [.nilf]⟩),
  (156, ⟨.arr 2 4, 2, 2, some (.pair .bool .bool), [.dat .bool, .dat .bool]⟩),
  (195, ⟨.iface, 1, 16, none, [.nili]⟩),
  (272, ⟨.struct [(0, 1, false), (1, 1, false)] none, 2, 32, none, [.nilp, .nils]⟩),
  (277, ⟨.func, 1, 8, none, [.nilf]⟩)]
def TT : TypeId → Option TI := tabT tab
theorem TT_ok : TOk Tryz.prog TT := tabT_ok (by kernel_rfl)
theorem mixed : Tryz.prog.follows .mixedOrders = true := by kernel_rfl
def ann (f : FuncId) : Nat → Ann :=
  match f with
  | 3 => fun r => match r with
    | 1 => ⟨[], [], [5, 6, 21, 22, 23, 24, 25]⟩
    | 6 => ⟨[], [], [13, 14, 44, 45, 46, 47, 48, 49, 50, 51, 52, 53, 54, 55, 56, 1004700008, 1004800008]⟩
    | 7 => ⟨[], [], [15, 16, 57, 58, 59, 60, 61, 62, 63, 64, 65, 66, 67, 68, 1006000009]⟩
    | 8 => ⟨[], [], [17, 18, 69, 70, 71, 72, 73, 74, 75, 76, 77, 78, 79, 80, 81, 82, 1007200008, 1007300009]⟩
    | 9 => ⟨[], [], [19, 20, 83, 84, 85, 86, 87, 88, 89, 90, 91, 92, 93, 94, 95, 96, 97, 98, 1008600009, 1008700008, 1009000008]⟩
    | _ => ⟨[], [], []⟩
  | 4 => fun r => match r with
    | 2 => ⟨[], [], [4, 5, 11, 12, 13, 14, 15, 16, 17, 18, 19]⟩
    | 4 => ⟨[], [], [2, 27, 28, 29, 30, 31, 32, 33, 35, 36, 37, 38, 39, 40, 41, 43, 44]⟩
    | _ => ⟨[], [], []⟩
  | 5 => fun r => match r with
    | 2 => ⟨[], [], [4, 5, 11, 12, 13, 14, 15, 16, 17, 18, 19, 20, 21, 22]⟩
    | _ => ⟨[], [], []⟩
  | 6 => fun r => match r with
    | 2 => ⟨[], [], [4, 5, 11, 12, 13, 14, 15, 16, 17, 18, 19, 20, 21, 22]⟩
    | _ => ⟨[], [], []⟩
  | 12 => fun r => match r with
    | 1 => ⟨[], [], [4, 5, 6, 7, 8, 9, 10, 11, 12, 13, 14, 15, 17, 18, 19, 20, 21, 22, 23, 24, 26, 27, 28, 29, 30, 31]⟩
    | _ => ⟨[], [], []⟩
  | 13 => fun r => match r with
    | 4 => ⟨[], [], [3, 4, 14, 15, 16, 17, 20, 21]⟩
    | 5 => ⟨[], [], [5, 6, 22, 23, 24, 25, 28, 29]⟩
    | _ => ⟨[], [], []⟩
  | 15 => fun r => match r with
    | 1 => ⟨[], [], [3, 7, 8, 9, 10, 11, 12]⟩
    | 3 => ⟨[1, 2, 3, 4], [(3, some 1, 74, tColumn)], []⟩
    | 5 => ⟨[], [], [20, 22, 23, 24, 25, 26, 29]⟩
    | 7 => ⟨[1, 2, 3, 5], [(3, some 3, 76, tIndex)], []⟩
    | 9 => ⟨[], [], [37, 39, 40, 41, 42, 43, 44, 45, 46, 47, 48, 49, 50, 51, 52, 53, 54, 55, 56, 57, 58, 61]⟩
    | 11 => ⟨[1, 2, 3, 6], [(3, some 4, 78, tRef)], []⟩
    | 13 => ⟨[], [], [69, 71, 72, 73, 74, 75, 76, 77, 78, 79, 80, 81, 82, 83, 84, 87]⟩
    | _ => ⟨[], [], []⟩
  | 16 => fun r => match r with
    | 3 => ⟨[1, 2, 3, 4], [(3, some 7, 33, tExpr)], []⟩
    | 5 => ⟨[], [], [21, 23, 24, 25, 26, 27, 28, 31]⟩
    | _ => ⟨[], [], []⟩
  | 18 => fun r => match r with
    | 4 => ⟨[0, 1, 5], [], []⟩
    | 6 => ⟨[], [], [17, 18, 19, 20, 21, 22, 23, 24, 25]⟩
    | _ => ⟨[], [], []⟩
  | 19 => fun r => match r with
    | 5 => ⟨[3, 15, 16, 17], [(3, none, 3, .int .i64)], []⟩
    | _ => ⟨[], [], []⟩
  | 20 => fun r => match r with
    | 1 => ⟨[], [], [3000003]⟩
    | 4 => ⟨[3, 4, 5], [], []⟩
    | 7 => ⟨[3, 4, 5, 6], [], [19, 20, 21, 22, 23, 24, 25, 26, 27, 29, 32]⟩
    | 9 => ⟨[], [], [36, 37, 38, 39, 40, 41, 42, 43, 44, 46, 49]⟩
    | 12 => ⟨[3, 4, 5, 6, 7, 8, 24, 25, 26, 27, 28, 29, 30, 31, 32, 41, 42, 43, 44, 45, 46, 47, 48, 49], [], []⟩
    | 17 => ⟨[3, 4, 5, 7, 9, 24, 25, 26, 27, 28, 29, 30, 31, 32, 41, 42, 43, 44, 45, 46, 47, 48, 49], [], []⟩
    | 20 => ⟨[], [], [3000003]⟩
    | _ => ⟨[], [], []⟩
  | 21 => fun r => match r with
    | 3 => ⟨[0, 3, 4], [], []⟩
    | _ => ⟨[], [], []⟩
  | 27 => fun r => match r with
    | 7 => ⟨[1, 22, 23, 24], [], []⟩
    | 15 => ⟨[], [], [50, 51, 52, 53, 54, 55, 56, 57, 58, 59, 60, 61]⟩
    | _ => ⟨[], [], []⟩
  | 28 => fun r => match r with
    | 20 => ⟨[], [], [5, 96, 97, 98, 99, 100, 101, 102]⟩
    | _ => ⟨[], [], []⟩
  | 33 => fun r => match r with
    | 12 => ⟨[1, 54, 55, 56], [], []⟩
    | 23 => ⟨[1, 82, 83, 84], [], []⟩
    | _ => ⟨[], [], []⟩
  | 34 => fun r => match r with
    | 10 => ⟨[], [], [6, 54, 55, 56, 57, 58, 59, 61, 62, 63, 64, 66, 67, 68, 69, 70, 71, 72, 73, 74, 75, 77, 78, 79, 80]⟩
    | 20 => ⟨[0, 2, 141, 142, 143], [], []⟩
    | _ => ⟨[], [], []⟩
  | 35 => fun r => match r with
    | 3 => ⟨[2, 3, 6, 12, 13, 14], [(6, some 0, 3, .int .i64)], []⟩
    | 17 => ⟨[], [], [4, 5, 73, 74, 78]⟩
    | 23 => ⟨[], [], [4, 5, 103]⟩
    | 26 => ⟨[], [], [4, 5, 123, 124, 131, 132, 133]⟩
    | _ => ⟨[], [], []⟩
  | 36 => fun r => match r with
    | 3 => ⟨[0, 3, 4], [], []⟩
    | _ => ⟨[], [], []⟩
  | 37 => fun r => match r with
    | 11 => ⟨[1, 4], [], []⟩
    | 13 => ⟨[], [], [50, 51, 52, 53, 54, 55, 56, 57, 58, 59]⟩
    | 19 => ⟨[1, 6], [], []⟩
    | 23 => ⟨[], [], [80, 81, 82, 83, 84, 85, 86, 87, 88]⟩
    | _ => ⟨[], [], []⟩
  | 38 => fun r => match r with
    | 6 => ⟨[1, 2, 3, 8, 9], [], []⟩
    | _ => ⟨[], [], []⟩
  | 39 => fun r => match r with
    | 2 => ⟨[2, 3, 5], [], []⟩
    | 4 => ⟨[], [], [14, 15, 16, 17, 18, 19, 20, 21]⟩
    | 13 => ⟨[], [], [4, 76, 77, 78, 79, 80, 81, 82, 83, 85, 86, 87, 88, 90, 91, 92]⟩
    | 15 => ⟨[], [], [4, 96, 97, 98, 99, 100, 101, 102, 103, 105, 106, 107, 108, 110, 111, 112]⟩
    | _ => ⟨[], [], []⟩
  | 40 => fun r => match r with
    | 3 => ⟨[2, 3, 6, 7], [], []⟩
    | 5 => ⟨[], [], [8, 9, 19, 20, 21, 22, 23, 24, 25, 26, 27, 28]⟩
    | 16 => ⟨[], [], [4, 5, 62, 63, 67]⟩
    | 20 => ⟨[6, 10], [], []⟩
    | 22 => ⟨[], [], [90, 93, 94]⟩
    | 26 => ⟨[], [], [4, 5, 98, 99, 106, 107, 108]⟩
    | 28 => ⟨[], [], [4, 5, 118]⟩
    | _ => ⟨[], [], []⟩
  | 43 => fun r => match r with
    | 4 => ⟨[1, 2, 5], [], []⟩
    | _ => ⟨[], [], []⟩
  | 44 => fun r => match r with
    | 7 => ⟨[1, 2, 6], [], []⟩
    | 15 => ⟨[], [], [46, 47, 48, 49, 50, 51, 52, 53, 54, 55, 56, 57]⟩
    | _ => ⟨[], [], []⟩
  | 45 => fun r => match r with
    | 24 => ⟨[], [], [5, 109, 110, 111, 112, 113, 114, 115]⟩
    | _ => ⟨[], [], []⟩
  | 48 => fun r => match r with
    | 3 => ⟨[1, 2, 5], [], []⟩
    | _ => ⟨[], [], []⟩
  | 51 => fun r => match r with
    | 6 => ⟨[1, 4, 6, 8, 30, 31, 32], [], []⟩
    | _ => ⟨[], [], []⟩
  | 59 => fun r => match r with
    | 7 => ⟨[], [], [7, 38, 39, 40, 41, 42, 43, 44, 45]⟩
    | _ => ⟨[], [], []⟩
  | 60 => fun r => match r with
    | 4 => ⟨[0, 4, 5, 6], [(4, none, 9, .str)], []⟩
    | _ => ⟨[], [], []⟩
  | 62 => fun r => match r with
    | 4 => ⟨[0, 22, 23], [], []⟩
    | _ => ⟨[], [], []⟩
  | 63 => fun r => match r with
    | 2 => ⟨[1, 7, 8, 9], [], []⟩
    | _ => ⟨[], [], []⟩
  | 64 => fun r => match r with
    | 4 => ⟨[1, 2, 15, 16, 17], [], []⟩
    | _ => ⟨[], [], []⟩
  | 74 => fun r => match r with
    | 4 => ⟨[0, 3], [], []⟩
    | _ => ⟨[], [], []⟩
  | 75 => fun r => match r with
    | 2 => ⟨[1, 3], [], []⟩
    | 8 => ⟨[1, 3, 4, 5], [], []⟩
    | 10 => ⟨[], [], [27, 28, 29, 30, 31, 32, 33, 34, 35]⟩
    | _ => ⟨[], [], []⟩
  | 76 => fun r => match r with
    | 4 => ⟨[1, 2, 5], [], []⟩
    | 6 => ⟨[], [], [21, 22, 23, 24, 25, 26, 27, 28, 29, 30, 31, 32, 33, 34]⟩
    | 9 => ⟨[1, 2, 5, 6, 27, 28, 29, 30, 31, 32, 33, 34], [], []⟩
    | 11 => ⟨[], [], [41, 42, 43, 44, 45, 46, 47, 48, 49]⟩
    | _ => ⟨[], [], []⟩
  | 77 => fun r => match r with
    | 2 => ⟨[1, 3], [], []⟩
    | 8 => ⟨[1, 3, 4, 5], [], []⟩
    | 10 => ⟨[], [], [27, 28, 29, 30, 31, 32, 33, 34, 35]⟩
    | _ => ⟨[], [], []⟩
  | 80 => fun r => match r with
    | 2 => ⟨[0, 1, 5], [], []⟩
    | _ => ⟨[], [], []⟩
  | 91 => fun r => match r with
    | 6 => ⟨[1, 2, 4, 6, 8, 9], [], []⟩
    | _ => ⟨[], [], []⟩
  | 102 => fun r => match r with
    | 2 => ⟨[0, 1, 7, 8], [], []⟩
    | _ => ⟨[], [], []⟩
  | 109 => fun r => match r with
    | 2 => ⟨[0, 3], [], []⟩
    | _ => ⟨[], [], []⟩
  | 111 => fun r => match r with
    | 2 => ⟨[0, 3], [], []⟩
    | _ => ⟨[], [], []⟩
  | 112 => fun r => match r with
    | 2 => ⟨[0, 1, 2, 3, 4, 5, 6, 7, 8, 9, 10, 11, 12, 13, 14, 15, 16, 17, 18, 19, 20, 21, 22, 23, 24, 25, 26], [], []⟩
    | _ => ⟨[], [], []⟩
  | 120 => fun r => match r with
    | 2 => ⟨[0, 1, 7, 8], [], []⟩
    | _ => ⟨[], [], []⟩
  | 121 => fun r => match r with
    | 2 => ⟨[0, 1, 7, 8], [], []⟩
    | _ => ⟨[], [], []⟩
  | 123 => fun r => match r with
    | 2 => ⟨[0, 1, 5], [], []⟩
    | _ => ⟨[], [], []⟩
  | 140 => fun r => match r with
    | 8 => ⟨[], [], [4, 5, 26, 27, 28, 29, 30, 31]⟩
    | _ => ⟨[], [], []⟩
  | 143 => fun r => match r with
    | 19 => ⟨[], [], [999999]⟩
    | _ => ⟨[], [], []⟩
  | 162 => fun r => match r with
    | 2 => ⟨[0, 1, 7, 8], [], []⟩
    | _ => ⟨[], [], []⟩
  | 172 => fun r => match r with
    | 2 => ⟨[0, 1, 7, 8], [], []⟩
    | _ => ⟨[], [], []⟩
  | 173 => fun r => match r with
    | 2 => ⟨[0, 1, 7, 8], [], []⟩
    | _ => ⟨[], [], []⟩
  | 186 => fun r => match r with
    | 9 => ⟨[], [], [999999]⟩
    | _ => ⟨[], [], []⟩
  | 259 => fun r => match r with
    | 2 => ⟨[0, 1, 2, 3, 4, 5, 6, 7, 8, 9, 10, 11, 12, 13, 14, 15, 16, 17, 18, 19, 20, 21, 22, 23, 24, 25, 26, 27, 28, 29, 30, 31, 32, 33, 34, 35, 36, 37, 38, 39, 40, 41, 42, 43, 44, 45, 46], [], []⟩
    | _ => ⟨[], [], []⟩
  | 281 => fun r => match r with
    | 3 => ⟨[0, 1, 2, 3, 4, 5, 6, 7, 8, 9, 10, 11, 12, 13, 14, 15, 16, 17, 18, 19, 20, 21, 22, 23, 24, 25, 26, 27, 28, 29, 30, 31, 32, 33, 34, 35, 36, 37, 38, 39, 40, 41, 42, 43, 44, 45, 46, 47, 48, 49, 50, 51, 52, 53, 54, 55, 56, 57, 58, 59, 60, 61, 62, 63, 64, 65, 66, 67, 68, 69, 70, 71, 72, 73, 74, 75, 76, 77], [], []⟩
    | 16 => ⟨[0, 1, 2, 3, 4, 5, 6, 7, 8, 9, 10, 11, 12, 13, 14, 15, 16, 17, 18, 19, 20, 21, 22, 23, 24, 25, 26, 27, 28, 29, 30, 31, 32, 33, 34, 35, 36, 37, 38, 39, 40, 41, 42, 43, 44, 45, 46, 47, 48, 49, 50, 51, 52, 53, 54, 55, 56, 57, 58, 59, 60, 61, 62, 63, 64, 65, 66, 67, 68, 69, 70, 71, 72, 73, 74, 75, 76, 77], [], []⟩
    | _ => ⟨[], [], []⟩
  | 333 => fun r => match r with
    | 2 => ⟨[0, 1, 2, 3, 4, 5, 6, 7, 8, 9, 10, 11, 12, 13, 14, 15, 16, 17, 18, 19, 20, 21, 22], [], []⟩
    | _ => ⟨[], [], []⟩
  | _ => fun _ => ⟨[], [], []⟩
end Go.Proofs.YtfccofgchjieeaaGreatDoor.AI
