/- A part of the proof. -/
import Derived.Test.YtefddghdaimklaaGreatDoorAjd
import Derived.Test.YtefddghdaimklaaGreatDoorAkm
import Derived.Test.YtefddghdaimklaaGreatDoorAkr
import Derived.Test.YtefddghdaimklaaGreatDoorAks
import Derived.Test.YtefddghdaimklaaGreatDoorChecked
set_option linter.unusedVariables false
set_option linter.unusedSimpArgs false
namespace Go.Proofs.YtefddghdaimklaaGreatDoor.AI
open Go
abbrev tValue : Ty := .pair (.int .i64) (.pair (.int .i64) (.pair (.float .f64) .str))
abbrev zc : Type := Int × (Int × (Nat × ByteArray))
abbrev tColumn : Ty := .pair .str (.pair (.int .i64) (.pair .bool tValue))
abbrev zR : Type := ByteArray × (Int × (Bool × zc))
abbrev tIndex : Ty := .pair .str (.pair (.sl (.int .i64)) .bool)
abbrev yC : Type := ByteArray × ((List Int) × Bool)
abbrev tRef : Ty := .pair (.sl (.int .i64)) .str
abbrev YH : Type := (List Int) × ByteArray
abbrev tTable : Ty := .pair .str (.pair (.sl tColumn) (.pair (.sl (.int .i64)) (.pair (.sl tIndex) (.sl tRef))))
abbrev zi : Type := ByteArray × ((List zR) × ((List Int) × ((List yC) × (List YH))))
abbrev tExpr : Ty := .rose (.pair (.int .i64) (.pair .str (.pair (.int .i64) tValue)))
abbrev zg : Type := Rose (Int × (ByteArray × (Int × zc)))
abbrev c7 : Ty := .pair tTable (.pair tExpr (.sl tValue))
abbrev VU : Type := zi × (zg × (List zc))
def tab : List (TypeId × TI) := [(1, ⟨.func, 1, 8, none, [.nilf]⟩),
 (2, ⟨.int .i64, 1, 8, some (.int .i64), [.dat (.int .i64)]⟩),
 (3, ⟨.int .i64, 1, 8, some (.int .i64), [.dat (.int .i64)]⟩),
 (4, ⟨.bool, 1, 1, some .bool, [.dat .bool]⟩),
 (5, ⟨.int .u8, 1, 1, some (.int .u8), [.dat (.int .u8)]⟩),
 (9, ⟨.str, 1, 16, some .str, [.dat .str]⟩),
 (22, ⟨.slice 69, 1, 24, some (.sl tColumn), [.nils]⟩),
 (23, ⟨.slice 3, 1, 24, some (.sl (.int .i64)), [.nils]⟩),
 (24, ⟨.slice 71, 1, 24, some (.sl tIndex), [.nils]⟩),
 (25, ⟨.slice 73, 1, 24, some (.sl tRef), [.nils]⟩),
 (27, ⟨.struct [(0, 1, false), (1, 1, false), (2, 1, false), (3, 1, false), (4, 1, false)] none, 5, 112, some tTable, [.dat .str, .nils, .nils, .nils, .nils]⟩),
 (28, ⟨.float .f64, 1, 8, some (.float .f64), [.dat (.float .f64)]⟩),
 (30, ⟨.struct [(0, 1, false), (1, 1, false), (2, 1, false), (3, 1, false)] none, 4, 40, some tValue, [.dat (.int .i64), .dat (.int .i64), .dat (.float .f64), .dat .str]⟩),
 (31, ⟨.slice 33, 1, 24, some (.sl tExpr), [.nils]⟩),
 (33, ⟨.struct [(0, 1, false), (1, 1, false), (2, 1, false), (3, 4, true), (7, 1, false)] none, 8, 96, some tExpr, [.dat (.int .i64), .dat .str, .dat (.int .i64), .dat (.int .i64), .dat (.int .i64), .dat (.float .f64), .dat .str, .nils]⟩),
 (34, ⟨.slice 30, 1, 24, some (.sl tValue), [.nils]⟩),
 (36, ⟨.struct [(0, 5, true), (5, 8, true), (13, 1, false)] none, 14, 232, some c7, [.dat .str, .nils, .nils, .nils, .nils, .dat (.int .i64), .dat .str, .dat (.int .i64), .dat (.int .i64), .dat (.int .i64), .dat (.float .f64), .dat .str, .nils, .nils]⟩),
 (39, ⟨.struct [(0, 1, false), (1, 1, false), (2, 1, false)] (some (.pair .str (.pair .str .bool))), 3, 40, some (.pair .str (.pair .str .bool)), [.dat .str, .dat .str, .dat .bool]⟩),
 (40, ⟨.int .i64, 1, 8, some (.int .i64), [.dat (.int .i64)]⟩),
 (54, ⟨.slice 58, 1, 24, some (.sl (.pair (.int .i64) (.pair .str tValue))), [.nils]⟩),
 (58, ⟨.struct [(0, 1, false), (1, 1, false), (2, 4, true)] none, 6, 64, some (.pair (.int .i64) (.pair .str tValue)), [.dat (.int .i64), .dat .str, .dat (.int .i64), .dat (.int .i64), .dat (.float .f64), .dat .str]⟩),
 (59, ⟨.func, 1, 8, none, [.nilf]⟩),
 (69, ⟨.struct [(0, 1, false), (1, 1, false), (2, 1, false), (3, 4, true)] none, 7, 72, some tColumn, [.dat .str, .dat (.int .i64), .dat .bool, .dat (.int .i64), .dat (.int .i64), .dat (.float .f64), .dat .str]⟩),
 (71, ⟨.struct [(0, 1, false), (1, 1, false), (2, 1, false)] none, 3, 48, some tIndex, [.dat .str, .nils, .dat .bool]⟩),
 (73, ⟨.struct [(0, 1, false), (1, 1, false)] none, 2, 40, some tRef, [.nils, .dat .str]⟩),
 (74, ⟨.slice 77, 1, 24, some (.sl (.pair (.int .i64) (.pair .str tValue))), [.nils]⟩),
 (77, ⟨.struct [(0, 1, false), (1, 1, false), (2, 4, true)] none, 6, 64, some (.pair (.int .i64) (.pair .str tValue)), [.dat (.int .i64), .dat .str, .dat (.int .i64), .dat (.int .i64), .dat (.float .f64), .dat .str]⟩),
 (89, ⟨.slice 5, 1, 24, some (.sl (.int .u8)), [.nils]⟩),
 (94, ⟨.func, 1, 8, none, [.nilf]⟩),
 (98, ⟨.slice 9, 1, 24, some (.sl .str), [.nils]⟩),
 (101, ⟨.func, 1, 8, none, [.nilf]⟩),
 (106, ⟨.ptr, 1, 8, none, [.nilp]⟩),
 (108, ⟨.struct [(0, 5, true), (5, 1, false), (6, 1, false), (7, 1, false), (8, 1, false)] none, 9, 152, some (.pair tTable (.pair (.sl .str) (.pair .bool (.pair .bool (.int .i64))))), [.dat .str, .nils, .nils, .nils, .nils, .nils, .dat .bool, .dat .bool, .dat (.int .i64)]⟩),
 (109, ⟨.func, 1, 8, none, [.nilf]⟩),
 (112, ⟨.int .u64, 1, 8, some (.int .u64), [.dat (.int .u64)]⟩),
 (117, ⟨.ptr, 1, 8, none, [.nilp]⟩),
 (119, ⟨.struct [(0, 5, true), (5, 1, false)] none, 6, 120, some (.pair tTable (.int .i64)), [.dat .str, .nils, .nils, .nils, .nils, .dat (.int .i64)]⟩),
 (123, ⟨.slice 54, 1, 24, some (.sl (.sl (.pair (.int .i64) (.pair .str tValue)))), [.nils]⟩),
 (136, ⟨.func, 1, 8, none, [.nilf]⟩),
 (150, ⟨.int .u64, 1, 8, some (.int .u64), [.dat (.int .u64)]⟩),
 (164, ⟨.func, 1, 8, none, [.nilf]⟩),
 (173, ⟨.func, 1, 8, none, [.nilf]⟩),
 (174, ⟨.func, 1, 8, none, [.nilf]⟩),
 (176, ⟨.struct [(0, 1, false), (1, 1, false)] none, 2, 16, none, [.nilf, .nilf]⟩),
 (177, ⟨.tab [.nilf, .nilf], 1, 8, none, [.nilm]⟩),
 (187, ⟨.arr 2 4, 2, 2, some (.pair .bool .bool), [.dat .bool, .dat .bool]⟩),
 (194, ⟨.struct [(0, 1, false), (1, 1, false)] none, 2, 32, none, [.nilp, .nils]⟩),
 (197, ⟨.iface, 1, 16, none, [.nili]⟩),
 (219, ⟨.func, 1, 8, none, [.nilf]⟩)]
def TT : TypeId → Option TI := Q7 tab
theorem zD : TOk Tryz.prog TT := bW (by kernel_rfl)
theorem zE : Tryz.prog.follows .mixedOrders = true := by kernel_rfl
def ann (f : FuncId) : Nat → Ann :=
 match f with
 | 3 => fun r => match r with
  | 2 => ⟨[], [], [6, 7, 13, 14, 15, 16, 17, 18, 20, 23, 24]⟩
  | _ => ⟨[], [], []⟩
 | 4 => fun r => match r with
  | 8 => ⟨[1, 2, 6, 10, 11], [], []⟩
  | 10 => ⟨[], [], [53, 54, 55, 56, 57, 58, 59, 60]⟩
  | _ => ⟨[], [], []⟩
 | 6 => fun r => match r with
  | 7 => ⟨[2, 3, 4, 6, 40, 41, 42], [], []⟩
  | 15 => ⟨[2, 6, 11, 12, 68, 69, 70], [(12, none, 30, tValue)], []⟩
  | 27 => ⟨[], [], [3000012]⟩
  | 30 => ⟨[], [], [120, 121, 123, 124, 127, 128, 129, 131, 132, 133, 7700122, 7600129]⟩
  | 32 => ⟨[], [], [136, 137, 139, 143, 144, 145, 7700138]⟩
  | 34 => ⟨[], [], [147, 148, 150, 151, 154, 155, 156, 158, 159, 160, 7700149, 7600156]⟩
  | _ => ⟨[], [], []⟩
 | 7 => fun r => match r with
  | 1 => ⟨[], [], [3, 7, 8, 9, 10, 11, 12]⟩
  | 3 => ⟨[1, 2, 3, 4], [(3, some 1, 69, tColumn)], []⟩
  | 5 => ⟨[], [], [20, 22, 23, 24, 25, 26, 29]⟩
  | 7 => ⟨[1, 2, 3, 5], [(3, some 3, 71, tIndex)], []⟩
  | 9 => ⟨[], [], [37, 39, 40, 41, 42, 43, 44, 45, 46, 47, 48, 49, 50, 51, 52, 53, 54, 55, 56, 57, 58, 61]⟩
  | 11 => ⟨[1, 2, 3, 6], [(3, some 4, 73, tRef)], []⟩
  | 13 => ⟨[], [], [69, 71, 72, 73, 74, 75, 76, 77, 78, 79, 80, 81, 82, 83, 84, 87]⟩
  | _ => ⟨[], [], []⟩
 | 8 => fun r => match r with
  | 3 => ⟨[1, 2, 3, 4], [(3, some 7, 33, tExpr)], []⟩
  | 5 => ⟨[], [], [21, 23, 24, 25, 26, 27, 28, 31]⟩
  | _ => ⟨[], [], []⟩
 | 9 => fun r => match r with
  | 7 => ⟨[2, 3, 4, 6, 9], [], []⟩
  | 9 => ⟨[], [], [44, 45, 46, 47, 48, 49, 50, 51, 52, 53, 54, 55, 56, 57]⟩
  | 12 => ⟨[2, 3, 4, 6, 9, 10, 50, 51, 52, 53, 54, 55, 56, 57], [], []⟩
  | 14 => ⟨[], [], [65, 66, 67, 68, 69, 70, 71, 72, 73]⟩
  | 20 => ⟨[2, 6, 11, 12, 13, 14, 15, 16, 17], [], []⟩
  | 24 => ⟨[2, 6, 11, 12, 13, 14, 15, 16, 17, 18, 19], [], []⟩
  | 26 => ⟨[], [], [98, 102, 103, 104, 105, 106, 107, 109, 113]⟩
  | _ => ⟨[], [], []⟩
 | 10 => fun r => match r with
  | 4 => ⟨[], [], [3, 4, 14, 15, 16, 17, 20, 21]⟩
  | 5 => ⟨[], [], [5, 6, 22, 23, 24, 25, 28, 29]⟩
  | _ => ⟨[], [], []⟩
 | 12 => fun r => match r with
  | 2 => ⟨[0, 4], [], []⟩
  | 8 => ⟨[0, 5, 6], [(5, none, 5, .int .u8)], []⟩
  | _ => ⟨[], [], []⟩
 | 17 => fun r => match r with
  | 2 => ⟨[], [], [4, 17, 18, 19, 20, 21, 22, 23, 24, 25, 26, 27, 28]⟩
  | 6 => ⟨[], [], [6, 7, 8, 47, 48, 49, 50, 51, 52, 53, 54, 55, 56, 7000002, 7500047, 7500048, 7500049, 7500050, 7500051, 7500052, 7500053, 7500054, 7500055, 7500056]⟩
  | 8 => ⟨[], [], [8, 60, 61, 62, 63, 64, 65, 7000002, 7500062, 7500064, 7500065]⟩
  | 9 => ⟨[], [], [66, 67, 68, 69, 70, 71, 72, 74, 75, 76, 77, 78, 79, 80, 81, 82, 83, 84, 85]⟩
  | _ => ⟨[], [], []⟩
 | 18 => fun r => match r with
  | 2 => ⟨[0, 1, 7, 8], [], []⟩
  | _ => ⟨[], [], []⟩
 | 20 => fun r => match r with
  | 4 => ⟨[1, 2, 3, 4, 10, 12, 13, 17, 18, 19], [], []⟩
  | _ => ⟨[], [], []⟩
 | 27 => fun r => match r with
  | 3 => ⟨[0, 3, 4], [], []⟩
  | _ => ⟨[], [], []⟩
 | 29 => fun r => match r with
  | 4 => ⟨[], [], [17, 18, 19, 20, 21]⟩
  | 5 => ⟨[], [], [23, 24, 25, 26, 27]⟩
  | 7 => ⟨[5, 6, 7], [], []⟩
  | 13 => ⟨[], [], [8, 9, 10, 52, 53, 54, 55, 56, 57, 58, 59, 60, 61, 7000002, 7500052, 7500053, 7500054, 7500055, 7500056, 7500057, 7500058, 7500059, 7500060, 7500061]⟩
  | 15 => ⟨[], [], [10, 65, 66, 67, 68]⟩
  | 16 => ⟨[], [], [69, 70, 71, 72, 73, 74, 75, 77, 78, 79, 80, 81, 82, 83, 84, 85, 86, 87, 88]⟩
  | _ => ⟨[], [], []⟩
 | 30 => fun r => match r with
  | 3 => ⟨[0, 1, 2, 6, 8, 9, 10], [], []⟩
  | _ => ⟨[], [], []⟩
 | 39 => fun r => match r with
  | 3 => ⟨[1, 2, 5], [], []⟩
  | _ => ⟨[], [], []⟩
 | 42 => fun r => match r with
  | 2 => ⟨[0, 1, 7, 8], [], []⟩
  | _ => ⟨[], [], []⟩
 | 43 => fun r => match r with
  | 3 => ⟨[0, 3, 9, 10, 11], [], []⟩
  | 11 => ⟨[6, 25, 26, 27], [(6, none, 58, .pair (.int .i64) (.pair .str tValue))], []⟩
  | _ => ⟨[], [], []⟩
 | 44 => fun r => match r with
  | 2 => ⟨[0, 1, 7, 8], [], []⟩
  | _ => ⟨[], [], []⟩
 | 46 => fun r => match r with
  | 2 => ⟨[0, 9, 10, 11], [], []⟩
  | 9 => ⟨[6, 19, 20, 21], [(6, none, 5, .int .u8)], []⟩
  | _ => ⟨[], [], []⟩
 | 54 => fun r => match r with
  | 3 => ⟨[0, 3, 4], [], []⟩
  | _ => ⟨[], [], []⟩
 | 58 => fun r => match r with
  | 12 => ⟨[1, 54, 55, 56], [], []⟩
  | 23 => ⟨[1, 82, 83, 84], [], []⟩
  | _ => ⟨[], [], []⟩
 | 59 => fun r => match r with
  | 4 => ⟨[0, 4, 5, 6], [(4, none, 9, .str)], []⟩
  | _ => ⟨[], [], []⟩
 | 61 => fun r => match r with
  | 7 => ⟨[1, 22, 23, 24], [], []⟩
  | 15 => ⟨[], [], [50, 51, 52, 53, 54, 55, 56, 57, 58, 59, 60, 61]⟩
  | _ => ⟨[], [], []⟩
 | 62 => fun r => match r with
  | 20 => ⟨[], [], [5, 96, 97, 98, 99, 100, 101, 102]⟩
  | _ => ⟨[], [], []⟩
 | 67 => fun r => match r with
  | 3 => ⟨[0, 3, 4], [(3, none, 5, .int .u8)], []⟩
  | _ => ⟨[], [], []⟩
 | 68 => fun r => match r with
  | 10 => ⟨[], [], [6, 54, 55, 56, 57, 58, 59, 61, 62, 63, 64, 66, 67, 68, 69, 70, 71, 72, 73, 74, 75, 77, 78, 79, 80]⟩
  | 20 => ⟨[0, 2, 141, 142, 143], [], []⟩
  | _ => ⟨[], [], []⟩
 | 69 => fun r => match r with
  | 3 => ⟨[2, 3, 6, 12, 13, 14], [(6, some 0, 3, .int .i64)], []⟩
  | 17 => ⟨[], [], [4, 5, 73, 74, 78]⟩
  | 23 => ⟨[], [], [4, 5, 103]⟩
  | 26 => ⟨[], [], [4, 5, 123, 124, 131, 132, 133]⟩
  | _ => ⟨[], [], []⟩
 | 76 => fun r => match r with
  | 5 => ⟨[], [], [20, 21]⟩
  | 7 => ⟨[], [], [28, 29, 30]⟩
  | 9 => ⟨[], [], [37, 38]⟩
  | 11 => ⟨[], [], [45, 46]⟩
  | _ => ⟨[], [], []⟩
 | 77 => fun r => match r with
  | 11 => ⟨[1, 4], [], []⟩
  | 13 => ⟨[], [], [50, 51, 52, 53, 54, 55, 56, 57, 58, 59]⟩
  | 19 => ⟨[1, 6], [], []⟩
  | 23 => ⟨[], [], [80, 81, 82, 83, 84, 85, 86, 87, 88]⟩
  | _ => ⟨[], [], []⟩
 | 78 => fun r => match r with
  | 6 => ⟨[1, 2, 3, 8, 9], [], []⟩
  | _ => ⟨[], [], []⟩
 | 79 => fun r => match r with
  | 2 => ⟨[2, 3, 5], [], []⟩
  | 4 => ⟨[], [], [14, 15, 16, 17, 18, 19, 20, 21]⟩
  | 13 => ⟨[], [], [4, 76, 77, 78, 79, 80, 81, 82, 83, 85, 86, 87, 88, 90, 91, 92]⟩
  | 15 => ⟨[], [], [4, 96, 97, 98, 99, 100, 101, 102, 103, 105, 106, 107, 108, 110, 111, 112]⟩
  | _ => ⟨[], [], []⟩
 | 80 => fun r => match r with
  | 3 => ⟨[2, 3, 6, 7], [], []⟩
  | 5 => ⟨[], [], [8, 9, 19, 20, 21, 22, 23, 24, 25, 26, 27, 28]⟩
  | 16 => ⟨[], [], [4, 5, 62, 63, 67]⟩
  | 20 => ⟨[6, 10], [], []⟩
  | 22 => ⟨[], [], [90, 93, 94]⟩
  | 26 => ⟨[], [], [4, 5, 98, 99, 106, 107, 108]⟩
  | 28 => ⟨[], [], [4, 5, 118]⟩
  | _ => ⟨[], [], []⟩
 | 81 => fun r => match r with
  | 2 => ⟨[0, 1, 5], [], []⟩
  | _ => ⟨[], [], []⟩
 | 86 => fun r => match r with
  | 4 => ⟨[0, 22, 23], [], []⟩
  | _ => ⟨[], [], []⟩
 | 87 => fun r => match r with
  | 2 => ⟨[1, 7, 8, 9], [], []⟩
  | _ => ⟨[], [], []⟩
 | 88 => fun r => match r with
  | 4 => ⟨[1, 2, 15, 16, 17], [], []⟩
  | _ => ⟨[], [], []⟩
 | 95 => fun r => match r with
  | 2 => ⟨[0, 3], [], []⟩
  | _ => ⟨[], [], []⟩
 | 97 => fun r => match r with
  | 2 => ⟨[0, 3], [], []⟩
  | _ => ⟨[], [], []⟩
 | 98 => fun r => match r with
  | 2 => ⟨[0, 1, 2, 3, 4, 5, 6, 7, 8, 9, 10, 11, 12, 13, 14, 15, 16, 17, 18, 19, 20, 21, 22, 23, 24, 25, 26], [], []⟩
  | _ => ⟨[], [], []⟩
 | 100 => fun r => match r with
  | 6 => ⟨[1, 4, 6, 8, 30, 31, 32], [], []⟩
  | _ => ⟨[], [], []⟩
 | 108 => fun r => match r with
  | 7 => ⟨[], [], [7, 38, 39, 40, 41, 42, 43, 44, 45]⟩
  | _ => ⟨[], [], []⟩
 | 110 => fun r => match r with
  | 2 => ⟨[0, 3], [], []⟩
  | _ => ⟨[], [], []⟩
 | 111 => fun r => match r with
  | 3 => ⟨[0, 5, 6], [(5, none, 5, .int .u8)], []⟩
  | _ => ⟨[], [], []⟩
 | 125 => fun r => match r with
  | 4 => ⟨[0, 3], [], []⟩
  | _ => ⟨[], [], []⟩
 | 126 => fun r => match r with
  | 2 => ⟨[1, 3], [], []⟩
  | 8 => ⟨[1, 3, 4, 5], [], []⟩
  | 10 => ⟨[], [], [27, 28, 29, 30, 31, 32, 33, 34, 35]⟩
  | _ => ⟨[], [], []⟩
 | 127 => fun r => match r with
  | 4 => ⟨[1, 2, 5], [], []⟩
  | 6 => ⟨[], [], [21, 22, 23, 24, 25, 26, 27, 28, 29, 30, 31, 32, 33, 34]⟩
  | 9 => ⟨[1, 2, 5, 6, 27, 28, 29, 30, 31, 32, 33, 34], [], []⟩
  | 11 => ⟨[], [], [41, 42, 43, 44, 45, 46, 47, 48, 49]⟩
  | _ => ⟨[], [], []⟩
 | 128 => fun r => match r with
  | 2 => ⟨[1, 3], [], []⟩
  | 8 => ⟨[1, 3, 4, 5], [], []⟩
  | 10 => ⟨[], [], [27, 28, 29, 30, 31, 32, 33, 34, 35]⟩
  | _ => ⟨[], [], []⟩
 | 142 => fun r => match r with
  | 2 => ⟨[0, 1, 7, 8], [], []⟩
  | _ => ⟨[], [], []⟩
 | 143 => fun r => match r with
  | 2 => ⟨[0, 1, 7, 8], [], []⟩
  | _ => ⟨[], [], []⟩
 | 145 => fun r => match r with
  | 2 => ⟨[0, 1, 7, 8], [], []⟩
  | _ => ⟨[], [], []⟩
 | 162 => fun r => match r with
  | 2 => ⟨[0, 1, 7], [], []⟩
  | _ => ⟨[], [], []⟩
 | 166 => fun r => match r with
  | 2 => ⟨[0, 1, 5], [], []⟩
  | _ => ⟨[], [], []⟩
 | 169 => fun r => match r with
  | 1 => ⟨[], [], [4, 5, 6, 7, 8, 9, 10, 11, 12, 13, 14, 15, 17, 18, 19, 20, 21, 22, 23, 24, 26, 27, 28, 29, 30, 31]⟩
  | _ => ⟨[], [], []⟩
 | 171 => fun r => match r with
  | 2 => ⟨[0, 1, 7, 8], [], []⟩
  | _ => ⟨[], [], []⟩
 | 220 => fun r => match r with
  | 2 => ⟨[0, 1, 2, 3, 4, 5, 6, 7, 8, 9, 10, 11, 12, 13, 14, 15, 16, 17, 18, 19, 20, 21, 22, 23, 24, 25, 26, 27, 28, 29, 30, 31, 32, 33, 34, 35, 36, 37, 38, 39, 40, 41, 42, 43, 44, 45, 46], [], []⟩
  | _ => ⟨[], [], []⟩
 | 223 => fun r => match r with
  | 3 => ⟨[0, 1, 2, 3, 4, 5, 6, 7, 8, 9, 10, 11, 12, 13, 14, 15, 16, 17, 18, 19, 20, 21, 22, 23, 24, 25, 26, 27, 28, 29, 30, 31, 32, 33, 34, 35, 36, 37, 38, 39, 40, 41, 42, 43, 44, 45, 46, 47, 48, 49, 50, 51, 52, 53, 54, 55, 56, 57, 58, 59, 60, 61, 62, 63, 64, 65, 66, 67, 68, 69, 70, 71, 72, 73, 74, 75, 76, 77], [], []⟩
  | 16 => ⟨[0, 1, 2, 3, 4, 5, 6, 7, 8, 9, 10, 11, 12, 13, 14, 15, 16, 17, 18, 19, 20, 21, 22, 23, 24, 25, 26, 27, 28, 29, 30, 31, 32, 33, 34, 35, 36, 37, 38, 39, 40, 41, 42, 43, 44, 45, 46, 47, 48, 49, 50, 51, 52, 53, 54, 55, 56, 57, 58, 59, 60, 61, 62, 63, 64, 65, 66, 67, 68, 69, 70, 71, 72, 73, 74, 75, 76, 77], [], []⟩
  | _ => ⟨[], [], []⟩
 | 235 => fun r => match r with
  | 2 => ⟨[0, 1, 2, 3, 4, 5, 6, 7, 8, 9, 10, 11, 12, 13, 14, 15, 16, 17, 18, 19, 20, 21, 22], [], []⟩
  | _ => ⟨[], [], []⟩
 | _ => fun _ => ⟨[], [], []⟩
end Go.Proofs.YtefddghdaimklaaGreatDoor.AI
