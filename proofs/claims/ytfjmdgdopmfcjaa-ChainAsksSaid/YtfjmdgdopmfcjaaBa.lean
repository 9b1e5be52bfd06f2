/- The seat's types, and what is told of its loops. Printed by aipr.py. -/
import Derived.Test.YtfjmdgdopmfcjaaAjc
import Derived.Test.YtfjmdgdopmfcjaaChecked
set_option linter.unusedVariables false
namespace Go.Proofs.Ytfjmdgdopmfcjaa.AI
open Go
abbrev tValue : Ty := .pair (.int .i64) (.pair (.int .i64) (.pair (.float .f64) .str))
abbrev dValue : Type := Int × (Int × (Nat × ByteArray))
abbrev tVersion : Ty := .pair (.int .u64) (.pair .bool (.sl tValue))
abbrev dVersion : Type := Int × (Bool × (List dValue))
abbrev tWrite : Ty := .pair (.int .i64) (.pair .bool (.sl tValue))
abbrev dWrite : Type := Int × (Bool × (List dValue))
abbrev tIntent : Ty := .pair (.int .i64) (.sl tWrite)
abbrev dIntent : Type := Int × (List dWrite)
abbrev tReader : Ty := .pair (.int .i64) (.int .u64)
abbrev dReader : Type := Int × Int
abbrev tLevels : Ty := .pair tIntent (.pair (.int .i64) tWrite)
abbrev dLevels : Type := dIntent × (Int × dWrite)
def tab : List (TypeId × TI) := [(2, ⟨.int .i64, 1, 8, some (.int .i64), [.dat (.int .i64)]⟩),
  (3, ⟨.int .i64, 1, 8, some (.int .i64), [.dat (.int .i64)]⟩),
  (4, ⟨.bool, 1, 1, some .bool, [.dat .bool]⟩),
  (9, ⟨.str, 1, 16, some .str, [.dat .str]⟩),
  (22, ⟨.slice 31, 1, 24, some (.sl tVersion), [.nils]⟩),
  (23, ⟨.int .u64, 1, 8, some (.int .u64), [.dat (.int .u64)]⟩),
  (26, ⟨.int .i64, 1, 8, some (.int .i64), [.dat (.int .i64)]⟩),
  (29, ⟨.slice 74, 1, 24, some (.sl tValue), [.nils]⟩),
  (31, ⟨.struct [(0, 1, false), (1, 1, false), (2, 1, false)], 3, 40, some tVersion, [.dat (.int .u64), .dat .bool, .nils]⟩),
  (34, ⟨.slice 56, 1, 24, some (.sl tWrite), [.nils]⟩),
  (36, ⟨.struct [(0, 1, false), (1, 1, false)], 2, 32, some tIntent, [.dat (.int .i64), .nils]⟩),
  (38, ⟨.struct [(0, 1, false), (1, 1, false)], 2, 16, some tReader, [.dat (.int .i64), .dat (.int .u64)]⟩),
  (47, ⟨.arr 2 23, 2, 16, some (.pair (.int .u64) (.int .u64)), [.dat (.int .u64), .dat (.int .u64)]⟩),
  (56, ⟨.struct [(0, 1, false), (1, 1, false), (2, 1, false)], 3, 40, some tWrite, [.dat (.int .i64), .dat .bool, .nils]⟩),
  (58, ⟨.struct [(0, 2, true), (2, 1, false), (3, 3, true)], 6, 80, some tLevels, [.dat (.int .i64), .nils, .dat (.int .i64), .dat (.int .i64), .dat .bool, .nils]⟩),
  (71, ⟨.func, 1, 8, none, [.nilf]⟩),
  (72, ⟨.float .f64, 1, 8, some (.float .f64), [.dat (.float .f64)]⟩),
  (74, ⟨.struct [(0, 1, false), (1, 1, false), (2, 1, false), (3, 1, false)], 4, 40, some tValue, [.dat (.int .i64), .dat (.int .i64), .dat (.float .f64), .dat .str]⟩),
  (78, ⟨.func, 1, 8, none, [.nilf]⟩)]
def TT : TypeId → Option TI := tabT tab
theorem TT_ok : TOk Try.prog TT := tabT_ok (by kernel_rfl)
theorem mixed : Try.prog.follows .mixedOrders = true := by kernel_rfl
def ann (f : FuncId) : Nat → Ann :=
  match f with
  | 3 => fun r => match r with
    | 6 => ⟨[0, 1, 5, 6, 7], [], []⟩
    | _ => ⟨[], [], []⟩
  | 6 => fun r => match r with
    | 7 => ⟨[], [], [6, 36, 37, 38, 39, 40, 41, 42, 44, 45, 46, 47, 49, 50, 51, 52, 53, 54, 55, 56, 57, 58, 60, 61, 62, 63, 64, 65, 66, 67, 68, 69, 70, 71, 72, 73, 75, 76]⟩
    | _ => ⟨[], [], []⟩
  | 9 => fun r => match r with
    | 11 => ⟨[], [], [2, 76, 77, 78, 79, 80, 81, 82, 84, 85, 86, 87, 88, 89, 90, 91, 92, 93, 97, 98]⟩
    | _ => ⟨[], [], []⟩
  | 10 => fun r => match r with
    | 9 => ⟨[1, 2, 3, 7, 8, 9, 10], [(8, some 1, 0, tWrite)], []⟩
    | 26 => ⟨[], [], [6, 100, 101, 102, 103, 104, 105, 107, 108, 109, 110, 112, 113, 114, 115, 116, 117, 119, 120]⟩
    | _ => ⟨[], [], []⟩
  | 12 => fun r => match r with
    | 2 => ⟨[0, 3], [], []⟩
    | 5 => ⟨[], [], [15, 16, 17, 18, 19, 20, 21, 23, 24, 25, 26, 27, 28, 29, 30, 33, 34, 35, 36, 37, 38, 39, 40, 41, 42, 43, 44, 45]⟩
    | _ => ⟨[], [], []⟩
  | 16 => fun r => match r with
    | 4 => ⟨[1, 3], [], []⟩
    | 7 => ⟨[], [], [30, 31, 32, 33, 34, 35, 36, 37, 38, 39, 40, 43, 44, 45, 46, 47, 48, 49, 50, 51, 52, 53, 54, 55, 56]⟩
    | _ => ⟨[], [], []⟩
  | 17 => fun r => match r with
    | 4 => ⟨[], [], [8, 9, 34, 35, 36, 37, 38, 39]⟩
    | _ => ⟨[], [], []⟩
  | 18 => fun r => match r with
    | 3 => ⟨[], [], [8, 9, 27, 28, 29, 30, 31, 32, 33, 34, 35, 36, 37, 38, 39, 40, 41]⟩
    | _ => ⟨[], [], []⟩
  | 20 => fun r => match r with
    | 4 => ⟨[0, 1, 6, 7, 13, 14, 15], [(7, none, 31, tVersion)], []⟩
    | _ => ⟨[], [], []⟩
  | 21 => fun r => match r with
    | 4 => ⟨[0, 1, 6, 7, 8], [(7, none, 31, tVersion)], []⟩
    | _ => ⟨[], [], []⟩
  | 22 => fun r => match r with
    | 4 => ⟨[0, 1, 5], [], []⟩
    | 6 => ⟨[], [], [17, 18, 19, 20, 21, 22, 23, 24, 25, 26, 27, 28, 29, 30, 31, 32, 33, 34, 35, 36, 37, 38, 39, 41, 42, 43, 44, 45, 46, 47, 48, 49, 50, 51, 52, 53]⟩
    | _ => ⟨[], [], []⟩
  | 23 => fun r => match r with
    | 2 => ⟨[0, 5, 6, 7], [], []⟩
    | 4 => ⟨[], [], [12, 13, 14, 15, 16, 17, 18, 19, 20, 21, 22, 23, 24, 25, 26, 27]⟩
    | _ => ⟨[], [], []⟩
  | 25 => fun r => match r with
    | 5 => ⟨[], [], [4, 5, 6, 21, 22, 23, 24, 25, 26, 27, 28, 29, 30, 31]⟩
    | _ => ⟨[], [], []⟩
  | 26 => fun r => match r with
    | 2 => ⟨[0, 1, 5], [], []⟩
    | _ => ⟨[], [], []⟩
  | 28 => fun r => match r with
    | 2 => ⟨[0, 1, 2, 7], [], []⟩
    | _ => ⟨[], [], []⟩
  | 29 => fun r => match r with
    | 7 => ⟨[6, 25, 26, 27], [], []⟩
    | _ => ⟨[], [], []⟩
  | 30 => fun r => match r with
    | 5 => ⟨[], [], [19, 20, 21, 22, 23, 24, 25, 26, 27, 28, 29]⟩
    | _ => ⟨[], [], []⟩
  | 32 => fun r => match r with
    | 7 => ⟨[], [], [44, 45, 46, 47, 49, 50, 54, 55, 56]⟩
    | _ => ⟨[], [], []⟩
  | 33 => fun r => match r with
    | 5 => ⟨[2, 3, 4, 6, 7], [(6, some 1, 56, tWrite)], []⟩
    | 7 => ⟨[], [], [37, 38, 39, 40, 41, 42, 43, 44, 45]⟩
    | 9 => ⟨[], [], [47, 48, 49, 50, 51, 52, 53, 54, 55]⟩
    | 10 => ⟨[], [], [56, 58, 59, 60, 61, 62, 65]⟩
    | _ => ⟨[], [], []⟩
  | 34 => fun r => match r with
    | 4 => ⟨[2, 3, 5], [], []⟩
    | _ => ⟨[], [], []⟩
  | 35 => fun r => match r with
    | 9 => ⟨[], [], [34, 35, 36, 37, 39, 40, 44, 45, 46]⟩
    | 11 => ⟨[], [], [50, 52, 53, 55, 58]⟩
    | _ => ⟨[], [], []⟩
  | 38 => fun r => match r with
    | 3 => ⟨[1, 2, 4, 5, 6], [(5, some 1, 56, tWrite)], []⟩
    | 6 => ⟨[], [], [25, 27, 28, 29, 30, 31, 34]⟩
    | _ => ⟨[], [], []⟩
  | 42 => fun r => match r with
    | 2 => ⟨[0, 1, 7, 8], [], []⟩
    | _ => ⟨[], [], []⟩
  | 45 => fun r => match r with
    | 4 => ⟨[0, 1, 5], [], []⟩
    | 6 => ⟨[], [], [17, 18, 19, 20, 21, 22, 23, 24, 25, 26]⟩
    | _ => ⟨[], [], []⟩
  | 53 => fun r => match r with
    | 3 => ⟨[2, 3, 10, 11, 12], [(3, some 1, 56, tWrite)], []⟩
    | _ => ⟨[], [], []⟩
  | 55 => fun r => match r with
    | 1 => ⟨[], [], [4, 5, 6, 7, 8, 9, 10, 11, 12, 13, 14, 15, 17, 18, 19, 20, 21, 22, 23, 24, 26, 27, 28, 29, 30, 31]⟩
    | _ => ⟨[], [], []⟩
  | 56 => fun r => match r with
    | 2 => ⟨[0, 1, 7, 8], [], []⟩
    | _ => ⟨[], [], []⟩
  | _ => fun _ => ⟨[], [], []⟩
end Go.Proofs.Ytfjmdgdopmfcjaa.AI
