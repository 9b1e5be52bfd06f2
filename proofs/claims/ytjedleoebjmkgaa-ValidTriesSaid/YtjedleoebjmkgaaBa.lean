/- The seat's types, and what is told of its loops. Printed by aipr.py. -/
import Derived.Test.YtjedleoebjmkgaaAjc
import Derived.Test.YtjedleoebjmkgaaAkm
import Derived.Test.YtjedleoebjmkgaaChecked
set_option linter.unusedVariables false
namespace Go.Proofs.Ytjedleoebjmkgaa.AI
open Go
abbrev tPoint : Ty := .pair (.int .i64) (.pair (.int .i64) .str)
abbrev dPoint : Type := Int × (Int × ByteArray)
abbrev tRange : Ty := .pair .str (.pair .str .bool)
abbrev dRange : Type := ByteArray × (ByteArray × Bool)
abbrev tSpan : Ty := .pair (.int .i64) (.pair (.int .i64) tRange)
abbrev dSpan : Type := Int × (Int × dRange)
abbrev tFoot : Ty := .pair (.sl tPoint) (.pair (.sl tSpan) (.sl tPoint))
abbrev dFoot : Type := (List dPoint) × ((List dSpan) × (List dPoint))
abbrev tCommit : Ty := .pair (.int .u64) tFoot
abbrev dCommit : Type := Int × dFoot
abbrev tRcommit : Ty := .pair (.int .u64) (.sl tPoint)
abbrev dRcommit : Type := Int × (List dPoint)
abbrev tClash : Ty := .pair (.int .u64) tPoint
abbrev dClash : Type := Int × dPoint
abbrev tAttempt : Ty := .pair (.int .u64) (.pair tFoot (.int .i64))
abbrev dAttempt : Type := Int × (dFoot × Int)
abbrev tFate : Ty := .pair (.int .u64) (.pair (.int .i64) tClash)
abbrev dFate : Type := Int × (Int × dClash)
def tab : List (TypeId × TI) := [(3, ⟨.int .i64, 1, 8, some (.int .i64), [.dat (.int .i64)]⟩),
  (4, ⟨.bool, 1, 1, some .bool, [.dat .bool]⟩),
  (9, ⟨.str, 1, 16, some .str, [.dat .str]⟩),
  (22, ⟨.slice 58, 1, 24, some (.sl tCommit), [.nils]⟩),
  (23, ⟨.slice 33, 1, 24, some (.sl tPoint), [.nils]⟩),
  (24, ⟨.slice 98, 1, 24, some (.sl tSpan), [.nils]⟩),
  (26, ⟨.struct [(0, 1, false), (1, 1, false), (2, 1, false)] none, 3, 72, some tFoot, [.nils, .nils, .nils]⟩),
  (27, ⟨.int .u64, 1, 8, some (.int .u64), [.dat (.int .u64)]⟩),
  (28, ⟨.ptr, 1, 8, none, [.nilp]⟩),
  (29, ⟨.slice 81, 1, 24, some (.sl tRcommit), [.nils]⟩),
  (33, ⟨.struct [(0, 1, false), (1, 1, false), (2, 1, false)] (some tPoint), 3, 32, some tPoint, [.dat (.int .i64), .dat (.int .i64), .dat .str]⟩),
  (35, ⟨.struct [(0, 1, false), (1, 3, true)] none, 4, 40, some tClash, [.dat (.int .u64), .dat (.int .i64), .dat (.int .i64), .dat .str]⟩),
  (48, ⟨.struct [(0, 1, false), (1, 3, true), (4, 1, false)] none, 5, 88, some tAttempt, [.dat (.int .u64), .nils, .nils, .nils, .dat (.int .i64)]⟩),
  (49, ⟨.arr 3 3, 3, 24, some (.pair (.int .i64) (.pair (.int .i64) (.int .i64))), [.dat (.int .i64), .dat (.int .i64), .dat (.int .i64)]⟩),
  (50, ⟨.int .i64, 1, 8, some (.int .i64), [.dat (.int .i64)]⟩),
  (58, ⟨.struct [(0, 1, false), (1, 3, true)] none, 4, 80, some tCommit, [.dat (.int .u64), .nils, .nils, .nils]⟩),
  (59, ⟨.slice 85, 1, 24, some (.sl tCommit), [.nils]⟩),
  (61, ⟨.struct [(0, 1, false), (1, 1, false)] none, 2, 32, some (.pair .bool (.sl tCommit)), [.dat .bool, .nils]⟩),
  (63, ⟨.slice 27, 1, 24, some (.sl (.int .u64)), [.nils]⟩),
  (66, ⟨.slice 48, 1, 24, some (.sl tAttempt), [.nils]⟩),
  (67, ⟨.slice 71, 1, 24, some (.sl tFate), [.nils]⟩),
  (71, ⟨.struct [(0, 1, false), (1, 1, false), (2, 4, true)] none, 6, 56, some tFate, [.dat (.int .u64), .dat (.int .i64), .dat (.int .u64), .dat (.int .i64), .dat (.int .i64), .dat .str]⟩),
  (74, ⟨.func, 1, 8, none, [.nilf]⟩),
  (81, ⟨.struct [(0, 1, false), (1, 1, false)] none, 2, 32, some tRcommit, [.dat (.int .u64), .nils]⟩),
  (85, ⟨.struct [(0, 1, false), (1, 3, true)] none, 4, 80, some tCommit, [.dat (.int .u64), .nils, .nils, .nils]⟩),
  (87, ⟨.map 33 tPoint, 1, 8, some (.set tPoint), [.nilm]⟩),
  (88, ⟨.struct [] none, 0, 0, none, []⟩),
  (92, ⟨.func, 1, 8, none, [.nilf]⟩),
  (96, ⟨.struct [(0, 1, false), (1, 1, false), (2, 1, false)] none, 3, 40, some tRange, [.dat .str, .dat .str, .dat .bool]⟩),
  (98, ⟨.struct [(0, 1, false), (1, 1, false), (2, 3, true)] none, 5, 56, some tSpan, [.dat (.int .i64), .dat (.int .i64), .dat .str, .dat .str, .dat .bool]⟩),
  (102, ⟨.func, 1, 8, none, [.nilf]⟩),
  (105, ⟨.func, 1, 8, none, [.nilf]⟩),
  (115, ⟨.slice 3, 1, 24, some (.sl (.int .i64)), [.nils]⟩)]
def TT : TypeId → Option TI := tabT tab
theorem TT_ok : TOk Try.prog TT := tabT_ok (by kernel_rfl)
theorem mixed : Try.prog.follows .mixedOrders = true := by kernel_rfl
def ann (f : FuncId) : Nat → Ann :=
  match f with
  | 5 => fun r => match r with
    | 13 => ⟨[4, 5, 7, 14, 15, 16], [], []⟩
    | 15 => ⟨[], [], [62, 63, 64, 65, 66, 67, 68, 69, 70, 71, 72, 73]⟩
    | _ => ⟨[], [], []⟩
  | 7 => fun r => match r with
    | 6 => ⟨[3, 5, 6, 8, 9, 10], [], []⟩
    | _ => ⟨[], [], []⟩
  | 8 => fun r => match r with
    | 2 => ⟨[2, 3, 4, 7], [], []⟩
    | _ => ⟨[], [], []⟩
  | 9 => fun r => match r with
    | 6 => ⟨[5, 7, 9], [], []⟩
    | 8 => ⟨[], [], [38, 39, 40, 41, 42, 43, 44, 45, 46, 47, 48, 49, 50, 51, 52, 53, 54, 55, 56, 57, 58, 59, 60, 62, 63, 64, 65, 66, 67, 68, 69, 70, 71, 72, 73, 74]⟩
    | _ => ⟨[], [], []⟩
  | 10 => fun r => match r with
    | 7 => ⟨[1, 5, 7], [], []⟩
    | 11 => ⟨[1, 5, 7, 8], [], []⟩
    | 13 => ⟨[], [], [49, 50, 51, 52, 53, 54, 55, 56, 57, 58, 59, 60, 61, 62, 63, 64, 65, 66]⟩
    | 14 => ⟨[], [], [68, 69, 70, 71, 72, 73, 74, 75, 76, 77, 78]⟩
    | 16 => ⟨[], [], [9, 10, 79, 80, 81, 82, 83, 84, 85, 86, 87, 88, 89, 90, 91, 92]⟩
    | 17 => ⟨[], [], [11, 12, 93, 94, 95, 96, 97, 98, 99, 100, 101, 102, 103, 104, 105, 106]⟩
    | _ => ⟨[], [], []⟩
  | 11 => fun r => match r with
    | 6 => ⟨[0, 5, 6, 7], [(5, some 1, 85, tCommit), (6, none, 0, tRcommit)], []⟩
    | 8 => ⟨[], [], [8, 20, 21, 22, 23, 24, 25, 26, 27, 28, 29, 30, 31]⟩
    | 9 => ⟨[], [], [9, 10, 32, 33, 34, 35, 36, 37, 38, 39, 40, 41, 42, 43, 44, 45, 46]⟩
    | _ => ⟨[], [], []⟩
  | 13 => fun r => match r with
    | 4 => ⟨[0, 2, 4, 6, 8], [], []⟩
    | 7 => ⟨[], [], [9, 10, 28, 29, 30, 31, 32, 33, 34, 35, 36, 37, 38]⟩
    | 9 => ⟨[], [], [7, 40, 41, 42, 43, 44, 45, 46]⟩
    | _ => ⟨[], [], []⟩
  | 15 => fun r => match r with
    | 4 => ⟨[0, 2, 4, 6, 8], [], []⟩
    | 7 => ⟨[], [], [9, 10, 28, 29, 30, 31, 32, 33, 34, 35, 36, 37, 38]⟩
    | 9 => ⟨[], [], [7, 40, 41, 42, 43, 44, 45, 46]⟩
    | _ => ⟨[], [], []⟩
  | 18 => fun r => match r with
    | 5 => ⟨[1, 5, 6], [], []⟩
    | 7 => ⟨[], [], [21, 24, 25, 26, 27, 28, 29]⟩
    | _ => ⟨[], [], []⟩
  | 20 => fun r => match r with
    | 3 => ⟨[0, 1, 6, 7], [(6, none, 81, tRcommit)], []⟩
    | _ => ⟨[], [], []⟩
  | 23 => fun r => match r with
    | 8 => ⟨[], [], [23, 24, 25, 26, 29, 30, 31, 32, 33, 35, 36, 37, 40, 44, 45]⟩
    | 12 => ⟨[], [], [54, 55, 56, 57, 59, 60, 61, 62, 63, 64, 67, 68]⟩
    | _ => ⟨[], [], []⟩
  | 24 => fun r => match r with
    | 5 => ⟨[3, 12, 13, 14], [(3, none, 27, .int .u64)], []⟩
    | _ => ⟨[], [], []⟩
  | 25 => fun r => match r with
    | 8 => ⟨[0, 6, 7, 21, 22, 23], [(7, none, 71, tFate), (6, some 1, 85, tCommit)], []⟩
    | _ => ⟨[], [], []⟩
  | 26 => fun r => match r with
    | 8 => ⟨[0, 1, 6, 7, 8], [(7, none, 71, tFate), (6, none, 0, tRcommit)], []⟩
    | _ => ⟨[], [], []⟩
  | 27 => fun r => match r with
    | 3 => ⟨[2, 3, 4, 6, 12, 13, 14], [], []⟩
    | _ => ⟨[], [], []⟩
  | 28 => fun r => match r with
    | 3 => ⟨[2, 4, 6, 11, 12, 13], [], []⟩
    | _ => ⟨[], [], []⟩
  | 31 => fun r => match r with
    | 4 => ⟨[3, 5, 8, 25, 26, 27], [], []⟩
    | _ => ⟨[], [], []⟩
  | 32 => fun r => match r with
    | 4 => ⟨[1, 3], [], []⟩
    | 6 => ⟨[], [], [16, 17, 18, 19, 20, 21, 22, 23, 24, 25, 26, 27, 28, 29]⟩
    | 9 => ⟨[1, 4], [], []⟩
    | 11 => ⟨[], [], [37, 38, 39, 40, 41, 42, 43, 44, 45, 46, 47, 48, 49, 50]⟩
    | 14 => ⟨[1, 5], [], []⟩
    | 16 => ⟨[], [], [58, 59, 60, 61, 62, 63, 64, 65, 66, 67, 68, 69, 70, 71]⟩
    | _ => ⟨[], [], []⟩
  | 33 => fun r => match r with
    | 3 => ⟨[2, 3, 4, 6, 7], [], []⟩
    | 5 => ⟨[], [], [16, 17, 18, 19, 20, 21, 22]⟩
    | _ => ⟨[], [], []⟩
  | 34 => fun r => match r with
    | 1 => ⟨[], [], [6, 7, 9, 10, 11, 12, 13, 14]⟩
    | 2 => ⟨[4, 6, 7], [], []⟩
    | 3 => ⟨[], [], [8, 23, 24, 25, 26, 27, 28, 29]⟩
    | _ => ⟨[], [], []⟩
  | 40 => fun r => match r with
    | 4 => ⟨[1, 4, 6, 7, 10, 11, 12], [], []⟩
    | _ => ⟨[], [], []⟩
  | 46 => fun r => match r with
    | 2 => ⟨[2, 3, 5], [], []⟩
    | 4 => ⟨[], [], [13, 14, 15, 16, 17, 18, 19]⟩
    | _ => ⟨[], [], []⟩
  | 47 => fun r => match r with
    | 5 => ⟨[0, 2, 4, 5], [], []⟩
    | 7 => ⟨[], [], [19, 20, 21, 22, 23, 24, 25]⟩
    | _ => ⟨[], [], []⟩
  | 48 => fun r => match r with
    | 3 => ⟨[], [], [3, 4, 10, 11, 12, 13, 14, 15, 16, 17, 18, 19, 20, 21]⟩
    | 5 => ⟨[3, 4, 5], [], []⟩
    | 6 => ⟨[], [], [31, 32, 33, 34, 35, 36, 37, 38, 39, 40, 41, 42, 43, 44, 45, 46]⟩
    | 9 => ⟨[], [], [57, 58, 59, 60, 61, 62, 63, 64, 65, 66, 67, 68]⟩
    | _ => ⟨[], [], []⟩
  | 50 => fun r => match r with
    | 2 => ⟨[0, 1, 7, 8], [], []⟩
    | _ => ⟨[], [], []⟩
  | 58 => fun r => match r with
    | 1 => ⟨[], [], [4, 5, 6, 7, 8, 9, 10, 11, 12, 13, 14, 15, 16, 17, 18, 19]⟩
    | _ => ⟨[], [], []⟩
  | 62 => fun r => match r with
    | 2 => ⟨[0, 3, 5], [], []⟩
    | 4 => ⟨[], [], [12, 13, 14, 15, 16, 17, 18, 19, 20, 21, 22, 23, 24, 25, 26, 27, 28, 30, 31, 32, 33, 34, 35, 36, 37, 38]⟩
    | _ => ⟨[], [], []⟩
  | 64 => fun r => match r with
    | 2 => ⟨[0, 1, 7, 8], [], []⟩
    | _ => ⟨[], [], []⟩
  | 65 => fun r => match r with
    | 2 => ⟨[0, 1, 7, 8], [], []⟩
    | _ => ⟨[], [], []⟩
  | 66 => fun r => match r with
    | 3 => ⟨[3, 6, 7, 8], [], []⟩
    | _ => ⟨[], [], []⟩
  | 69 => fun r => match r with
    | 2 => ⟨[0, 3, 7, 8], [], []⟩
    | 4 => ⟨[], [], [11, 12, 13, 14, 15, 16]⟩
    | _ => ⟨[], [], []⟩
  | _ => fun _ => ⟨[], [], []⟩
end Go.Proofs.Ytjedleoebjmkgaa.AI
