/- A part of the proof. -/
import Derived.Test.YtefddghdaimklaaGreatDoorBx
set_option linter.unusedVariables false
set_option linter.unusedSimpArgs false
set_option maxRecDepth 100000
namespace Go.Proofs.YtefddghdaimklaaGreatDoor.AI
open Go
noncomputable section
set_option maxRecDepth 100000
def ZL : Con := zj [(false, .str), (false, .str), (false, .str)] [(false, .str)] true OQ
def M2 : FuncId → Option Con := zU
noncomputable def MO : List (FuncId × Func) := [(185, Tryz.f185)]
def f185.g (n : Nat) (x : Int) : Option (Int) :=
 bif decide (x ≥ (4294967296 : Int)) then
 bif decide (zC .shr .u64 x (32 : Int) ≥ (65536 : Int)) then
 bif decide (zC .shr .u64 (zC .shr .u64 x (32 : Int)) (16 : Int) ≥ (256 : Int)) then
 bif decide (0 ≤ IntKind.wrap .u8 (zC .shr .u64 (zC .shr .u64 (zC .shr .u64 x (32 : Int)) (16 : Int)) (8 : Int))) && decide (IntKind.wrap .u8 (zC .shr .u64 (zC .shr .u64 (zC .shr .u64 x (32 : Int)) (16 : Int)) (8 : Int)) < ((⟨#[0, 1, 2, 2, 3, 3, 3, 3, 4, 4, 4, 4, 4, 4, 4, 4, 5, 5, 5, 5, 5, 5, 5, 5, 5, 5, 5, 5, 5, 5, 5, 5, 6, 6, 6, 6, 6, 6, 6, 6, 6, 6, 6, 6, 6, 6, 6, 6, 6, 6, 6, 6, 6, 6, 6, 6, 6, 6, 6, 6, 6, 6, 6, 6, 7, 7, 7, 7, 7, 7, 7, 7, 7, 7, 7, 7, 7, 7, 7, 7, 7, 7, 7, 7, 7, 7, 7, 7, 7, 7, 7, 7, 7, 7, 7, 7, 7, 7, 7, 7, 7, 7, 7, 7, 7, 7, 7, 7, 7, 7, 7, 7, 7, 7, 7, 7, 7, 7, 7, 7, 7, 7, 7, 7, 7, 7, 7, 7, 8, 8, 8, 8, 8, 8, 8, 8, 8, 8, 8, 8, 8, 8, 8, 8, 8, 8, 8, 8, 8, 8, 8, 8, 8, 8, 8, 8, 8, 8, 8, 8, 8, 8, 8, 8, 8, 8, 8, 8, 8, 8, 8, 8, 8, 8, 8, 8, 8, 8, 8, 8, 8, 8, 8, 8, 8, 8, 8, 8, 8, 8, 8, 8, 8, 8, 8, 8, 8, 8, 8, 8, 8, 8, 8, 8, 8, 8, 8, 8, 8, 8, 8, 8, 8, 8, 8, 8, 8, 8, 8, 8, 8, 8, 8, 8, 8, 8, 8, 8, 8, 8, 8, 8, 8, 8, 8, 8, 8, 8, 8, 8, 8, 8, 8, 8, 8, 8, 8, 8, 8, 8, 8, 8, 8, 8, 8, 8]⟩ : BA).size : Int)) then
 some (IntKind.wrap .i64 ((56 : Int) + IntKind.wrap .i64 (zY (⟨#[0, 1, 2, 2, 3, 3, 3, 3, 4, 4, 4, 4, 4, 4, 4, 4, 5, 5, 5, 5, 5, 5, 5, 5, 5, 5, 5, 5, 5, 5, 5, 5, 6, 6, 6, 6, 6, 6, 6, 6, 6, 6, 6, 6, 6, 6, 6, 6, 6, 6, 6, 6, 6, 6, 6, 6, 6, 6, 6, 6, 6, 6, 6, 6, 7, 7, 7, 7, 7, 7, 7, 7, 7, 7, 7, 7, 7, 7, 7, 7, 7, 7, 7, 7, 7, 7, 7, 7, 7, 7, 7, 7, 7, 7, 7, 7, 7, 7, 7, 7, 7, 7, 7, 7, 7, 7, 7, 7, 7, 7, 7, 7, 7, 7, 7, 7, 7, 7, 7, 7, 7, 7, 7, 7, 7, 7, 7, 7, 8, 8, 8, 8, 8, 8, 8, 8, 8, 8, 8, 8, 8, 8, 8, 8, 8, 8, 8, 8, 8, 8, 8, 8, 8, 8, 8, 8, 8, 8, 8, 8, 8, 8, 8, 8, 8, 8, 8, 8, 8, 8, 8, 8, 8, 8, 8, 8, 8, 8, 8, 8, 8, 8, 8, 8, 8, 8, 8, 8, 8, 8, 8, 8, 8, 8, 8, 8, 8, 8, 8, 8, 8, 8, 8, 8, 8, 8, 8, 8, 8, 8, 8, 8, 8, 8, 8, 8, 8, 8, 8, 8, 8, 8, 8, 8, 8, 8, 8, 8, 8, 8, 8, 8, 8, 8, 8, 8, 8, 8, 8, 8, 8, 8, 8, 8, 8, 8, 8, 8, 8, 8, 8, 8, 8, 8, 8, 8]⟩ : BA) (IntKind.wrap .u8 (zC .shr .u64 (zC .shr .u64 (zC .shr .u64 x (32 : Int)) (16 : Int)) (8 : Int))))))
 else
 (none)
 else
 bif decide (0 ≤ IntKind.wrap .u8 (zC .shr .u64 (zC .shr .u64 x (32 : Int)) (16 : Int))) && decide (IntKind.wrap .u8 (zC .shr .u64 (zC .shr .u64 x (32 : Int)) (16 : Int)) < ((⟨#[0, 1, 2, 2, 3, 3, 3, 3, 4, 4, 4, 4, 4, 4, 4, 4, 5, 5, 5, 5, 5, 5, 5, 5, 5, 5, 5, 5, 5, 5, 5, 5, 6, 6, 6, 6, 6, 6, 6, 6, 6, 6, 6, 6, 6, 6, 6, 6, 6, 6, 6, 6, 6, 6, 6, 6, 6, 6, 6, 6, 6, 6, 6, 6, 7, 7, 7, 7, 7, 7, 7, 7, 7, 7, 7, 7, 7, 7, 7, 7, 7, 7, 7, 7, 7, 7, 7, 7, 7, 7, 7, 7, 7, 7, 7, 7, 7, 7, 7, 7, 7, 7, 7, 7, 7, 7, 7, 7, 7, 7, 7, 7, 7, 7, 7, 7, 7, 7, 7, 7, 7, 7, 7, 7, 7, 7, 7, 7, 8, 8, 8, 8, 8, 8, 8, 8, 8, 8, 8, 8, 8, 8, 8, 8, 8, 8, 8, 8, 8, 8, 8, 8, 8, 8, 8, 8, 8, 8, 8, 8, 8, 8, 8, 8, 8, 8, 8, 8, 8, 8, 8, 8, 8, 8, 8, 8, 8, 8, 8, 8, 8, 8, 8, 8, 8, 8, 8, 8, 8, 8, 8, 8, 8, 8, 8, 8, 8, 8, 8, 8, 8, 8, 8, 8, 8, 8, 8, 8, 8, 8, 8, 8, 8, 8, 8, 8, 8, 8, 8, 8, 8, 8, 8, 8, 8, 8, 8, 8, 8, 8, 8, 8, 8, 8, 8, 8, 8, 8, 8, 8, 8, 8, 8, 8, 8, 8, 8, 8, 8, 8, 8, 8, 8, 8, 8, 8]⟩ : BA).size : Int)) then
 some (IntKind.wrap .i64 ((48 : Int) + IntKind.wrap .i64 (zY (⟨#[0, 1, 2, 2, 3, 3, 3, 3, 4, 4, 4, 4, 4, 4, 4, 4, 5, 5, 5, 5, 5, 5, 5, 5, 5, 5, 5, 5, 5, 5, 5, 5, 6, 6, 6, 6, 6, 6, 6, 6, 6, 6, 6, 6, 6, 6, 6, 6, 6, 6, 6, 6, 6, 6, 6, 6, 6, 6, 6, 6, 6, 6, 6, 6, 7, 7, 7, 7, 7, 7, 7, 7, 7, 7, 7, 7, 7, 7, 7, 7, 7, 7, 7, 7, 7, 7, 7, 7, 7, 7, 7, 7, 7, 7, 7, 7, 7, 7, 7, 7, 7, 7, 7, 7, 7, 7, 7, 7, 7, 7, 7, 7, 7, 7, 7, 7, 7, 7, 7, 7, 7, 7, 7, 7, 7, 7, 7, 7, 8, 8, 8, 8, 8, 8, 8, 8, 8, 8, 8, 8, 8, 8, 8, 8, 8, 8, 8, 8, 8, 8, 8, 8, 8, 8, 8, 8, 8, 8, 8, 8, 8, 8, 8, 8, 8, 8, 8, 8, 8, 8, 8, 8, 8, 8, 8, 8, 8, 8, 8, 8, 8, 8, 8, 8, 8, 8, 8, 8, 8, 8, 8, 8, 8, 8, 8, 8, 8, 8, 8, 8, 8, 8, 8, 8, 8, 8, 8, 8, 8, 8, 8, 8, 8, 8, 8, 8, 8, 8, 8, 8, 8, 8, 8, 8, 8, 8, 8, 8, 8, 8, 8, 8, 8, 8, 8, 8, 8, 8, 8, 8, 8, 8, 8, 8, 8, 8, 8, 8, 8, 8, 8, 8, 8, 8, 8, 8]⟩ : BA) (IntKind.wrap .u8 (zC .shr .u64 (zC .shr .u64 x (32 : Int)) (16 : Int))))))
 else
 (none)
 else
 bif decide (zC .shr .u64 x (32 : Int) ≥ (256 : Int)) then
 bif decide (0 ≤ IntKind.wrap .u8 (zC .shr .u64 (zC .shr .u64 x (32 : Int)) (8 : Int))) && decide (IntKind.wrap .u8 (zC .shr .u64 (zC .shr .u64 x (32 : Int)) (8 : Int)) < ((⟨#[0, 1, 2, 2, 3, 3, 3, 3, 4, 4, 4, 4, 4, 4, 4, 4, 5, 5, 5, 5, 5, 5, 5, 5, 5, 5, 5, 5, 5, 5, 5, 5, 6, 6, 6, 6, 6, 6, 6, 6, 6, 6, 6, 6, 6, 6, 6, 6, 6, 6, 6, 6, 6, 6, 6, 6, 6, 6, 6, 6, 6, 6, 6, 6, 7, 7, 7, 7, 7, 7, 7, 7, 7, 7, 7, 7, 7, 7, 7, 7, 7, 7, 7, 7, 7, 7, 7, 7, 7, 7, 7, 7, 7, 7, 7, 7, 7, 7, 7, 7, 7, 7, 7, 7, 7, 7, 7, 7, 7, 7, 7, 7, 7, 7, 7, 7, 7, 7, 7, 7, 7, 7, 7, 7, 7, 7, 7, 7, 8, 8, 8, 8, 8, 8, 8, 8, 8, 8, 8, 8, 8, 8, 8, 8, 8, 8, 8, 8, 8, 8, 8, 8, 8, 8, 8, 8, 8, 8, 8, 8, 8, 8, 8, 8, 8, 8, 8, 8, 8, 8, 8, 8, 8, 8, 8, 8, 8, 8, 8, 8, 8, 8, 8, 8, 8, 8, 8, 8, 8, 8, 8, 8, 8, 8, 8, 8, 8, 8, 8, 8, 8, 8, 8, 8, 8, 8, 8, 8, 8, 8, 8, 8, 8, 8, 8, 8, 8, 8, 8, 8, 8, 8, 8, 8, 8, 8, 8, 8, 8, 8, 8, 8, 8, 8, 8, 8, 8, 8, 8, 8, 8, 8, 8, 8, 8, 8, 8, 8, 8, 8, 8, 8, 8, 8, 8, 8]⟩ : BA).size : Int)) then
 some (IntKind.wrap .i64 ((40 : Int) + IntKind.wrap .i64 (zY (⟨#[0, 1, 2, 2, 3, 3, 3, 3, 4, 4, 4, 4, 4, 4, 4, 4, 5, 5, 5, 5, 5, 5, 5, 5, 5, 5, 5, 5, 5, 5, 5, 5, 6, 6, 6, 6, 6, 6, 6, 6, 6, 6, 6, 6, 6, 6, 6, 6, 6, 6, 6, 6, 6, 6, 6, 6, 6, 6, 6, 6, 6, 6, 6, 6, 7, 7, 7, 7, 7, 7, 7, 7, 7, 7, 7, 7, 7, 7, 7, 7, 7, 7, 7, 7, 7, 7, 7, 7, 7, 7, 7, 7, 7, 7, 7, 7, 7, 7, 7, 7, 7, 7, 7, 7, 7, 7, 7, 7, 7, 7, 7, 7, 7, 7, 7, 7, 7, 7, 7, 7, 7, 7, 7, 7, 7, 7, 7, 7, 8, 8, 8, 8, 8, 8, 8, 8, 8, 8, 8, 8, 8, 8, 8, 8, 8, 8, 8, 8, 8, 8, 8, 8, 8, 8, 8, 8, 8, 8, 8, 8, 8, 8, 8, 8, 8, 8, 8, 8, 8, 8, 8, 8, 8, 8, 8, 8, 8, 8, 8, 8, 8, 8, 8, 8, 8, 8, 8, 8, 8, 8, 8, 8, 8, 8, 8, 8, 8, 8, 8, 8, 8, 8, 8, 8, 8, 8, 8, 8, 8, 8, 8, 8, 8, 8, 8, 8, 8, 8, 8, 8, 8, 8, 8, 8, 8, 8, 8, 8, 8, 8, 8, 8, 8, 8, 8, 8, 8, 8, 8, 8, 8, 8, 8, 8, 8, 8, 8, 8, 8, 8, 8, 8, 8, 8, 8, 8]⟩ : BA) (IntKind.wrap .u8 (zC .shr .u64 (zC .shr .u64 x (32 : Int)) (8 : Int))))))
 else
 (none)
 else
 bif decide (0 ≤ IntKind.wrap .u8 (zC .shr .u64 x (32 : Int))) && decide (IntKind.wrap .u8 (zC .shr .u64 x (32 : Int)) < ((⟨#[0, 1, 2, 2, 3, 3, 3, 3, 4, 4, 4, 4, 4, 4, 4, 4, 5, 5, 5, 5, 5, 5, 5, 5, 5, 5, 5, 5, 5, 5, 5, 5, 6, 6, 6, 6, 6, 6, 6, 6, 6, 6, 6, 6, 6, 6, 6, 6, 6, 6, 6, 6, 6, 6, 6, 6, 6, 6, 6, 6, 6, 6, 6, 6, 7, 7, 7, 7, 7, 7, 7, 7, 7, 7, 7, 7, 7, 7, 7, 7, 7, 7, 7, 7, 7, 7, 7, 7, 7, 7, 7, 7, 7, 7, 7, 7, 7, 7, 7, 7, 7, 7, 7, 7, 7, 7, 7, 7, 7, 7, 7, 7, 7, 7, 7, 7, 7, 7, 7, 7, 7, 7, 7, 7, 7, 7, 7, 7, 8, 8, 8, 8, 8, 8, 8, 8, 8, 8, 8, 8, 8, 8, 8, 8, 8, 8, 8, 8, 8, 8, 8, 8, 8, 8, 8, 8, 8, 8, 8, 8, 8, 8, 8, 8, 8, 8, 8, 8, 8, 8, 8, 8, 8, 8, 8, 8, 8, 8, 8, 8, 8, 8, 8, 8, 8, 8, 8, 8, 8, 8, 8, 8, 8, 8, 8, 8, 8, 8, 8, 8, 8, 8, 8, 8, 8, 8, 8, 8, 8, 8, 8, 8, 8, 8, 8, 8, 8, 8, 8, 8, 8, 8, 8, 8, 8, 8, 8, 8, 8, 8, 8, 8, 8, 8, 8, 8, 8, 8, 8, 8, 8, 8, 8, 8, 8, 8, 8, 8, 8, 8, 8, 8, 8, 8, 8, 8]⟩ : BA).size : Int)) then
 some (IntKind.wrap .i64 ((32 : Int) + IntKind.wrap .i64 (zY (⟨#[0, 1, 2, 2, 3, 3, 3, 3, 4, 4, 4, 4, 4, 4, 4, 4, 5, 5, 5, 5, 5, 5, 5, 5, 5, 5, 5, 5, 5, 5, 5, 5, 6, 6, 6, 6, 6, 6, 6, 6, 6, 6, 6, 6, 6, 6, 6, 6, 6, 6, 6, 6, 6, 6, 6, 6, 6, 6, 6, 6, 6, 6, 6, 6, 7, 7, 7, 7, 7, 7, 7, 7, 7, 7, 7, 7, 7, 7, 7, 7, 7, 7, 7, 7, 7, 7, 7, 7, 7, 7, 7, 7, 7, 7, 7, 7, 7, 7, 7, 7, 7, 7, 7, 7, 7, 7, 7, 7, 7, 7, 7, 7, 7, 7, 7, 7, 7, 7, 7, 7, 7, 7, 7, 7, 7, 7, 7, 7, 8, 8, 8, 8, 8, 8, 8, 8, 8, 8, 8, 8, 8, 8, 8, 8, 8, 8, 8, 8, 8, 8, 8, 8, 8, 8, 8, 8, 8, 8, 8, 8, 8, 8, 8, 8, 8, 8, 8, 8, 8, 8, 8, 8, 8, 8, 8, 8, 8, 8, 8, 8, 8, 8, 8, 8, 8, 8, 8, 8, 8, 8, 8, 8, 8, 8, 8, 8, 8, 8, 8, 8, 8, 8, 8, 8, 8, 8, 8, 8, 8, 8, 8, 8, 8, 8, 8, 8, 8, 8, 8, 8, 8, 8, 8, 8, 8, 8, 8, 8, 8, 8, 8, 8, 8, 8, 8, 8, 8, 8, 8, 8, 8, 8, 8, 8, 8, 8, 8, 8, 8, 8, 8, 8, 8, 8, 8, 8]⟩ : BA) (IntKind.wrap .u8 (zC .shr .u64 x (32 : Int))))))
 else
 (none)
 else
 bif decide (x ≥ (65536 : Int)) then
 bif decide (zC .shr .u64 x (16 : Int) ≥ (256 : Int)) then
 bif decide (0 ≤ IntKind.wrap .u8 (zC .shr .u64 (zC .shr .u64 x (16 : Int)) (8 : Int))) && decide (IntKind.wrap .u8 (zC .shr .u64 (zC .shr .u64 x (16 : Int)) (8 : Int)) < ((⟨#[0, 1, 2, 2, 3, 3, 3, 3, 4, 4, 4, 4, 4, 4, 4, 4, 5, 5, 5, 5, 5, 5, 5, 5, 5, 5, 5, 5, 5, 5, 5, 5, 6, 6, 6, 6, 6, 6, 6, 6, 6, 6, 6, 6, 6, 6, 6, 6, 6, 6, 6, 6, 6, 6, 6, 6, 6, 6, 6, 6, 6, 6, 6, 6, 7, 7, 7, 7, 7, 7, 7, 7, 7, 7, 7, 7, 7, 7, 7, 7, 7, 7, 7, 7, 7, 7, 7, 7, 7, 7, 7, 7, 7, 7, 7, 7, 7, 7, 7, 7, 7, 7, 7, 7, 7, 7, 7, 7, 7, 7, 7, 7, 7, 7, 7, 7, 7, 7, 7, 7, 7, 7, 7, 7, 7, 7, 7, 7, 8, 8, 8, 8, 8, 8, 8, 8, 8, 8, 8, 8, 8, 8, 8, 8, 8, 8, 8, 8, 8, 8, 8, 8, 8, 8, 8, 8, 8, 8, 8, 8, 8, 8, 8, 8, 8, 8, 8, 8, 8, 8, 8, 8, 8, 8, 8, 8, 8, 8, 8, 8, 8, 8, 8, 8, 8, 8, 8, 8, 8, 8, 8, 8, 8, 8, 8, 8, 8, 8, 8, 8, 8, 8, 8, 8, 8, 8, 8, 8, 8, 8, 8, 8, 8, 8, 8, 8, 8, 8, 8, 8, 8, 8, 8, 8, 8, 8, 8, 8, 8, 8, 8, 8, 8, 8, 8, 8, 8, 8, 8, 8, 8, 8, 8, 8, 8, 8, 8, 8, 8, 8, 8, 8, 8, 8, 8, 8]⟩ : BA).size : Int)) then
 some (IntKind.wrap .i64 ((24 : Int) + IntKind.wrap .i64 (zY (⟨#[0, 1, 2, 2, 3, 3, 3, 3, 4, 4, 4, 4, 4, 4, 4, 4, 5, 5, 5, 5, 5, 5, 5, 5, 5, 5, 5, 5, 5, 5, 5, 5, 6, 6, 6, 6, 6, 6, 6, 6, 6, 6, 6, 6, 6, 6, 6, 6, 6, 6, 6, 6, 6, 6, 6, 6, 6, 6, 6, 6, 6, 6, 6, 6, 7, 7, 7, 7, 7, 7, 7, 7, 7, 7, 7, 7, 7, 7, 7, 7, 7, 7, 7, 7, 7, 7, 7, 7, 7, 7, 7, 7, 7, 7, 7, 7, 7, 7, 7, 7, 7, 7, 7, 7, 7, 7, 7, 7, 7, 7, 7, 7, 7, 7, 7, 7, 7, 7, 7, 7, 7, 7, 7, 7, 7, 7, 7, 7, 8, 8, 8, 8, 8, 8, 8, 8, 8, 8, 8, 8, 8, 8, 8, 8, 8, 8, 8, 8, 8, 8, 8, 8, 8, 8, 8, 8, 8, 8, 8, 8, 8, 8, 8, 8, 8, 8, 8, 8, 8, 8, 8, 8, 8, 8, 8, 8, 8, 8, 8, 8, 8, 8, 8, 8, 8, 8, 8, 8, 8, 8, 8, 8, 8, 8, 8, 8, 8, 8, 8, 8, 8, 8, 8, 8, 8, 8, 8, 8, 8, 8, 8, 8, 8, 8, 8, 8, 8, 8, 8, 8, 8, 8, 8, 8, 8, 8, 8, 8, 8, 8, 8, 8, 8, 8, 8, 8, 8, 8, 8, 8, 8, 8, 8, 8, 8, 8, 8, 8, 8, 8, 8, 8, 8, 8, 8, 8]⟩ : BA) (IntKind.wrap .u8 (zC .shr .u64 (zC .shr .u64 x (16 : Int)) (8 : Int))))))
 else
 (none)
 else
 bif decide (0 ≤ IntKind.wrap .u8 (zC .shr .u64 x (16 : Int))) && decide (IntKind.wrap .u8 (zC .shr .u64 x (16 : Int)) < ((⟨#[0, 1, 2, 2, 3, 3, 3, 3, 4, 4, 4, 4, 4, 4, 4, 4, 5, 5, 5, 5, 5, 5, 5, 5, 5, 5, 5, 5, 5, 5, 5, 5, 6, 6, 6, 6, 6, 6, 6, 6, 6, 6, 6, 6, 6, 6, 6, 6, 6, 6, 6, 6, 6, 6, 6, 6, 6, 6, 6, 6, 6, 6, 6, 6, 7, 7, 7, 7, 7, 7, 7, 7, 7, 7, 7, 7, 7, 7, 7, 7, 7, 7, 7, 7, 7, 7, 7, 7, 7, 7, 7, 7, 7, 7, 7, 7, 7, 7, 7, 7, 7, 7, 7, 7, 7, 7, 7, 7, 7, 7, 7, 7, 7, 7, 7, 7, 7, 7, 7, 7, 7, 7, 7, 7, 7, 7, 7, 7, 8, 8, 8, 8, 8, 8, 8, 8, 8, 8, 8, 8, 8, 8, 8, 8, 8, 8, 8, 8, 8, 8, 8, 8, 8, 8, 8, 8, 8, 8, 8, 8, 8, 8, 8, 8, 8, 8, 8, 8, 8, 8, 8, 8, 8, 8, 8, 8, 8, 8, 8, 8, 8, 8, 8, 8, 8, 8, 8, 8, 8, 8, 8, 8, 8, 8, 8, 8, 8, 8, 8, 8, 8, 8, 8, 8, 8, 8, 8, 8, 8, 8, 8, 8, 8, 8, 8, 8, 8, 8, 8, 8, 8, 8, 8, 8, 8, 8, 8, 8, 8, 8, 8, 8, 8, 8, 8, 8, 8, 8, 8, 8, 8, 8, 8, 8, 8, 8, 8, 8, 8, 8, 8, 8, 8, 8, 8, 8]⟩ : BA).size : Int)) then
 some (IntKind.wrap .i64 ((16 : Int) + IntKind.wrap .i64 (zY (⟨#[0, 1, 2, 2, 3, 3, 3, 3, 4, 4, 4, 4, 4, 4, 4, 4, 5, 5, 5, 5, 5, 5, 5, 5, 5, 5, 5, 5, 5, 5, 5, 5, 6, 6, 6, 6, 6, 6, 6, 6, 6, 6, 6, 6, 6, 6, 6, 6, 6, 6, 6, 6, 6, 6, 6, 6, 6, 6, 6, 6, 6, 6, 6, 6, 7, 7, 7, 7, 7, 7, 7, 7, 7, 7, 7, 7, 7, 7, 7, 7, 7, 7, 7, 7, 7, 7, 7, 7, 7, 7, 7, 7, 7, 7, 7, 7, 7, 7, 7, 7, 7, 7, 7, 7, 7, 7, 7, 7, 7, 7, 7, 7, 7, 7, 7, 7, 7, 7, 7, 7, 7, 7, 7, 7, 7, 7, 7, 7, 8, 8, 8, 8, 8, 8, 8, 8, 8, 8, 8, 8, 8, 8, 8, 8, 8, 8, 8, 8, 8, 8, 8, 8, 8, 8, 8, 8, 8, 8, 8, 8, 8, 8, 8, 8, 8, 8, 8, 8, 8, 8, 8, 8, 8, 8, 8, 8, 8, 8, 8, 8, 8, 8, 8, 8, 8, 8, 8, 8, 8, 8, 8, 8, 8, 8, 8, 8, 8, 8, 8, 8, 8, 8, 8, 8, 8, 8, 8, 8, 8, 8, 8, 8, 8, 8, 8, 8, 8, 8, 8, 8, 8, 8, 8, 8, 8, 8, 8, 8, 8, 8, 8, 8, 8, 8, 8, 8, 8, 8, 8, 8, 8, 8, 8, 8, 8, 8, 8, 8, 8, 8, 8, 8, 8, 8, 8, 8]⟩ : BA) (IntKind.wrap .u8 (zC .shr .u64 x (16 : Int))))))
 else
 (none)
 else
 bif decide (x ≥ (256 : Int)) then
 bif decide (0 ≤ IntKind.wrap .u8 (zC .shr .u64 x (8 : Int))) && decide (IntKind.wrap .u8 (zC .shr .u64 x (8 : Int)) < ((⟨#[0, 1, 2, 2, 3, 3, 3, 3, 4, 4, 4, 4, 4, 4, 4, 4, 5, 5, 5, 5, 5, 5, 5, 5, 5, 5, 5, 5, 5, 5, 5, 5, 6, 6, 6, 6, 6, 6, 6, 6, 6, 6, 6, 6, 6, 6, 6, 6, 6, 6, 6, 6, 6, 6, 6, 6, 6, 6, 6, 6, 6, 6, 6, 6, 7, 7, 7, 7, 7, 7, 7, 7, 7, 7, 7, 7, 7, 7, 7, 7, 7, 7, 7, 7, 7, 7, 7, 7, 7, 7, 7, 7, 7, 7, 7, 7, 7, 7, 7, 7, 7, 7, 7, 7, 7, 7, 7, 7, 7, 7, 7, 7, 7, 7, 7, 7, 7, 7, 7, 7, 7, 7, 7, 7, 7, 7, 7, 7, 8, 8, 8, 8, 8, 8, 8, 8, 8, 8, 8, 8, 8, 8, 8, 8, 8, 8, 8, 8, 8, 8, 8, 8, 8, 8, 8, 8, 8, 8, 8, 8, 8, 8, 8, 8, 8, 8, 8, 8, 8, 8, 8, 8, 8, 8, 8, 8, 8, 8, 8, 8, 8, 8, 8, 8, 8, 8, 8, 8, 8, 8, 8, 8, 8, 8, 8, 8, 8, 8, 8, 8, 8, 8, 8, 8, 8, 8, 8, 8, 8, 8, 8, 8, 8, 8, 8, 8, 8, 8, 8, 8, 8, 8, 8, 8, 8, 8, 8, 8, 8, 8, 8, 8, 8, 8, 8, 8, 8, 8, 8, 8, 8, 8, 8, 8, 8, 8, 8, 8, 8, 8, 8, 8, 8, 8, 8, 8]⟩ : BA).size : Int)) then
 some (IntKind.wrap .i64 ((8 : Int) + IntKind.wrap .i64 (zY (⟨#[0, 1, 2, 2, 3, 3, 3, 3, 4, 4, 4, 4, 4, 4, 4, 4, 5, 5, 5, 5, 5, 5, 5, 5, 5, 5, 5, 5, 5, 5, 5, 5, 6, 6, 6, 6, 6, 6, 6, 6, 6, 6, 6, 6, 6, 6, 6, 6, 6, 6, 6, 6, 6, 6, 6, 6, 6, 6, 6, 6, 6, 6, 6, 6, 7, 7, 7, 7, 7, 7, 7, 7, 7, 7, 7, 7, 7, 7, 7, 7, 7, 7, 7, 7, 7, 7, 7, 7, 7, 7, 7, 7, 7, 7, 7, 7, 7, 7, 7, 7, 7, 7, 7, 7, 7, 7, 7, 7, 7, 7, 7, 7, 7, 7, 7, 7, 7, 7, 7, 7, 7, 7, 7, 7, 7, 7, 7, 7, 8, 8, 8, 8, 8, 8, 8, 8, 8, 8, 8, 8, 8, 8, 8, 8, 8, 8, 8, 8, 8, 8, 8, 8, 8, 8, 8, 8, 8, 8, 8, 8, 8, 8, 8, 8, 8, 8, 8, 8, 8, 8, 8, 8, 8, 8, 8, 8, 8, 8, 8, 8, 8, 8, 8, 8, 8, 8, 8, 8, 8, 8, 8, 8, 8, 8, 8, 8, 8, 8, 8, 8, 8, 8, 8, 8, 8, 8, 8, 8, 8, 8, 8, 8, 8, 8, 8, 8, 8, 8, 8, 8, 8, 8, 8, 8, 8, 8, 8, 8, 8, 8, 8, 8, 8, 8, 8, 8, 8, 8, 8, 8, 8, 8, 8, 8, 8, 8, 8, 8, 8, 8, 8, 8, 8, 8, 8, 8]⟩ : BA) (IntKind.wrap .u8 (zC .shr .u64 x (8 : Int))))))
 else
 (none)
 else
 bif decide (0 ≤ IntKind.wrap .u8 x) && decide (IntKind.wrap .u8 x < ((⟨#[0, 1, 2, 2, 3, 3, 3, 3, 4, 4, 4, 4, 4, 4, 4, 4, 5, 5, 5, 5, 5, 5, 5, 5, 5, 5, 5, 5, 5, 5, 5, 5, 6, 6, 6, 6, 6, 6, 6, 6, 6, 6, 6, 6, 6, 6, 6, 6, 6, 6, 6, 6, 6, 6, 6, 6, 6, 6, 6, 6, 6, 6, 6, 6, 7, 7, 7, 7, 7, 7, 7, 7, 7, 7, 7, 7, 7, 7, 7, 7, 7, 7, 7, 7, 7, 7, 7, 7, 7, 7, 7, 7, 7, 7, 7, 7, 7, 7, 7, 7, 7, 7, 7, 7, 7, 7, 7, 7, 7, 7, 7, 7, 7, 7, 7, 7, 7, 7, 7, 7, 7, 7, 7, 7, 7, 7, 7, 7, 8, 8, 8, 8, 8, 8, 8, 8, 8, 8, 8, 8, 8, 8, 8, 8, 8, 8, 8, 8, 8, 8, 8, 8, 8, 8, 8, 8, 8, 8, 8, 8, 8, 8, 8, 8, 8, 8, 8, 8, 8, 8, 8, 8, 8, 8, 8, 8, 8, 8, 8, 8, 8, 8, 8, 8, 8, 8, 8, 8, 8, 8, 8, 8, 8, 8, 8, 8, 8, 8, 8, 8, 8, 8, 8, 8, 8, 8, 8, 8, 8, 8, 8, 8, 8, 8, 8, 8, 8, 8, 8, 8, 8, 8, 8, 8, 8, 8, 8, 8, 8, 8, 8, 8, 8, 8, 8, 8, 8, 8, 8, 8, 8, 8, 8, 8, 8, 8, 8, 8, 8, 8, 8, 8, 8, 8, 8, 8]⟩ : BA).size : Int)) then
 some (IntKind.wrap .i64 ((0 : Int) + IntKind.wrap .i64 (zY (⟨#[0, 1, 2, 2, 3, 3, 3, 3, 4, 4, 4, 4, 4, 4, 4, 4, 5, 5, 5, 5, 5, 5, 5, 5, 5, 5, 5, 5, 5, 5, 5, 5, 6, 6, 6, 6, 6, 6, 6, 6, 6, 6, 6, 6, 6, 6, 6, 6, 6, 6, 6, 6, 6, 6, 6, 6, 6, 6, 6, 6, 6, 6, 6, 6, 7, 7, 7, 7, 7, 7, 7, 7, 7, 7, 7, 7, 7, 7, 7, 7, 7, 7, 7, 7, 7, 7, 7, 7, 7, 7, 7, 7, 7, 7, 7, 7, 7, 7, 7, 7, 7, 7, 7, 7, 7, 7, 7, 7, 7, 7, 7, 7, 7, 7, 7, 7, 7, 7, 7, 7, 7, 7, 7, 7, 7, 7, 7, 7, 8, 8, 8, 8, 8, 8, 8, 8, 8, 8, 8, 8, 8, 8, 8, 8, 8, 8, 8, 8, 8, 8, 8, 8, 8, 8, 8, 8, 8, 8, 8, 8, 8, 8, 8, 8, 8, 8, 8, 8, 8, 8, 8, 8, 8, 8, 8, 8, 8, 8, 8, 8, 8, 8, 8, 8, 8, 8, 8, 8, 8, 8, 8, 8, 8, 8, 8, 8, 8, 8, 8, 8, 8, 8, 8, 8, 8, 8, 8, 8, 8, 8, 8, 8, 8, 8, 8, 8, 8, 8, 8, 8, 8, 8, 8, 8, 8, 8, 8, 8, 8, 8, 8, 8, 8, 8, 8, 8, 8, 8, 8, 8, 8, 8, 8, 8, 8, 8, 8, 8, 8, 8, 8, 8, 8, 8, 8, 8]⟩ : BA) (IntKind.wrap .u8 x))))
 else
 (none)
theorem f185.eq (n : Nat) (x : Int) : rK M2 MO n 1 185 (zt [(false, .int .u64)] x) (zp [(false, .int .i64)]) = f185.g n x := by
 kernel_rfl
theorem f185.codes : CdO M2 MO := zm (aC Tryz.func185 aN) (by kernel_rfl)
theorem f185.ok (h : Run Qc f185.g)  : CO 185 (zj [(false, .int .u64)] [(false, .int .i64)] true Qc) :=
 zi zu zv zk f185.codes (fun _ => Ll.1 rfl) (h.go f185.eq)
def Zj : Con := zj [(false, .int .u64)] [(false, .int .i64)] true Qc
def M9 : FuncId → Option Con := (zy 185 Zj zU)
noncomputable def M6 : List (FuncId × Func) := [(161, Tryz.f161)]
def f161.g (n : Nat) (x : Int) : Option (Int) :=
 (Qc x).bind fun r1 =>
 some (IntKind.wrap .i64 (Int.tdiv (IntKind.wrap .i64 (r1 + (7 : Int))) (8 : Int)))
theorem f161.eq (n : Nat) (x : Int) : rK M9 M6 n 1 161 (zt [(false, .int .u64)] x) (zp [(false, .int .i64)]) = f161.g n x := by
 kernel_rfl
theorem f161.codes : CdO M9 M6 := zm (aC Tryz.func161 aN) (by kernel_rfl)
theorem f161.ok (h : Run Up f161.g) (e185 : CO 185 Zj) : CO 161 (zj [(false, .int .u64)] [(false, .int .i64)] true Up) :=
 zi zu zv (zf e185 zk) f161.codes (fun _ => Ll.1 rfl) (h.go f161.eq)
def bd : Con := zj [(false, .int .u64)] [(false, .int .i64)] true Up
def NT : FuncId → Option Con := zU
noncomputable def NJ : List (FuncId × Func) := [(110, Tryz.f110)]
def f110.h1 (x : Int) (y1 : Int × Int) : List AV × List Ob := ([vv [.sc (.int .u64) y1.1], .undef, .undef, vv [cI y1.2]] ++ uN 7 [], [])
def f110.L1 (n : Nat) (x : Int) (m1 : Nat) (y1 : Int × Int) : Option (Int) :=
 lK (ann 110 2) 0 NT NJ n 1 110 Tryz.f110 [1, 1, 0, 0, 0] [1, 1, 0, 0] m1 (f110.h1 x y1) (xa TT Tryz.f110 (zp [(false, .int .i64)]))
def f110.s1 (n : Nat) (x : Int) (S1 : (Int × Int) → Option (Int)) (y1 : Int × Int) : Option (Int) :=
 bif decide (y1.1 > (0 : Int)) then
 S1 (zC .shr .u64 y1.1 (8 : Int), IntKind.wrap .i64 (y1.2 + (1 : Int)))
 else
 some y1.2
theorem f110.l1 (n : Nat) (x : Int) : ∀ (m : Nat) (y1 : Int × Int), f110.L1 n x m y1 = zF (f110.s1 n x) m y1 :=
 zw (fun _ => rfl) fun m y => by kernel_rfl
def f110.g (n : Nat) (x : Int) : Option (Int) :=
 zF (f110.s1 n x) n (x, (0 : Int))
theorem f110.eq (n : Nat) (x : Int) : rK NT NJ n 1 110 (zt [(false, .int .u64)] x) (zp [(false, .int .i64)]) = f110.g n x := by
 simp only [f110.g, ← f110.l1]
 kernel_rfl
theorem f110.codes : CdO NT NJ := zm (aC Tryz.func110 aN) (by kernel_rfl)
theorem f110.ok (h : Run Ux f110.g)  : CO 110 (zj [(false, .int .u64)] [(false, .int .i64)] true Ux) :=
 zi zu zv zk f110.codes (fun _ => Ll.1 rfl) (h.go f110.eq)
def aU : Con := zj [(false, .int .u64)] [(false, .int .i64)] true Ux
abbrev f162.Z0 : Type := (Int × Int) × List Int
abbrev f162.Z1 : Type := Nat × Int × (List Int)
abbrev f162.A2 : Sig := [(false, .int .u64), (false, .int .i64)]
def NL : FuncId → Option Con := zU
noncomputable def O4 : List (FuncId × Func) := [(162, Tryz.f162)]
def f162.h1 (x : f162.Z0) (y1 : f162.Z1) : List AV × List Ob := ([vv [.own 0 y1.1], vv [.sc (.int .u64) x.1.1]] ++ uN 5 ([vv [cI y1.2.1]] ++ uN 15 []), [.arr 5 (.int .u8) y1.2.2])
def f162.L1 (n : Nat) (x : f162.Z0) (m1 : Nat) (y1 : f162.Z1) : Option (List Int) :=
 lK (ann 162 2) 1 NL O4 n 1 162 Tryz.f162 [1, 0, 1, 0, 0] [1, 0, 1, 0] m1 (f162.h1 x y1) (xa TT Tryz.f162 (wQ 5 (.int .u8)))
def f162.s1 (n : Nat) (x : f162.Z0) (S1 : (Nat × Int × (List Int)) → Option (List Int)) (y1 : f162.Z1) : Option (List Int) :=
 bif decide (y1.2.1 ≥ (0 : Int)) then
 bif decide (IntKind.wrap .i64 ((8 : Int) * y1.2.1) < 0) then
 (none)
 else
 bif decide ((y1.1 + 1) * 1 ≤ zq) then
 S1 (y1.1 + 1, (IntKind.wrap .i64 (y1.2.1 - (1 : Int)), List.take y1.1 y1.2.2 ++ ([IntKind.wrap .u8 (zC .shr .u64 x.1.1 (IntKind.wrap .i64 ((8 : Int) * y1.2.1)))])))
 else
 (none)
 else
 some (List.take y1.1 y1.2.2)
theorem f162.l1 (n : Nat) (x : f162.Z0) : ∀ (m : Nat) (y1 : f162.Z1), f162.L1 n x m y1 = zF (f162.s1 n x) m y1 :=
 zw (fun _ => rfl) fun m y => by kernel_rfl
def f162.g (n : Nat) (x : f162.Z0) : Option (List Int) :=
 zF (f162.s1 n x) n (x.2.length, (IntKind.wrap .i64 (x.1.2 - (1 : Int)), x.2))
theorem f162.eq (n : Nat) (x : f162.Z0) : j2 TT NL n ann (yk O4) 1 162 (uc f162.A2 (.int .u8) x) (th 5 (.int .u8) x.2) (wQ 5 (.int .u8)) = f162.g n x := by
 simp only [f162.g, ← f162.l1]
 kernel_rfl
theorem f162.codes : CdO NL O4 := zm (aC Tryz.func162 aN) (by kernel_rfl)
theorem f162.ok (h : Run YV f162.g)  : CO 162 (xC f162.A2 5 (.int .u8) YV) :=
 uR zu zv zk f162.codes (h.go f162.eq)
def lC : Con := xC f162.A2 5 (.int .u8) YV
def N5 : FuncId → Option Con := (zy 162 lC (zy 161 bd zU))
noncomputable def Mo : List (FuncId × Func) := [(121, Tryz.f121)]
def f121.g (n : Nat) (x : Int × List Int) : Option (List Int) :=
 bif decide (x.1 ≥ (0 : Int)) then
 (Up (IntKind.wrap .u64 x.1)).bind fun r1 =>
 bif decide ((x.2.length + 1) * 1 ≤ zq) then
 (YV ((IntKind.wrap .u64 x.1, r1), List.take (x.2.length + 1) (List.take x.2.length x.2 ++ ([IntKind.wrap .u8 (IntKind.wrap .i64 ((128 : Int) + r1))])))).bind fun r2 =>
 some (List.take r2.length r2)
 else
 (none)
 else
 (Up (IntKind.wrap .u64 (IntKind.wrap .i64 (0 - IntKind.wrap .i64 (x.1 + (1 : Int)))))).bind fun r3 =>
 bif decide ((x.2.length + 1) * 1 ≤ zq) then
 (YV ((xS .xor .u64 (if IntKind.u64.signed = true then -1 else IntKind.u64.max) (IntKind.wrap .u64 (IntKind.wrap .i64 (0 - IntKind.wrap .i64 (x.1 + (1 : Int))))), mt true r3 (1 : Int)), List.take (x.2.length + 1) (List.take x.2.length x.2 ++ ([IntKind.wrap .u8 (IntKind.wrap .i64 ((128 : Int) - mt true r3 (1 : Int)))])))).bind fun r4 =>
 some (List.take r4.length r4)
 else
 (none)
theorem f121.eq (n : Nat) (x : Int × List Int) : j2 TT N5 n ann (yk Mo) 1 121 (uc [(false, .int .i64)] (.int .u8) x) (th 5 (.int .u8) x.2) (wQ 5 (.int .u8)) = f121.g n x := by
 kernel_rfl
theorem f121.codes : CdO N5 Mo := zm (aC Tryz.func121 aN) (by kernel_rfl)
theorem f121.ok (h : Run TJ f121.g) (e161 : CO 161 bd) (e162 : CO 162 lC) : CO 121 (xC [(false, .int .i64)] 5 (.int .u8) TJ) :=
 uR zu zv (zf e162 (zf e161 zk)) f121.codes (h.go f121.eq)
def ap : Con := xC [(false, .int .i64)] 5 (.int .u8) TJ
def NV : FuncId → Option Con := (zy 162 lC (zy 63 rA zU))
noncomputable def Mu : List (FuncId × Func) := [(122, Tryz.f122)]
def f122.g (n : Nat) (x : Nat × List Int) : Option (List Int) :=
 (F63 x.1).bind fun r1 =>
 bif zC .shr .u64 r1 (63 : Int) == (0 : Int) then
 (YV ((xS .or .u64 r1 (9223372036854775808 : Int), (8 : Int)), List.take x.2.length x.2)).bind fun r2 =>
 some (List.take r2.length r2)
 else
 (YV ((xS .xor .u64 (if IntKind.u64.signed = true then -1 else IntKind.u64.max) r1, (8 : Int)), List.take x.2.length x.2)).bind fun r3 =>
 some (List.take r3.length r3)
theorem f122.eq (n : Nat) (x : Nat × List Int) : j2 TT NV n ann (yk Mu) 1 122 (uc [(false, .float .f64)] (.int .u8) x) (th 5 (.int .u8) x.2) (wQ 5 (.int .u8)) = f122.g n x := by
 kernel_rfl
theorem f122.codes : CdO NV Mu := zm (aC Tryz.func122 aN) (by kernel_rfl)
theorem f122.ok (h : Run TX f122.g) (e63 : CO 63 rA) (e162 : CO 162 lC) : CO 122 (xC [(false, .float .f64)] 5 (.int .u8) TX) :=
 uR zu zv (zf e162 (zf e63 zk)) f122.codes (h.go f122.eq)
def cK : Con := xC [(false, .float .f64)] 5 (.int .u8) TX
def M4 : FuncId → Option Con := (zy 164 ZL zU)
noncomputable def Mb : List (FuncId × Func) := [(124, Tryz.f124)]
def f124.g (n : Nat) (x : ByteArray × List Int) : Option (List Int) :=
 (OQ (x.1, ((⟨#[0]⟩ : BA), (⟨#[0, 255]⟩ : BA)))).bind fun r1 =>
 bif decide ((x.2.length + ((tF r1).length)) * 1 ≤ zq) then
 bif decide (((x.2.length + ((tF r1).length)) + 1) * 1 ≤ zq) then
 some (List.take ((x.2.length + ((tF r1).length)) + 1) (List.take (x.2.length + ((tF r1).length)) (List.take x.2.length x.2 ++ (tF r1)) ++ ([(0 : Int)])))
 else
 (none)
 else
 (none)
theorem f124.eq (n : Nat) (x : ByteArray × List Int) : j2 TT M4 n ann (yk Mb) 1 124 (uc [(false, .str)] (.int .u8) x) (th 5 (.int .u8) x.2) (wQ 5 (.int .u8)) = f124.g n x := by
 kernel_rfl
theorem f124.codes : CdO M4 Mb := zm (aC Tryz.func124 aN) (by kernel_rfl)
theorem f124.ok (h : Run XP f124.g) (e164 : CO 164 ZL) : CO 124 (xC [(false, .str)] 5 (.int .u8) XP) :=
 uR zu zv (zf e164 zk) f124.codes (h.go f124.eq)
def Ys : Con := xC [(false, .str)] 5 (.int .u8) XP
def E76 : FuncId → Option Con := (zy 124 Ys (zy 123 cQ (zy 122 cK (zy 121 ap zU))))
noncomputable def C76 : List (FuncId × Func) := [(76, Tryz.f76)]
def f76.g (n : Nat) (x : zc × List Int) : Option (List Int) :=
 bif x.1.1 == (1 : Int) then
 bif decide ((x.2.length + 2) * 1 ≤ zq) then
 some (List.take (x.2.length + 2) (List.take x.2.length x.2 ++ ([(2 : Int), IntKind.wrap .u8 x.1.2.1])))
 else
 (none)
 else
 bif x.1.1 == (2 : Int) then
 bif decide ((x.2.length + 1) * 1 ≤ zq) then
 (TJ (x.1.2.1, List.take (x.2.length + 1) (List.take x.2.length x.2 ++ ([(3 : Int)])))).bind fun r1 =>
 some (List.take r1.length r1)
 else
 (none)
 else
 bif x.1.1 == (3 : Int) then
 bif decide ((x.2.length + 1) * 1 ≤ zq) then
 (R6 x.1).bind fun r2 =>
 (TX (r2.2.2.1, List.take (x.2.length + 1) (List.take x.2.length x.2 ++ ([(4 : Int)])))).bind fun r3 =>
 some (List.take r3.length r3)
 else
 (none)
 else
 bif x.1.1 == (4 : Int) then
 bif decide ((x.2.length + 1) * 1 ≤ zq) then
 (XP (x.1.2.2.2, List.take (x.2.length + 1) (List.take x.2.length x.2 ++ ([(5 : Int)])))).bind fun r4 =>
 some (List.take r4.length r4)
 else
 (none)
 else
 bif x.1.1 == (5 : Int) then
 bif decide ((x.2.length + 1) * 1 ≤ zq) then
 (XP (x.1.2.2.2, List.take (x.2.length + 1) (List.take x.2.length x.2 ++ ([(6 : Int)])))).bind fun r5 =>
 some (List.take r5.length r5)
 else
 (none)
 else
 bif decide ((x.2.length + 1) * 1 ≤ zq) then
 some (List.take (x.2.length + 1) (List.take x.2.length x.2 ++ ([(1 : Int)])))
 else
 (none)
theorem f76.eq (n : Nat) (x : zc × List Int) : j2 TT E76 n ann (yk C76) 1 76 (uc [(true, tValue)] (.int .u8) x) (th 5 (.int .u8) x.2) (wQ 5 (.int .u8)) = f76.g n x := by
 kernel_rfl
theorem f76.codes : CdO E76 C76 := zm (aC Tryz.func76 aN) (by kernel_rfl)
theorem f76.ok (h : Run F76 f76.g) (e121 : CO 121 ap) (e122 : CO 122 cK) (e123 : CO 123 cQ) (e124 : CO 124 Ys) : CO 76 (xC [(true, tValue)] 5 (.int .u8) F76) :=
 uR zu zv (zf e124 (zf e123 (zf e122 (zf e121 zk)))) f76.codes (h.go f76.eq)
def Tx : Con := xC [(true, tValue)] 5 (.int .u8) F76
abbrev f46.Z0 : Type := Nat × Int × (List Int)
abbrev f46.Y1 : Type := ByteArray × Int
abbrev f46.A2 : Sig := [(false, .str), (false, .int .i64)]
def E46 : FuncId → Option Con := (zy 76 Tx (zy 75 rE zU))
noncomputable def C46 : List (FuncId × Func) := [(46, Tryz.f46)]
def f46.h1 (x : (List zc)) (y1 : Int) (y3 : f46.Z0) : List AV × List Ob := (uN 6 ([vv [.own 0 y3.1]] ++ uN 12 ([vv [.sc (.sl tValue) x], vv [cI (x.length : Int)], vv [cI y3.2.1]] ++ uN 12 [])), [.arr 5 (.int .u8) y3.2.2])
def f46.h2 (x : (List zc)) (y1 : Int) : List AV × List Ob := ([vv [.sc (.sl tValue) x]] ++ uN 8 ([vv [.sc (.sl tValue) x], vv [cI (x.length : Int)], vv [cI y1]] ++ uN 22 []), [])
def f46.L1 (n : Nat) (x : (List zc)) (y1 : Int) (m3 : Nat) (y3 : f46.Z0) : Option f46.Y1 :=
 lK (ann 46 9) 1 E46 C46 n 1 46 Tryz.f46 [1, 1, 1, 0, 1, 0, 0] [1, 1, 1, 0, 1, 0] m3 (f46.h1 x y1 y3) (xa TT Tryz.f46 (zp f46.A2))
def f46.L2 (n : Nat) (x : (List zc)) (m1 : Nat) (y1 : Int) : Option f46.Y1 :=
 lK (ann 46 2) 0 E46 C46 n 1 46 Tryz.f46 [1, 0, 1, 0, 0] [1, 0, 1, 0] m1 (f46.h2 x y1) (xa TT Tryz.f46 (zp f46.A2))
def f46.s1 (n : Nat) (x : (List zc)) (y1 : Int) (S3 : (Nat × Int × (List Int)) → Option f46.Y1) (y3 : f46.Z0) : Option f46.Y1 :=
 bif decide (y3.2.1 < (x.length : Int)) then
 bif decide (0 ≤ y3.2.1) && decide (y3.2.1 < (x.length : Int)) then
 (F76 (x.getD y3.2.1.toNat tValue.dflt, List.take y3.1 y3.2.2)).bind fun r4 =>
 bif decide (((r4.length : Nat) : Int) > (1024 : Int)) then
 some ((⟨#[]⟩ : BA), (3 : Int))
 else
 S3 (r4.length, (IntKind.wrap .i64 (y3.2.1 + (1 : Int)), r4))
 else
 (none)
 else
 some (yF (List.take y3.1 y3.2.2), (0 : Int))
theorem f46.l1 (n : Nat) (x : (List zc)) (y1 : Int) : ∀ (m : Nat) (y3 : f46.Z0), f46.L1 n x y1 m y3 = zF (f46.s1 n x y1) m y3 :=
 zw (fun _ => rfl) fun m y => by kernel_rfl
def f46.s2 (n : Nat) (x : (List zc)) (S1 : Int → Option f46.Y1) (y1 : Int) : Option f46.Y1 :=
 bif decide (y1 < (x.length : Int)) then
 bif decide (0 ≤ y1) && decide (y1 < (x.length : Int)) then
 (F75 (x.getD y1.toNat tValue.dflt)).bind fun r2 =>
 bif r2 != (0 : Int) then
 some ((⟨#[]⟩ : BA), (10 : Int))
 else
 S1 (IntKind.wrap .i64 (y1 + (1 : Int)))
 else
 (none)
 else
 zF (f46.s1 n x y1) n (0, ((0 : Int), []))
theorem f46.k2 (n : Nat) (x : (List zc)) (m : Nat) (y : Int) : f46.L2 n x (m + 1) y = f46.s2 n x (f46.L2 n x m) y := by
 simp only [f46.s2, ← f46.l1]
 kernel_rfl
theorem f46.l2 (n : Nat) (x : (List zc)) : ∀ (m : Nat) (y1 : Int), f46.L2 n x m y1 = zF (f46.s2 n x) m y1 :=
 zw (L := f46.L2 n x) (step := f46.s2 n x) (fun _ => rfl) (f46.k2 n x)
def f46.g (n : Nat) (x : (List zc)) : Option f46.Y1 :=
 zF (f46.s2 n x) n (0 : Int)
theorem f46.eq (n : Nat) (x : (List zc)) : rK E46 C46 n 1 46 (zt [(false, .sl tValue)] x) (zp f46.A2) = f46.g n x := by
 simp only [f46.g, ← f46.l1, ← f46.l2]
 kernel_rfl
theorem f46.codes : CdO E46 C46 := zm (aC Tryz.func46 aN) (by kernel_rfl)
theorem f46.ok (h : Run F46 f46.g) (e75 : CO 75 rE) (e76 : CO 76 Tx) : CO 46 (zj [(false, .sl tValue)] f46.A2 true F46) :=
 zi zu zv (zf e76 (zf e75 zk)) f46.codes (fun _ => Ll.1 rfl) (h.go f46.eq)
def RB : Con := zj [(false, .sl tValue)] f46.A2 true F46
abbrev f21.A0 : Sig := [(true, .pair .str (.pair .str .bool)), (false, .int .i64)]
def E21 : FuncId → Option Con := (zy 46 RB zU)
noncomputable def C21 : List (FuncId × Func) := [(21, Tryz.f21)]
def f21.g (n : Nat) (x : (List zc)) : Option ((ByteArray × (ByteArray × Bool)) × Int) :=
 (F46 x).bind fun r1 =>
 bif r1.2 != (0 : Int) then
 some (((⟨#[]⟩ : BA), ((⟨#[]⟩ : BA), false)), r1.2)
 else
 bif decide (r1.1.size + (⟨#[255]⟩ : BA).size ≤ xk) then
 some ((r1.1, (r1.1 ++ (⟨#[255]⟩ : BA), false)), (0 : Int))
 else
 (none)
theorem f21.eq (n : Nat) (x : (List zc)) : rK E21 C21 n 1 21 (zt [(false, .sl tValue)] x) (zp f21.A0) = f21.g n x := by
 kernel_rfl
theorem f21.codes : CdO E21 C21 := zm (aC Tryz.func21 aN) (by kernel_rfl)
theorem f21.ok (h : Run F21 f21.g) (e46 : CO 46 RB) : CO 21 (zj [(false, .sl tValue)] f21.A0 true F21) :=
 zi zu zv (zf e46 zk) f21.codes (fun _ => Ll.1 rfl) (h.go f21.eq)
def iJ : Con := zj [(false, .sl tValue)] f21.A0 true F21
abbrev f24.A0 : Sig := [(true, .pair .str (.pair .str .bool)), (false, .int .i64)]
abbrev f24.A1 : Sig := [(false, .sl tValue), (false, .bool)]
def E24 : FuncId → Option Con := (zy 21 iJ zU)
noncomputable def C24 : List (FuncId × Func) := [(24, Tryz.f24)]
def f24.g (n : Nat) (x : (List zc) × Bool) : Option ((ByteArray × (ByteArray × Bool)) × Int) :=
 (F21 x.1).bind fun r1 =>
 bif r1.2 != (0 : Int) then
 some r1
 else
 bif x.2 then
 some ((r1.1.1, ((⟨#[]⟩ : BA), true)), (0 : Int))
 else
 some ((r1.1.2.1, ((⟨#[]⟩ : BA), true)), (0 : Int))
theorem f24.eq (n : Nat) (x : (List zc) × Bool) : rK E24 C24 n 1 24 (zt f24.A1 x) (zp f24.A0) = f24.g n x := by
 kernel_rfl
theorem f24.codes : CdO E24 C24 := zm (aC Tryz.func24 aN) (by kernel_rfl)
theorem f24.ok (h : Run F24 f24.g) (e21 : CO 21 iJ) : CO 24 (zj f24.A1 f24.A0 true F24) :=
 zi zu zv (zf e21 zk) f24.codes (fun _ => Ll.1 rfl) (h.go f24.eq)
def SE : Con := zj f24.A1 f24.A0 true F24
abbrev f26.A0 : Sig := [(true, .pair .str (.pair .str .bool)), (false, .int .i64)]
abbrev f26.A1 : Sig := [(false, .sl tValue), (false, .bool)]
def E26 : FuncId → Option Con := (zy 21 iJ zU)
noncomputable def C26 : List (FuncId × Func) := [(26, Tryz.f26)]
def f26.g (n : Nat) (x : (List zc) × Bool) : Option ((ByteArray × (ByteArray × Bool)) × Int) :=
 (F21 x.1).bind fun r1 =>
 bif r1.2 != (0 : Int) then
 some r1
 else
 bif x.2 then
 some (((⟨#[]⟩ : BA), (r1.1.2.1, false)), (0 : Int))
 else
 some (((⟨#[]⟩ : BA), (r1.1.1, false)), (0 : Int))
theorem f26.eq (n : Nat) (x : (List zc) × Bool) : rK E26 C26 n 1 26 (zt f26.A1 x) (zp f26.A0) = f26.g n x := by
 kernel_rfl
theorem f26.codes : CdO E26 C26 := zm (aC Tryz.func26 aN) (by kernel_rfl)
theorem f26.ok (h : Run F26 f26.g) (e21 : CO 21 iJ) : CO 26 (zj f26.A1 f26.A0 true F26) :=
 zi zu zv (zf e21 zk) f26.codes (fun _ => Ll.1 rfl) (h.go f26.eq)
def Rm : Con := zj f26.A1 f26.A0 true F26
abbrev f23.Z0 : Type := (ByteArray × (ByteArray × Bool)) × (ByteArray × (ByteArray × Bool))
abbrev f23.A1 : Sig := [(true, .pair .str (.pair .str .bool)), (true, .pair .str (.pair .str .bool))]
abbrev f23.A2 : Sig := [(true, .pair .str (.pair .str .bool))]
def E23 : FuncId → Option Con := zU
noncomputable def C23 : List (FuncId × Func) := [(23, Tryz.f23), (47, Tryz.f47)]
def f23.g (n : Nat) (x : f23.Z0) : Option ((ByteArray × (ByteArray × Bool))) :=
 bif bif x.1.2.2 then x.2.2.2 else false then
 bif bif (!(bif x.1.2.2 then x.2.2.2 else false)) then (!(yT (lp true x.1.1 x.2.1) (⟨#[]⟩ : BA))) else false then
 some ((⟨#[]⟩ : BA), ((⟨#[]⟩ : BA), false))
 else
 some (lp true x.1.1 x.2.1, ((⟨#[]⟩ : BA), bif x.1.2.2 then x.2.2.2 else false))
 else
 bif x.1.2.2 then
 bif bif (!(bif x.1.2.2 then x.2.2.2 else false)) then (!(yT (lp true x.1.1 x.2.1) x.2.2.1)) else false then
 some ((⟨#[]⟩ : BA), ((⟨#[]⟩ : BA), false))
 else
 some (lp true x.1.1 x.2.1, (x.2.2.1, bif x.1.2.2 then x.2.2.2 else false))
 else
 bif x.2.2.2 then
 bif bif (!(bif x.1.2.2 then x.2.2.2 else false)) then (!(yT (lp true x.1.1 x.2.1) x.1.2.1)) else false then
 some ((⟨#[]⟩ : BA), ((⟨#[]⟩ : BA), false))
 else
 some (lp true x.1.1 x.2.1, (x.1.2.1, bif x.1.2.2 then x.2.2.2 else false))
 else
 bif bif (!(bif x.1.2.2 then x.2.2.2 else false)) then (!(yT (lp true x.1.1 x.2.1) (lp false x.1.2.1 x.2.2.1))) else false then
 some ((⟨#[]⟩ : BA), ((⟨#[]⟩ : BA), false))
 else
 some (lp true x.1.1 x.2.1, (lp false x.1.2.1 x.2.2.1, bif x.1.2.2 then x.2.2.2 else false))
theorem f23.eq (n : Nat) (x : f23.Z0) : rK E23 C23 n 2 23 (zt f23.A1 x) (zp f23.A2) = f23.g n x := by
 kernel_rfl
theorem f23.codes : CdO E23 C23 := zm (aC Tryz.func23 (aC Tryz.func47 aN)) (by kernel_rfl)
theorem f23.ok (h : Run F23 f23.g)  : CO 23 (zj f23.A1 f23.A2 true F23) :=
 zi zu zv zk f23.codes (fun _ => Ll.1 rfl) (h.go f23.eq)
def SM : Con := zj f23.A1 f23.A2 true F23
abbrev f111.Z0 : Type := Nat × Int × (List Int)
abbrev f111.A1 : Sig := [(false, .int .u64), (false, .int .i64)]
abbrev f111.A2 : Sig := [(false, .sl (.int .u8))]
def NG : FuncId → Option Con := zU
noncomputable def O7 : List (FuncId × Func) := [(111, Tryz.f111)]
def f111.h1 (x : Int × Int) (y1 : f111.Z0) : List AV × List Ob := ([vv [.sc (.int .u64) x.1]] ++ uN 4 ([vv [.own 0 y1.1], vv [cI y1.2.1]] ++ uN 16 []), [.arr 5 (.int .u8) y1.2.2])
def f111.L1 (n : Nat) (x : Int × Int) (m1 : Nat) (y1 : f111.Z0) : Option ((List Int)) :=
 lK (ann 111 3) 1 NG O7 n 1 111 Tryz.f111 [1, 1, 0, 1, 0, 0] [1, 1, 0, 1, 0] m1 (f111.h1 x y1) (xa TT Tryz.f111 (zp f111.A2))
def f111.s1 (n : Nat) (x : Int × Int) (S1 : (Nat × Int × (List Int)) → Option ((List Int))) (y1 : f111.Z0) : Option ((List Int)) :=
 bif decide (y1.2.1 ≥ (0 : Int)) then
 bif decide (IntKind.wrap .u64 (IntKind.wrap .i64 ((8 : Int) * y1.2.1)) < 0) then
 (none)
 else
 bif decide ((y1.1 + 1) * 1 ≤ zq) then
 S1 (y1.1 + 1, (IntKind.wrap .i64 (y1.2.1 - (1 : Int)), List.take y1.1 y1.2.2 ++ ([IntKind.wrap .u8 (zC .shr .u64 x.1 (IntKind.wrap .u64 (IntKind.wrap .i64 ((8 : Int) * y1.2.1))))])))
 else
 (none)
 else
 some (List.take y1.1 y1.2.2)
theorem f111.l1 (n : Nat) (x : Int × Int) : ∀ (m : Nat) (y1 : f111.Z0), f111.L1 n x m y1 = zF (f111.s1 n x) m y1 :=
 zw (fun _ => rfl) fun m y => by kernel_rfl
def f111.g (n : Nat) (x : Int × Int) : Option ((List Int)) :=
 zF (f111.s1 n x) n (0, (IntKind.wrap .i64 (x.2 - (1 : Int)), []))
theorem f111.eq (n : Nat) (x : Int × Int) : rK NG O7 n 1 111 (zt f111.A1 x) (zp f111.A2) = f111.g n x := by
 simp only [f111.g, ← f111.l1]
 kernel_rfl
theorem f111.codes : CdO NG O7 := zm (aC Tryz.func111 aN) (by kernel_rfl)
theorem f111.ok (h : Run nA f111.g)  : CO 111 (zj f111.A1 f111.A2 false nA) :=
 zi zu zv zk f111.codes (fun h => by cases h) (h.go f111.eq)
def jy : Con := zj f111.A1 f111.A2 false nA
abbrev f65.A0 : Sig := [(false, .sl (.int .u8))]
def E65 : FuncId → Option Con := (zy 111 jy (zy 110 aU zU))
noncomputable def C65 : List (FuncId × Func) := [(65, Tryz.f65)]
def f65.g (n : Nat) (x : Int) : Option ((List Int)) :=
 bif decide (x ≥ (0 : Int)) then
 (Ux (IntKind.wrap .u64 x)).bind fun r1 =>
 bif decide (1 * 1 ≤ zq) then
 (nA (IntKind.wrap .u64 x, r1)).bind fun r2 =>
 bif decide ((1 + r2.length) * 1 ≤ zq) then
 some (List.take (1 + r2.length) (List.take 1 ([IntKind.wrap .u8 (IntKind.wrap .i64 ((128 : Int) + r1))]) ++ r2))
 else
 (none)
 else
 (none)
 else
 (Ux (IntKind.wrap .u64 (IntKind.wrap .i64 (0 - IntKind.wrap .i64 (x + (1 : Int)))))).bind fun r3 =>
 bif r3 == (0 : Int) then
 bif decide (1 * 1 ≤ zq) then
 (nA (xS .xor .u64 (if IntKind.u64.signed = true then -1 else IntKind.u64.max) (IntKind.wrap .u64 (IntKind.wrap .i64 (0 - IntKind.wrap .i64 (x + (1 : Int))))), (1 : Int))).bind fun r4 =>
 bif decide ((1 + r4.length) * 1 ≤ zq) then
 some (List.take (1 + r4.length) (List.take 1 ([(127 : Int)]) ++ r4))
 else
 (none)
 else
 (none)
 else
 bif decide (1 * 1 ≤ zq) then
 (nA (xS .xor .u64 (if IntKind.u64.signed = true then -1 else IntKind.u64.max) (IntKind.wrap .u64 (IntKind.wrap .i64 (0 - IntKind.wrap .i64 (x + (1 : Int))))), r3)).bind fun r5 =>
 bif decide ((1 + r5.length) * 1 ≤ zq) then
 some (List.take (1 + r5.length) (List.take 1 ([IntKind.wrap .u8 (IntKind.wrap .i64 ((128 : Int) - r3))]) ++ r5))
 else
 (none)
 else
 (none)
theorem f65.eq (n : Nat) (x : Int) : rK E65 C65 n 1 65 (zt [(false, .int .i64)] x) (zp f65.A0) = f65.g n x := by
 kernel_rfl
theorem f65.codes : CdO E65 C65 := zm (aC Tryz.func65 aN) (by kernel_rfl)
theorem f65.ok (h : Run F65 f65.g) (e110 : CO 110 aU) (e111 : CO 111 jy) : CO 65 (zj [(false, .int .i64)] f65.A0 false F65) :=
 zi zu zv (zf e111 (zf e110 zk)) f65.codes (fun h => by cases h) (h.go f65.eq)
def U1 : Con := zj [(false, .int .i64)] f65.A0 false F65
abbrev f66.A0 : Sig := [(false, .sl (.int .u8))]
def E66 : FuncId → Option Con := (zy 111 jy (zy 63 rA zU))
noncomputable def C66 : List (FuncId × Func) := [(66, Tryz.f66)]
def f66.g (n : Nat) (x : Nat) : Option ((List Int)) :=
 (F63 x).bind fun r1 =>
 bif FloatKind.f64.format.order x 0 == some .eq then
 bif FloatKind.f64.format.order x x != some .eq then
 bif zC .shr .u64 (9221120237041090560 : Int) (63 : Int) == (0 : Int) then
 (nA (xS .xor .u64 (9221120237041090560 : Int) (9223372036854775808 : Int), (8 : Int))).bind fun r2 =>
 some r2
 else
 (nA (xS .xor .u64 (if IntKind.u64.signed = true then -1 else IntKind.u64.max) (9221120237041090560 : Int), (8 : Int))).bind fun r3 =>
 some r3
 else
 bif zC .shr .u64 (0 : Int) (63 : Int) == (0 : Int) then
 (nA (xS .xor .u64 (0 : Int) (9223372036854775808 : Int), (8 : Int))).bind fun r4 =>
 some r4
 else
 (nA (xS .xor .u64 (if IntKind.u64.signed = true then -1 else IntKind.u64.max) (0 : Int), (8 : Int))).bind fun r5 =>
 some r5
 else
 bif FloatKind.f64.format.order x x != some .eq then
 bif zC .shr .u64 (9221120237041090560 : Int) (63 : Int) == (0 : Int) then
 (nA (xS .xor .u64 (9221120237041090560 : Int) (9223372036854775808 : Int), (8 : Int))).bind fun r6 =>
 some r6
 else
 (nA (xS .xor .u64 (if IntKind.u64.signed = true then -1 else IntKind.u64.max) (9221120237041090560 : Int), (8 : Int))).bind fun r7 =>
 some r7
 else
 bif zC .shr .u64 r1 (63 : Int) == (0 : Int) then
 (nA (xS .xor .u64 r1 (9223372036854775808 : Int), (8 : Int))).bind fun r8 =>
 some r8
 else
 (nA (xS .xor .u64 (if IntKind.u64.signed = true then -1 else IntKind.u64.max) r1, (8 : Int))).bind fun r9 =>
 some r9
theorem f66.eq (n : Nat) (x : Nat) : rK E66 C66 n 1 66 (zt [(false, .float .f64)] x) (zp f66.A0) = f66.g n x := by
 kernel_rfl
theorem f66.codes : CdO E66 C66 := zm (aC Tryz.func66 aN) (by kernel_rfl)
theorem f66.ok (h : Run F66 f66.g) (e63 : CO 63 rA) (e111 : CO 111 jy) : CO 66 (zj [(false, .float .f64)] f66.A0 false F66) :=
 zi zu zv (zf e111 (zf e63 zk)) f66.codes (fun h => by cases h) (h.go f66.eq)
def Sn : Con := zj [(false, .float .f64)] f66.A0 false F66
abbrev f67.Z0 : Type := Nat × Int × (List Int)
abbrev f67.A1 : Sig := [(false, .sl (.int .u8))]
def E67 : FuncId → Option Con := zU
noncomputable def C67 : List (FuncId × Func) := [(67, Tryz.f67)]
def f67.h1 (x : ByteArray) (y1 : f67.Z0) : List AV × List Ob := ([vv [cT x], .undef, .undef, vv [.own 0 y1.1], vv [cI y1.2.1]] ++ uN 22 [], [.arr 5 (.int .u8) y1.2.2])
def f67.L1 (n : Nat) (x : ByteArray) (m1 : Nat) (y1 : f67.Z0) : Option ((List Int)) :=
 lK (ann 67 3) 1 E67 C67 n 1 67 Tryz.f67 [1, 1, 0, 1, 0, 0] [1, 1, 0, 1, 0] m1 (f67.h1 x y1) (xa TT Tryz.f67 (zp f67.A1))
def f67.s1 (n : Nat) (x : ByteArray) (S1 : (Nat × Int × (List Int)) → Option ((List Int))) (y1 : f67.Z0) : Option ((List Int)) :=
 bif decide (y1.2.1 < (x.size : Int)) then
 bif decide (0 ≤ y1.2.1) && decide (y1.2.1 < (x.size : Int)) then
 bif decide ((y1.1 + 1) * 1 ≤ zq) then
 bif decide (0 ≤ y1.2.1) && decide (y1.2.1 < (x.size : Int)) then
 bif zY x y1.2.1 == (0 : Int) then
 bif decide (((y1.1 + 1) + 1) * 1 ≤ zq) then
 S1 ((y1.1 + 1) + 1, (IntKind.wrap .i64 (y1.2.1 + (1 : Int)), List.take (y1.1 + 1) (List.take y1.1 y1.2.2 ++ ([zY x y1.2.1])) ++ ([(255 : Int)])))
 else
 (none)
 else
 S1 (y1.1 + 1, (IntKind.wrap .i64 (y1.2.1 + (1 : Int)), List.take y1.1 y1.2.2 ++ ([zY x y1.2.1])))
 else
 (none)
 else
 (none)
 else
 (none)
 else
 bif decide ((y1.1 + 1) * 1 ≤ zq) then
 some (List.take (y1.1 + 1) (List.take y1.1 y1.2.2 ++ ([(0 : Int)])))
 else
 (none)
theorem f67.l1 (n : Nat) (x : ByteArray) : ∀ (m : Nat) (y1 : f67.Z0), f67.L1 n x m y1 = zF (f67.s1 n x) m y1 :=
 zw (fun _ => rfl) fun m y => by kernel_rfl
def f67.g (n : Nat) (x : ByteArray) : Option ((List Int)) :=
 zF (f67.s1 n x) n (0, ((0 : Int), []))
theorem f67.eq (n : Nat) (x : ByteArray) : rK E67 C67 n 1 67 (zt [(false, .str)] x) (zp f67.A1) = f67.g n x := by
 simp only [f67.g, ← f67.l1]
 kernel_rfl
theorem f67.codes : CdO E67 C67 := zm (aC Tryz.func67 aN) (by kernel_rfl)
theorem f67.ok (h : Run F67 f67.g)  : CO 67 (zj [(false, .str)] f67.A1 false F67) :=
 zi zu zv zk f67.codes (fun h => by cases h) (h.go f67.eq)
def RW : Con := zj [(false, .str)] f67.A1 false F67
abbrev f38.A0 : Sig := [(false, .sl (.int .u8))]
def E38 : FuncId → Option Con := (zy 67 RW (zy 66 Sn (zy 65 U1 zU)))
noncomputable def C38 : List (FuncId × Func) := [(38, Tryz.f38)]
def f38.g (n : Nat) (x : zc) : Option ((List Int)) :=
 bif x.1 == (1 : Int) then
 bif decide ((2) * 1 ≤ zq) then
 some (List.take 2 (List.take 1 ([IntKind.wrap .u8 (IntKind.wrap .i64 (x.1 + (1 : Int)))]) ++ ([IntKind.wrap .u8 x.2.1])))
 else
 (none)
 else
 bif x.1 == (2 : Int) then
 (F65 x.2.1).bind fun r1 =>
 bif decide ((1 + r1.length) * 1 ≤ zq) then
 some (List.take (1 + r1.length) (List.take 1 ([IntKind.wrap .u8 (IntKind.wrap .i64 (x.1 + (1 : Int)))]) ++ r1))
 else
 (none)
 else
 bif x.1 == (3 : Int) then
 (F66 x.2.2.1).bind fun r2 =>
 bif decide ((1 + r2.length) * 1 ≤ zq) then
 some (List.take (1 + r2.length) (List.take 1 ([IntKind.wrap .u8 (IntKind.wrap .i64 (x.1 + (1 : Int)))]) ++ r2))
 else
 (none)
 else
 bif x.1 == (4 : Int) then
 bif x.1 == (4 : Int) then
 (F67 x.2.2.2).bind fun r3 =>
 bif decide ((1 + r3.length) * 1 ≤ zq) then
 some (List.take (1 + r3.length) (List.take 1 ([IntKind.wrap .u8 (IntKind.wrap .i64 (x.1 + (1 : Int)))]) ++ r3))
 else
 (none)
 else
 some (List.take 1 ([IntKind.wrap .u8 (IntKind.wrap .i64 (x.1 + (1 : Int)))]))
 else
 bif x.1 == (5 : Int) then
 (F67 x.2.2.2).bind fun r4 =>
 bif decide ((1 + r4.length) * 1 ≤ zq) then
 some (List.take (1 + r4.length) (List.take 1 ([IntKind.wrap .u8 (IntKind.wrap .i64 (x.1 + (1 : Int)))]) ++ r4))
 else
 (none)
 else
 some (List.take 1 ([IntKind.wrap .u8 (IntKind.wrap .i64 (x.1 + (1 : Int)))]))
theorem f38.eq (n : Nat) (x : zc) : rK E38 C38 n 1 38 (zt [(true, tValue)] x) (zp f38.A0) = f38.g n x := by
 kernel_rfl
theorem f38.codes : CdO E38 C38 := zm (aC Tryz.func38 aN) (by kernel_rfl)
theorem f38.ok (h : Run F38 f38.g) (e65 : CO 65 U1) (e66 : CO 66 Sn) (e67 : CO 67 RW) : CO 38 (zj [(true, tValue)] f38.A0 false F38) :=
 zi zu zv (zf e67 (zf e66 (zf e65 zk))) f38.codes (fun h => by cases h) (h.go f38.eq)
def SA : Con := zj [(true, tValue)] f38.A0 false F38
abbrev f12.Z0 : Type := Nat × Int × (List Int)
abbrev f12.Y1 : Type := ByteArray × Int
abbrev f12.A2 : Sig := [(false, .str), (false, .int .i64)]
def E12 : FuncId → Option Con := (zy 38 SA (zy 37 j8 zU))
noncomputable def C12 : List (FuncId × Func) := [(12, Tryz.f12)]
def f12.h1 (x : (List zc)) (y1 : Int) (y3 : f12.Z0) : List AV × List Ob := ([vv [.sc (.sl tValue) x]] ++ uN 4 ([vv [.own 0 y3.1], vv [cI y3.2.1]] ++ uN 30 []), [.arr 5 (.int .u8) y3.2.2])
def f12.h2 (x : (List zc)) (y1 : Int) : List AV × List Ob := ([vv [.sc (.sl tValue) x]] ++ uN 3 ([vv [cI y1]] ++ uN 32 []), [])
def f12.L1 (n : Nat) (x : (List zc)) (y1 : Int) (m3 : Nat) (y3 : f12.Z0) : Option f12.Y1 :=
 lK (ann 12 8) 1 E12 C12 n 1 12 Tryz.f12 [1, 1, 1, 0, 1, 0, 0] [1, 1, 1, 0, 1, 0] m3 (f12.h1 x y1 y3) (xa TT Tryz.f12 (zp f12.A2))
def f12.L2 (n : Nat) (x : (List zc)) (m1 : Nat) (y1 : Int) : Option f12.Y1 :=
 lK (ann 12 2) 0 E12 C12 n 1 12 Tryz.f12 [1, 0, 1, 0, 0] [1, 0, 1, 0] m1 (f12.h2 x y1) (xa TT Tryz.f12 (zp f12.A2))
def f12.s1 (n : Nat) (x : (List zc)) (y1 : Int) (S3 : (Nat × Int × (List Int)) → Option f12.Y1) (y3 : f12.Z0) : Option f12.Y1 :=
 bif decide (y3.2.1 < (x.length : Int)) then
 bif decide (0 ≤ y3.2.1) && decide (y3.2.1 < (x.length : Int)) then
 (F38 (x.getD y3.2.1.toNat tValue.dflt)).bind fun r4 =>
 bif decide ((y3.1 + r4.length) * 1 ≤ zq) then
 bif decide (((y3.1 + r4.length : Nat) : Int) > (1024 : Int)) then
 some ((⟨#[]⟩ : BA), (3 : Int))
 else
 S3 (y3.1 + r4.length, (IntKind.wrap .i64 (y3.2.1 + (1 : Int)), List.take y3.1 y3.2.2 ++ r4))
 else
 (none)
 else
 (none)
 else
 some (yF (List.take y3.1 y3.2.2), (0 : Int))
theorem f12.l1 (n : Nat) (x : (List zc)) (y1 : Int) : ∀ (m : Nat) (y3 : f12.Z0), f12.L1 n x y1 m y3 = zF (f12.s1 n x y1) m y3 :=
 zw (fun _ => rfl) fun m y => by kernel_rfl
def f12.s2 (n : Nat) (x : (List zc)) (S1 : Int → Option f12.Y1) (y1 : Int) : Option f12.Y1 :=
 bif decide (y1 < (x.length : Int)) then
 bif decide (0 ≤ y1) && decide (y1 < (x.length : Int)) then
 (F37 (x.getD y1.toNat tValue.dflt)).bind fun r2 =>
 bif r2 != (0 : Int) then
 some ((⟨#[]⟩ : BA), (10 : Int))
 else
 S1 (IntKind.wrap .i64 (y1 + (1 : Int)))
 else
 (none)
 else
 zF (f12.s1 n x y1) n (0, ((0 : Int), []))
theorem f12.k2 (n : Nat) (x : (List zc)) (m : Nat) (y : Int) : f12.L2 n x (m + 1) y = f12.s2 n x (f12.L2 n x m) y := by
 simp only [f12.s2, ← f12.l1]
 kernel_rfl
theorem f12.l2 (n : Nat) (x : (List zc)) : ∀ (m : Nat) (y1 : Int), f12.L2 n x m y1 = zF (f12.s2 n x) m y1 :=
 zw (L := f12.L2 n x) (step := f12.s2 n x) (fun _ => rfl) (f12.k2 n x)
def f12.g (n : Nat) (x : (List zc)) : Option f12.Y1 :=
 zF (f12.s2 n x) n (0 : Int)
theorem f12.eq (n : Nat) (x : (List zc)) : rK E12 C12 n 1 12 (zt [(false, .sl tValue)] x) (zp f12.A2) = f12.g n x := by
 simp only [f12.g, ← f12.l1, ← f12.l2]
 kernel_rfl
theorem f12.codes : CdO E12 C12 := zm (aC Tryz.func12 aN) (by kernel_rfl)
theorem f12.ok (h : Run F12 f12.g) (e37 : CO 37 j8) (e38 : CO 38 SA) : CO 12 (zj [(false, .sl tValue)] f12.A2 true F12) :=
 zi zu zv (zf e38 (zf e37 zk)) f12.codes (fun _ => Ll.1 rfl) (h.go f12.eq)
def So : Con := zj [(false, .sl tValue)] f12.A2 true F12
abbrev f53.A0 : Sig := [(true, .pair .str (.pair .str .bool)), (false, .int .i64)]
def E53 : FuncId → Option Con := (zy 12 So zU)
noncomputable def C53 : List (FuncId × Func) := [(53, Tryz.f53)]
def f53.g (n : Nat) (x : (List zc)) : Option ((ByteArray × (ByteArray × Bool)) × Int) :=
 (F12 x).bind fun r1 =>
 bif r1.2 != (0 : Int) then
 some (((⟨#[]⟩ : BA), ((⟨#[]⟩ : BA), false)), r1.2)
 else
 bif decide (r1.1.size + (⟨#[255]⟩ : BA).size ≤ xk) then
 some ((r1.1, (r1.1 ++ (⟨#[255]⟩ : BA), false)), (0 : Int))
 else
 (none)
theorem f53.eq (n : Nat) (x : (List zc)) : rK E53 C53 n 1 53 (zt [(false, .sl tValue)] x) (zp f53.A0) = f53.g n x := by
 kernel_rfl
theorem f53.codes : CdO E53 C53 := zm (aC Tryz.func53 aN) (by kernel_rfl)
theorem f53.ok (h : Run F53 f53.g) (e12 : CO 12 So) : CO 53 (zj [(false, .sl tValue)] f53.A0 true F53) :=
 zi zu zv (zf e12 zk) f53.codes (fun _ => Ll.1 rfl) (h.go f53.eq)
def ir : Con := zj [(false, .sl tValue)] f53.A0 true F53
abbrev f55.A0 : Sig := [(true, .pair .str (.pair .str .bool)), (false, .int .i64)]
abbrev f55.A1 : Sig := [(false, .sl tValue), (false, .bool)]
def E55 : FuncId → Option Con := (zy 53 ir zU)
noncomputable def C55 : List (FuncId × Func) := [(55, Tryz.f55)]
def f55.g (n : Nat) (x : (List zc) × Bool) : Option ((ByteArray × (ByteArray × Bool)) × Int) :=
 (F53 x.1).bind fun r1 =>
 bif r1.2 != (0 : Int) then
 some r1
 else
 bif x.2 then
 some ((r1.1.1, ((⟨#[]⟩ : BA), true)), (0 : Int))
 else
 some ((r1.1.2.1, ((⟨#[]⟩ : BA), true)), (0 : Int))
theorem f55.eq (n : Nat) (x : (List zc) × Bool) : rK E55 C55 n 1 55 (zt f55.A1 x) (zp f55.A0) = f55.g n x := by
 kernel_rfl
theorem f55.codes : CdO E55 C55 := zm (aC Tryz.func55 aN) (by kernel_rfl)
theorem f55.ok (h : Run F55 f55.g) (e53 : CO 53 ir) : CO 55 (zj f55.A1 f55.A0 true F55) :=
 zi zu zv (zf e53 zk) f55.codes (fun _ => Ll.1 rfl) (h.go f55.eq)
def Tq : Con := zj f55.A1 f55.A0 true F55
abbrev f57.A0 : Sig := [(true, .pair .str (.pair .str .bool)), (false, .int .i64)]
abbrev f57.A1 : Sig := [(false, .sl tValue), (false, .bool)]
def E57 : FuncId → Option Con := (zy 53 ir zU)
noncomputable def C57 : List (FuncId × Func) := [(57, Tryz.f57)]
def f57.g (n : Nat) (x : (List zc) × Bool) : Option ((ByteArray × (ByteArray × Bool)) × Int) :=
 (F53 x.1).bind fun r1 =>
 bif r1.2 != (0 : Int) then
 some r1
 else
 bif x.2 then
 some (((⟨#[]⟩ : BA), (r1.1.2.1, false)), (0 : Int))
 else
 some (((⟨#[]⟩ : BA), (r1.1.1, false)), (0 : Int))
theorem f57.eq (n : Nat) (x : (List zc) × Bool) : rK E57 C57 n 1 57 (zt f57.A1 x) (zp f57.A0) = f57.g n x := by
 kernel_rfl
theorem f57.codes : CdO E57 C57 := zm (aC Tryz.func57 aN) (by kernel_rfl)
theorem f57.ok (h : Run F57 f57.g) (e53 : CO 53 ir) : CO 57 (zj f57.A1 f57.A0 true F57) :=
 zi zu zv (zf e53 zk) f57.codes (fun _ => Ll.1 rfl) (h.go f57.eq)
def UA : Con := zj f57.A1 f57.A0 true F57
abbrev f56.Z0 : Type := (ByteArray × (ByteArray × Bool)) × (ByteArray × (ByteArray × Bool))
abbrev f56.A1 : Sig := [(true, .pair .str (.pair .str .bool)), (true, .pair .str (.pair .str .bool))]
abbrev f56.A2 : Sig := [(true, .pair .str (.pair .str .bool))]
def E56 : FuncId → Option Con := zU
noncomputable def C56 : List (FuncId × Func) := [(56, Tryz.f56), (85, Tryz.f85)]
def f56.g (n : Nat) (x : f56.Z0) : Option ((ByteArray × (ByteArray × Bool))) :=
 bif !(yT x.2.1 x.1.1 || zd x.2.1 x.1.1) then
 bif bif x.1.2.2 then true else (bif (!x.2.2.2) then (yT x.2.2.1 x.1.2.1) else false) then
 bif bif x.1.2.2 then x.2.2.2 else false then
 bif bif (!(bif x.1.2.2 then x.2.2.2 else false)) then (yT (⟨#[]⟩ : BA) x.2.1 || zd (⟨#[]⟩ : BA) x.2.1) else false then
 some ((⟨#[]⟩ : BA), ((⟨#[]⟩ : BA), false))
 else
 some (x.2.1, ((⟨#[]⟩ : BA), bif x.1.2.2 then x.2.2.2 else false))
 else
 bif bif (!(bif x.1.2.2 then x.2.2.2 else false)) then (yT x.2.2.1 x.2.1 || zd x.2.2.1 x.2.1) else false then
 some ((⟨#[]⟩ : BA), ((⟨#[]⟩ : BA), false))
 else
 some (x.2.1, (x.2.2.1, bif x.1.2.2 then x.2.2.2 else false))
 else
 bif bif x.1.2.2 then x.2.2.2 else false then
 bif bif (!(bif x.1.2.2 then x.2.2.2 else false)) then (yT (⟨#[]⟩ : BA) x.2.1 || zd (⟨#[]⟩ : BA) x.2.1) else false then
 some ((⟨#[]⟩ : BA), ((⟨#[]⟩ : BA), false))
 else
 some (x.2.1, ((⟨#[]⟩ : BA), bif x.1.2.2 then x.2.2.2 else false))
 else
 bif bif (!(bif x.1.2.2 then x.2.2.2 else false)) then (yT x.1.2.1 x.2.1 || zd x.1.2.1 x.2.1) else false then
 some ((⟨#[]⟩ : BA), ((⟨#[]⟩ : BA), false))
 else
 some (x.2.1, (x.1.2.1, bif x.1.2.2 then x.2.2.2 else false))
 else
 bif bif x.1.2.2 then true else (bif (!x.2.2.2) then (yT x.2.2.1 x.1.2.1) else false) then
 bif bif x.1.2.2 then x.2.2.2 else false then
 bif bif (!(bif x.1.2.2 then x.2.2.2 else false)) then (yT (⟨#[]⟩ : BA) x.1.1 || zd (⟨#[]⟩ : BA) x.1.1) else false then
 some ((⟨#[]⟩ : BA), ((⟨#[]⟩ : BA), false))
 else
 some (x.1.1, ((⟨#[]⟩ : BA), bif x.1.2.2 then x.2.2.2 else false))
 else
 bif bif (!(bif x.1.2.2 then x.2.2.2 else false)) then (yT x.2.2.1 x.1.1 || zd x.2.2.1 x.1.1) else false then
 some ((⟨#[]⟩ : BA), ((⟨#[]⟩ : BA), false))
 else
 some (x.1.1, (x.2.2.1, bif x.1.2.2 then x.2.2.2 else false))
 else
 bif bif x.1.2.2 then x.2.2.2 else false then
 bif bif (!(bif x.1.2.2 then x.2.2.2 else false)) then (yT (⟨#[]⟩ : BA) x.1.1 || zd (⟨#[]⟩ : BA) x.1.1) else false then
 some ((⟨#[]⟩ : BA), ((⟨#[]⟩ : BA), false))
 else
 some (x.1.1, ((⟨#[]⟩ : BA), bif x.1.2.2 then x.2.2.2 else false))
 else
 bif bif (!(bif x.1.2.2 then x.2.2.2 else false)) then (yT x.1.2.1 x.1.1 || zd x.1.2.1 x.1.1) else false then
 some ((⟨#[]⟩ : BA), ((⟨#[]⟩ : BA), false))
 else
 some (x.1.1, (x.1.2.1, bif x.1.2.2 then x.2.2.2 else false))
theorem f56.eq (n : Nat) (x : f56.Z0) : rK E56 C56 n 2 56 (zt f56.A1 x) (zp f56.A2) = f56.g n x := by
 kernel_rfl
theorem f56.codes : CdO E56 C56 := zm (aC Tryz.func56 (aC Tryz.func85 aN)) (by kernel_rfl)
theorem f56.ok (h : Run F56 f56.g)  : CO 56 (zj f56.A1 f56.A2 true F56) :=
 zi zu zv zk f56.codes (fun _ => Ll.1 rfl) (h.go f56.eq)
def Td : Con := zj f56.A1 f56.A2 true F56
end
end Go.Proofs.YtefddghdaimklaaGreatDoor.AI
