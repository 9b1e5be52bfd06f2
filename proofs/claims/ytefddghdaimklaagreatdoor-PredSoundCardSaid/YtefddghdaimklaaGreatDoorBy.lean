/- A part of the proof. -/
import Derived.Test.YtefddghdaimklaaGreatDoorBx
set_option linter.unusedVariables false
set_option linter.unusedSimpArgs false
set_option maxRecDepth 100000
namespace Go.Proofs.YtefddghdaimklaaGreatDoor.AI
open Go
noncomputable section
set_option maxRecDepth 100000
def ak : Con := zk [(false, .str), (false, .str), (false, .str)] [(false, .str)] true PW
def Nl : FuncId → Option Con := yc
noncomputable def OQ : List (FuncId × Func) := [(185, Tryz.f185)]
def f185.g (n : Nat) (x : Int) : Option (Int) :=
 bif decide (x ≥ (4294967296 : Int)) then
 bif decide (zA .shr .u64 x (32 : Int) ≥ (65536 : Int)) then
 bif decide (zA .shr .u64 (zA .shr .u64 x (32 : Int)) (16 : Int) ≥ (256 : Int)) then
 bif decide (0 ≤ IntKind.wrap .u8 (zA .shr .u64 (zA .shr .u64 (zA .shr .u64 x (32 : Int)) (16 : Int)) (8 : Int))) && decide (IntKind.wrap .u8 (zA .shr .u64 (zA .shr .u64 (zA .shr .u64 x (32 : Int)) (16 : Int)) (8 : Int)) < ((⟨#[0, 1, 2, 2, 3, 3, 3, 3, 4, 4, 4, 4, 4, 4, 4, 4, 5, 5, 5, 5, 5, 5, 5, 5, 5, 5, 5, 5, 5, 5, 5, 5, 6, 6, 6, 6, 6, 6, 6, 6, 6, 6, 6, 6, 6, 6, 6, 6, 6, 6, 6, 6, 6, 6, 6, 6, 6, 6, 6, 6, 6, 6, 6, 6, 7, 7, 7, 7, 7, 7, 7, 7, 7, 7, 7, 7, 7, 7, 7, 7, 7, 7, 7, 7, 7, 7, 7, 7, 7, 7, 7, 7, 7, 7, 7, 7, 7, 7, 7, 7, 7, 7, 7, 7, 7, 7, 7, 7, 7, 7, 7, 7, 7, 7, 7, 7, 7, 7, 7, 7, 7, 7, 7, 7, 7, 7, 7, 7, 8, 8, 8, 8, 8, 8, 8, 8, 8, 8, 8, 8, 8, 8, 8, 8, 8, 8, 8, 8, 8, 8, 8, 8, 8, 8, 8, 8, 8, 8, 8, 8, 8, 8, 8, 8, 8, 8, 8, 8, 8, 8, 8, 8, 8, 8, 8, 8, 8, 8, 8, 8, 8, 8, 8, 8, 8, 8, 8, 8, 8, 8, 8, 8, 8, 8, 8, 8, 8, 8, 8, 8, 8, 8, 8, 8, 8, 8, 8, 8, 8, 8, 8, 8, 8, 8, 8, 8, 8, 8, 8, 8, 8, 8, 8, 8, 8, 8, 8, 8, 8, 8, 8, 8, 8, 8, 8, 8, 8, 8, 8, 8, 8, 8, 8, 8, 8, 8, 8, 8, 8, 8, 8, 8, 8, 8, 8, 8]⟩ : BA).size : Int)) then
 some (IntKind.wrap .i64 ((56 : Int) + IntKind.wrap .i64 (z7 (⟨#[0, 1, 2, 2, 3, 3, 3, 3, 4, 4, 4, 4, 4, 4, 4, 4, 5, 5, 5, 5, 5, 5, 5, 5, 5, 5, 5, 5, 5, 5, 5, 5, 6, 6, 6, 6, 6, 6, 6, 6, 6, 6, 6, 6, 6, 6, 6, 6, 6, 6, 6, 6, 6, 6, 6, 6, 6, 6, 6, 6, 6, 6, 6, 6, 7, 7, 7, 7, 7, 7, 7, 7, 7, 7, 7, 7, 7, 7, 7, 7, 7, 7, 7, 7, 7, 7, 7, 7, 7, 7, 7, 7, 7, 7, 7, 7, 7, 7, 7, 7, 7, 7, 7, 7, 7, 7, 7, 7, 7, 7, 7, 7, 7, 7, 7, 7, 7, 7, 7, 7, 7, 7, 7, 7, 7, 7, 7, 7, 8, 8, 8, 8, 8, 8, 8, 8, 8, 8, 8, 8, 8, 8, 8, 8, 8, 8, 8, 8, 8, 8, 8, 8, 8, 8, 8, 8, 8, 8, 8, 8, 8, 8, 8, 8, 8, 8, 8, 8, 8, 8, 8, 8, 8, 8, 8, 8, 8, 8, 8, 8, 8, 8, 8, 8, 8, 8, 8, 8, 8, 8, 8, 8, 8, 8, 8, 8, 8, 8, 8, 8, 8, 8, 8, 8, 8, 8, 8, 8, 8, 8, 8, 8, 8, 8, 8, 8, 8, 8, 8, 8, 8, 8, 8, 8, 8, 8, 8, 8, 8, 8, 8, 8, 8, 8, 8, 8, 8, 8, 8, 8, 8, 8, 8, 8, 8, 8, 8, 8, 8, 8, 8, 8, 8, 8, 8, 8]⟩ : BA) (IntKind.wrap .u8 (zA .shr .u64 (zA .shr .u64 (zA .shr .u64 x (32 : Int)) (16 : Int)) (8 : Int))))))
 else
 (none)
 else
 bif decide (0 ≤ IntKind.wrap .u8 (zA .shr .u64 (zA .shr .u64 x (32 : Int)) (16 : Int))) && decide (IntKind.wrap .u8 (zA .shr .u64 (zA .shr .u64 x (32 : Int)) (16 : Int)) < ((⟨#[0, 1, 2, 2, 3, 3, 3, 3, 4, 4, 4, 4, 4, 4, 4, 4, 5, 5, 5, 5, 5, 5, 5, 5, 5, 5, 5, 5, 5, 5, 5, 5, 6, 6, 6, 6, 6, 6, 6, 6, 6, 6, 6, 6, 6, 6, 6, 6, 6, 6, 6, 6, 6, 6, 6, 6, 6, 6, 6, 6, 6, 6, 6, 6, 7, 7, 7, 7, 7, 7, 7, 7, 7, 7, 7, 7, 7, 7, 7, 7, 7, 7, 7, 7, 7, 7, 7, 7, 7, 7, 7, 7, 7, 7, 7, 7, 7, 7, 7, 7, 7, 7, 7, 7, 7, 7, 7, 7, 7, 7, 7, 7, 7, 7, 7, 7, 7, 7, 7, 7, 7, 7, 7, 7, 7, 7, 7, 7, 8, 8, 8, 8, 8, 8, 8, 8, 8, 8, 8, 8, 8, 8, 8, 8, 8, 8, 8, 8, 8, 8, 8, 8, 8, 8, 8, 8, 8, 8, 8, 8, 8, 8, 8, 8, 8, 8, 8, 8, 8, 8, 8, 8, 8, 8, 8, 8, 8, 8, 8, 8, 8, 8, 8, 8, 8, 8, 8, 8, 8, 8, 8, 8, 8, 8, 8, 8, 8, 8, 8, 8, 8, 8, 8, 8, 8, 8, 8, 8, 8, 8, 8, 8, 8, 8, 8, 8, 8, 8, 8, 8, 8, 8, 8, 8, 8, 8, 8, 8, 8, 8, 8, 8, 8, 8, 8, 8, 8, 8, 8, 8, 8, 8, 8, 8, 8, 8, 8, 8, 8, 8, 8, 8, 8, 8, 8, 8]⟩ : BA).size : Int)) then
 some (IntKind.wrap .i64 ((48 : Int) + IntKind.wrap .i64 (z7 (⟨#[0, 1, 2, 2, 3, 3, 3, 3, 4, 4, 4, 4, 4, 4, 4, 4, 5, 5, 5, 5, 5, 5, 5, 5, 5, 5, 5, 5, 5, 5, 5, 5, 6, 6, 6, 6, 6, 6, 6, 6, 6, 6, 6, 6, 6, 6, 6, 6, 6, 6, 6, 6, 6, 6, 6, 6, 6, 6, 6, 6, 6, 6, 6, 6, 7, 7, 7, 7, 7, 7, 7, 7, 7, 7, 7, 7, 7, 7, 7, 7, 7, 7, 7, 7, 7, 7, 7, 7, 7, 7, 7, 7, 7, 7, 7, 7, 7, 7, 7, 7, 7, 7, 7, 7, 7, 7, 7, 7, 7, 7, 7, 7, 7, 7, 7, 7, 7, 7, 7, 7, 7, 7, 7, 7, 7, 7, 7, 7, 8, 8, 8, 8, 8, 8, 8, 8, 8, 8, 8, 8, 8, 8, 8, 8, 8, 8, 8, 8, 8, 8, 8, 8, 8, 8, 8, 8, 8, 8, 8, 8, 8, 8, 8, 8, 8, 8, 8, 8, 8, 8, 8, 8, 8, 8, 8, 8, 8, 8, 8, 8, 8, 8, 8, 8, 8, 8, 8, 8, 8, 8, 8, 8, 8, 8, 8, 8, 8, 8, 8, 8, 8, 8, 8, 8, 8, 8, 8, 8, 8, 8, 8, 8, 8, 8, 8, 8, 8, 8, 8, 8, 8, 8, 8, 8, 8, 8, 8, 8, 8, 8, 8, 8, 8, 8, 8, 8, 8, 8, 8, 8, 8, 8, 8, 8, 8, 8, 8, 8, 8, 8, 8, 8, 8, 8, 8, 8]⟩ : BA) (IntKind.wrap .u8 (zA .shr .u64 (zA .shr .u64 x (32 : Int)) (16 : Int))))))
 else
 (none)
 else
 bif decide (zA .shr .u64 x (32 : Int) ≥ (256 : Int)) then
 bif decide (0 ≤ IntKind.wrap .u8 (zA .shr .u64 (zA .shr .u64 x (32 : Int)) (8 : Int))) && decide (IntKind.wrap .u8 (zA .shr .u64 (zA .shr .u64 x (32 : Int)) (8 : Int)) < ((⟨#[0, 1, 2, 2, 3, 3, 3, 3, 4, 4, 4, 4, 4, 4, 4, 4, 5, 5, 5, 5, 5, 5, 5, 5, 5, 5, 5, 5, 5, 5, 5, 5, 6, 6, 6, 6, 6, 6, 6, 6, 6, 6, 6, 6, 6, 6, 6, 6, 6, 6, 6, 6, 6, 6, 6, 6, 6, 6, 6, 6, 6, 6, 6, 6, 7, 7, 7, 7, 7, 7, 7, 7, 7, 7, 7, 7, 7, 7, 7, 7, 7, 7, 7, 7, 7, 7, 7, 7, 7, 7, 7, 7, 7, 7, 7, 7, 7, 7, 7, 7, 7, 7, 7, 7, 7, 7, 7, 7, 7, 7, 7, 7, 7, 7, 7, 7, 7, 7, 7, 7, 7, 7, 7, 7, 7, 7, 7, 7, 8, 8, 8, 8, 8, 8, 8, 8, 8, 8, 8, 8, 8, 8, 8, 8, 8, 8, 8, 8, 8, 8, 8, 8, 8, 8, 8, 8, 8, 8, 8, 8, 8, 8, 8, 8, 8, 8, 8, 8, 8, 8, 8, 8, 8, 8, 8, 8, 8, 8, 8, 8, 8, 8, 8, 8, 8, 8, 8, 8, 8, 8, 8, 8, 8, 8, 8, 8, 8, 8, 8, 8, 8, 8, 8, 8, 8, 8, 8, 8, 8, 8, 8, 8, 8, 8, 8, 8, 8, 8, 8, 8, 8, 8, 8, 8, 8, 8, 8, 8, 8, 8, 8, 8, 8, 8, 8, 8, 8, 8, 8, 8, 8, 8, 8, 8, 8, 8, 8, 8, 8, 8, 8, 8, 8, 8, 8, 8]⟩ : BA).size : Int)) then
 some (IntKind.wrap .i64 ((40 : Int) + IntKind.wrap .i64 (z7 (⟨#[0, 1, 2, 2, 3, 3, 3, 3, 4, 4, 4, 4, 4, 4, 4, 4, 5, 5, 5, 5, 5, 5, 5, 5, 5, 5, 5, 5, 5, 5, 5, 5, 6, 6, 6, 6, 6, 6, 6, 6, 6, 6, 6, 6, 6, 6, 6, 6, 6, 6, 6, 6, 6, 6, 6, 6, 6, 6, 6, 6, 6, 6, 6, 6, 7, 7, 7, 7, 7, 7, 7, 7, 7, 7, 7, 7, 7, 7, 7, 7, 7, 7, 7, 7, 7, 7, 7, 7, 7, 7, 7, 7, 7, 7, 7, 7, 7, 7, 7, 7, 7, 7, 7, 7, 7, 7, 7, 7, 7, 7, 7, 7, 7, 7, 7, 7, 7, 7, 7, 7, 7, 7, 7, 7, 7, 7, 7, 7, 8, 8, 8, 8, 8, 8, 8, 8, 8, 8, 8, 8, 8, 8, 8, 8, 8, 8, 8, 8, 8, 8, 8, 8, 8, 8, 8, 8, 8, 8, 8, 8, 8, 8, 8, 8, 8, 8, 8, 8, 8, 8, 8, 8, 8, 8, 8, 8, 8, 8, 8, 8, 8, 8, 8, 8, 8, 8, 8, 8, 8, 8, 8, 8, 8, 8, 8, 8, 8, 8, 8, 8, 8, 8, 8, 8, 8, 8, 8, 8, 8, 8, 8, 8, 8, 8, 8, 8, 8, 8, 8, 8, 8, 8, 8, 8, 8, 8, 8, 8, 8, 8, 8, 8, 8, 8, 8, 8, 8, 8, 8, 8, 8, 8, 8, 8, 8, 8, 8, 8, 8, 8, 8, 8, 8, 8, 8, 8]⟩ : BA) (IntKind.wrap .u8 (zA .shr .u64 (zA .shr .u64 x (32 : Int)) (8 : Int))))))
 else
 (none)
 else
 bif decide (0 ≤ IntKind.wrap .u8 (zA .shr .u64 x (32 : Int))) && decide (IntKind.wrap .u8 (zA .shr .u64 x (32 : Int)) < ((⟨#[0, 1, 2, 2, 3, 3, 3, 3, 4, 4, 4, 4, 4, 4, 4, 4, 5, 5, 5, 5, 5, 5, 5, 5, 5, 5, 5, 5, 5, 5, 5, 5, 6, 6, 6, 6, 6, 6, 6, 6, 6, 6, 6, 6, 6, 6, 6, 6, 6, 6, 6, 6, 6, 6, 6, 6, 6, 6, 6, 6, 6, 6, 6, 6, 7, 7, 7, 7, 7, 7, 7, 7, 7, 7, 7, 7, 7, 7, 7, 7, 7, 7, 7, 7, 7, 7, 7, 7, 7, 7, 7, 7, 7, 7, 7, 7, 7, 7, 7, 7, 7, 7, 7, 7, 7, 7, 7, 7, 7, 7, 7, 7, 7, 7, 7, 7, 7, 7, 7, 7, 7, 7, 7, 7, 7, 7, 7, 7, 8, 8, 8, 8, 8, 8, 8, 8, 8, 8, 8, 8, 8, 8, 8, 8, 8, 8, 8, 8, 8, 8, 8, 8, 8, 8, 8, 8, 8, 8, 8, 8, 8, 8, 8, 8, 8, 8, 8, 8, 8, 8, 8, 8, 8, 8, 8, 8, 8, 8, 8, 8, 8, 8, 8, 8, 8, 8, 8, 8, 8, 8, 8, 8, 8, 8, 8, 8, 8, 8, 8, 8, 8, 8, 8, 8, 8, 8, 8, 8, 8, 8, 8, 8, 8, 8, 8, 8, 8, 8, 8, 8, 8, 8, 8, 8, 8, 8, 8, 8, 8, 8, 8, 8, 8, 8, 8, 8, 8, 8, 8, 8, 8, 8, 8, 8, 8, 8, 8, 8, 8, 8, 8, 8, 8, 8, 8, 8]⟩ : BA).size : Int)) then
 some (IntKind.wrap .i64 ((32 : Int) + IntKind.wrap .i64 (z7 (⟨#[0, 1, 2, 2, 3, 3, 3, 3, 4, 4, 4, 4, 4, 4, 4, 4, 5, 5, 5, 5, 5, 5, 5, 5, 5, 5, 5, 5, 5, 5, 5, 5, 6, 6, 6, 6, 6, 6, 6, 6, 6, 6, 6, 6, 6, 6, 6, 6, 6, 6, 6, 6, 6, 6, 6, 6, 6, 6, 6, 6, 6, 6, 6, 6, 7, 7, 7, 7, 7, 7, 7, 7, 7, 7, 7, 7, 7, 7, 7, 7, 7, 7, 7, 7, 7, 7, 7, 7, 7, 7, 7, 7, 7, 7, 7, 7, 7, 7, 7, 7, 7, 7, 7, 7, 7, 7, 7, 7, 7, 7, 7, 7, 7, 7, 7, 7, 7, 7, 7, 7, 7, 7, 7, 7, 7, 7, 7, 7, 8, 8, 8, 8, 8, 8, 8, 8, 8, 8, 8, 8, 8, 8, 8, 8, 8, 8, 8, 8, 8, 8, 8, 8, 8, 8, 8, 8, 8, 8, 8, 8, 8, 8, 8, 8, 8, 8, 8, 8, 8, 8, 8, 8, 8, 8, 8, 8, 8, 8, 8, 8, 8, 8, 8, 8, 8, 8, 8, 8, 8, 8, 8, 8, 8, 8, 8, 8, 8, 8, 8, 8, 8, 8, 8, 8, 8, 8, 8, 8, 8, 8, 8, 8, 8, 8, 8, 8, 8, 8, 8, 8, 8, 8, 8, 8, 8, 8, 8, 8, 8, 8, 8, 8, 8, 8, 8, 8, 8, 8, 8, 8, 8, 8, 8, 8, 8, 8, 8, 8, 8, 8, 8, 8, 8, 8, 8, 8]⟩ : BA) (IntKind.wrap .u8 (zA .shr .u64 x (32 : Int))))))
 else
 (none)
 else
 bif decide (x ≥ (65536 : Int)) then
 bif decide (zA .shr .u64 x (16 : Int) ≥ (256 : Int)) then
 bif decide (0 ≤ IntKind.wrap .u8 (zA .shr .u64 (zA .shr .u64 x (16 : Int)) (8 : Int))) && decide (IntKind.wrap .u8 (zA .shr .u64 (zA .shr .u64 x (16 : Int)) (8 : Int)) < ((⟨#[0, 1, 2, 2, 3, 3, 3, 3, 4, 4, 4, 4, 4, 4, 4, 4, 5, 5, 5, 5, 5, 5, 5, 5, 5, 5, 5, 5, 5, 5, 5, 5, 6, 6, 6, 6, 6, 6, 6, 6, 6, 6, 6, 6, 6, 6, 6, 6, 6, 6, 6, 6, 6, 6, 6, 6, 6, 6, 6, 6, 6, 6, 6, 6, 7, 7, 7, 7, 7, 7, 7, 7, 7, 7, 7, 7, 7, 7, 7, 7, 7, 7, 7, 7, 7, 7, 7, 7, 7, 7, 7, 7, 7, 7, 7, 7, 7, 7, 7, 7, 7, 7, 7, 7, 7, 7, 7, 7, 7, 7, 7, 7, 7, 7, 7, 7, 7, 7, 7, 7, 7, 7, 7, 7, 7, 7, 7, 7, 8, 8, 8, 8, 8, 8, 8, 8, 8, 8, 8, 8, 8, 8, 8, 8, 8, 8, 8, 8, 8, 8, 8, 8, 8, 8, 8, 8, 8, 8, 8, 8, 8, 8, 8, 8, 8, 8, 8, 8, 8, 8, 8, 8, 8, 8, 8, 8, 8, 8, 8, 8, 8, 8, 8, 8, 8, 8, 8, 8, 8, 8, 8, 8, 8, 8, 8, 8, 8, 8, 8, 8, 8, 8, 8, 8, 8, 8, 8, 8, 8, 8, 8, 8, 8, 8, 8, 8, 8, 8, 8, 8, 8, 8, 8, 8, 8, 8, 8, 8, 8, 8, 8, 8, 8, 8, 8, 8, 8, 8, 8, 8, 8, 8, 8, 8, 8, 8, 8, 8, 8, 8, 8, 8, 8, 8, 8, 8]⟩ : BA).size : Int)) then
 some (IntKind.wrap .i64 ((24 : Int) + IntKind.wrap .i64 (z7 (⟨#[0, 1, 2, 2, 3, 3, 3, 3, 4, 4, 4, 4, 4, 4, 4, 4, 5, 5, 5, 5, 5, 5, 5, 5, 5, 5, 5, 5, 5, 5, 5, 5, 6, 6, 6, 6, 6, 6, 6, 6, 6, 6, 6, 6, 6, 6, 6, 6, 6, 6, 6, 6, 6, 6, 6, 6, 6, 6, 6, 6, 6, 6, 6, 6, 7, 7, 7, 7, 7, 7, 7, 7, 7, 7, 7, 7, 7, 7, 7, 7, 7, 7, 7, 7, 7, 7, 7, 7, 7, 7, 7, 7, 7, 7, 7, 7, 7, 7, 7, 7, 7, 7, 7, 7, 7, 7, 7, 7, 7, 7, 7, 7, 7, 7, 7, 7, 7, 7, 7, 7, 7, 7, 7, 7, 7, 7, 7, 7, 8, 8, 8, 8, 8, 8, 8, 8, 8, 8, 8, 8, 8, 8, 8, 8, 8, 8, 8, 8, 8, 8, 8, 8, 8, 8, 8, 8, 8, 8, 8, 8, 8, 8, 8, 8, 8, 8, 8, 8, 8, 8, 8, 8, 8, 8, 8, 8, 8, 8, 8, 8, 8, 8, 8, 8, 8, 8, 8, 8, 8, 8, 8, 8, 8, 8, 8, 8, 8, 8, 8, 8, 8, 8, 8, 8, 8, 8, 8, 8, 8, 8, 8, 8, 8, 8, 8, 8, 8, 8, 8, 8, 8, 8, 8, 8, 8, 8, 8, 8, 8, 8, 8, 8, 8, 8, 8, 8, 8, 8, 8, 8, 8, 8, 8, 8, 8, 8, 8, 8, 8, 8, 8, 8, 8, 8, 8, 8]⟩ : BA) (IntKind.wrap .u8 (zA .shr .u64 (zA .shr .u64 x (16 : Int)) (8 : Int))))))
 else
 (none)
 else
 bif decide (0 ≤ IntKind.wrap .u8 (zA .shr .u64 x (16 : Int))) && decide (IntKind.wrap .u8 (zA .shr .u64 x (16 : Int)) < ((⟨#[0, 1, 2, 2, 3, 3, 3, 3, 4, 4, 4, 4, 4, 4, 4, 4, 5, 5, 5, 5, 5, 5, 5, 5, 5, 5, 5, 5, 5, 5, 5, 5, 6, 6, 6, 6, 6, 6, 6, 6, 6, 6, 6, 6, 6, 6, 6, 6, 6, 6, 6, 6, 6, 6, 6, 6, 6, 6, 6, 6, 6, 6, 6, 6, 7, 7, 7, 7, 7, 7, 7, 7, 7, 7, 7, 7, 7, 7, 7, 7, 7, 7, 7, 7, 7, 7, 7, 7, 7, 7, 7, 7, 7, 7, 7, 7, 7, 7, 7, 7, 7, 7, 7, 7, 7, 7, 7, 7, 7, 7, 7, 7, 7, 7, 7, 7, 7, 7, 7, 7, 7, 7, 7, 7, 7, 7, 7, 7, 8, 8, 8, 8, 8, 8, 8, 8, 8, 8, 8, 8, 8, 8, 8, 8, 8, 8, 8, 8, 8, 8, 8, 8, 8, 8, 8, 8, 8, 8, 8, 8, 8, 8, 8, 8, 8, 8, 8, 8, 8, 8, 8, 8, 8, 8, 8, 8, 8, 8, 8, 8, 8, 8, 8, 8, 8, 8, 8, 8, 8, 8, 8, 8, 8, 8, 8, 8, 8, 8, 8, 8, 8, 8, 8, 8, 8, 8, 8, 8, 8, 8, 8, 8, 8, 8, 8, 8, 8, 8, 8, 8, 8, 8, 8, 8, 8, 8, 8, 8, 8, 8, 8, 8, 8, 8, 8, 8, 8, 8, 8, 8, 8, 8, 8, 8, 8, 8, 8, 8, 8, 8, 8, 8, 8, 8, 8, 8]⟩ : BA).size : Int)) then
 some (IntKind.wrap .i64 ((16 : Int) + IntKind.wrap .i64 (z7 (⟨#[0, 1, 2, 2, 3, 3, 3, 3, 4, 4, 4, 4, 4, 4, 4, 4, 5, 5, 5, 5, 5, 5, 5, 5, 5, 5, 5, 5, 5, 5, 5, 5, 6, 6, 6, 6, 6, 6, 6, 6, 6, 6, 6, 6, 6, 6, 6, 6, 6, 6, 6, 6, 6, 6, 6, 6, 6, 6, 6, 6, 6, 6, 6, 6, 7, 7, 7, 7, 7, 7, 7, 7, 7, 7, 7, 7, 7, 7, 7, 7, 7, 7, 7, 7, 7, 7, 7, 7, 7, 7, 7, 7, 7, 7, 7, 7, 7, 7, 7, 7, 7, 7, 7, 7, 7, 7, 7, 7, 7, 7, 7, 7, 7, 7, 7, 7, 7, 7, 7, 7, 7, 7, 7, 7, 7, 7, 7, 7, 8, 8, 8, 8, 8, 8, 8, 8, 8, 8, 8, 8, 8, 8, 8, 8, 8, 8, 8, 8, 8, 8, 8, 8, 8, 8, 8, 8, 8, 8, 8, 8, 8, 8, 8, 8, 8, 8, 8, 8, 8, 8, 8, 8, 8, 8, 8, 8, 8, 8, 8, 8, 8, 8, 8, 8, 8, 8, 8, 8, 8, 8, 8, 8, 8, 8, 8, 8, 8, 8, 8, 8, 8, 8, 8, 8, 8, 8, 8, 8, 8, 8, 8, 8, 8, 8, 8, 8, 8, 8, 8, 8, 8, 8, 8, 8, 8, 8, 8, 8, 8, 8, 8, 8, 8, 8, 8, 8, 8, 8, 8, 8, 8, 8, 8, 8, 8, 8, 8, 8, 8, 8, 8, 8, 8, 8, 8, 8]⟩ : BA) (IntKind.wrap .u8 (zA .shr .u64 x (16 : Int))))))
 else
 (none)
 else
 bif decide (x ≥ (256 : Int)) then
 bif decide (0 ≤ IntKind.wrap .u8 (zA .shr .u64 x (8 : Int))) && decide (IntKind.wrap .u8 (zA .shr .u64 x (8 : Int)) < ((⟨#[0, 1, 2, 2, 3, 3, 3, 3, 4, 4, 4, 4, 4, 4, 4, 4, 5, 5, 5, 5, 5, 5, 5, 5, 5, 5, 5, 5, 5, 5, 5, 5, 6, 6, 6, 6, 6, 6, 6, 6, 6, 6, 6, 6, 6, 6, 6, 6, 6, 6, 6, 6, 6, 6, 6, 6, 6, 6, 6, 6, 6, 6, 6, 6, 7, 7, 7, 7, 7, 7, 7, 7, 7, 7, 7, 7, 7, 7, 7, 7, 7, 7, 7, 7, 7, 7, 7, 7, 7, 7, 7, 7, 7, 7, 7, 7, 7, 7, 7, 7, 7, 7, 7, 7, 7, 7, 7, 7, 7, 7, 7, 7, 7, 7, 7, 7, 7, 7, 7, 7, 7, 7, 7, 7, 7, 7, 7, 7, 8, 8, 8, 8, 8, 8, 8, 8, 8, 8, 8, 8, 8, 8, 8, 8, 8, 8, 8, 8, 8, 8, 8, 8, 8, 8, 8, 8, 8, 8, 8, 8, 8, 8, 8, 8, 8, 8, 8, 8, 8, 8, 8, 8, 8, 8, 8, 8, 8, 8, 8, 8, 8, 8, 8, 8, 8, 8, 8, 8, 8, 8, 8, 8, 8, 8, 8, 8, 8, 8, 8, 8, 8, 8, 8, 8, 8, 8, 8, 8, 8, 8, 8, 8, 8, 8, 8, 8, 8, 8, 8, 8, 8, 8, 8, 8, 8, 8, 8, 8, 8, 8, 8, 8, 8, 8, 8, 8, 8, 8, 8, 8, 8, 8, 8, 8, 8, 8, 8, 8, 8, 8, 8, 8, 8, 8, 8, 8]⟩ : BA).size : Int)) then
 some (IntKind.wrap .i64 ((8 : Int) + IntKind.wrap .i64 (z7 (⟨#[0, 1, 2, 2, 3, 3, 3, 3, 4, 4, 4, 4, 4, 4, 4, 4, 5, 5, 5, 5, 5, 5, 5, 5, 5, 5, 5, 5, 5, 5, 5, 5, 6, 6, 6, 6, 6, 6, 6, 6, 6, 6, 6, 6, 6, 6, 6, 6, 6, 6, 6, 6, 6, 6, 6, 6, 6, 6, 6, 6, 6, 6, 6, 6, 7, 7, 7, 7, 7, 7, 7, 7, 7, 7, 7, 7, 7, 7, 7, 7, 7, 7, 7, 7, 7, 7, 7, 7, 7, 7, 7, 7, 7, 7, 7, 7, 7, 7, 7, 7, 7, 7, 7, 7, 7, 7, 7, 7, 7, 7, 7, 7, 7, 7, 7, 7, 7, 7, 7, 7, 7, 7, 7, 7, 7, 7, 7, 7, 8, 8, 8, 8, 8, 8, 8, 8, 8, 8, 8, 8, 8, 8, 8, 8, 8, 8, 8, 8, 8, 8, 8, 8, 8, 8, 8, 8, 8, 8, 8, 8, 8, 8, 8, 8, 8, 8, 8, 8, 8, 8, 8, 8, 8, 8, 8, 8, 8, 8, 8, 8, 8, 8, 8, 8, 8, 8, 8, 8, 8, 8, 8, 8, 8, 8, 8, 8, 8, 8, 8, 8, 8, 8, 8, 8, 8, 8, 8, 8, 8, 8, 8, 8, 8, 8, 8, 8, 8, 8, 8, 8, 8, 8, 8, 8, 8, 8, 8, 8, 8, 8, 8, 8, 8, 8, 8, 8, 8, 8, 8, 8, 8, 8, 8, 8, 8, 8, 8, 8, 8, 8, 8, 8, 8, 8, 8, 8]⟩ : BA) (IntKind.wrap .u8 (zA .shr .u64 x (8 : Int))))))
 else
 (none)
 else
 bif decide (0 ≤ IntKind.wrap .u8 x) && decide (IntKind.wrap .u8 x < ((⟨#[0, 1, 2, 2, 3, 3, 3, 3, 4, 4, 4, 4, 4, 4, 4, 4, 5, 5, 5, 5, 5, 5, 5, 5, 5, 5, 5, 5, 5, 5, 5, 5, 6, 6, 6, 6, 6, 6, 6, 6, 6, 6, 6, 6, 6, 6, 6, 6, 6, 6, 6, 6, 6, 6, 6, 6, 6, 6, 6, 6, 6, 6, 6, 6, 7, 7, 7, 7, 7, 7, 7, 7, 7, 7, 7, 7, 7, 7, 7, 7, 7, 7, 7, 7, 7, 7, 7, 7, 7, 7, 7, 7, 7, 7, 7, 7, 7, 7, 7, 7, 7, 7, 7, 7, 7, 7, 7, 7, 7, 7, 7, 7, 7, 7, 7, 7, 7, 7, 7, 7, 7, 7, 7, 7, 7, 7, 7, 7, 8, 8, 8, 8, 8, 8, 8, 8, 8, 8, 8, 8, 8, 8, 8, 8, 8, 8, 8, 8, 8, 8, 8, 8, 8, 8, 8, 8, 8, 8, 8, 8, 8, 8, 8, 8, 8, 8, 8, 8, 8, 8, 8, 8, 8, 8, 8, 8, 8, 8, 8, 8, 8, 8, 8, 8, 8, 8, 8, 8, 8, 8, 8, 8, 8, 8, 8, 8, 8, 8, 8, 8, 8, 8, 8, 8, 8, 8, 8, 8, 8, 8, 8, 8, 8, 8, 8, 8, 8, 8, 8, 8, 8, 8, 8, 8, 8, 8, 8, 8, 8, 8, 8, 8, 8, 8, 8, 8, 8, 8, 8, 8, 8, 8, 8, 8, 8, 8, 8, 8, 8, 8, 8, 8, 8, 8, 8, 8]⟩ : BA).size : Int)) then
 some (IntKind.wrap .i64 ((0 : Int) + IntKind.wrap .i64 (z7 (⟨#[0, 1, 2, 2, 3, 3, 3, 3, 4, 4, 4, 4, 4, 4, 4, 4, 5, 5, 5, 5, 5, 5, 5, 5, 5, 5, 5, 5, 5, 5, 5, 5, 6, 6, 6, 6, 6, 6, 6, 6, 6, 6, 6, 6, 6, 6, 6, 6, 6, 6, 6, 6, 6, 6, 6, 6, 6, 6, 6, 6, 6, 6, 6, 6, 7, 7, 7, 7, 7, 7, 7, 7, 7, 7, 7, 7, 7, 7, 7, 7, 7, 7, 7, 7, 7, 7, 7, 7, 7, 7, 7, 7, 7, 7, 7, 7, 7, 7, 7, 7, 7, 7, 7, 7, 7, 7, 7, 7, 7, 7, 7, 7, 7, 7, 7, 7, 7, 7, 7, 7, 7, 7, 7, 7, 7, 7, 7, 7, 8, 8, 8, 8, 8, 8, 8, 8, 8, 8, 8, 8, 8, 8, 8, 8, 8, 8, 8, 8, 8, 8, 8, 8, 8, 8, 8, 8, 8, 8, 8, 8, 8, 8, 8, 8, 8, 8, 8, 8, 8, 8, 8, 8, 8, 8, 8, 8, 8, 8, 8, 8, 8, 8, 8, 8, 8, 8, 8, 8, 8, 8, 8, 8, 8, 8, 8, 8, 8, 8, 8, 8, 8, 8, 8, 8, 8, 8, 8, 8, 8, 8, 8, 8, 8, 8, 8, 8, 8, 8, 8, 8, 8, 8, 8, 8, 8, 8, 8, 8, 8, 8, 8, 8, 8, 8, 8, 8, 8, 8, 8, 8, 8, 8, 8, 8, 8, 8, 8, 8, 8, 8, 8, 8, 8, 8, 8, 8]⟩ : BA) (IntKind.wrap .u8 x))))
 else
 (none)
theorem f185.eq (n : Nat) (x : Int) : rK Nl OQ n 1 185 (zu [(false, .int .u64)] x) (zq [(false, .int .i64)]) = f185.g n x := by
 kernel_rfl
theorem f185.codes : CdO Nl OQ := zm (aC Tryz.func185 aN) (by kernel_rfl)
theorem f185.ok (h : Run S0 f185.g)  : CO 185 (zk [(false, .int .u64)] [(false, .int .i64)] true S0) :=
 zn zE zD zj f185.codes (fun _ => Nw.1 rfl) (h.go f185.eq)
def ap : Con := zk [(false, .int .u64)] [(false, .int .i64)] true S0
def OV : FuncId → Option Con := (zN 185 ap yc)
noncomputable def On : List (FuncId × Func) := [(161, Tryz.f161)]
def f161.g (n : Nat) (x : Int) : Option (Int) :=
 (S0 x).bind fun r1 =>
 some (IntKind.wrap .i64 (Int.tdiv (IntKind.wrap .i64 (r1 + (7 : Int))) (8 : Int)))
theorem f161.eq (n : Nat) (x : Int) : rK OV On n 1 161 (zu [(false, .int .u64)] x) (zq [(false, .int .i64)]) = f161.g n x := by
 kernel_rfl
theorem f161.codes : CdO OV On := zm (aC Tryz.func161 aN) (by kernel_rfl)
theorem f161.ok (h : Run VS f161.g) (e185 : CO 185 ap) : CO 161 (zk [(false, .int .u64)] [(false, .int .i64)] true VS) :=
 zn zE zD (zf e185 zj) f161.codes (fun _ => Nw.1 rfl) (h.go f161.eq)
def bL : Con := zk [(false, .int .u64)] [(false, .int .i64)] true VS
def PG : FuncId → Option Con := yc
noncomputable def PA : List (FuncId × Func) := [(110, Tryz.f110)]
def f110.h1 (x : Int) (y1 : Int × Int) : List AV × List Ob := ([vv [.sc (.int .u64) y1.1], .undef, .undef, vv [cI y1.2]] ++ uN 7 [], [])
def f110.L1 (n : Nat) (x : Int) (m1 : Nat) (y1 : Int × Int) : Option (Int) :=
 lK (ann 110 2) 0 PG PA n 1 110 Tryz.f110 [1, 1, 0, 0, 0] [1, 1, 0, 0] m1 (f110.h1 x y1) (un TT Tryz.f110 (zq [(false, .int .i64)]))
def f110.s1 (n : Nat) (x : Int) (S1 : (Int × Int) → Option (Int)) (y1 : Int × Int) : Option (Int) :=
 bif decide (y1.1 > (0 : Int)) then
 S1 (zA .shr .u64 y1.1 (8 : Int), IntKind.wrap .i64 (y1.2 + (1 : Int)))
 else
 some y1.2
theorem f110.l1 (n : Nat) (x : Int) : ∀ (m : Nat) (y1 : Int × Int), f110.L1 n x m y1 = zY (f110.s1 n x) m y1 :=
 zM (fun _ => rfl) fun m y => by kernel_rfl
def f110.g (n : Nat) (x : Int) : Option (Int) :=
 zY (f110.s1 n x) n (x, (0 : Int))
theorem f110.eq (n : Nat) (x : Int) : rK PG PA n 1 110 (zu [(false, .int .u64)] x) (zq [(false, .int .i64)]) = f110.g n x := by
 simp only [f110.g, ← f110.l1]
 kernel_rfl
theorem f110.codes : CdO PG PA := zm (aC Tryz.func110 aN) (by kernel_rfl)
theorem f110.ok (h : Run UC f110.g)  : CO 110 (zk [(false, .int .u64)] [(false, .int .i64)] true UC) :=
 zn zE zD zj f110.codes (fun _ => Nw.1 rfl) (h.go f110.eq)
def bf : Con := zk [(false, .int .u64)] [(false, .int .i64)] true UC
abbrev f162.Z0 : Type := (Int × Int) × List Int
abbrev f162.Z1 : Type := Nat × Int × (List Int)
abbrev f162.A2 : Sig := [(false, .int .u64), (false, .int .i64)]
def PP : FuncId → Option Con := yc
noncomputable def Px : List (FuncId × Func) := [(162, Tryz.f162)]
def f162.h1 (x : f162.Z0) (y1 : f162.Z1) : List AV × List Ob := ([vv [.own 0 y1.1], vv [.sc (.int .u64) x.1.1]] ++ uN 5 ([vv [cI y1.2.1]] ++ uN 15 []), [.arr 5 (.int .u8) y1.2.2])
def f162.L1 (n : Nat) (x : f162.Z0) (m1 : Nat) (y1 : f162.Z1) : Option (List Int) :=
 lK (ann 162 2) 1 PP Px n 1 162 Tryz.f162 [1, 0, 1, 0, 0] [1, 0, 1, 0] m1 (f162.h1 x y1) (un TT Tryz.f162 (wQ 5 (.int .u8)))
def f162.s1 (n : Nat) (x : f162.Z0) (S1 : (Nat × Int × (List Int)) → Option (List Int)) (y1 : f162.Z1) : Option (List Int) :=
 bif decide (y1.2.1 ≥ (0 : Int)) then
 bif decide (IntKind.wrap .i64 ((8 : Int) * y1.2.1) < 0) then
 (none)
 else
 bif decide ((y1.1 + 1) * 1 ≤ zo) then
 S1 (y1.1 + 1, (IntKind.wrap .i64 (y1.2.1 - (1 : Int)), List.take y1.1 y1.2.2 ++ ([IntKind.wrap .u8 (zA .shr .u64 x.1.1 (IntKind.wrap .i64 ((8 : Int) * y1.2.1)))])))
 else
 (none)
 else
 some (List.take y1.1 y1.2.2)
theorem f162.l1 (n : Nat) (x : f162.Z0) : ∀ (m : Nat) (y1 : f162.Z1), f162.L1 n x m y1 = zY (f162.s1 n x) m y1 :=
 zM (fun _ => rfl) fun m y => by kernel_rfl
def f162.g (n : Nat) (x : f162.Z0) : Option (List Int) :=
 zY (f162.s1 n x) n (x.2.length, (IntKind.wrap .i64 (x.1.2 - (1 : Int)), x.2))
theorem f162.eq (n : Nat) (x : f162.Z0) : iR TT PP n ann (xW Px) 1 162 (v7 f162.A2 (.int .u8) x) (uT 5 (.int .u8) x.2) (wQ 5 (.int .u8)) = f162.g n x := by
 simp only [f162.g, ← f162.l1]
 kernel_rfl
theorem f162.codes : CdO PP Px := zm (aC Tryz.func162 aN) (by kernel_rfl)
theorem f162.ok (h : Run YM f162.g)  : CO 162 (xv f162.A2 5 (.int .u8) YM) :=
 uD zE zD zj f162.codes (h.go f162.eq)
def lF : Con := xv f162.A2 5 (.int .u8) YM
def OK : FuncId → Option Con := (zN 162 lF (zN 161 bL yc))
noncomputable def OA : List (FuncId × Func) := [(121, Tryz.f121)]
def f121.g (n : Nat) (x : Int × List Int) : Option (List Int) :=
 bif decide (x.1 ≥ (0 : Int)) then
 (VS (IntKind.wrap .u64 x.1)).bind fun r1 =>
 bif decide ((x.2.length + 1) * 1 ≤ zo) then
 (YM ((IntKind.wrap .u64 x.1, r1), List.take (x.2.length + 1) (List.take x.2.length x.2 ++ ([IntKind.wrap .u8 (IntKind.wrap .i64 ((128 : Int) + r1))])))).bind fun r2 =>
 some (List.take r2.length r2)
 else
 (none)
 else
 (VS (IntKind.wrap .u64 (IntKind.wrap .i64 (0 - IntKind.wrap .i64 (x.1 + (1 : Int)))))).bind fun r3 =>
 bif decide ((x.2.length + 1) * 1 ≤ zo) then
 (YM ((xU .xor .u64 (if IntKind.u64.signed = true then -1 else IntKind.u64.max) (IntKind.wrap .u64 (IntKind.wrap .i64 (0 - IntKind.wrap .i64 (x.1 + (1 : Int))))), mz true r3 (1 : Int)), List.take (x.2.length + 1) (List.take x.2.length x.2 ++ ([IntKind.wrap .u8 (IntKind.wrap .i64 ((128 : Int) - mz true r3 (1 : Int)))])))).bind fun r4 =>
 some (List.take r4.length r4)
 else
 (none)
theorem f121.eq (n : Nat) (x : Int × List Int) : iR TT OK n ann (xW OA) 1 121 (v7 [(false, .int .i64)] (.int .u8) x) (uT 5 (.int .u8) x.2) (wQ 5 (.int .u8)) = f121.g n x := by
 kernel_rfl
theorem f121.codes : CdO OK OA := zm (aC Tryz.func121 aN) (by kernel_rfl)
theorem f121.ok (h : Run Uu f121.g) (e161 : CO 161 bL) (e162 : CO 162 lF) : CO 121 (xv [(false, .int .i64)] 5 (.int .u8) Uu) :=
 uD zE zD (zf e162 (zf e161 zj)) f121.codes (h.go f121.eq)
def ao : Con := xv [(false, .int .i64)] 5 (.int .u8) Uu
def Ow : FuncId → Option Con := (zN 162 lF (zN 63 oB yc))
noncomputable def Nf : List (FuncId × Func) := [(122, Tryz.f122)]
def f122.g (n : Nat) (x : Nat × List Int) : Option (List Int) :=
 (F63 x.1).bind fun r1 =>
 bif zA .shr .u64 r1 (63 : Int) == (0 : Int) then
 (YM ((xU .or .u64 r1 (9223372036854775808 : Int), (8 : Int)), List.take x.2.length x.2)).bind fun r2 =>
 some (List.take r2.length r2)
 else
 (YM ((xU .xor .u64 (if IntKind.u64.signed = true then -1 else IntKind.u64.max) r1, (8 : Int)), List.take x.2.length x.2)).bind fun r3 =>
 some (List.take r3.length r3)
theorem f122.eq (n : Nat) (x : Nat × List Int) : iR TT Ow n ann (xW Nf) 1 122 (v7 [(false, .float .f64)] (.int .u8) x) (uT 5 (.int .u8) x.2) (wQ 5 (.int .u8)) = f122.g n x := by
 kernel_rfl
theorem f122.codes : CdO Ow Nf := zm (aC Tryz.func122 aN) (by kernel_rfl)
theorem f122.ok (h : Run TV f122.g) (e63 : CO 63 oB) (e162 : CO 162 lF) : CO 122 (xv [(false, .float .f64)] 5 (.int .u8) TV) :=
 uD zE zD (zf e162 (zf e63 zj)) f122.codes (h.go f122.eq)
def Yn : Con := xv [(false, .float .f64)] 5 (.int .u8) TV
def OM : FuncId → Option Con := (zN 164 ak yc)
noncomputable def O2 : List (FuncId × Func) := [(124, Tryz.f124)]
def f124.g (n : Nat) (x : ByteArray × List Int) : Option (List Int) :=
 (PW (x.1, ((⟨#[0]⟩ : BA), (⟨#[0, 255]⟩ : BA)))).bind fun r1 =>
 bif decide ((x.2.length + ((tw r1).length)) * 1 ≤ zo) then
 bif decide (((x.2.length + ((tw r1).length)) + 1) * 1 ≤ zo) then
 some (List.take ((x.2.length + ((tw r1).length)) + 1) (List.take (x.2.length + ((tw r1).length)) (List.take x.2.length x.2 ++ (tw r1)) ++ ([(0 : Int)])))
 else
 (none)
 else
 (none)
theorem f124.eq (n : Nat) (x : ByteArray × List Int) : iR TT OM n ann (xW O2) 1 124 (v7 [(false, .str)] (.int .u8) x) (uT 5 (.int .u8) x.2) (wQ 5 (.int .u8)) = f124.g n x := by
 kernel_rfl
theorem f124.codes : CdO OM O2 := zm (aC Tryz.func124 aN) (by kernel_rfl)
theorem f124.ok (h : Run Wa f124.g) (e164 : CO 164 ak) : CO 124 (xv [(false, .str)] 5 (.int .u8) Wa) :=
 uD zE zD (zf e164 zj) f124.codes (h.go f124.eq)
def bD : Con := xv [(false, .str)] 5 (.int .u8) Wa
def E76 : FuncId → Option Con := (zN 124 bD (zN 123 Zg (zN 122 Yn (zN 121 ao yc))))
noncomputable def C76 : List (FuncId × Func) := [(76, Tryz.f76)]
def f76.g (n : Nat) (x : zc × List Int) : Option (List Int) :=
 bif x.1.1 == (1 : Int) then
 bif decide ((x.2.length + 2) * 1 ≤ zo) then
 some (List.take (x.2.length + 2) (List.take x.2.length x.2 ++ ([(2 : Int), IntKind.wrap .u8 x.1.2.1])))
 else
 (none)
 else
 bif x.1.1 == (2 : Int) then
 bif decide ((x.2.length + 1) * 1 ≤ zo) then
 (Uu (x.1.2.1, List.take (x.2.length + 1) (List.take x.2.length x.2 ++ ([(3 : Int)])))).bind fun r1 =>
 some (List.take r1.length r1)
 else
 (none)
 else
 bif x.1.1 == (3 : Int) then
 bif decide ((x.2.length + 1) * 1 ≤ zo) then
 (Rf x.1).bind fun r2 =>
 (TV (r2.2.2.1, List.take (x.2.length + 1) (List.take x.2.length x.2 ++ ([(4 : Int)])))).bind fun r3 =>
 some (List.take r3.length r3)
 else
 (none)
 else
 bif x.1.1 == (4 : Int) then
 bif decide ((x.2.length + 1) * 1 ≤ zo) then
 (Wa (x.1.2.2.2, List.take (x.2.length + 1) (List.take x.2.length x.2 ++ ([(5 : Int)])))).bind fun r4 =>
 some (List.take r4.length r4)
 else
 (none)
 else
 bif x.1.1 == (5 : Int) then
 bif decide ((x.2.length + 1) * 1 ≤ zo) then
 (Wa (x.1.2.2.2, List.take (x.2.length + 1) (List.take x.2.length x.2 ++ ([(6 : Int)])))).bind fun r5 =>
 some (List.take r5.length r5)
 else
 (none)
 else
 bif decide ((x.2.length + 1) * 1 ≤ zo) then
 some (List.take (x.2.length + 1) (List.take x.2.length x.2 ++ ([(1 : Int)])))
 else
 (none)
theorem f76.eq (n : Nat) (x : zc × List Int) : iR TT E76 n ann (xW C76) 1 76 (v7 [(true, tValue)] (.int .u8) x) (uT 5 (.int .u8) x.2) (wQ 5 (.int .u8)) = f76.g n x := by
 kernel_rfl
theorem f76.codes : CdO E76 C76 := zm (aC Tryz.func76 aN) (by kernel_rfl)
theorem f76.ok (h : Run F76 f76.g) (e121 : CO 121 ao) (e122 : CO 122 Yn) (e123 : CO 123 Zg) (e124 : CO 124 bD) : CO 76 (xv [(true, tValue)] 5 (.int .u8) F76) :=
 uD zE zD (zf e124 (zf e123 (zf e122 (zf e121 zj)))) f76.codes (h.go f76.eq)
def Sc : Con := xv [(true, tValue)] 5 (.int .u8) F76
abbrev f46.Z0 : Type := Nat × Int × (List Int)
abbrev f46.Y1 : Type := ByteArray × Int
abbrev f46.A2 : Sig := [(false, .str), (false, .int .i64)]
def E46 : FuncId → Option Con := (zN 76 Sc (zN 75 rX yc))
noncomputable def C46 : List (FuncId × Func) := [(46, Tryz.f46)]
def f46.h1 (x : (List zc)) (y1 : Int) (y3 : f46.Z0) : List AV × List Ob := (uN 6 ([vv [.own 0 y3.1]] ++ uN 12 ([vv [.sc (.sl tValue) x], vv [cI (x.length : Int)], vv [cI y3.2.1]] ++ uN 12 [])), [.arr 5 (.int .u8) y3.2.2])
def f46.h2 (x : (List zc)) (y1 : Int) : List AV × List Ob := ([vv [.sc (.sl tValue) x]] ++ uN 8 ([vv [.sc (.sl tValue) x], vv [cI (x.length : Int)], vv [cI y1]] ++ uN 22 []), [])
def f46.L1 (n : Nat) (x : (List zc)) (y1 : Int) (m3 : Nat) (y3 : f46.Z0) : Option f46.Y1 :=
 lK (ann 46 9) 1 E46 C46 n 1 46 Tryz.f46 [1, 1, 1, 0, 1, 0, 0] [1, 1, 1, 0, 1, 0] m3 (f46.h1 x y1 y3) (un TT Tryz.f46 (zq f46.A2))
def f46.L2 (n : Nat) (x : (List zc)) (m1 : Nat) (y1 : Int) : Option f46.Y1 :=
 lK (ann 46 2) 0 E46 C46 n 1 46 Tryz.f46 [1, 0, 1, 0, 0] [1, 0, 1, 0] m1 (f46.h2 x y1) (un TT Tryz.f46 (zq f46.A2))
def f46.s1 (n : Nat) (x : (List zc)) (y1 : Int) (S3 : (Nat × Int × (List Int)) → Option f46.Y1) (y3 : f46.Z0) : Option f46.Y1 :=
 bif decide (y3.2.1 < (x.length : Int)) then
 bif decide (0 ≤ y3.2.1) && decide (y3.2.1 < (x.length : Int)) then
 (F76 (x.getD y3.2.1.toNat tValue.dflt, List.take y3.1 y3.2.2)).bind fun r4 =>
 bif decide (((r4.length : Nat) : Int) > (1024 : Int)) then
 some ((⟨#[]⟩ : BA), (3 : Int))
 else
 S3 (r4.length, (IntKind.wrap .i64 (y3.2.1 + (1 : Int)), r4))
 else
 (none)
 else
 some (zC (List.take y3.1 y3.2.2), (0 : Int))
theorem f46.l1 (n : Nat) (x : (List zc)) (y1 : Int) : ∀ (m : Nat) (y3 : f46.Z0), f46.L1 n x y1 m y3 = zY (f46.s1 n x y1) m y3 :=
 zM (fun _ => rfl) fun m y => by kernel_rfl
def f46.s2 (n : Nat) (x : (List zc)) (S1 : Int → Option f46.Y1) (y1 : Int) : Option f46.Y1 :=
 bif decide (y1 < (x.length : Int)) then
 bif decide (0 ≤ y1) && decide (y1 < (x.length : Int)) then
 (F75 (x.getD y1.toNat tValue.dflt)).bind fun r2 =>
 bif r2 != (0 : Int) then
 some ((⟨#[]⟩ : BA), (10 : Int))
 else
 S1 (IntKind.wrap .i64 (y1 + (1 : Int)))
 else
 (none)
 else
 zY (f46.s1 n x y1) n (0, ((0 : Int), []))
theorem f46.k2 (n : Nat) (x : (List zc)) (m : Nat) (y : Int) : f46.L2 n x (m + 1) y = f46.s2 n x (f46.L2 n x m) y := by
 simp only [f46.s2, ← f46.l1]
 kernel_rfl
theorem f46.l2 (n : Nat) (x : (List zc)) : ∀ (m : Nat) (y1 : Int), f46.L2 n x m y1 = zY (f46.s2 n x) m y1 :=
 zM (L := f46.L2 n x) (step := f46.s2 n x) (fun _ => rfl) (f46.k2 n x)
def f46.g (n : Nat) (x : (List zc)) : Option f46.Y1 :=
 zY (f46.s2 n x) n (0 : Int)
theorem f46.eq (n : Nat) (x : (List zc)) : rK E46 C46 n 1 46 (zu [(false, .sl tValue)] x) (zq f46.A2) = f46.g n x := by
 simp only [f46.g, ← f46.l1, ← f46.l2]
 kernel_rfl
theorem f46.codes : CdO E46 C46 := zm (aC Tryz.func46 aN) (by kernel_rfl)
theorem f46.ok (h : Run F46 f46.g) (e75 : CO 75 rX) (e76 : CO 76 Sc) : CO 46 (zk [(false, .sl tValue)] f46.A2 true F46) :=
 zn zE zD (zf e76 (zf e75 zj)) f46.codes (fun _ => Nw.1 rfl) (h.go f46.eq)
def US : Con := zk [(false, .sl tValue)] f46.A2 true F46
abbrev f21.A0 : Sig := [(true, .pair .str (.pair .str .bool)), (false, .int .i64)]
def E21 : FuncId → Option Con := (zN 46 US yc)
noncomputable def C21 : List (FuncId × Func) := [(21, Tryz.f21)]
def f21.g (n : Nat) (x : (List zc)) : Option ((ByteArray × (ByteArray × Bool)) × Int) :=
 (F46 x).bind fun r1 =>
 bif r1.2 != (0 : Int) then
 some (((⟨#[]⟩ : BA), ((⟨#[]⟩ : BA), false)), r1.2)
 else
 bif decide (r1.1.size + (⟨#[255]⟩ : BA).size ≤ y8) then
 some ((r1.1, (r1.1 ++ (⟨#[255]⟩ : BA), false)), (0 : Int))
 else
 (none)
theorem f21.eq (n : Nat) (x : (List zc)) : rK E21 C21 n 1 21 (zu [(false, .sl tValue)] x) (zq f21.A0) = f21.g n x := by
 kernel_rfl
theorem f21.codes : CdO E21 C21 := zm (aC Tryz.func21 aN) (by kernel_rfl)
theorem f21.ok (h : Run F21 f21.g) (e46 : CO 46 US) : CO 21 (zk [(false, .sl tValue)] f21.A0 true F21) :=
 zn zE zD (zf e46 zj) f21.codes (fun _ => Nw.1 rfl) (h.go f21.eq)
def ig : Con := zk [(false, .sl tValue)] f21.A0 true F21
abbrev f24.A0 : Sig := [(true, .pair .str (.pair .str .bool)), (false, .int .i64)]
abbrev f24.A1 : Sig := [(false, .sl tValue), (false, .bool)]
def E24 : FuncId → Option Con := (zN 21 ig yc)
noncomputable def C24 : List (FuncId × Func) := [(24, Tryz.f24)]
def f24.g (n : Nat) (x : (List zc) × Bool) : Option ((ByteArray × (ByteArray × Bool)) × Int) :=
 (F21 x.1).bind fun r1 =>
 bif r1.2 != (0 : Int) then
 some r1
 else
 bif x.2 then
 some ((r1.1.1, ((⟨#[]⟩ : BA), true)), (0 : Int))
 else
 some ((r1.1.2.1, ((⟨#[]⟩ : BA), true)), (0 : Int))
theorem f24.eq (n : Nat) (x : (List zc) × Bool) : rK E24 C24 n 1 24 (zu f24.A1 x) (zq f24.A0) = f24.g n x := by
 kernel_rfl
theorem f24.codes : CdO E24 C24 := zm (aC Tryz.func24 aN) (by kernel_rfl)
theorem f24.ok (h : Run F24 f24.g) (e21 : CO 21 ig) : CO 24 (zk f24.A1 f24.A0 true F24) :=
 zn zE zD (zf e21 zj) f24.codes (fun _ => Nw.1 rfl) (h.go f24.eq)
def SV : Con := zk f24.A1 f24.A0 true F24
abbrev f26.A0 : Sig := [(true, .pair .str (.pair .str .bool)), (false, .int .i64)]
abbrev f26.A1 : Sig := [(false, .sl tValue), (false, .bool)]
def E26 : FuncId → Option Con := (zN 21 ig yc)
noncomputable def C26 : List (FuncId × Func) := [(26, Tryz.f26)]
def f26.g (n : Nat) (x : (List zc) × Bool) : Option ((ByteArray × (ByteArray × Bool)) × Int) :=
 (F21 x.1).bind fun r1 =>
 bif r1.2 != (0 : Int) then
 some r1
 else
 bif x.2 then
 some (((⟨#[]⟩ : BA), (r1.1.2.1, false)), (0 : Int))
 else
 some (((⟨#[]⟩ : BA), (r1.1.1, false)), (0 : Int))
theorem f26.eq (n : Nat) (x : (List zc) × Bool) : rK E26 C26 n 1 26 (zu f26.A1 x) (zq f26.A0) = f26.g n x := by
 kernel_rfl
theorem f26.codes : CdO E26 C26 := zm (aC Tryz.func26 aN) (by kernel_rfl)
theorem f26.ok (h : Run F26 f26.g) (e21 : CO 21 ig) : CO 26 (zk f26.A1 f26.A0 true F26) :=
 zn zE zD (zf e21 zj) f26.codes (fun _ => Nw.1 rfl) (h.go f26.eq)
def T1 : Con := zk f26.A1 f26.A0 true F26
abbrev f23.Z0 : Type := (ByteArray × (ByteArray × Bool)) × (ByteArray × (ByteArray × Bool))
abbrev f23.A1 : Sig := [(true, .pair .str (.pair .str .bool)), (true, .pair .str (.pair .str .bool))]
abbrev f23.A2 : Sig := [(true, .pair .str (.pair .str .bool))]
def E23 : FuncId → Option Con := yc
noncomputable def C23 : List (FuncId × Func) := [(23, Tryz.f23), (47, Tryz.f47)]
def f23.g (n : Nat) (x : f23.Z0) : Option ((ByteArray × (ByteArray × Bool))) :=
 bif bif x.1.2.2 then x.2.2.2 else false then
 bif bif (!(bif x.1.2.2 then x.2.2.2 else false)) then (!(yA (na true x.1.1 x.2.1) (⟨#[]⟩ : BA))) else false then
 some ((⟨#[]⟩ : BA), ((⟨#[]⟩ : BA), false))
 else
 some (na true x.1.1 x.2.1, ((⟨#[]⟩ : BA), bif x.1.2.2 then x.2.2.2 else false))
 else
 bif x.1.2.2 then
 bif bif (!(bif x.1.2.2 then x.2.2.2 else false)) then (!(yA (na true x.1.1 x.2.1) x.2.2.1)) else false then
 some ((⟨#[]⟩ : BA), ((⟨#[]⟩ : BA), false))
 else
 some (na true x.1.1 x.2.1, (x.2.2.1, bif x.1.2.2 then x.2.2.2 else false))
 else
 bif x.2.2.2 then
 bif bif (!(bif x.1.2.2 then x.2.2.2 else false)) then (!(yA (na true x.1.1 x.2.1) x.1.2.1)) else false then
 some ((⟨#[]⟩ : BA), ((⟨#[]⟩ : BA), false))
 else
 some (na true x.1.1 x.2.1, (x.1.2.1, bif x.1.2.2 then x.2.2.2 else false))
 else
 bif bif (!(bif x.1.2.2 then x.2.2.2 else false)) then (!(yA (na true x.1.1 x.2.1) (na false x.1.2.1 x.2.2.1))) else false then
 some ((⟨#[]⟩ : BA), ((⟨#[]⟩ : BA), false))
 else
 some (na true x.1.1 x.2.1, (na false x.1.2.1 x.2.2.1, bif x.1.2.2 then x.2.2.2 else false))
theorem f23.eq (n : Nat) (x : f23.Z0) : rK E23 C23 n 2 23 (zu f23.A1 x) (zq f23.A2) = f23.g n x := by
 kernel_rfl
theorem f23.codes : CdO E23 C23 := zm (aC Tryz.func23 (aC Tryz.func47 aN)) (by kernel_rfl)
theorem f23.ok (h : Run F23 f23.g)  : CO 23 (zk f23.A1 f23.A2 true F23) :=
 zn zE zD zj f23.codes (fun _ => Nw.1 rfl) (h.go f23.eq)
def UD : Con := zk f23.A1 f23.A2 true F23
abbrev f111.Z0 : Type := Nat × Int × (List Int)
abbrev f111.A1 : Sig := [(false, .int .u64), (false, .int .i64)]
abbrev f111.A2 : Sig := [(false, .sl (.int .u8))]
def PN : FuncId → Option Con := yc
noncomputable def Og : List (FuncId × Func) := [(111, Tryz.f111)]
def f111.h1 (x : Int × Int) (y1 : f111.Z0) : List AV × List Ob := ([vv [.sc (.int .u64) x.1]] ++ uN 4 ([vv [.own 0 y1.1], vv [cI y1.2.1]] ++ uN 16 []), [.arr 5 (.int .u8) y1.2.2])
def f111.L1 (n : Nat) (x : Int × Int) (m1 : Nat) (y1 : f111.Z0) : Option ((List Int)) :=
 lK (ann 111 3) 1 PN Og n 1 111 Tryz.f111 [1, 1, 0, 1, 0, 0] [1, 1, 0, 1, 0] m1 (f111.h1 x y1) (un TT Tryz.f111 (zq f111.A2))
def f111.s1 (n : Nat) (x : Int × Int) (S1 : (Nat × Int × (List Int)) → Option ((List Int))) (y1 : f111.Z0) : Option ((List Int)) :=
 bif decide (y1.2.1 ≥ (0 : Int)) then
 bif decide (IntKind.wrap .u64 (IntKind.wrap .i64 ((8 : Int) * y1.2.1)) < 0) then
 (none)
 else
 bif decide ((y1.1 + 1) * 1 ≤ zo) then
 S1 (y1.1 + 1, (IntKind.wrap .i64 (y1.2.1 - (1 : Int)), List.take y1.1 y1.2.2 ++ ([IntKind.wrap .u8 (zA .shr .u64 x.1 (IntKind.wrap .u64 (IntKind.wrap .i64 ((8 : Int) * y1.2.1))))])))
 else
 (none)
 else
 some (List.take y1.1 y1.2.2)
theorem f111.l1 (n : Nat) (x : Int × Int) : ∀ (m : Nat) (y1 : f111.Z0), f111.L1 n x m y1 = zY (f111.s1 n x) m y1 :=
 zM (fun _ => rfl) fun m y => by kernel_rfl
def f111.g (n : Nat) (x : Int × Int) : Option ((List Int)) :=
 zY (f111.s1 n x) n (0, (IntKind.wrap .i64 (x.2 - (1 : Int)), []))
theorem f111.eq (n : Nat) (x : Int × Int) : rK PN Og n 1 111 (zu f111.A1 x) (zq f111.A2) = f111.g n x := by
 simp only [f111.g, ← f111.l1]
 kernel_rfl
theorem f111.codes : CdO PN Og := zm (aC Tryz.func111 aN) (by kernel_rfl)
theorem f111.ok (h : Run nv f111.g)  : CO 111 (zk f111.A1 f111.A2 false nv) :=
 zn zE zD zj f111.codes (fun h => by cases h) (h.go f111.eq)
def lU : Con := zk f111.A1 f111.A2 false nv
abbrev f65.A0 : Sig := [(false, .sl (.int .u8))]
def E65 : FuncId → Option Con := (zN 111 lU (zN 110 bf yc))
noncomputable def C65 : List (FuncId × Func) := [(65, Tryz.f65)]
def f65.g (n : Nat) (x : Int) : Option ((List Int)) :=
 bif decide (x ≥ (0 : Int)) then
 (UC (IntKind.wrap .u64 x)).bind fun r1 =>
 bif decide (1 * 1 ≤ zo) then
 (nv (IntKind.wrap .u64 x, r1)).bind fun r2 =>
 bif decide ((1 + r2.length) * 1 ≤ zo) then
 some (List.take (1 + r2.length) (List.take 1 ([IntKind.wrap .u8 (IntKind.wrap .i64 ((128 : Int) + r1))]) ++ r2))
 else
 (none)
 else
 (none)
 else
 (UC (IntKind.wrap .u64 (IntKind.wrap .i64 (0 - IntKind.wrap .i64 (x + (1 : Int)))))).bind fun r3 =>
 bif r3 == (0 : Int) then
 bif decide (1 * 1 ≤ zo) then
 (nv (xU .xor .u64 (if IntKind.u64.signed = true then -1 else IntKind.u64.max) (IntKind.wrap .u64 (IntKind.wrap .i64 (0 - IntKind.wrap .i64 (x + (1 : Int))))), (1 : Int))).bind fun r4 =>
 bif decide ((1 + r4.length) * 1 ≤ zo) then
 some (List.take (1 + r4.length) (List.take 1 ([(127 : Int)]) ++ r4))
 else
 (none)
 else
 (none)
 else
 bif decide (1 * 1 ≤ zo) then
 (nv (xU .xor .u64 (if IntKind.u64.signed = true then -1 else IntKind.u64.max) (IntKind.wrap .u64 (IntKind.wrap .i64 (0 - IntKind.wrap .i64 (x + (1 : Int))))), r3)).bind fun r5 =>
 bif decide ((1 + r5.length) * 1 ≤ zo) then
 some (List.take (1 + r5.length) (List.take 1 ([IntKind.wrap .u8 (IntKind.wrap .i64 ((128 : Int) - r3))]) ++ r5))
 else
 (none)
 else
 (none)
theorem f65.eq (n : Nat) (x : Int) : rK E65 C65 n 1 65 (zu [(false, .int .i64)] x) (zq f65.A0) = f65.g n x := by
 kernel_rfl
theorem f65.codes : CdO E65 C65 := zm (aC Tryz.func65 aN) (by kernel_rfl)
theorem f65.ok (h : Run F65 f65.g) (e110 : CO 110 bf) (e111 : CO 111 lU) : CO 65 (zk [(false, .int .i64)] f65.A0 false F65) :=
 zn zE zD (zf e111 (zf e110 zj)) f65.codes (fun h => by cases h) (h.go f65.eq)
def V9 : Con := zk [(false, .int .i64)] f65.A0 false F65
abbrev f66.A0 : Sig := [(false, .sl (.int .u8))]
def E66 : FuncId → Option Con := (zN 111 lU (zN 63 oB yc))
noncomputable def C66 : List (FuncId × Func) := [(66, Tryz.f66)]
def f66.g (n : Nat) (x : Nat) : Option ((List Int)) :=
 (F63 x).bind fun r1 =>
 bif FloatKind.f64.format.order x 0 == some .eq then
 bif FloatKind.f64.format.order x x != some .eq then
 bif zA .shr .u64 (9221120237041090560 : Int) (63 : Int) == (0 : Int) then
 (nv (xU .xor .u64 (9221120237041090560 : Int) (9223372036854775808 : Int), (8 : Int))).bind fun r2 =>
 some r2
 else
 (nv (xU .xor .u64 (if IntKind.u64.signed = true then -1 else IntKind.u64.max) (9221120237041090560 : Int), (8 : Int))).bind fun r3 =>
 some r3
 else
 bif zA .shr .u64 (0 : Int) (63 : Int) == (0 : Int) then
 (nv (xU .xor .u64 (0 : Int) (9223372036854775808 : Int), (8 : Int))).bind fun r4 =>
 some r4
 else
 (nv (xU .xor .u64 (if IntKind.u64.signed = true then -1 else IntKind.u64.max) (0 : Int), (8 : Int))).bind fun r5 =>
 some r5
 else
 bif FloatKind.f64.format.order x x != some .eq then
 bif zA .shr .u64 (9221120237041090560 : Int) (63 : Int) == (0 : Int) then
 (nv (xU .xor .u64 (9221120237041090560 : Int) (9223372036854775808 : Int), (8 : Int))).bind fun r6 =>
 some r6
 else
 (nv (xU .xor .u64 (if IntKind.u64.signed = true then -1 else IntKind.u64.max) (9221120237041090560 : Int), (8 : Int))).bind fun r7 =>
 some r7
 else
 bif zA .shr .u64 r1 (63 : Int) == (0 : Int) then
 (nv (xU .xor .u64 r1 (9223372036854775808 : Int), (8 : Int))).bind fun r8 =>
 some r8
 else
 (nv (xU .xor .u64 (if IntKind.u64.signed = true then -1 else IntKind.u64.max) r1, (8 : Int))).bind fun r9 =>
 some r9
theorem f66.eq (n : Nat) (x : Nat) : rK E66 C66 n 1 66 (zu [(false, .float .f64)] x) (zq f66.A0) = f66.g n x := by
 kernel_rfl
theorem f66.codes : CdO E66 C66 := zm (aC Tryz.func66 aN) (by kernel_rfl)
theorem f66.ok (h : Run F66 f66.g) (e63 : CO 63 oB) (e111 : CO 111 lU) : CO 66 (zk [(false, .float .f64)] f66.A0 false F66) :=
 zn zE zD (zf e111 (zf e63 zj)) f66.codes (fun h => by cases h) (h.go f66.eq)
def Sf : Con := zk [(false, .float .f64)] f66.A0 false F66
abbrev f67.Z0 : Type := Nat × Int × (List Int)
abbrev f67.A1 : Sig := [(false, .sl (.int .u8))]
def E67 : FuncId → Option Con := yc
noncomputable def C67 : List (FuncId × Func) := [(67, Tryz.f67)]
def f67.h1 (x : ByteArray) (y1 : f67.Z0) : List AV × List Ob := ([vv [cT x], .undef, .undef, vv [.own 0 y1.1], vv [cI y1.2.1]] ++ uN 22 [], [.arr 5 (.int .u8) y1.2.2])
def f67.L1 (n : Nat) (x : ByteArray) (m1 : Nat) (y1 : f67.Z0) : Option ((List Int)) :=
 lK (ann 67 3) 1 E67 C67 n 1 67 Tryz.f67 [1, 1, 0, 1, 0, 0] [1, 1, 0, 1, 0] m1 (f67.h1 x y1) (un TT Tryz.f67 (zq f67.A1))
def f67.s1 (n : Nat) (x : ByteArray) (S1 : (Nat × Int × (List Int)) → Option ((List Int))) (y1 : f67.Z0) : Option ((List Int)) :=
 bif decide (y1.2.1 < (x.size : Int)) then
 bif decide (0 ≤ y1.2.1) && decide (y1.2.1 < (x.size : Int)) then
 bif decide ((y1.1 + 1) * 1 ≤ zo) then
 bif decide (0 ≤ y1.2.1) && decide (y1.2.1 < (x.size : Int)) then
 bif z7 x y1.2.1 == (0 : Int) then
 bif decide (((y1.1 + 1) + 1) * 1 ≤ zo) then
 S1 ((y1.1 + 1) + 1, (IntKind.wrap .i64 (y1.2.1 + (1 : Int)), List.take (y1.1 + 1) (List.take y1.1 y1.2.2 ++ ([z7 x y1.2.1])) ++ ([(255 : Int)])))
 else
 (none)
 else
 S1 (y1.1 + 1, (IntKind.wrap .i64 (y1.2.1 + (1 : Int)), List.take y1.1 y1.2.2 ++ ([z7 x y1.2.1])))
 else
 (none)
 else
 (none)
 else
 (none)
 else
 bif decide ((y1.1 + 1) * 1 ≤ zo) then
 some (List.take (y1.1 + 1) (List.take y1.1 y1.2.2 ++ ([(0 : Int)])))
 else
 (none)
theorem f67.l1 (n : Nat) (x : ByteArray) : ∀ (m : Nat) (y1 : f67.Z0), f67.L1 n x m y1 = zY (f67.s1 n x) m y1 :=
 zM (fun _ => rfl) fun m y => by kernel_rfl
def f67.g (n : Nat) (x : ByteArray) : Option ((List Int)) :=
 zY (f67.s1 n x) n (0, ((0 : Int), []))
theorem f67.eq (n : Nat) (x : ByteArray) : rK E67 C67 n 1 67 (zu [(false, .str)] x) (zq f67.A1) = f67.g n x := by
 simp only [f67.g, ← f67.l1]
 kernel_rfl
theorem f67.codes : CdO E67 C67 := zm (aC Tryz.func67 aN) (by kernel_rfl)
theorem f67.ok (h : Run F67 f67.g)  : CO 67 (zk [(false, .str)] f67.A1 false F67) :=
 zn zE zD zj f67.codes (fun h => by cases h) (h.go f67.eq)
def Sn : Con := zk [(false, .str)] f67.A1 false F67
abbrev f38.A0 : Sig := [(false, .sl (.int .u8))]
def E38 : FuncId → Option Con := (zN 67 Sn (zN 66 Sf (zN 65 V9 yc)))
noncomputable def C38 : List (FuncId × Func) := [(38, Tryz.f38)]
def f38.g (n : Nat) (x : zc) : Option ((List Int)) :=
 bif x.1 == (1 : Int) then
 bif decide ((2) * 1 ≤ zo) then
 some (List.take 2 (List.take 1 ([IntKind.wrap .u8 (IntKind.wrap .i64 (x.1 + (1 : Int)))]) ++ ([IntKind.wrap .u8 x.2.1])))
 else
 (none)
 else
 bif x.1 == (2 : Int) then
 (F65 x.2.1).bind fun r1 =>
 bif decide ((1 + r1.length) * 1 ≤ zo) then
 some (List.take (1 + r1.length) (List.take 1 ([IntKind.wrap .u8 (IntKind.wrap .i64 (x.1 + (1 : Int)))]) ++ r1))
 else
 (none)
 else
 bif x.1 == (3 : Int) then
 (F66 x.2.2.1).bind fun r2 =>
 bif decide ((1 + r2.length) * 1 ≤ zo) then
 some (List.take (1 + r2.length) (List.take 1 ([IntKind.wrap .u8 (IntKind.wrap .i64 (x.1 + (1 : Int)))]) ++ r2))
 else
 (none)
 else
 bif x.1 == (4 : Int) then
 bif x.1 == (4 : Int) then
 (F67 x.2.2.2).bind fun r3 =>
 bif decide ((1 + r3.length) * 1 ≤ zo) then
 some (List.take (1 + r3.length) (List.take 1 ([IntKind.wrap .u8 (IntKind.wrap .i64 (x.1 + (1 : Int)))]) ++ r3))
 else
 (none)
 else
 some (List.take 1 ([IntKind.wrap .u8 (IntKind.wrap .i64 (x.1 + (1 : Int)))]))
 else
 bif x.1 == (5 : Int) then
 (F67 x.2.2.2).bind fun r4 =>
 bif decide ((1 + r4.length) * 1 ≤ zo) then
 some (List.take (1 + r4.length) (List.take 1 ([IntKind.wrap .u8 (IntKind.wrap .i64 (x.1 + (1 : Int)))]) ++ r4))
 else
 (none)
 else
 some (List.take 1 ([IntKind.wrap .u8 (IntKind.wrap .i64 (x.1 + (1 : Int)))]))
theorem f38.eq (n : Nat) (x : zc) : rK E38 C38 n 1 38 (zu [(true, tValue)] x) (zq f38.A0) = f38.g n x := by
 kernel_rfl
theorem f38.codes : CdO E38 C38 := zm (aC Tryz.func38 aN) (by kernel_rfl)
theorem f38.ok (h : Run F38 f38.g) (e65 : CO 65 V9) (e66 : CO 66 Sf) (e67 : CO 67 Sn) : CO 38 (zk [(true, tValue)] f38.A0 false F38) :=
 zn zE zD (zf e67 (zf e66 (zf e65 zj))) f38.codes (fun h => by cases h) (h.go f38.eq)
def Ta : Con := zk [(true, tValue)] f38.A0 false F38
abbrev f12.Z0 : Type := Nat × Int × (List Int)
abbrev f12.Y1 : Type := ByteArray × Int
abbrev f12.A2 : Sig := [(false, .str), (false, .int .i64)]
def E12 : FuncId → Option Con := (zN 38 Ta (zN 37 Tt yc))
noncomputable def C12 : List (FuncId × Func) := [(12, Tryz.f12)]
def f12.h1 (x : (List zc)) (y1 : Int) (y3 : f12.Z0) : List AV × List Ob := ([vv [.sc (.sl tValue) x]] ++ uN 4 ([vv [.own 0 y3.1], vv [cI y3.2.1]] ++ uN 30 []), [.arr 5 (.int .u8) y3.2.2])
def f12.h2 (x : (List zc)) (y1 : Int) : List AV × List Ob := ([vv [.sc (.sl tValue) x]] ++ uN 3 ([vv [cI y1]] ++ uN 32 []), [])
def f12.L1 (n : Nat) (x : (List zc)) (y1 : Int) (m3 : Nat) (y3 : f12.Z0) : Option f12.Y1 :=
 lK (ann 12 8) 1 E12 C12 n 1 12 Tryz.f12 [1, 1, 1, 0, 1, 0, 0] [1, 1, 1, 0, 1, 0] m3 (f12.h1 x y1 y3) (un TT Tryz.f12 (zq f12.A2))
def f12.L2 (n : Nat) (x : (List zc)) (m1 : Nat) (y1 : Int) : Option f12.Y1 :=
 lK (ann 12 2) 0 E12 C12 n 1 12 Tryz.f12 [1, 0, 1, 0, 0] [1, 0, 1, 0] m1 (f12.h2 x y1) (un TT Tryz.f12 (zq f12.A2))
def f12.s1 (n : Nat) (x : (List zc)) (y1 : Int) (S3 : (Nat × Int × (List Int)) → Option f12.Y1) (y3 : f12.Z0) : Option f12.Y1 :=
 bif decide (y3.2.1 < (x.length : Int)) then
 bif decide (0 ≤ y3.2.1) && decide (y3.2.1 < (x.length : Int)) then
 (F38 (x.getD y3.2.1.toNat tValue.dflt)).bind fun r4 =>
 bif decide ((y3.1 + r4.length) * 1 ≤ zo) then
 bif decide (((y3.1 + r4.length : Nat) : Int) > (1024 : Int)) then
 some ((⟨#[]⟩ : BA), (3 : Int))
 else
 S3 (y3.1 + r4.length, (IntKind.wrap .i64 (y3.2.1 + (1 : Int)), List.take y3.1 y3.2.2 ++ r4))
 else
 (none)
 else
 (none)
 else
 some (zC (List.take y3.1 y3.2.2), (0 : Int))
theorem f12.l1 (n : Nat) (x : (List zc)) (y1 : Int) : ∀ (m : Nat) (y3 : f12.Z0), f12.L1 n x y1 m y3 = zY (f12.s1 n x y1) m y3 :=
 zM (fun _ => rfl) fun m y => by kernel_rfl
def f12.s2 (n : Nat) (x : (List zc)) (S1 : Int → Option f12.Y1) (y1 : Int) : Option f12.Y1 :=
 bif decide (y1 < (x.length : Int)) then
 bif decide (0 ≤ y1) && decide (y1 < (x.length : Int)) then
 (F37 (x.getD y1.toNat tValue.dflt)).bind fun r2 =>
 bif r2 != (0 : Int) then
 some ((⟨#[]⟩ : BA), (10 : Int))
 else
 S1 (IntKind.wrap .i64 (y1 + (1 : Int)))
 else
 (none)
 else
 zY (f12.s1 n x y1) n (0, ((0 : Int), []))
theorem f12.k2 (n : Nat) (x : (List zc)) (m : Nat) (y : Int) : f12.L2 n x (m + 1) y = f12.s2 n x (f12.L2 n x m) y := by
 simp only [f12.s2, ← f12.l1]
 kernel_rfl
theorem f12.l2 (n : Nat) (x : (List zc)) : ∀ (m : Nat) (y1 : Int), f12.L2 n x m y1 = zY (f12.s2 n x) m y1 :=
 zM (L := f12.L2 n x) (step := f12.s2 n x) (fun _ => rfl) (f12.k2 n x)
def f12.g (n : Nat) (x : (List zc)) : Option f12.Y1 :=
 zY (f12.s2 n x) n (0 : Int)
theorem f12.eq (n : Nat) (x : (List zc)) : rK E12 C12 n 1 12 (zu [(false, .sl tValue)] x) (zq f12.A2) = f12.g n x := by
 simp only [f12.g, ← f12.l1, ← f12.l2]
 kernel_rfl
theorem f12.codes : CdO E12 C12 := zm (aC Tryz.func12 aN) (by kernel_rfl)
theorem f12.ok (h : Run F12 f12.g) (e37 : CO 37 Tt) (e38 : CO 38 Ta) : CO 12 (zk [(false, .sl tValue)] f12.A2 true F12) :=
 zn zE zD (zf e38 (zf e37 zj)) f12.codes (fun _ => Nw.1 rfl) (h.go f12.eq)
def Si : Con := zk [(false, .sl tValue)] f12.A2 true F12
abbrev f13.Z0 : Type := (ByteArray × (ByteArray × Bool)) × ByteArray
abbrev f13.A1 : Sig := [(true, .pair .str (.pair .str .bool)), (false, .str)]
def E13 : FuncId → Option Con := yc
noncomputable def C13 : List (FuncId × Func) := [(13, Tryz.f13)]
def f13.g (n : Nat) (x : f13.Z0) : Option (Bool) :=
 some (bif (!(yA x.2 x.1.1)) then (bif x.1.2.2 then true else (yA x.2 x.1.2.1)) else false)
theorem f13.eq (n : Nat) (x : f13.Z0) : rK E13 C13 n 1 13 (zu f13.A1 x) (zq [(false, .bool)]) = f13.g n x := by
 kernel_rfl
theorem f13.codes : CdO E13 C13 := zm (aC Tryz.func13 aN) (by kernel_rfl)
theorem f13.ok (h : Run F13 f13.g)  : CO 13 (zk f13.A1 [(false, .bool)] true F13) :=
 zn zE zD zj f13.codes (fun _ => Nw.1 rfl) (h.go f13.eq)
def Sh : Con := zk f13.A1 [(false, .bool)] true F13
end
end Go.Proofs.YtefddghdaimklaaGreatDoor.AI
