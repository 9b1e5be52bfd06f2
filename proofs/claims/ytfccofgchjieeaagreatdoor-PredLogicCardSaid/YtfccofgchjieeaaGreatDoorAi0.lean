/- The tables of the program that a run reads: what their places hold. -/
import Derived.Test.YtfccofgchjieeaaGreatDoorAi1
import Derived.Shelf.Unicode.DecodeSlow
import Derived.Lib.ItoaNum
namespace Go.Proofs.YtfccofgchjieeaaGreatDoor.AI
open Go
/-- A block, and what is asked of what stands in it: utf8's two tables; a number of bytealg's that may be any. -/
inductive TabFact : Nat → (Option Obj → Prop) → Prop where
  | first : TabFact 5 fun o => ∀ w : World, w.heap[5]? = o → ∀ c, c < 256 → w.cell? ⟨5, c, none⟩ = some (.int .u8 (Lib.firstT c))
  | accept : TabFact 6 fun o => ∀ w : World, w.heap[6]? = o → ∀ i, i < 16 → w.cell? ⟨6, 2 * i, none⟩ = some (.int .u8 (Lib.accLo i)) ∧ w.cell? ⟨6, 2 * i + 1, none⟩ = some (.int .u8 (Lib.accHi i))
  | maxLen : TabFact 8 fun o => ∀ w : World, w.heap[8]? = o → ∃ m, w.cell? ⟨8, 0, none⟩ = some (.int .i64 m)
/-- Which of the program's types is float64. -/
def floatT : Nat := 28
def noS : ByteArray := ⟨#[]⟩
def zeroV : Int × (Int × (Nat × ByteArray)) := (0, (0, (0, noS)))
def unL : List ByteArray := [⟨#[45]⟩, ⟨#[110, 111, 116]⟩, ⟨#[105, 115, 32, 110, 117, 108, 108]⟩, ⟨#[105, 115, 32, 110, 111, 116, 32, 110, 117, 108, 108]⟩]
def arL : List ByteArray := [⟨#[43]⟩, ⟨#[45]⟩, ⟨#[42]⟩, ⟨#[47]⟩, ⟨#[37]⟩]
def cpL : List ByteArray := [⟨#[61]⟩, ⟨#[60, 62]⟩, ⟨#[60]⟩, ⟨#[60, 61]⟩, ⟨#[62]⟩, ⟨#[62, 61]⟩]
def sgL : List ByteArray := [⟨#[60, 62]⟩, ⟨#[60, 61]⟩, ⟨#[62, 61]⟩, ⟨#[40]⟩, ⟨#[41]⟩, ⟨#[44]⟩, ⟨#[43]⟩, ⟨#[45]⟩, ⟨#[42]⟩, ⟨#[47]⟩, ⟨#[37]⟩, ⟨#[61]⟩, ⟨#[60]⟩, ⟨#[62]⟩]
/-- A package's variable that is only read, and its datum. -/
def globD : Nat → Option ((t : Ty) × t.den)
  | 0 => some ⟨.pair (.int .i64) (.pair (.int .i64) (.pair (.float .f64) .str)), zeroV⟩
  | 1 => some ⟨.sl .str, cpL⟩
  | 3 => some ⟨.sl .str, unL⟩
  | 4 => some ⟨.sl .str, arL⟩
  | 7 => some ⟨.sl .str, sgL⟩
  | _ => none
end Go.Proofs.YtfccofgchjieeaaGreatDoor.AI
