/- The tables of the program that a run reads: what their places hold. -/
import Derived.Test.YtiolbhmbobelcaaGreatDoorAi1
import Derived.Shelf.Unicode.DecodeSlow
import Derived.Lib.ItoaNum
namespace Go.Proofs.YtiolbhmbobelcaaGreatDoor.AI
open Go
/-- A block, and what is asked of what stands in it: utf8's two tables; a number of bytealg's that may be any. -/
inductive TabFact : Nat → (Option Obj → Prop) → Prop where
  | first : TabFact 1 fun o => ∀ w : World, w.heap[1]? = o → ∀ c, c < 256 → w.cell? ⟨1, c, none⟩ = some (.int .u8 (Lib.firstT c))
  | accept : TabFact 2 fun o => ∀ w : World, w.heap[2]? = o → ∀ i, i < 16 → w.cell? ⟨2, 2 * i, none⟩ = some (.int .u8 (Lib.accLo i)) ∧ w.cell? ⟨2, 2 * i + 1, none⟩ = some (.int .u8 (Lib.accHi i))
  | maxLen : TabFact 3 fun o => ∀ w : World, w.heap[3]? = o → ∃ m, w.cell? ⟨3, 0, none⟩ = some (.int .i64 m)
/-- Which of the program's types is float64. -/
def floatT : Nat := 24
def noS : ByteArray := ⟨#[]⟩
def zeroV : Int × (Int × (Nat × ByteArray)) := (0, (0, (0, noS)))
/-- A package's variable that is only read, and its datum. -/
def globD : Nat → Option ((t : Ty) × t.den)
  | _ => none
end Go.Proofs.YtiolbhmbobelcaaGreatDoor.AI
