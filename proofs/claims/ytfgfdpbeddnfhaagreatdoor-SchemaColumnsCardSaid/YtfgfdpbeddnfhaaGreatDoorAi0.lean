/- The tables of the program that a run reads: what their places hold. -/
import Derived.Test.YtfgfdpbeddnfhaaGreatDoorAi1
import Derived.Shelf.Unicode.DecodeSlow
import Derived.Lib.ItoaNum
namespace Go.Proofs.YtfgfdpbeddnfhaaGreatDoor.AI
open Go
/-- A block, and what is asked of what stands in it: utf8's two tables; a number of bytealg's that may be any. -/
inductive TabFact : Nat → (Option Obj → Prop) → Prop where
  | first : TabFact 2 fun o => ∀ w : World, w.heap[2]? = o → ∀ c, c < 256 → w.cell? ⟨2, c, none⟩ = some (.int .u8 (Lib.firstT c))
  | accept : TabFact 3 fun o => ∀ w : World, w.heap[3]? = o → ∀ i, i < 16 → w.cell? ⟨3, 2 * i, none⟩ = some (.int .u8 (Lib.accLo i)) ∧ w.cell? ⟨3, 2 * i + 1, none⟩ = some (.int .u8 (Lib.accHi i))
  | maxLen : TabFact 4 fun o => ∀ w : World, w.heap[4]? = o → ∃ m, w.cell? ⟨4, 0, none⟩ = some (.int .i64 m)
/-- The kinds' words. -/
def kindsD : List ByteArray := [⟨#[]⟩, ⟨#[98, 111, 111, 108]⟩, ⟨#[105, 110, 116]⟩, ⟨#[102, 108, 111, 97, 116]⟩, ⟨#[116, 101, 120, 116]⟩, ⟨#[98, 121, 116, 101, 115]⟩]
/-- A package's variable that is only read, and its datum. -/
def globD : Nat → Option ((t : Ty) × t.den)
  | 0 => some ⟨.sl .str, kindsD⟩
  | _ => none
end Go.Proofs.YtfgfdpbeddnfhaaGreatDoor.AI
