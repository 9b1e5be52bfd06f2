/- The tables of the program that a run reads: what their places hold. -/
import Derived.RowKit3
import Derived.Shelf.Unicode.DecodeSlow
import Derived.Lib.ItoaNum
namespace Go.Proofs.YthkigadgbckpoaaGreatDoor.AI
open Go
/-- A block, and what is asked of what stands in it: utf8's two tables, strconv's powers of ten. -/
inductive TabFact : Nat → (Option Obj → Prop) → Prop where
  | first : TabFact 1 fun o => ∀ w : World, w.heap[1]? = o → ∀ c, c < 256 → w.cell? ⟨1, c, none⟩ = some (.int .u8 (Lib.firstT c))
  | accept : TabFact 2 fun o => ∀ w : World, w.heap[2]? = o → ∀ i, i < 16 → w.cell? ⟨2, 2 * i, none⟩ = some (.int .u8 (Lib.accLo i)) ∧ w.cell? ⟨2, 2 * i + 1, none⟩ = some (.int .u8 (Lib.accHi i))
  | pow10 : TabFact 4 fun o => ∃ e fr, o = some (.cells (Lib.pow10Tab.map fun z => Value.int .u64 z).toArray e fr)
end Go.Proofs.YthkigadgbckpoaaGreatDoor.AI
