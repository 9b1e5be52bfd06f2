/- The tables of the program that a run reads: what their places hold. None here. -/
import Derived.Test.YtjedleoebjmkgaaAi1
namespace Go.Proofs.Ytjedleoebjmkgaa.AI
open Go
/-- A block, and what is asked of what stands in it. -/
def TabFact : Nat → (Option Obj → Prop) → Prop := fun _ _ => False
/-- A package's variable that is only read, and its datum. -/
def globD : Nat → Option ((t : Ty) × t.den) := fun _ => none
end Go.Proofs.Ytjedleoebjmkgaa.AI
