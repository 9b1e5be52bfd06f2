/- The kinds of plain data. -/
import Derived.RowKit3
set_option linter.unusedVariables false
namespace Go.Proofs.YtiolbhmbobelcaaGreatDoor.AI
open Go

inductive Rose (α : Type) : Type where
  | node (a : α) (kids : List (Rose α))

def Rose.lab {α : Type} : Rose α → α
  | .node a _ => a
def Rose.kids {α : Type} : Rose α → List (Rose α)
  | .node _ k => k
theorem Rose.eta {α : Type} (r : Rose α) : Rose.node r.lab r.kids = r := by cases r; rfl

inductive Ty : Type where
  | bool | int (k : IntKind) | float (k : FloatKind) | str | sl (e : Ty) | unit | pair (a b : Ty) | rose (a : Ty) | set (t : Ty)
  deriving DecidableEq

@[reducible] def Ty.den : Ty → Type
  | .bool => Bool
  | .int _ => Int
  | .float _ => Nat
  | .str => ByteArray
  | .sl e => List e.den
  | .unit => Unit
  | .pair a b => a.den × b.den
  | .rose a => Rose a.den
  | .set t => List t.den

def Ty.size : Ty → Nat
  | .unit => 0
  | .pair a b => a.size + b.size
  | .rose a => a.size + 1
  | _ => 1

def Ty.dflt : (t : Ty) → t.den
  | .bool => false
  | .int _ => (0 : Int)
  | .float _ => (0 : Nat)
  | .str => (⟨#[]⟩ : ByteArray)
  | .sl _ => []
  | .unit => ()
  | .pair a b => (a.dflt, b.dflt)
  | .rose a => .node a.dflt []
  | .set _ => []

end Go.Proofs.YtiolbhmbobelcaaGreatDoor.AI
