/- What the functions of this seat answer, in plain words. -/
import Derived.Test.YthkigadgbckpoaaGreatDoorBa
import Derived.Lib.Strings
import Derived.Lib.ValidU
import Derived.Lib.Itoa
set_option linter.unusedVariables false
namespace Go.Proofs.YthkigadgbckpoaaGreatDoor.AI
open Go

def fo (a b : Nat) : Option Ordering := FloatKind.f64.format.order a b
def fltS (a b : Nat) : Int :=
  bif fo a a != some .eq then (bif fo b b != some .eq then 0 else 1)
  else bif fo b b != some .eq then -1 else bif fo a b == some .lt then -1 else bif fo a b == some .gt then 1 else 0
def intS (a b : Int) : Int := bif decide (a < b) then -1 else bif decide (a > b) then 1 else 0
def strS (a b : ByteArray) : Int := Lib.compareBytes a.data.toList b.data.toList
def cmpV (a b : dValue) : Int :=
  bif a.1 != b.1 then intS a.1 b.1
  else bif a.1 == 1 || a.1 == 2 then intS a.2.1 b.2.1
  else bif a.1 == 3 then fltS a.2.2.1 b.2.2.1
  else bif a.1 == 4 || a.1 == 5 then strS a.2.2.2 b.2.2.2 else 0
def sameV (a b : dValue) : Bool := a.1 == b.1 && a.2.1 == b.2.1 && (a.2.2.1 == b.2.2.1) && strEq a.2.2.2 b.2.2.2
def noS : ByteArray := ⟨#[]⟩
def checkV (x : dValue) : Int :=
  bif decide (x.1 < 0) || decide (x.1 > 5) then 10
  else bif (x.1 == 1 && x.2.1 != 0 && x.2.1 != 1) || (x.1 != 1 && x.1 != 2 && x.2.1 != 0) then 10
  else bif x.1 != 3 && x.2.2.1 != 0 then 10
  else bif x.1 != 4 && x.1 != 5 && !(strEq x.2.2.2 noS) then 10
  else bif x.1 == 4 && !(Lib.validD x.2.2.2.data.toList) then 10
  else bif decide ((x.2.2.2.size : Int) > 65536) then 3 else 0
def nanN : Nat := 9221120237041090560
def plainD (x : dValue) : dValue :=
  bif x.1 != 3 then x
  else bif fo x.2.2.1 0 == some .eq then (x.1, x.2.1, 0, x.2.2.2)
  else bif fo x.2.2.1 x.2.2.1 != some .eq then (x.1, x.2.1, nanN, x.2.2.2) else x

/-- The whole part of a double. -/
def wholeI (f : Nat) : Int := match (FloatKind.f64.decode f).toInt .zero with
  | some n => n
  | none => 0
/-- How an int stands to a double. -/
def mixS (n : Int) (f : Nat) : Int :=
  bif fo f f != some .eq || (fo f 4890909195324358656 == some .gt || fo f 4890909195324358656 == some .eq) then -1
  else bif fo f 14114281232179134464 == some .lt then 1
  else bif n != wholeI f then intS n (wholeI f)
  else match FloatKind.f64.format.sub f (FloatKind.f64.nearest (wholeI f)) with
    | some r => fltS 0 r
    | none => 0
/-- How two values stand as numbers. -/
def numS (a b : dValue) : Int × Bool :=
  bif a.1 == 2 && b.1 == 2 then (intS a.2.1 b.2.1, true)
  else bif a.1 == 3 && b.1 == 3 then (fltS a.2.2.1 b.2.2.1, true)
  else bif a.1 == 2 && b.1 == 3 then (mixS a.2.1 b.2.2.1, true)
  else bif a.1 == 3 && b.1 == 2 then (0 - mixS b.2.1 a.2.2.1, true)
  else (0, false)

/-! ### The contracts -/
def F19 (b : Nat) : Option Int := some (b : Int)
def F20 (s : ByteArray) : Option Bool := bif decide (s.size ≤ 9223372036854775807) then some (Lib.validD s.data.toList) else none
def F37 (x : ByteArray × ByteArray) : Option Int := some (strS x.1 x.2)
def F30 (x : Int × Int) : Option ByteArray := bif x.2 == 10 && (decide (-9223372036854775808 ≤ x.1) && decide (x.1 ≤ 9223372036854775807)) then some ⟨(Lib.itoa x.1).toArray⟩ else none
def F16 (x : dValue) : Option (ByteArray × Int) := bif x.1 == 2 && x.2.1 == -7 && (x.2.2.1 == 0) && strEq x.2.2.2 noS then some (⟨#[45, 55]⟩, 0) else none
def F15 (x : Int × Nat) : Option Int := some (mixS x.1 x.2)
def F6 (x : dValue × dValue) : Option (Int × Bool) := some (numS x.1 x.2)
def F39 (b : Nat) : Option Nat := match FloatKind.f64.decode b with
  | .nan _ _ => none
  | d => some (FloatKind.f64.encode (d.integral .zero))
def F7 (x : Unit) : Option Bool := some true
def F36 (x : Int × Int) : Option Int := some (intS x.1 x.2)
def F13 (x : Int × Int) : Option Int := some (intS x.1 x.2)
def F14 (x : Nat × Nat) : Option Int := some (fltS x.1 x.2)
def F18 (x : dValue × dValue) : Option Int := some (cmpV x.1 x.2)
def F8 (x : dValue) : Option Int := bif decide (x.2.2.2.size ≤ 9223372036854775807) then some (checkV x) else none
/-- Cast, of a whole number to a float. -/
def F5 (x : dValue × Int) : Option (dValue × Int) := bif x.1.1 == 2 && (x.1.2.2.1 == 0) && strEq x.1.2.2.2 noS && x.2 == 3 then some ((3, (0, (FloatKind.f64.nearest x.1.2.1, noS))), 0) else none

end Go.Proofs.YthkigadgbckpoaaGreatDoor.AI
