/- What the functions of this seat answer, in plain words. -/
import Derived.Test.YtiolbhmbobelcaaGreatDoorBa
import Derived.Lib.Strings
import Derived.Lib.ValidU
import Derived.Lib.IndexMore
import Derived.Lib.Itoa
import Derived.Lib.SlicesCompact
set_option linter.unusedVariables false
namespace Go.Proofs.YtiolbhmbobelcaaGreatDoor.AI
open Go

/-- A list of elements of so many bytes that a program may hold. -/
def okB {α : Type} (b : Nat) (l : List α) : Bool := decide (l.length * b ≤ 140737488355328)
def okS (s : ByteArray) : Bool := decide (s.size ≤ 140737488355328)
def okV (x : dValue) : Bool := okS x.2.2.2
/-! ### Names -/
/-! ### Tables -/
def checkV (x : dValue) : Int :=
  bif decide (x.1 < 0) || decide (x.1 > 5) then 10
  else bif (x.1 == 1 && x.2.1 != 0 && x.2.1 != 1) || (x.1 != 1 && x.1 != 2 && x.2.1 != 0) then 10
  else bif x.1 != 3 && x.2.2.1 != 0 then 10
  else bif x.1 != 4 && x.1 != 5 && !(strEq x.2.2.2 noS) then 10
  else bif x.1 == 4 && !(Lib.validD x.2.2.2.data.toList) then 10
  else bif decide ((x.2.2.2.size : Int) > 65536) then 3 else 0
def sameV (a b : dValue) : Bool := a.1 == b.1 && a.2.1 == b.2.1 && (a.2.2.1 == b.2.2.1) && strEq a.2.2.2 b.2.2.2
/-! ### The contracts -/
def F13 (b : Nat) : Option Int := some (b : Int)
def F14 (s : ByteArray) : Option Bool := bif decide (s.size ≤ 9223372036854775807) then some (Lib.validD s.data.toList) else none
def F15 (x : dValue) : Option Int := bif okV x then some (checkV x) else none
def F5 (x : dValue) : Option Int := F15 x
def F12 (x : dValue × dValue) : Option Bool := some (sameV x.1 x.2)
/-! ### Values, held against each other -/
def fo (a b : Nat) : Option Ordering := FloatKind.f64.format.order a b
def fltS (a b : Nat) : Int :=
  bif fo a a != some .eq then (bif fo b b != some .eq then 0 else 1)
  else bif fo b b != some .eq then -1 else bif fo a b == some .lt then -1 else bif fo a b == some .gt then 1 else 0
def intS (a b : Int) : Int := bif decide (a < b) then -1 else bif decide (a > b) then 1 else 0
def strS (a b : ByteArray) : Int := Lib.compareBytes a.data.toList b.data.toList
def cmpV (a b : dValue) : Int :=
  bif a.1 != b.1 then intS a.1 b.1
  else bif a.1 == 1 || a.1 == 2 then intS a.2.1 b.2.1
  else bif a.1 == 3 then fltS a.2.2.1 b.2.2.1
  else bif a.1 == 4 || a.1 == 5 then strS a.2.2.2 b.2.2.2 else 0
def nanN : Nat := 9221120237041090560
def plainD (x : dValue) : dValue :=
  bif x.1 != 3 then x
  else bif fo x.2.2.1 0 == some .eq then (x.1, x.2.1, 0, x.2.2.2)
  else bif fo x.2.2.1 x.2.2.1 != some .eq then (x.1, x.2.1, nanN, x.2.2.2) else x

/-- The whole part of a double. -/
def wholeI (f : Nat) : Int := match (FloatKind.f64.decode f).toInt .zero with
  | some n => n
  | none => 0
/-- How an int stands to a double. -/
def mixS (n : Int) (f : Nat) : Int :=
  bif fo f f != some .eq || (fo f 4890909195324358656 == some .gt || fo f 4890909195324358656 == some .eq) then -1
  else bif fo f 14114281232179134464 == some .lt then 1
  else bif n != wholeI f then intS n (wholeI f)
  else match FloatKind.f64.format.sub f (FloatKind.f64.nearest (wholeI f)) with
    | some r => fltS 0 r
    | none => 0
/-- How two values stand as numbers. -/
def numS (a b : dValue) : Int × Bool :=
  bif a.1 == 2 && b.1 == 2 then (intS a.2.1 b.2.1, true)
  else bif a.1 == 3 && b.1 == 3 then (fltS a.2.2.1 b.2.2.1, true)
  else bif a.1 == 2 && b.1 == 3 then (mixS a.2.1 b.2.2.1, true)
  else bif a.1 == 3 && b.1 == 2 then (0 - mixS b.2.1 a.2.2.1, true)
  else (0, false)

/-! ### The contracts -/
def F36 (x : ByteArray × ByteArray) : Option Int := some (strS x.1 x.2)
def F66 (n : Int) : Option Nat := some n.toNat
def F33 (x : Int × Int) : Option Int := some (intS x.1 x.2)
def F34 (x : Int × Int) : Option Int := some (intS x.1 x.2)
def F18 (x : Int × Int) : Option Int := some (intS x.1 x.2)
def F35 (x : Nat × Nat) : Option Int := some (fltS x.1 x.2)
def F19 (x : Nat × Nat) : Option Int := some (fltS x.1 x.2)
def F20 (x : ByteArray × ByteArray) : Option Int := some (strS x.1 x.2)
def F17 (x : dValue × dValue) : Option Int := some (cmpV x.1 x.2)
def F8 (x : dValue × dValue) : Option Int := some (cmpV x.1 x.2)
def F52 (x : dValue) : Option dValue := some (plainD x)
def F46 (x : dValue) : Option dValue := some (plainD x)

/-! ### Expressions -/
def okI (n : Int) : Bool := decide (-9223372036854775808 ≤ n) && decide (n ≤ 9223372036854775807)
def okZ (v : dValue) : Bool := okS v.2.2.2 && (okI v.2.1 && decide (v.2.2.1 < 18446744073709551616))
/-! What a node may be: a leaf, an inner one. -/
/-! Kinds. -/
def numK (k : Int) : Bool := k == 2 || k == 3
/-! Columns. -/
/-! What they are worth. -/
def intV (n : Int) : dValue := (2, (n, (0, noS)))
def fltV' (o : Option Nat) : dValue :=
  match o with
  | none => (3, (0, (nanN, noS)))
  | some r => bif fo r r != some .eq then plainD (3, (0, (r, noS))) else (3, (0, (r, noS)))
def asF (v : dValue) : Nat := bif v.1 == 2 then FloatKind.f64.nearest v.2.1 else v.2.2.1
/-! ### Their contracts -/
def bifG {α : Type} (c : Bool) (y : α) : Option α := bif c then some y else none
/-! Worth. -/
/-! What awake asks. -/
/-! ### What is made of some values -/
def betterB (mx : Bool) (v b : dValue) : Bool := bif mx then decide (cmpV v b > 0) else decide (cmpV v b < 0)
def bestV (mx : Bool) : dValue → List dValue → dValue
  | b, [] => b
  | b, v :: r => bestV mx (bif betterB mx v b then v else b) r
def sumZ : List dValue → Int
  | [] => 0
  | v :: r => v.2.1 + sumZ r
def liveL (l : List dValue) : List dValue := l.filter fun v => v.1 != 0
def addO (o : Option Nat) (b : Nat) : Option Nat := match o with
  | none => none
  | some a => FloatKind.f64.format.add a b
def divO (o : Option Nat) (n : Int) : Option Nat := match o with
  | none => none
  | some a => FloatKind.f64.format.div a (FloatKind.f64.nearest n)
def totO (o : Option Nat) : List dValue → Option Nat
  | [] => o
  | v :: r => totO (addO o (asF v)) r
def totF : List dValue → Option Nat
  | [] => some 0
  | v :: r => totO (some (asF v)) r
def allInt (l : List dValue) : Bool := l.all fun v => v.1 == 2
def allNum (l : List dValue) : Bool := l.all fun v => numK v.1
def avgV (av : Bool) (o : Option Nat) (n : Int) : dValue := fltV' (bif av then divO o n else o)
def sumS (av : Bool) (l : List dValue) : dValue × Int :=
  bif !allNum l then (zeroV, 151)
  else bif allInt l then (bif !okI (sumZ l) then (zeroV, 152) else bif av then (avgV true (some (FloatKind.f64.nearest (sumZ l))) l.length, 0) else (intV (sumZ l), 0))
  else (avgV av (totF l) l.length, 0)
def headS (what : Int) : List dValue → dValue × Int
  | [] => (zeroV, 0)
  | b :: r => bif what == 2 || what == 5 then sumS (what == 5) (b :: r) else (bestV (what == 4) b r, 0)
def foldS (what : Int) (l : List dValue) : dValue × Int :=
  bif decide (what < 1) || decide (what > 5) then (zeroV, 1)
  else match l.find? (fun v => checkV v != 0) with
    | some v => (zeroV, checkV v)
    | none => bif what == 1 then (intV (liveL l).length, 0) else headS what (liveL l)
def okL' (l : List dValue) : Bool := okB 40 l && l.all okZ
def F31 (x : dValue) : Option Nat := bifG (numK x.1 && (checkV x == 0 && okZ x)) (asF x)
def F16 (x : List dValue × Bool) : Option (dValue × Int) := bifG (okL' x.1 && (x.1.all (fun v => checkV v == 0) && !x.1.isEmpty)) (sumS x.2 x.1)
def F7 (x : Int × List dValue) : Option (dValue × Int) := bifG (okL' x.2) (foldS x.1 x.2)
def F11 (x : Int × List dValue) : Option (dValue × Int) := bifG x.2.isEmpty (foldS x.1 x.2)
def F6 (x : Unit) : Option Bool := some true
/-- The sum of two words and a carry. -/
def addB (x : Int × Int × Int) : Bool := (decide (0 ≤ x.1) && decide (0 ≤ x.2.1)) && (decide (0 ≤ x.2.2) && decide (x.2.2 ≤ 1))
def addW (x : Int × Int × Int) : Int × Int := ((x.1 + x.2.1 + x.2.2) % 18446744073709551616, (x.1 + x.2.1 + x.2.2) / 18446744073709551616)
def F49 (x : Int × Int × Int) : Option (Int × Int) := bif addB x then some (addW x) else none
/-- What is never asked here. -/
def F85 (s : ByteArray) : Option (dValue × Int) := none
def F26 (x : Int × List dValue) : Option (dValue × Int) := none
def F27 (x : Int × List dValue) : Option (dValue × Int) := none
end Go.Proofs.YtiolbhmbobelcaaGreatDoor.AI
