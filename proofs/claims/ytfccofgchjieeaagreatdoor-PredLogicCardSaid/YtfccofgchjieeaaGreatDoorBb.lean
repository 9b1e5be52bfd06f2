/- What the functions of this seat answer, in plain words. -/
import Derived.Test.YtfccofgchjieeaaGreatDoorBa
import Derived.Lib.Strings
import Derived.Lib.ValidU
import Derived.Lib.IndexMore
import Derived.Lib.Itoa
import Derived.Lib.SlicesCompact
set_option linter.unusedVariables false
namespace Go.Proofs.YtfccofgchjieeaaGreatDoor.AI
open Go

/-- A list of elements of so many bytes that a program may hold. -/
def okB {α : Type} (b : Nat) (l : List α) : Bool := decide (l.length * b ≤ 140737488355328)
def okS (s : ByteArray) : Bool := decide (s.size ≤ 140737488355328)
def okV (x : dValue) : Bool := okS x.2.2.2
def okT (t : dTable) : Bool :=
  (okB 72 t.2.1 && (okB 8 t.2.2.1 && (okB 48 t.2.2.2.1 && okB 40 t.2.2.2.2))) && (t.2.1.all (fun c => okV c.2.2.2) && (t.2.2.2.1.all (fun i => okB 8 i.2.1) && t.2.2.2.2.all (fun r => okB 8 r.1)))

/-! ### Names -/
def smallI (c : Int) : Bool := c == 95 || (decide (c ≥ 97) && decide (c ≤ 122))
def digitI (c : Int) : Bool := decide (c ≥ 48) && decide (c ≤ 57)
def wordsL : List ByteArray := [⟨#[97, 110, 100]⟩, ⟨#[98, 111, 111, 108]⟩, ⟨#[98, 121, 116, 101, 115]⟩, ⟨#[99, 114, 101, 97, 116, 101]⟩, ⟨#[100, 101, 102, 97, 117, 108, 116]⟩, ⟨#[102, 97, 108, 115, 101]⟩, ⟨#[102, 108, 111, 97, 116]⟩, ⟨#[102, 111, 114, 101, 105, 103, 110]⟩, ⟨#[105, 110]⟩, ⟨#[105, 110, 100, 101, 120]⟩, ⟨#[105, 110, 116]⟩, ⟨#[105, 115]⟩, ⟨#[107, 101, 121]⟩, ⟨#[110, 111, 116]⟩, ⟨#[110, 117, 108, 108]⟩, ⟨#[111, 114]⟩, ⟨#[112, 114, 105, 109, 97, 114, 121]⟩, ⟨#[114, 101, 102, 101, 114, 101, 110, 99, 101, 115]⟩, ⟨#[116, 97, 98, 108, 101]⟩, ⟨#[116, 101, 120, 116]⟩, ⟨#[116, 114, 117, 101]⟩, ⟨#[117, 110, 105, 113, 117, 101]⟩, ⟨#[97, 98, 111, 114, 116]⟩, ⟨#[97, 115]⟩, ⟨#[97, 115, 99]⟩, ⟨#[97, 116]⟩, ⟨#[97, 118, 103]⟩, ⟨#[98, 101, 103, 105, 110]⟩, ⟨#[98, 101, 116, 119, 101, 101, 110]⟩, ⟨#[98, 121]⟩, ⟨#[99, 111, 109, 109, 105, 116]⟩, ⟨#[99, 111, 117, 110, 116]⟩, ⟨#[100, 101, 108, 101, 116, 101]⟩, ⟨#[100, 101, 115, 99]⟩, ⟨#[100, 114, 111, 112]⟩, ⟨#[102, 114, 111, 109]⟩, ⟨#[103, 114, 111, 117, 112]⟩, ⟨#[105, 110, 115, 101, 114, 116]⟩, ⟨#[105, 110, 116, 111]⟩, ⟨#[108, 105, 109, 105, 116]⟩, ⟨#[109, 97, 120]⟩, ⟨#[109, 105, 110]⟩, ⟨#[111, 102]⟩, ⟨#[111, 114, 100, 101, 114]⟩, ⟨#[114, 101, 108, 101, 97, 115, 101]⟩, ⟨#[114, 111, 108, 108, 98, 97, 99, 107]⟩, ⟨#[115, 97, 118, 101, 112, 111, 105, 110, 116]⟩, ⟨#[115, 101, 108, 101, 99, 116]⟩, ⟨#[115, 101, 116]⟩, ⟨#[115, 117, 109]⟩, ⟨#[116, 111]⟩, ⟨#[117, 112, 100, 97, 116, 101]⟩, ⟨#[118, 97, 108, 117, 101, 115]⟩, ⟨#[119, 104, 101, 114, 101]⟩, ⟨#[119, 105, 116, 104]⟩]
def wordsS : ByteArray := ⟨#[32, 97, 110, 100, 32, 98, 111, 111, 108, 32, 98, 121, 116, 101, 115, 32, 99, 114, 101, 97, 116, 101, 32, 100, 101, 102, 97, 117, 108, 116, 32, 102, 97, 108, 115, 101, 32, 102, 108, 111, 97, 116, 32, 102, 111, 114, 101, 105, 103, 110, 32, 105, 110, 32, 105, 110, 100, 101, 120, 32, 105, 110, 116, 32, 105, 115, 32, 107, 101, 121, 32, 110, 111, 116, 32, 110, 117, 108, 108, 32, 111, 114, 32, 112, 114, 105, 109, 97, 114, 121, 32, 114, 101, 102, 101, 114, 101, 110, 99, 101, 115, 32, 116, 97, 98, 108, 101, 32, 116, 101, 120, 116, 32, 116, 114, 117, 101, 32, 117, 110, 105, 113, 117, 101, 32, 97, 98, 111, 114, 116, 32, 97, 115, 32, 97, 115, 99, 32, 97, 116, 32, 97, 118, 103, 32, 98, 101, 103, 105, 110, 32, 98, 101, 116, 119, 101, 101, 110, 32, 98, 121, 32, 99, 111, 109, 109, 105, 116, 32, 99, 111, 117, 110, 116, 32, 100, 101, 108, 101, 116, 101, 32, 100, 101, 115, 99, 32, 100, 114, 111, 112, 32, 102, 114, 111, 109, 32, 103, 114, 111, 117, 112, 32, 105, 110, 115, 101, 114, 116, 32, 105, 110, 116, 111, 32, 108, 105, 109, 105, 116, 32, 109, 97, 120, 32, 109, 105, 110, 32, 111, 102, 32, 111, 114, 100, 101, 114, 32, 114, 101, 108, 101, 97, 115, 101, 32, 114, 111, 108, 108, 98, 97, 99, 107, 32, 115, 97, 118, 101, 112, 111, 105, 110, 116, 32, 115, 101, 108, 101, 99, 116, 32, 115, 101, 116, 32, 115, 117, 109, 32, 116, 111, 32, 117, 112, 100, 97, 116, 101, 32, 118, 97, 108, 117, 101, 115, 32, 119, 104, 101, 114, 101, 32, 119, 105, 116, 104, 32]⟩
def bytesI (s : ByteArray) : List Int := s.data.toList.map fun b => (b.toNat : Int)
def nameS (s : ByteArray) : Bool :=
  bif decide (s.size < 1) || decide (s.size > 63) then false
  else bif !smallI (byteAt s 0) || wordsL.any (fun w => strEq w s) then false
  else (bytesI s).all fun c => smallI c || digitI c

/-! ### Tables -/
def idxI {α : Type} (p : α → Bool) (l : List α) : Int :=
  match l.findIdx? p with
  | some i => (i : Int)
  | none => -1
def checkV (x : dValue) : Int :=
  bif decide (x.1 < 0) || decide (x.1 > 5) then 10
  else bif (x.1 == 1 && x.2.1 != 0 && x.2.1 != 1) || (x.1 != 1 && x.1 != 2 && x.2.1 != 0) then 10
  else bif x.1 != 3 && x.2.2.1 != 0 then 10
  else bif x.1 != 4 && x.1 != 5 && !(strEq x.2.2.2 noS) then 10
  else bif x.1 == 4 && !(Lib.validD x.2.2.2.data.toList) then 10
  else bif decide ((x.2.2.2.size : Int) > 65536) then 3 else 0
def sameV (a b : dValue) : Bool := a.1 == b.1 && a.2.1 == b.2.1 && (a.2.2.1 == b.2.2.1) && strEq a.2.2.2 b.2.2.2
/-- Columns of so many, none twice. -/
def someL (n : Nat) : List Int → List Int → Bool
  | _, [] => true
  | seen, k :: r => bif decide (k < 0) || decide (k ≥ (n : Int)) then false else bif seen.any (fun v => v == k) then false else someL n (seen ++ [k]) r
def someS (n : Nat) (l : List Int) : Bool := bif decide (l.length < 1) || decide (l.length > 64) then false else someL n [] l
def badC (c : dColumn) : Bool := (decide (c.2.1 < 1) || decide (c.2.1 > 5)) || (checkV c.2.2.2 != 0 || (c.2.2.2.1 != 0 && c.2.2.2.1 != c.2.1))
def colsL : List dColumn → List dColumn → Int
  | _, [] => 0
  | seen, c :: r => bif !nameS c.1 then 30 else bif seen.any (fun v => strEq v.1 c.1) then 31 else bif badC c then 32 else colsL (seen ++ [c]) r
def idxsL (n : Nat) : List dIndex → List dIndex → Int
  | _, [] => 0
  | seen, c :: r => bif !nameS c.1 then 30 else bif seen.any (fun v => strEq v.1 c.1) then 31 else bif !someS n c.2.1 then 33 else idxsL n (seen ++ [c]) r
def refsL (n : Nat) : List dRef → Int
  | [] => 0
  | c :: r => bif !nameS c.2 then 30 else bif !someS n c.1 then 33 else refsL n r
def nullK (t : dTable) (k : Int) : Bool := (t.2.1.getD k.toNat tColumn.dflt).2.2.1
def inK (t : dTable) (k : Int) : Bool := decide (0 ≤ k) && decide (k < (t.2.1.length : Int))
def checkT (t : dTable) : Int :=
  bif !nameS t.1 then 30
  else bif decide (t.2.1.length < 1) || decide (t.2.1.length > 64) || decide (t.2.2.2.1.length > 16) || decide (t.2.2.2.2.length > 16) then 2
  else bif colsL [] t.2.1 != 0 then colsL [] t.2.1
  else bif !someS t.2.1.length t.2.2.1 then 33
  else bif t.2.2.1.any (nullK t) then 33
  else bif idxsL t.2.1.length [] t.2.2.2.1 != 0 then idxsL t.2.1.length [] t.2.2.2.1
  else refsL t.2.1.length t.2.2.2.2
def columnS (t : dTable) (s : ByteArray) : Int × Int :=
  match t.2.1.findIdx? (fun c => strEq c.1 s) with
  | some i => ((i : Int), 0)
  | none => (0, 5)
def admitL : List dColumn → List dValue → Int
  | c :: l, v :: r => bif checkV v != 0 then checkV v else bif v.1 == 0 then (bif !c.2.2.1 then 35 else admitL l r) else bif v.1 != c.2.1 then 32 else admitL l r
  | _, _ => 0
def admitS (t : dTable) (row : List dValue) : Int :=
  bif checkT t != 0 then checkT t else bif (row.length : Int) != (t.2.1.length : Int) then 1 else admitL t.2.1 row

/-! ### The contracts -/
def F171 (x : ByteArray × ByteArray) : Option Bool := bif decide (x.1.size < 4294967281) then some (Lib.contains x.1.data.toList x.2.data.toList) else none
def F29 (b : Nat) : Option Int := some (b : Int)
def F98 (s : ByteArray) : Option Bool := bif decide (s.size ≤ 9223372036854775807) then some (Lib.validD s.data.toList) else none
def F115 (s : ByteArray) : Option Bool := bif decide (s.size ≤ 140737488355328) then some (Lib.contains wordsS.data.toList (32 :: (s.data.toList ++ [32]))) else none
def F62 (s : ByteArray) : Option Bool := some (nameS s)
def F74 (s : ByteArray) : Option Bool := some (nameS s)
def F123 (x : List ByteArray × ByteArray) : Option Bool := bif okB 16 x.1 then some (x.1.any fun w => strEq w x.2) else none
def F124 (x : Unit) : Option (List ByteArray) := some wordsL
def F173 (x : List Int × Int) : Option Int := bif okB 8 x.1 then some (idxI (fun v => v == x.2) x.1) else none
def F119 (x : List Int × Int) : Option Bool := bif okB 8 x.1 then some (x.1.any fun v => v == x.2) else none
def F64 (x : dTable × List Int) : Option Bool := bif okB 8 x.2 then some (someS x.1.2.1.length x.2) else none
def F76 (x : dTable × List Int) : Option Bool := F64 x
def F172a (x : List dColumn × ByteArray) : Option Int := bif okB 72 x.1 then some (idxI (fun c => strEq c.1 x.2) x.1) else none
def F172b (x : List dColumn × dColumn) : Option Int := bif okB 72 x.1 then some (idxI (fun c => strEq c.1 x.2.1) x.1) else none
def F117 (x : List dColumn × dColumn) : Option Bool := bif okB 72 x.1 then some (x.1.any fun c => strEq c.1 x.2.1) else none
def F121 (x : List dIndex × dIndex) : Option Int := bif okB 48 x.1 then some (idxI (fun c => strEq c.1 x.2.1) x.1) else none
def F67 (x : List dIndex × dIndex) : Option Bool := bif okB 48 x.1 then some (x.1.any fun c => strEq c.1 x.2.1) else none
def F50 (x : dValue) : Option Int := bif okV x then some (checkV x) else none
def F78 (x : dValue) : Option Int := F50 x
def F63 (x : dTable) : Option Int := bif okT x then some (colsL [] x.2.1) else none
def F75 (x : dTable) : Option Int := F63 x
def F77 (x : dTable) : Option Int := bif okT x then some (idxsL x.2.1.length [] x.2.2.2.1) else none
def F33 (x : dTable) : Option Int := bif okT x then some (checkT x) else none
def F37 (x : dTable) : Option Int := F33 x
def F260 (x : dTable × ByteArray) : Option (Int × Int) := bif okT x.1 then some (columnS x.1 x.2) else none
def F36 (x : List Int) : Option (List Int) := bif okB 8 x then some x else none
def F15 (x : dTable) : Option dTable := bif okT x then some x else none
def F27 (x : dTable × List dValue) : Option Int := bif okT x.1 && (okB 40 x.2 && x.2.all okV) then some (admitS x.1 x.2) else none
def F12 (x : dValue × dValue) : Option Bool := some (sameV x.1 x.2)
def smallT : dTable := (⟨#[116]⟩, ([(⟨#[97]⟩, (2, (false, (0, (0, (0, noS))))))], ([0], ([], []))))
def sameCol (a b : dColumn) : Bool := strEq a.1 b.1 && (a.2.1 == b.2.1 && (a.2.2.1 == b.2.2.1 && sameV a.2.2.2 b.2.2.2))
def sameSmall (t : dTable) : Bool :=
  strEq t.1 smallT.1 && ((match t.2.1 with | [c] => sameCol c (⟨#[97]⟩, (2, (false, (0, (0, (0, noS)))))) | _ => false) && ((match t.2.2.1 with | [k] => k == 0 | _ => false) && ((match t.2.2.2.1 with | [] => true | _ => false) && (match t.2.2.2.2 with | [] => true | _ => false))))

/-! ### Values, held against each other -/
def fo (a b : Nat) : Option Ordering := FloatKind.f64.format.order a b
def fltS (a b : Nat) : Int :=
  bif fo a a != some .eq then (bif fo b b != some .eq then 0 else 1)
  else bif fo b b != some .eq then -1 else bif fo a b == some .lt then -1 else bif fo a b == some .gt then 1 else 0
def intS (a b : Int) : Int := bif decide (a < b) then -1 else bif decide (a > b) then 1 else 0
def strS (a b : ByteArray) : Int := Lib.compareBytes a.data.toList b.data.toList
def cmpV (a b : dValue) : Int :=
  bif a.1 != b.1 then intS a.1 b.1
  else bif a.1 == 1 || a.1 == 2 then intS a.2.1 b.2.1
  else bif a.1 == 3 then fltS a.2.2.1 b.2.2.1
  else bif a.1 == 4 || a.1 == 5 then strS a.2.2.2 b.2.2.2 else 0
def nanN : Nat := 9221120237041090560
def plainD (x : dValue) : dValue :=
  bif x.1 != 3 then x
  else bif fo x.2.2.1 0 == some .eq then (x.1, x.2.1, 0, x.2.2.2)
  else bif fo x.2.2.1 x.2.2.1 != some .eq then (x.1, x.2.1, nanN, x.2.2.2) else x

/-- The whole part of a double. -/
def wholeI (f : Nat) : Int := match (FloatKind.f64.decode f).toInt .zero with
  | some n => n
  | none => 0
/-- How an int stands to a double. -/
def mixS (n : Int) (f : Nat) : Int :=
  bif fo f f != some .eq || (fo f 4890909195324358656 == some .gt || fo f 4890909195324358656 == some .eq) then -1
  else bif fo f 14114281232179134464 == some .lt then 1
  else bif n != wholeI f then intS n (wholeI f)
  else match FloatKind.f64.format.sub f (FloatKind.f64.nearest (wholeI f)) with
    | some r => fltS 0 r
    | none => 0
/-- How two values stand as numbers. -/
def numS (a b : dValue) : Int × Bool :=
  bif a.1 == 2 && b.1 == 2 then (intS a.2.1 b.2.1, true)
  else bif a.1 == 3 && b.1 == 3 then (fltS a.2.2.1 b.2.2.1, true)
  else bif a.1 == 2 && b.1 == 3 then (mixS a.2.1 b.2.2.1, true)
  else bif a.1 == 3 && b.1 == 2 then (0 - mixS b.2.1 a.2.2.1, true)
  else (0, false)

/-! ### The contracts -/
def F151 (x : ByteArray × ByteArray) : Option Int := some (strS x.1 x.2)
def F184 (n : Int) : Option Nat := some n.toNat
def F149 (x : Int × Nat) : Option Int := some (mixS x.1 x.2)
def F103 (x : dValue × dValue) : Option (Int × Bool) := some (numS x.1 x.2)
def F204 (b : Nat) : Option Nat := match FloatKind.f64.decode b with
  | .nan _ _ => none
  | d => some (FloatKind.f64.encode (d.integral .zero))
def F150 (x : Int × Int) : Option Int := some (intS x.1 x.2)
def F147 (x : Int × Int) : Option Int := some (intS x.1 x.2)
def F148 (x : Nat × Nat) : Option Int := some (fltS x.1 x.2)
def F104 (x : dValue × dValue) : Option Int := some (cmpV x.1 x.2)
/-! ### Expressions -/
def zeroVB (v : dValue) : Bool := v.1 == 0 && v.2.1 == 0 && (v.2.2.1 == 0) && strEq v.2.2.2 noS
mutual
def sizeE : dExpr → Nat
  | .node _ ks => sizeL ks + 1
def sizeL : List dExpr → Nat
  | [] => 0
  | k :: r => sizeE k + sizeL r
end
mutual
def deepE : dExpr → Nat
  | .node _ ks => deepL ks + 1
def deepL : List dExpr → Nat
  | [] => 0
  | k :: r => max (deepE k) (deepL r)
end
/-- A number that an int64 holds. -/
def okI (n : Int) : Bool := decide (-9223372036854775808 ≤ n) && decide (n ≤ 9223372036854775807)
def okZ (v : dValue) : Bool := okS v.2.2.2 && (okI v.2.1 && decide (v.2.2.1 < 18446744073709551616))
mutual
def bigE : dExpr → Bool
  | .node a ks => okS a.2.1 && (okZ a.2.2.2 && (okB 96 ks && bigL ks))
def bigL : List dExpr → Bool
  | [] => true
  | k :: r => bigE k && bigL r
end
def okE (e : dExpr) : Bool := decide (sizeE e ≤ 1048576) && bigE e
mutual
def countS : dExpr → Int → Int
  | .node _ ks, h => countL ks (h + 1)
def countL : List dExpr → Int → Int
  | [], h => h
  | k :: r, h => bif decide (h ≤ 262144) then countL r (countS k h) else h
end
def zeroE : dExpr := .node (0, (noS, (0, zeroV))) []
def cutS (e : dExpr) : dExpr := bif decide (countS e 0 > 262144) then zeroE else e

def biL : List ByteArray := [⟨#[43]⟩, ⟨#[45]⟩, ⟨#[42]⟩, ⟨#[47]⟩, ⟨#[37]⟩, ⟨#[61]⟩, ⟨#[60, 62]⟩, ⟨#[60]⟩, ⟨#[60, 61]⟩, ⟨#[62]⟩, ⟨#[62, 61]⟩, ⟨#[97, 110, 100]⟩, ⟨#[111, 114]⟩]
def inS (l : List ByteArray) (s : ByteArray) : Bool := l.any fun w => strEq w s
def andS : ByteArray := ⟨#[97, 110, 100]⟩
def orS : ByteArray := ⟨#[111, 114]⟩
def notS : ByteArray := ⟨#[110, 111, 116]⟩
def subS : ByteArray := ⟨#[45]⟩
def remS : ByteArray := ⟨#[37]⟩

/-! What a node may be: a leaf, an inner one. -/
def leafB (n : Nat) (a : Int × ByteArray × Int × dValue) (m : Nat) : Bool :=
  bif a.1 == 1 then m == 0 && (strEq a.2.1 noS && (a.2.2.1 == 0 && checkV a.2.2.2 == 0))
  else m == 0 && (strEq a.2.1 noS && (decide (a.2.2.1 ≥ 0) && (decide (a.2.2.1 < (n : Int)) && zeroVB a.2.2.2)))
def armB (a : Int × ByteArray × Int × dValue) (m : Nat) : Bool :=
  bif a.1 == 3 then m == 1 && inS unL a.2.1
  else bif a.1 == 4 then m == 2 && (inS arL a.2.1 || (inS cpL a.2.1 || (strEq a.2.1 andS || strEq a.2.1 orS)))
  else bif a.1 == 5 then decide (m ≥ 2) && strEq a.2.1 noS else false
def innerB (a : Int × ByteArray × Int × dValue) (m : Nat) : Bool := armB a m && (a.2.2.1 == 0 && zeroVB a.2.2.2)
def nodeB (n : Nat) (a : Int × ByteArray × Int × dValue) (m : Nat) : Bool := bif a.1 == 1 || a.1 == 2 then leafB n a m else innerB a m
mutual
def fineE (n : Nat) : dExpr → Bool
  | .node a ks => nodeB n a ks.length && fineL n ks
def fineL (n : Nat) : List dExpr → Bool
  | [] => true
  | k :: r => fineE n k && fineL n r
end
mutual
def mayS (n : Nat) : dExpr → Int → Int → Int × Bool
  | .node a ks, left, deep =>
    bif decide (left - 1 < 0) || decide (deep > 100) then (left - 1, false)
    else bif a.1 == 1 || a.1 == 2 then (left - 1, leafB n a ks.length)
    else bif !innerB a ks.length then (left - 1, false) else mayL n ks (left - 1) (deep + 1)
def mayL (n : Nat) : List dExpr → Int → Int → Int × Bool
  | [], left, _ => (left, true)
  | k :: r, left, deep => bif !(mayS n k left deep).2 then ((mayS n k left deep).1, false) else mayL n r (mayS n k left deep).1 deep
end
mutual
def nodesS : dExpr → Int → Int → Int × Bool
  | .node _ ks, had, deep => bif decide (had + 1 > 1024) || decide (deep > 100) then (had + 1, false) else nodesL ks (had + 1) (deep + 1)
def nodesL : List dExpr → Int → Int → Int × Bool
  | [], had, _ => (had, true)
  | k :: r, had, deep => bif (nodesS k had deep).2 then nodesL r (nodesS k had deep).1 deep else ((nodesS k had deep).1, false)
end

/-! Kinds. -/
def numK (k : Int) : Bool := k == 2 || k == 3
def logK (k : Int) : Bool := k == 1 || k == 0
def fitK (a b : Int) : Bool := a == b || (numK a && numK b || (a == 0 || b == 0))
/-- What is reckoned of two, the first one null alone where both are. -/
def recK (op : ByteArray) (a b : Int) : Int × Bool :=
  bif a == 0 then (a, true)
  else bif !numK a || (!numK b && b != 0) || (strEq op remS && (a == 3 || b == 3)) then (0, false)
  else bif b == 0 then (a, true) else (maxI true a b, true)
def reckK (op : ByteArray) (a b : Int) : Int × Bool := bif a == 0 then recK op b a else recK op a b
def recR (op : ByteArray) (a b : Int) : Int × Bool :=
  bif a == 0 then (0, true)
  else bif strEq op remS then (2, a == 2 && (b == 2 || b == 0))
  else bif b == 0 then (a, numK a)
  else bif !numK a || !numK b then (0, false) else bif a == 2 && b == 2 then (2, true) else (3, true)
def reckR (op : ByteArray) (a b : Int) : Int × Bool := bif a == 0 then recR op b a else recR op a b
def kindN (cs : List Int) (a : Int × ByteArray × Int × dValue) (l : List Int) : Int × Bool :=
  bif a.1 == 1 then (a.2.2.2.1, true)
  else bif a.1 == 2 then (cs.getD a.2.2.1.toNat 0, true)
  else bif a.1 == 5 then (1, !((l.drop 1).any fun x => !fitK (l.getD 0 0) x))
  else bif strEq a.2.1 subS && l.length == 1 then (l.getD 0 0, numK (l.getD 0 0) || l.getD 0 0 == 0)
  else bif strEq a.2.1 notS then (1, logK (l.getD 0 0))
  else bif a.1 == 3 then (1, true)
  else bif inS cpL a.2.1 then (1, fitK (l.getD 0 0) (l.getD 1 0))
  else bif strEq a.2.1 andS || strEq a.2.1 orS then (1, logK (l.getD 0 0) && logK (l.getD 1 0))
  else reckK a.2.1 (l.getD 0 0) (l.getD 1 0)
mutual
def kindS (cs : List Int) : dExpr → Int × Bool
  | .node a ks => match kindL cs ks with
    | none => (0, false)
    | some l => kindN cs a l
def kindL (cs : List Int) : List dExpr → Option (List Int)
  | [] => some []
  | k :: r => bif !(kindS cs k).2 then none else match kindL cs r with
    | none => none
    | some l => some ((kindS cs k).1 :: l)
end
def kindM (cs : List Int) (a : Int × ByteArray × Int × dValue) (l : List Int) : Int × Bool :=
  bif a.1 == 1 then (a.2.2.2.1, true)
  else bif a.1 == 2 then (cs.getD a.2.2.1.toNat 0, true)
  else bif a.1 == 3 then (bif strEq a.2.1 subS then (l.getD 0 0, numK (l.getD 0 0) || l.getD 0 0 == 0) else (1, !(strEq a.2.1 notS) || logK (l.getD 0 0)))
  else bif a.1 == 5 then (bif (l.drop 1).any fun x => !fitK (l.getD 0 0) x then (0, false) else (1, true))
  else bif inS arL a.2.1 then reckR a.2.1 (l.getD 0 0) (l.getD 1 0)
  else bif inS cpL a.2.1 then (1, fitK (l.getD 0 0) (l.getD 1 0))
  else (1, logK (l.getD 0 0) && logK (l.getD 1 0))
def kindR (cs : List Int) (e : dExpr) : Int × Bool :=
  match kindL cs e.kids with
  | none => (0, false)
  | some l => kindM cs e.lab l
def colK (t : dTable) : List Int := t.2.1.map fun c => c.2.1
def mayB (t : dTable) (e : dExpr) : Bool := decide (sizeE e ≤ 1024) && (decide (deepE e ≤ 100) && fineE t.2.1.length e)
def checkE (t : dTable) (e : dExpr) : Int × Int :=
  bif checkT t != 0 then (0, checkT t)
  else bif !mayB t e then (0, 150)
  else bif !(kindS (colK t) e).2 then (0, 151) else ((kindS (colK t) e).1, 0)

/-! Columns. -/
mutual
def allC : dExpr → List Int
  | .node a ks => (bif a.1 == 2 then [a.2.2.1] else []) ++ allL ks
def allL : List dExpr → List Int
  | [] => []
  | k :: r => allC k ++ allL r
end
def sortI (l : List Int) : List Int := l.mergeSort fun x y => decide (x ≤ y)
def uniI (l : List Int) : List Int := Lib.compact (sortI l)
def colsE (e : dExpr) : List Int := uniI (allC e)

/-! What they are worth. -/
def boolV (b : Bool) : dValue := bif b then (1, (1, (0, noS))) else (1, (0, (0, noS)))
def intV (n : Int) : dValue := (2, (n, (0, noS)))
def fltV' (o : Option Nat) : dValue :=
  match o with
  | none => (3, (0, (nanN, noS)))
  | some r => bif fo r r != some .eq then plainD (3, (0, (r, noS))) else (3, (0, (r, noS)))
def wrapI (n : Int) : Int := IntKind.wrap .i64 n
def intO (op : ByteArray) (a b : Int) : Int × Int :=
  bif strEq op ⟨#[43]⟩ then (bif decide (wrapI (a + b) > a) == decide (b > 0) then (wrapI (a + b), 0) else (0, 152))
  else bif strEq op ⟨#[45]⟩ then (bif decide (wrapI (a - b) < a) == decide (b > 0) then (wrapI (a - b), 0) else (0, 152))
  else bif strEq op ⟨#[42]⟩ then (bif a == 0 || b == 0 then (0, 0) else bif wrapI (Int.tdiv (wrapI (a * b)) b) != a || (a == -9223372036854775808 && b == -1 || b == -9223372036854775808 && a == -1) then (0, 152) else (wrapI (a * b), 0))
  else bif strEq op ⟨#[47]⟩ then (bif b == 0 then (0, 153) else bif a == -9223372036854775808 && b == -1 then (0, 152) else (wrapI (Int.tdiv a b), 0))
  else (bif b == 0 then (0, 153) else bif b == -1 then (0, 0) else (Int.tmod a b, 0))
def fltO (op : ByteArray) (a b : Nat) : Option Nat :=
  bif strEq op ⟨#[43]⟩ then FloatKind.f64.format.add a b
  else bif strEq op ⟨#[45]⟩ then FloatKind.f64.format.sub a b
  else bif strEq op ⟨#[42]⟩ then FloatKind.f64.format.mul a b
  else FloatKind.f64.format.div a b
def asF (v : dValue) : Nat := bif v.1 == 2 then FloatKind.f64.nearest v.2.1 else v.2.2.1
def reckV (op : ByteArray) (a b : dValue) : dValue × Int :=
  bif a.1 == 2 && b.1 == 2 then (bif (intO op a.2.1 b.2.1).2 != 0 then (zeroV, (intO op a.2.1 b.2.1).2) else (intV (intO op a.2.1 b.2.1).1, 0))
  else (fltV' (fltO op (asF a) (asF b)), 0)
def ordV (a b : dValue) : Int := bif (numS a b).2 then (numS a b).1 else cmpV a b
def toldB (op : ByteArray) (c : Int) : Bool :=
  bif strEq op ⟨#[61]⟩ then c == 0
  else bif strEq op ⟨#[60, 62]⟩ then c != 0
  else bif strEq op ⟨#[60]⟩ then decide (c < 0)
  else bif strEq op ⟨#[60, 61]⟩ then decide (c ≤ 0)
  else bif strEq op ⟨#[62]⟩ then decide (c > 0) else decide (c ≥ 0)
def isT (v : dValue) : Bool := v.1 == 1 && v.2.1 == 1
def isF (v : dValue) : Bool := v.1 == 1 && v.2.1 == 0
def unV (op : ByteArray) (v : dValue) : dValue × Int :=
  bif strEq op ⟨#[105, 115, 32, 110, 117, 108, 108]⟩ then (boolV (v.1 == 0), 0)
  else bif strEq op ⟨#[105, 115, 32, 110, 111, 116, 32, 110, 117, 108, 108]⟩ then (boolV (!(v.1 == 0)), 0)
  else bif v.1 == 0 then (zeroV, 0)
  else bif strEq op notS then (boolV (isF v), 0)
  else bif v.1 == 3 then (fltV' (some (Op.negFloat .f64 v.2.2.1)), 0)
  else bif v.2.1 == -9223372036854775808 then (zeroV, 152) else (intV (wrapI (0 - v.2.1)), 0)
def bothV (op : ByteArray) (a b : dValue × Int) : dValue × Int :=
  bif a.2 != 0 || (bif strEq op orS then isT a.1 else isF a.1) then a
  else bif b.2 != 0 || (bif strEq op orS then isT b.1 else isF b.1) || !(a.1.1 == 0) then b
  else (zeroV, 0)
def inL (a : dValue) : Bool → List (dValue × Int) → dValue × Int
  | unk, [] => bif unk then (zeroV, 0) else (boolV false, 0)
  | unk, b :: r => bif b.2 != 0 then (zeroV, b.2) else bif a.1 == 0 || b.1.1 == 0 then inL a true r else bif ordV a b.1 == 0 then (boolV true, 0) else inL a unk r
def inV (rs : List (dValue × Int)) : dValue × Int :=
  match rs with
  | [] => (zeroV, 0)
  | a :: r => bif a.2 != 0 then (zeroV, a.2) else inL a.1 (a.1.1 == 0) r
def noR : dValue × Int := (zeroV, 0)
def binV (op : ByteArray) (a b : dValue × Int) : dValue × Int :=
  bif a.2 != 0 then (zeroV, a.2)
  else bif b.2 != 0 then (zeroV, b.2)
  else bif a.1.1 == 0 || b.1.1 == 0 then (zeroV, 0)
  else bif inS cpL op then (boolV (toldB op (ordV a.1 b.1)), 0)
  else reckV op a.1 b.1
def nodeV (row : List dValue) (a : Int × ByteArray × Int × dValue) (rs : List (dValue × Int)) : dValue × Int :=
  bif a.1 == 1 then (a.2.2.2, 0)
  else bif a.1 == 2 then (row.getD a.2.2.1.toNat zeroV, 0)
  else bif a.1 == 5 then inV rs
  else bif strEq a.2.1 andS || strEq a.2.1 orS then bothV a.2.1 (rs.getD 0 noR) (rs.getD 1 noR)
  else bif a.1 == 3 then (bif (rs.getD 0 noR).2 != 0 then (zeroV, (rs.getD 0 noR).2) else unV a.2.1 (rs.getD 0 noR).1)
  else binV a.2.1 (rs.getD 0 noR) (rs.getD 1 noR)
mutual
def evalS (row : List dValue) : dExpr → dValue × Int
  | .node a ks => nodeV row a (evalL row ks)
def evalL (row : List dValue) : List dExpr → List (dValue × Int)
  | [] => []
  | k :: r => evalS row k :: evalL row r
end
def evalE (t : dTable) (e : dExpr) (row : List dValue) : dValue × Int :=
  bif (checkE t e).2 != 0 then (zeroV, (checkE t e).2)
  else bif admitS t row != 0 then (zeroV, admitS t row)
  else bif (evalS row e).2 != 0 then (zeroV, (evalS row e).2) else ((evalS row e).1, 0)
def condE (t : dTable) (e : dExpr) : Int := bif (checkE t e).2 == 0 && !logK (checkE t e).1 then 151 else (checkE t e).2
def takesE (t : dTable) (e : dExpr) (row : List dValue) : Bool × Int :=
  bif condE t e != 0 then (false, condE t e) else (isT (evalE t e row).1, (evalE t e row).2)
/-- A row fits some kinds. -/
def fitsB : List Int → List dValue → Bool
  | [], [] => true
  | k :: l, v :: r => (v.1 == k || v.1 == 0) && (checkV v == 0 && (okZ v && fitsB l r))
  | _, _ => false
/-- An expression that has a kind, and a row that fits. -/
def Typed (x : dExpr × List dValue) : Prop := ∃ cs : List Int, okE x.1 = true ∧ fineE cs.length x.1 = true ∧ (kindS cs x.1).2 = true ∧ fitsB cs x.2 = true ∧ okB 40 x.2 = true

/-! ### Their contracts -/
def bifG {α : Type} (c : Bool) (y : α) : Option α := bif c then some y else none
def F48n (k : Nat) (x : dExpr × Int) : Option Int := bifG (bigE x.1 && (okI x.2 && (decide (0 ≤ x.2) && (decide (x.2 ≤ 262144) && decide (sizeE x.1 < k))))) (countS x.1 x.2)
def F48 (x : dExpr × Int) : Option Int := bifG (bigE x.1 && (okI x.2 && (decide (0 ≤ x.2) && decide (x.2 ≤ 262144)))) (countS x.1 x.2)
def F24 (x : dExpr) : Option Bool := bifG (bigE x) (decide (countS x 0 > 262144))
def F7 (x : dExpr) : Option dExpr := bifG (bigE x) (cutS x)
def F18 (x : List Int × List Int) : Option Bool := bifG (okB 8 x.1) (x.1 == x.2)
def F16n (k : Nat) (x : dExpr) : Option dExpr := bifG (okE x && decide (sizeE x < k)) x
def F16 (x : dExpr) : Option dExpr := bifG (okE x) x
def F55 (x : List ByteArray × ByteArray) : Option Bool := bifG (okB 16 x.1) (inS x.1 x.2)
def F102 (x : List ByteArray × ByteArray) : Option Int := bifG (okB 16 x.1) (idxI (fun w => strEq w x.2) x.1)
def F80 (x : List ByteArray × ByteArray) : Option Bool := bifG (okB 16 x.1) (inS x.1 x.2)
def F81 (x : Unit) : Option (List ByteArray) := some unL
def F82 (x : Unit) : Option (List ByteArray) := some biL
def F88 (x : ByteArray) : Option Bool := some (inS cpL x)
def F86 (x : ByteArray) : Option Bool := some (inS arL x)
/-- A walker: its table, what is left. -/
def goW (x : (dTable × Int) × dExpr × Int) : Bool := okT x.1.1 && (okE x.2.1 && (decide (0 ≤ x.1.2) && (decide (x.1.2 ≤ 1024) && (decide (0 ≤ x.2.2) && decide (x.2.2 ≤ 101)))))
def mayY (x : (dTable × Int) × dExpr × Int) : (dTable × Int) × Bool := ((x.1.1, (mayS x.1.1.2.1.length x.2.1 x.1.2 x.2.2).1), (mayS x.1.1.2.1.length x.2.1 x.1.2 x.2.2).2)
def F34n (k : Nat) (x : (dTable × Int) × dExpr × Int) : Option ((dTable × Int) × Bool) := bifG (goW x && decide (sizeE x.2.1 < k)) (mayY x)
def F34 (x : (dTable × Int) × dExpr × Int) : Option ((dTable × Int) × Bool) := bifG (goW x) (mayY x)
def goN (x : dExpr × Int × Int) : Bool := okE x.1 && (decide (0 ≤ x.2.1) && (decide (x.2.1 ≤ 1024) && (decide (0 ≤ x.2.2) && decide (x.2.2 ≤ 101))))
def F38n (k : Nat) (x : dExpr × Int × Int) : Option (Int × Bool) := bifG (goN x && decide (sizeE x.1 < k)) (nodesS x.1 x.2.1 x.2.2)
def F38 (x : dExpr × Int × Int) : Option (Int × Bool) := bifG (goN x) (nodesS x.1 x.2.1 x.2.2)
def F79 (x : dValue) : Option Bool := some (zeroVB x)
def F39n (k : Nat) (x : dTable × dExpr) : Option Bool := bifG (okT x.1 && (okE x.2 && decide (sizeE x.2 < k))) (fineE x.1.2.1.length x.2)
def F39 (x : dTable × dExpr) : Option Bool := bifG (okT x.1 && okE x.2) (fineE x.1.2.1.length x.2)
def F69 (x : dValue) : Option Bool := some (zeroVB x)
def F72 (x : Int) : Option Bool := some (numK x)
def F49 (x : Int) : Option Bool := some (logK x)
def F71 (x : Int × Int) : Option Bool := some (fitK x.1 x.2)
def F83 (x : Int) : Option Bool := some (numK x)
def F84 (x : Int) : Option Bool := some (logK x)
def F85 (x : Int × Int) : Option Bool := some (fitK x.1 x.2)
def F54 (x : dValue) : Option Bool := some (x.1 == 0)
def F26 (x : dValue) : Option Bool := some (isT x)
def F99 (x : dValue) : Option Bool := some (isF x)
def F56 (x : Bool) : Option dValue := some (boolV x)
def F106 (x : dValue) : Option Nat := some (asF x)
def F101 (x : Int) : Option dValue := some (intV x)
def F73 (x : ByteArray × Int × Int) : Option (Int × Bool) := some (reckK x.1 x.2.1 x.2.2)
def F87 (x : ByteArray × Int × Int) : Option (Int × Bool) := some (reckR x.1 x.2.1 x.2.2)
def F35n (k : Nat) (x : dTable × dExpr) : Option (Int × Bool) := bifG (okT x.1 && (okE x.2 && (fineE x.1.2.1.length x.2 && decide (sizeE x.2 < k)))) (kindS (colK x.1) x.2)
def F35 (x : dTable × dExpr) : Option (Int × Bool) := bifG (okT x.1 && (okE x.2 && fineE x.1.2.1.length x.2)) (kindS (colK x.1) x.2)
def F40n (k : Nat) (x : dTable × dExpr) : Option (Int × Bool) := bifG (okT x.1 && (okE x.2 && (fineE x.1.2.1.length x.2 && decide (sizeE x.2 < k)))) (kindR (colK x.1) x.2)
def F40 (x : dTable × dExpr) : Option (Int × Bool) := bifG (okT x.1 && (okE x.2 && fineE x.1.2.1.length x.2)) (kindR (colK x.1) x.2)
def F120a (x : List Int × dTable) : Option Int := bif okB 8 x.1 && x.1.all (inK x.2) then some (idxI (nullK x.2) x.1) else none
def F120b (x : List Int × List Int) : Option Int := bif okB 8 x.1 && decide (0 < x.2.length) then some (idxI (fun y => !fitK (x.2.getD 0 0) y) x.1) else none
def F65a (x : List Int × dTable) : Option Bool := bif okB 8 x.1 && x.1.all (inK x.2) then some (x.1.any (nullK x.2)) else none
def F65b (x : List Int × List Int) : Option Bool := bif okB 8 x.1 && decide (0 < x.2.length) then some (x.1.any fun y => !fitK (x.2.getD 0 0) y) else none
def F14 (x : dTable × dExpr) : Option (Int × Int) := bifG (okT x.1 && okE x.2) (checkE x.1 x.2)
def F17 (x : dTable × dExpr) : Option (Int × Int) := F14 x
def F41 (l : List Int) : Option (List Int × Nat) := bifG (okB 8 l) (sortI l, 0)
def F42 (l : List Int) : Option (List Int × Nat) := bifG (okB 8 l) (Lib.compact l ++ List.replicate (l.length - (Lib.compact l).length) 0, (Lib.compact l).length)
def F19n (k : Nat) (x : dExpr) : Option (List Int) := bifG (okE x && decide (sizeE x < k)) (colsE x)
def F19 (x : dExpr) : Option (List Int) := bifG (okE x) (colsE x)
def F43n (k : Nat) (x : dExpr × List Int) : Option (List Int) := bifG (okE x.1 && (decide (x.2.length + sizeE x.1 ≤ 1048576) && decide (sizeE x.1 < k))) (x.2 ++ allC x.1)
def F43 (x : dExpr × List Int) : Option (List Int) := bifG (okE x.1 && decide (x.2.length + sizeE x.1 ≤ 1048576)) (x.2 ++ allC x.1)
def F20 (x : dExpr) : Option (List Int) := bifG (okE x) (colsE x)

/-! Worth. -/
def arith (op : ByteArray) : Bool := inS arL op
def okO (op : ByteArray) (a b : dValue) : Bool := arith op && (numK a.1 && (numK b.1 && (checkV a == 0 && (checkV b == 0 && (okZ a && (okZ b && (!(strEq op remS) || (a.1 == 2 && b.1 == 2))))))))
def F59 (x : ByteArray × dValue × dValue) : Option (dValue × Int) := bifG (okO x.1 x.2.1 x.2.2) (reckV x.1 x.2.1 x.2.2)
def F57 (x : ByteArray × Int) : Option Bool := some (toldB x.1 x.2)
def F58 (x : dValue × dValue) : Option Int := some (ordV x.1 x.2)
/-- A value that a unary operator is asked for. -/
def okU (op : ByteArray) (v : dValue) : Bool := inS unL op && (okZ v && ((!(strEq op subS) || (v.1 == 0 || numK v.1)) && (!(strEq op notS) || logK v.1)))
def F53 (x : ByteArray × dValue) : Option (dValue × Int) := bifG (okU x.1 x.2) (unV x.1 x.2)
open Classical in
noncomputable def ifG {α : Type} (p : Prop) (y : α) : Option α := if p then some y else none
noncomputable def F28n (k : Nat) (x : dExpr × List dValue) : Option (dValue × Int) := ifG (Typed x ∧ sizeE x.1 < k) (evalS x.2 x.1)
noncomputable def F28 (x : dExpr × List dValue) : Option (dValue × Int) := ifG (Typed x) (evalS x.2 x.1)
def okR (l : List dValue) : Bool := okB 40 l && l.all okZ
def F11 (x : dTable × dExpr × List dValue) : Option (dValue × Int) := bifG (okT x.1 && (okE x.2.1 && okR x.2.2)) (evalE x.1 x.2.1 x.2.2)
def F25 (x : dTable × dExpr) : Option Int := bifG (okT x.1 && okE x.2) (condE x.1 x.2)
def F10 (x : dTable × dExpr × List dValue) : Option (Bool × Int) := bifG (okT x.1 && (okE x.2.1 && okR x.2.2)) (takesE x.1 x.2.1 x.2.2)
/-! What awake asks. -/
def textA : ByteArray := ⟨#[97, 32, 43, 32, 49, 32, 60, 32, 53]⟩
def toksA : List ByteArray := [⟨#[97]⟩, ⟨#[43]⟩, ⟨#[49]⟩, ⟨#[60]⟩, ⟨#[53]⟩]
def exprA : dExpr := .node (4, (⟨#[60]⟩, (0, zeroV))) [.node (4, (⟨#[43]⟩, (0, zeroV))) [.node (2, (noS, (0, zeroV))) [], .node (1, (noS, (0, intV 1))) []], .node (1, (noS, (0, intV 5))) []]
def F60 (x : ByteArray) : Option (List ByteArray × Bool) := bifG (strEq x textA) (toksA, true)
def F8 (x : dExpr) : Option dExpr := some (.node (3, (notS, (0, zeroV))) [x])
def F9 (x : ByteArray × dExpr × dExpr) : Option dExpr := some (.node (4, (x.1, (0, zeroV))) [x.2.1, x.2.2])
def F107 (x : ByteArray × Int) : Option Int := some (Lib.indexByte x.1.data.toList x.2.toNat.toUInt8)
/-- A text that spells an int64, its base and size written out. -/
def F223 (x : ByteArray × Int × Int) : Option Int := bif x.2.1 == 10 && x.2.2 == 64 then (bif strEq x.1 ⟨#[49]⟩ then some 1 else bif strEq x.1 ⟨#[53]⟩ then some 5 else none) else none
def con223 : Con where
  X := ByteArray × Int × Int
  Y := Int
  look := fun avs _ => lookL [(false, .str), (false, .int .i64), (false, .int .i64)] avs
  F := F223
  outV := fun _ y => .tup [(false, [.sc (.int .i64) y]), (false, [.nili])]
  outH := fun _ _ H => H
  mode := 1
  kills := fun _ _ => []
def F169 (x : ByteArray × dExpr × dExpr) : Option dExpr := some (.node (4, (x.1, (0, zeroV))) [x.2.1, x.2.2])
def F32 (k : Int) : Option dValue := some (2, (k, (0, noS)))
def F31 (x : Unit) : Option dTable := some smallT
def F30 (x : dTable × ByteArray) : Option (dExpr × Int) := bifG (sameSmall x.1 && strEq x.2 textA) (exprA, 0)
def F13 (x : Unit) : Option Bool := some true

end Go.Proofs.YtfccofgchjieeaaGreatDoor.AI
