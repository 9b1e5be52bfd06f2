/- What the functions of this seat answer, in plain words. -/
import Derived.Test.YtfgfdpbeddnfhaaGreatDoorBa
import Derived.Lib.Strings
import Derived.Lib.ValidU
import Derived.Lib.IndexMore
import Derived.Lib.Join
set_option linter.unusedVariables false
namespace Go.Proofs.YtfgfdpbeddnfhaaGreatDoor.AI
open Go

/-- A list of elements of so many bytes that a program may hold. -/
def okB {α : Type} (b : Nat) (l : List α) : Bool := decide (l.length * b ≤ 140737488355328)
def okS (s : ByteArray) : Bool := decide (s.size ≤ 140737488355328)
def okV (x : dValue) : Bool := okS x.2.2.2
def okT (t : dTable) : Bool :=
  (okB 72 t.2.1 && (okB 8 t.2.2.1 && (okB 48 t.2.2.2.1 && okB 40 t.2.2.2.2))) && (t.2.1.all (fun c => okV c.2.2.2) && (t.2.2.2.1.all (fun i => okB 8 i.2.1) && t.2.2.2.2.all (fun r => okB 8 r.1)))

/-! ### Names -/
def smallI (c : Int) : Bool := c == 95 || (decide (c ≥ 97) && decide (c ≤ 122))
def digitI (c : Int) : Bool := decide (c ≥ 48) && decide (c ≤ 57)
def wordsL : List ByteArray := [⟨#[97, 110, 100]⟩, ⟨#[98, 111, 111, 108]⟩, ⟨#[98, 121, 116, 101, 115]⟩, ⟨#[99, 114, 101, 97, 116, 101]⟩, ⟨#[100, 101, 102, 97, 117, 108, 116]⟩, ⟨#[102, 97, 108, 115, 101]⟩, ⟨#[102, 108, 111, 97, 116]⟩, ⟨#[102, 111, 114, 101, 105, 103, 110]⟩, ⟨#[105, 110]⟩, ⟨#[105, 110, 100, 101, 120]⟩, ⟨#[105, 110, 116]⟩, ⟨#[105, 115]⟩, ⟨#[107, 101, 121]⟩, ⟨#[110, 111, 116]⟩, ⟨#[110, 117, 108, 108]⟩, ⟨#[111, 114]⟩, ⟨#[112, 114, 105, 109, 97, 114, 121]⟩, ⟨#[114, 101, 102, 101, 114, 101, 110, 99, 101, 115]⟩, ⟨#[116, 97, 98, 108, 101]⟩, ⟨#[116, 101, 120, 116]⟩, ⟨#[116, 114, 117, 101]⟩, ⟨#[117, 110, 105, 113, 117, 101]⟩, ⟨#[97, 98, 111, 114, 116]⟩, ⟨#[97, 115]⟩, ⟨#[97, 115, 99]⟩, ⟨#[97, 116]⟩, ⟨#[97, 118, 103]⟩, ⟨#[98, 101, 103, 105, 110]⟩, ⟨#[98, 101, 116, 119, 101, 101, 110]⟩, ⟨#[98, 121]⟩, ⟨#[99, 111, 109, 109, 105, 116]⟩, ⟨#[99, 111, 117, 110, 116]⟩, ⟨#[100, 101, 108, 101, 116, 101]⟩, ⟨#[100, 101, 115, 99]⟩, ⟨#[100, 114, 111, 112]⟩, ⟨#[102, 114, 111, 109]⟩, ⟨#[103, 114, 111, 117, 112]⟩, ⟨#[105, 110, 115, 101, 114, 116]⟩, ⟨#[105, 110, 116, 111]⟩, ⟨#[108, 105, 109, 105, 116]⟩, ⟨#[109, 97, 120]⟩, ⟨#[109, 105, 110]⟩, ⟨#[111, 102]⟩, ⟨#[111, 114, 100, 101, 114]⟩, ⟨#[114, 101, 108, 101, 97, 115, 101]⟩, ⟨#[114, 111, 108, 108, 98, 97, 99, 107]⟩, ⟨#[115, 97, 118, 101, 112, 111, 105, 110, 116]⟩, ⟨#[115, 101, 108, 101, 99, 116]⟩, ⟨#[115, 101, 116]⟩, ⟨#[115, 117, 109]⟩, ⟨#[116, 111]⟩, ⟨#[117, 112, 100, 97, 116, 101]⟩, ⟨#[118, 97, 108, 117, 101, 115]⟩, ⟨#[119, 104, 101, 114, 101]⟩, ⟨#[119, 105, 116, 104]⟩]
def wordsS : ByteArray := ⟨#[32, 97, 110, 100, 32, 98, 111, 111, 108, 32, 98, 121, 116, 101, 115, 32, 99, 114, 101, 97, 116, 101, 32, 100, 101, 102, 97, 117, 108, 116, 32, 102, 97, 108, 115, 101, 32, 102, 108, 111, 97, 116, 32, 102, 111, 114, 101, 105, 103, 110, 32, 105, 110, 32, 105, 110, 100, 101, 120, 32, 105, 110, 116, 32, 105, 115, 32, 107, 101, 121, 32, 110, 111, 116, 32, 110, 117, 108, 108, 32, 111, 114, 32, 112, 114, 105, 109, 97, 114, 121, 32, 114, 101, 102, 101, 114, 101, 110, 99, 101, 115, 32, 116, 97, 98, 108, 101, 32, 116, 101, 120, 116, 32, 116, 114, 117, 101, 32, 117, 110, 105, 113, 117, 101, 32, 97, 98, 111, 114, 116, 32, 97, 115, 32, 97, 115, 99, 32, 97, 116, 32, 97, 118, 103, 32, 98, 101, 103, 105, 110, 32, 98, 101, 116, 119, 101, 101, 110, 32, 98, 121, 32, 99, 111, 109, 109, 105, 116, 32, 99, 111, 117, 110, 116, 32, 100, 101, 108, 101, 116, 101, 32, 100, 101, 115, 99, 32, 100, 114, 111, 112, 32, 102, 114, 111, 109, 32, 103, 114, 111, 117, 112, 32, 105, 110, 115, 101, 114, 116, 32, 105, 110, 116, 111, 32, 108, 105, 109, 105, 116, 32, 109, 97, 120, 32, 109, 105, 110, 32, 111, 102, 32, 111, 114, 100, 101, 114, 32, 114, 101, 108, 101, 97, 115, 101, 32, 114, 111, 108, 108, 98, 97, 99, 107, 32, 115, 97, 118, 101, 112, 111, 105, 110, 116, 32, 115, 101, 108, 101, 99, 116, 32, 115, 101, 116, 32, 115, 117, 109, 32, 116, 111, 32, 117, 112, 100, 97, 116, 101, 32, 118, 97, 108, 117, 101, 115, 32, 119, 104, 101, 114, 101, 32, 119, 105, 116, 104, 32]⟩
def bytesI (s : ByteArray) : List Int := s.data.toList.map fun b => (b.toNat : Int)
def nameS (s : ByteArray) : Bool :=
  bif decide (s.size < 1) || decide (s.size > 63) then false
  else bif !smallI (byteAt s 0) || wordsL.any (fun w => strEq w s) then false
  else (bytesI s).all fun c => smallI c || digitI c

/-! ### Tables -/
def idxI {α : Type} (p : α → Bool) (l : List α) : Int :=
  match l.findIdx? p with
  | some i => (i : Int)
  | none => -1
def noS : ByteArray := ⟨#[]⟩
def checkV (x : dValue) : Int :=
  bif decide (x.1 < 0) || decide (x.1 > 5) then 10
  else bif (x.1 == 1 && x.2.1 != 0 && x.2.1 != 1) || (x.1 != 1 && x.1 != 2 && x.2.1 != 0) then 10
  else bif x.1 != 3 && x.2.2.1 != 0 then 10
  else bif x.1 != 4 && x.1 != 5 && !(strEq x.2.2.2 noS) then 10
  else bif x.1 == 4 && !(Lib.validD x.2.2.2.data.toList) then 10
  else bif decide ((x.2.2.2.size : Int) > 65536) then 3 else 0
def sameV (a b : dValue) : Bool := a.1 == b.1 && a.2.1 == b.2.1 && (a.2.2.1 == b.2.2.1) && strEq a.2.2.2 b.2.2.2
def sameR : List dValue → List dValue → Bool
  | [], [] => true
  | a :: l, b :: m => sameV a b && sameR l m
  | _, _ => false
/-- Columns of so many, none twice. -/
def someL (n : Nat) : List Int → List Int → Bool
  | _, [] => true
  | seen, k :: r => bif decide (k < 0) || decide (k ≥ (n : Int)) then false else bif seen.any (fun v => v == k) then false else someL n (seen ++ [k]) r
def someS (n : Nat) (l : List Int) : Bool := bif decide (l.length < 1) || decide (l.length > 64) then false else someL n [] l
def badC (c : dColumn) : Bool := (decide (c.2.1 < 1) || decide (c.2.1 > 5)) || (checkV c.2.2.2 != 0 || (c.2.2.2.1 != 0 && c.2.2.2.1 != c.2.1))
def colsL : List dColumn → List dColumn → Int
  | _, [] => 0
  | seen, c :: r => bif !nameS c.1 then 30 else bif seen.any (fun v => strEq v.1 c.1) then 31 else bif badC c then 32 else colsL (seen ++ [c]) r
def idxsL (n : Nat) : List dIndex → List dIndex → Int
  | _, [] => 0
  | seen, c :: r => bif !nameS c.1 then 30 else bif seen.any (fun v => strEq v.1 c.1) then 31 else bif !someS n c.2.1 then 33 else idxsL n (seen ++ [c]) r
def refsL (n : Nat) : List dRef → Int
  | [] => 0
  | c :: r => bif !nameS c.2 then 30 else bif !someS n c.1 then 33 else refsL n r
def nullK (t : dTable) (k : Int) : Bool := (t.2.1.getD k.toNat tColumn.dflt).2.2.1
def inK (t : dTable) (k : Int) : Bool := decide (0 ≤ k) && decide (k < (t.2.1.length : Int))
def checkT (t : dTable) : Int :=
  bif !nameS t.1 then 30
  else bif decide (t.2.1.length < 1) || decide (t.2.1.length > 64) || decide (t.2.2.2.1.length > 16) || decide (t.2.2.2.2.length > 16) then 2
  else bif colsL [] t.2.1 != 0 then colsL [] t.2.1
  else bif !someS t.2.1.length t.2.2.1 then 33
  else bif t.2.2.1.any (nullK t) then 33
  else bif idxsL t.2.1.length [] t.2.2.2.1 != 0 then idxsL t.2.1.length [] t.2.2.2.1
  else refsL t.2.1.length t.2.2.2.2
def columnS (t : dTable) (s : ByteArray) : Int × Int :=
  match t.2.1.findIdx? (fun c => strEq c.1 s) with
  | some i => ((i : Int), 0)
  | none => (0, 5)
def admitL : List dColumn → List dValue → Int
  | c :: l, v :: r => bif checkV v != 0 then checkV v else bif v.1 == 0 then (bif !c.2.2.1 then 35 else admitL l r) else bif v.1 != c.2.1 then 32 else admitL l r
  | _, _ => 0
def admitS (t : dTable) (row : List dValue) : Int :=
  bif checkT t != 0 then checkT t else bif (row.length : Int) != (t.2.1.length : Int) then 1 else admitL t.2.1 row
def putL : List dValue → List Int → List dValue → List dValue
  | row, k :: ks, v :: vs => putL (row.set k.toNat v) ks vs
  | row, _, _ => row
def fillS (t : dTable) (ks : List Int) (vs : List dValue) : List dValue × Int :=
  bif checkT t != 0 then ([], checkT t)
  else bif (ks.length : Int) != (vs.length : Int) || (decide (ks.length > 0) && !someS t.2.1.length ks) then ([], 1)
  else bif admitS t (putL (t.2.1.map fun c => c.2.2.2) ks vs) != 0 then ([], admitS t (putL (t.2.1.map fun c => c.2.2.2) ks vs))
  else (putL (t.2.1.map fun c => c.2.2.2) ks vs, 0)

/-! ### The contracts -/
def F47 (x : ByteArray × ByteArray) : Option Bool := bif decide (x.1.size < 4294967281) then some (Lib.contains x.1.data.toList x.2.data.toList) else none
def F48 (x : dValue) : Option (ByteArray × Int) := none
def joinS (l : List ByteArray) (sep : ByteArray) : List UInt8 := Lib.join (l.map fun s => s.data.toList) sep.data.toList
def F50 (x : List ByteArray × ByteArray) : Option ByteArray := bif decide (x.1.length ≤ 140737488355328) && decide ((joinS x.1 x.2).length ≤ 140737488355328) then some ⟨(joinS x.1 x.2).toArray⟩ else none
def F56 (b : Nat) : Option Int := some (b : Int)
def F57 (s : ByteArray) : Option Bool := bif decide (s.size ≤ 9223372036854775807) then some (Lib.validD s.data.toList) else none
def F23 (s : ByteArray) : Option Bool := bif decide (s.size ≤ 140737488355328) then some (Lib.contains wordsS.data.toList (32 :: (s.data.toList ++ [32]))) else none
def F8 (s : ByteArray) : Option Bool := some (nameS s)
def F9 (s : ByteArray) : Option Bool := some (nameS s)
def F26 (x : List ByteArray × ByteArray) : Option Bool := bif okB 16 x.1 then some (x.1.any fun w => strEq w x.2) else none
def F27 (x : Unit) : Option (List ByteArray) := some wordsL
def F67 (x : List Int × Int) : Option Int := bif okB 8 x.1 then some (idxI (fun v => v == x.2) x.1) else none
def F53 (x : List Int × Int) : Option Bool := bif okB 8 x.1 then some (x.1.any fun v => v == x.2) else none
def F33 (x : dTable × List Int) : Option Bool := bif okB 8 x.2 then some (someS x.1.2.1.length x.2) else none
def F40 (x : dTable × List Int) : Option Bool := F33 x
def F45a (x : List dColumn × ByteArray) : Option Int := bif okB 72 x.1 then some (idxI (fun c => strEq c.1 x.2) x.1) else none
def F45b (x : List dColumn × dColumn) : Option Int := bif okB 72 x.1 then some (idxI (fun c => strEq c.1 x.2.1) x.1) else none
def F51 (x : List dColumn × dColumn) : Option Bool := bif okB 72 x.1 then some (x.1.any fun c => strEq c.1 x.2.1) else none
def F54 (x : List Int × dTable) : Option Int := bif okB 8 x.1 && x.1.all (inK x.2) then some (idxI (nullK x.2) x.1) else none
def F34 (x : List Int × dTable) : Option Bool := bif okB 8 x.1 && x.1.all (inK x.2) then some (x.1.any (nullK x.2)) else none
def F55 (x : List dIndex × dIndex) : Option Int := bif okB 48 x.1 then some (idxI (fun c => strEq c.1 x.2.1) x.1) else none
def F36 (x : List dIndex × dIndex) : Option Bool := bif okB 48 x.1 then some (x.1.any fun c => strEq c.1 x.2.1) else none
def F42 (x : dValue) : Option Int := bif okV x then some (checkV x) else none
def F43 (x : dValue) : Option Int := F42 x
def F32 (x : dTable) : Option Int := bif okT x then some (colsL [] x.2.1) else none
def F39 (x : dTable) : Option Int := F32 x
def F41 (x : dTable) : Option Int := bif okT x then some (idxsL x.2.1.length [] x.2.2.2.1) else none
def F11 (x : dTable) : Option Int := bif okT x then some (checkT x) else none
def F13 (x : dTable) : Option Int := F11 x
def F20 (x : dTable × ByteArray) : Option (Int × Int) := bif okT x.1 then some (columnS x.1 x.2) else none
def F21 (x : dTable × ByteArray) : Option (Int × Int) := F20 x
def F38 (x : List Int) : Option (List Int) := bif okB 8 x then some x else none
def F12 (x : dTable) : Option dTable := bif okT x then some x else none
def F14 (x : dTable × List dValue) : Option Int := bif okT x.1 && (okB 40 x.2 && x.2.all okV) then some (admitS x.1 x.2) else none
def F16 (x : dTable × List dValue) : Option Int := F14 x
def F15 (x : List dValue) : Option (List dValue) := bif okB 40 x then some x else none
def F44 (x : dValue × dValue) : Option Bool := some (sameV x.1 x.2)
def F19 (x : List dValue × List dValue) : Option Bool := bif okB 40 x.1 then some (sameR x.1 x.2) else none
def F17 (x : dTable × List Int × List dValue) : Option (List dValue × Int) := bif okT x.1 && (okB 8 x.2.1 && (okB 40 x.2.2 && x.2.2.all okV)) then some (fillS x.1 x.2.1 x.2.2) else none
def F18 (x : dTable × List Int × List dValue) : Option (List dValue × Int) := F17 x
def smallT : dTable := (⟨#[116]⟩, ([(⟨#[97]⟩, (2, (false, (0, (0, (0, noS))))))], ([0], ([], []))))
def sameCol (a b : dColumn) : Bool := strEq a.1 b.1 && (a.2.1 == b.2.1 && (a.2.2.1 == b.2.2.1 && sameV a.2.2.2 b.2.2.2))
def sameSmall (t : dTable) : Bool :=
  strEq t.1 smallT.1 && ((match t.2.1 with | [c] => sameCol c (⟨#[97]⟩, (2, (false, (0, (0, (0, noS)))))) | _ => false) && ((match t.2.2.1 with | [k] => k == 0 | _ => false) && ((match t.2.2.2.1 with | [] => true | _ => false) && (match t.2.2.2.2 with | [] => true | _ => false))))
def F49 (x : dTable × List Int) : Option ByteArray := bif sameSmall x.1 && (match x.2 with | [k] => k == 0 | _ => false) then some ⟨#[40, 97, 41]⟩ else none
def F29 (x : dTable) : Option (ByteArray × Int) := bif sameSmall x then some (⟨#[99, 114, 101, 97, 116, 101, 32, 116, 97, 98, 108, 101, 32, 116, 32, 40, 10, 32, 32, 97, 32, 105, 110, 116, 32, 110, 111, 116, 32, 110, 117, 108, 108, 44, 10, 32, 32, 112, 114, 105, 109, 97, 114, 121, 32, 107, 101, 121, 32, 40, 97, 41, 10, 41, 10]⟩, 0) else none
def F10 (x : Unit) : Option Bool := some true

end Go.Proofs.YtfgfdpbeddnfhaaGreatDoor.AI
