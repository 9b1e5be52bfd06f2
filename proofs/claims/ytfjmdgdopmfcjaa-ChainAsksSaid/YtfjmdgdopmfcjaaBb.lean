/- What the functions of this seat answer, in plain words: lists, numbers, texts. -/
import Derived.Test.YtfjmdgdopmfcjaaBa
set_option linter.unusedVariables false
namespace Go.Proofs.Ytfjmdgdopmfcjaa.AI
open Go

instance decBytes : DecidableEq ByteArray := fun a b => decidable_of_iff (a.data = b.data) ⟨fun h => by cases a; cases b; exact congrArg ByteArray.mk h, fun h => by rw [h]⟩

instance decValue : DecidableEq dValue := instDecidableEqProd
instance decRow : DecidableEq (List dValue) := instDecidableEqList
instance decVersion : DecidableEq dVersion := instDecidableEqProd
instance decWrite : DecidableEq dWrite := instDecidableEqProd
instance decVersions : DecidableEq (List dVersion) := instDecidableEqList
instance decWrites : DecidableEq (List dWrite) := instDecidableEqList
instance decIntent : DecidableEq dIntent := instDecidableEqProd

/-- A row that can be copied: elements of forty bytes. -/
def okL {α : Type} (l : List α) : Bool := decide (l.length * 40 ≤ boundN)
def okV (l : List dVersion) : Bool := okL l && l.all fun v => okL v.2.2
def okWs (l : List dWrite) : Bool := okL l && l.all fun v => okL v.2.2

def maxStamp : Int := 4611686018427387904
def idxI {α : Type} (p : α → Bool) (l : List α) : Int :=
  match l.findIdx? p with
  | some i => (i : Int)
  | none => -1

def mayV (v : dVersion) : Bool := decide (v.1 ≥ 1) && decide (v.1 ≤ maxStamp) && !(v.2.1 && decide ((v.2.2.length : Int) > 0))
def mayP : Option Int → List dVersion → Bool
  | _, [] => true
  | p, v :: r => mayV v && (match p with | some q => decide (v.1 < q) | none => true) && mayP (some v.1) r

def lifeS (l : List dVersion) (p : Int) : Int × Int × Int :=
  bif decide (p < 0) || decide (p ≥ (l.length : Int)) then (0, 0, 5)
  else ((l.getD p.toNat tVersion.dflt).1, (bif decide (p > 0) then (l.getD (p - 1).toNat tVersion.dflt).1 else 0), 0)

def mayW : Option Int → List dWrite → Bool
  | _, [] => true
  | p, v :: r => (decide (v.1 ≥ 0) && !(v.2.1 && decide ((v.2.2.length : Int) > 0))) && (match p with | some q => decide (q < v.1) | none => true) && mayW (some v.1) r
def mayI (x : dIntent) : Bool := !(decide (x.1 < 0) || !((x.1 == 0) == ((x.2.length : Int) == 0))) && mayW none x.2

def pruneL (at_ floor : Int) : Int → List dVersion → List dVersion
  | _, [] => []
  | i, v :: r => bif decide (v.1 > floor) || (i == at_ && !v.2.1) then v :: pruneL at_ floor (i + 1) r else pruneL at_ floor (i + 1) r
def pruneS (l : List dVersion) (floor : Int) : List dVersion := pruneL (idxI (fun v => decide (v.1 ≤ floor)) l) floor 0 l

def installS (l : List dVersion) (v : dVersion) : List dVersion × Int :=
  bif !(mayP none l) || !(mayV v) then ([], 80) else bif l.any (fun o => decide (o.1 ≥ v.1)) then ([], 81) else (v :: l, 0)

def lastW (l : List dWrite) : dWrite := l.getD (l.length - 1) tWrite.dflt
def seeS (l : List dVersion) (x : dIntent) (txn stamp : Int) : List dValue × Bool :=
  bif (decide (txn > 0) && (x.1 == txn)) && decide ((x.2.length : Int) > 0) then ((lastW x.2).2.2, !(lastW x.2).2.1)
  else match l.find? (fun v => decide (v.1 ≤ stamp)) with
    | some v => bif v.2.1 then ([], false) else (v.2.2, true)
    | none => ([], false)

def badW (x : dIntent) (w : dWrite) : Bool := (decide (w.1 < 0) || (w.2.1 && decide ((w.2.2.length : Int) > 0))) || decide (x.1 < 1)
def putL (l : List dWrite) (w : dWrite) : List dWrite := bif decide (l.length > 0) && ((lastW l).1 == w.1) then l.set (l.length - 1) w else l ++ [w]
def put1 (x : dIntent) (w : dWrite) : dIntent × Int := bif badW x w || x.2.any (fun o => decide (o.1 > w.1)) then ((0, []), 1) else ((x.1, putL x.2 w), 0)
def put2 (x : dIntent) (w : dWrite) : dIntent × Int := bif badW x w || x.2.any (fun o => decide (o.1 > w.1)) then ((0, []), 1) else ((x.1, x.2.filter (fun o => decide (o.1 < w.1)) ++ [w]), 0)

def belowS (l : List dWrite) (level : Int) : Nat :=
  match l.findIdx? (fun w => decide (w.1 ≥ level)) with
  | some i => i
  | none => l.length
def back1 (x : dIntent) (level : Int) : dIntent := bif belowS x.2 level == 0 then (0, []) else (x.1, x.2.take (belowS x.2 level))
def back2 (x : dIntent) (level : Int) : dIntent :=
  bif (x.2.filter fun o => decide (o.1 < level)).length == 0 then (0, []) else (x.1, x.2.filter fun o => decide (o.1 < level))
def fold1 (x : dIntent) (level : Int) : dIntent × Int :=
  bif decide (level < 1) then ((0, []), 1)
  else bif belowS x.2 level == x.2.length then (x, 0)
  else ((x.1, x.2.take (bif decide (belowS x.2 level > 0) && ((x.2.getD (belowS x.2 level - 1) tWrite.dflt).1 == level - 1) then belowS x.2 level - 1 else belowS x.2 level) ++ [(level - 1, (lastW x.2).2)]), 0)
def fold2 (x : dIntent) (level : Int) : dIntent × Int :=
  bif decide (level < 1) then ((0, []), 1)
  else bif x.2.length == 0 || decide ((lastW x.2).1 < level) then (x, 0)
  else ((x.1, (back2 x (level - 1)).2 ++ [(level - 1, (lastW x.2).2)]), 0)

/-! ### The contracts -/
def F58 (b : Nat) : Option Int := some (b : Int)
def F44 (l : List dValue) : Option (List dValue) := bif okL l then some l else none
def F12 (l : List dVersion) : Option Bool := bif okL l then some (mayP none l) else none
def F42a (x : List dVersion × Int) : Option Int := bif okL x.1 then some (idxI (fun v => decide (v.1 ≤ x.2)) x.1) else none
def F42b (x : List dVersion × Int × Int) : Option Int := bif okL x.1 then some (idxI (fun v => decide (v.1 > x.2.1) && decide (v.1 ≤ x.2.2)) x.1) else none
def F42c (x : List dVersion × dVersion) : Option Int := bif okL x.1 then some (idxI (fun o => decide (o.1 ≥ x.2.1)) x.1) else none
def F48a (x : List dVersion × Int × Int) : Option Bool := bif okL x.1 then some (x.1.any fun v => decide (v.1 > x.2.1) && decide (v.1 ≤ x.2.2)) else none
def F48b (x : List dVersion × dVersion) : Option Bool := bif okL x.1 then some (x.1.any fun o => decide (o.1 ≥ x.2.1)) else none
def F56a (x : List dWrite × Int) : Option Int := bif okL x.1 then some (idxI (fun w => decide (w.1 ≥ x.2)) x.1) else none
def F56b (x : List dWrite × dWrite) : Option Int := bif okL x.1 then some (idxI (fun o => decide (o.1 > x.2.1)) x.1) else none
def F51 (x : List dWrite × dWrite) : Option Bool := bif okL x.1 then some (x.1.any fun o => decide (o.1 > x.2.1)) else none
def F15 (x : List dVersion × Int) : Option Int := F42a x
def F13 (x : Unit) : Option Bool := some true
def F14 (x : List dVersion × Int) : Option (Int × Int × Int) := bif okL x.1 then some (lifeS x.1 x.2) else none
def F16 (x : dIntent) : Option Bool := bif okL x.2 then some (mayI x) else none
def F45 (x : List dValue × List dValue) : Option Bool := bif okL x.1 then some (decide (x.1 = x.2)) else none
def F17 (x : List dVersion × dIntent × Int × Int) : Option (List dValue × Bool) := bif okV x.1 && okWs x.2.1.2 then some (seeS x.1 x.2.1 x.2.2.1 x.2.2.2) else none
def F26 (x : List dVersion × Int) : Option Int := F42a x
def F18 (x : List dVersion × dIntent × Int × Int) : Option (List dValue × Bool) := F17 x
def F20 (x : List dVersion × Int) : Option (List dVersion × Int) := bif okV x.1 then some (pruneS x.1 x.2, (x.1.length : Int) - ((pruneS x.1 x.2).length : Int)) else none
def F21 (x : List dVersion × Int) : Option (List dVersion × Int) := F20 x
def F22 (x : List dVersion × List dVersion) : Option Bool := bif okV x.1 then some (decide (x.1 = x.2)) else none
def F23 (x : List dVersion) : Option Int := bif okL x then some (bif mayP none x then 0 else 80) else none
def F24 (x : List dVersion) : Option Int := F23 x
def F25 (x : List dVersion × Int) : Option (Int × Int × Int) := F14 x
def F27 (x : List dVersion × Int × Int) : Option Bool := F48a x
def F28 (x : List dVersion × Int × Int) : Option Bool := F48a x
def F29 (x : List dVersion × dVersion) : Option (List dVersion × Int) := bif okV x.1 && okL x.2.2.2 && decide ((x.1.length + 1) * 40 ≤ boundN) then some (installS x.1 x.2) else none
def F30 (x : List dVersion × dVersion) : Option (List dVersion × Int) := F29 x
def F53 (x : dIntent) : Option ((Int × List dWrite × Unit) × Unit) := bif okWs x.2 then some ((x.1, x.2, ()), ()) else none
def F54 (x : dIntent × Int) : Option Int := bif okL x.1.2 then some (belowS x.1.2 x.2 : Int) else none
def F32 (x : dIntent × dWrite) : Option (dIntent × Int) := bif okWs x.1.2 && okL x.2.2.2 && decide ((x.1.2.length + 1) * 40 ≤ boundN) then some (put1 x.1 x.2) else none
def F33 (x : dIntent × dWrite) : Option (dIntent × Int) := bif okL x.1.2 && decide ((x.1.2.length + 1) * 40 ≤ boundN) then some (put2 x.1 x.2) else none
def F34 (x : dIntent × dIntent) : Option Bool := bif okWs x.1.2 then some (decide (x.1 = x.2)) else none
def F35 (x : dIntent × Int) : Option (dIntent × Int) := bif (okWs x.1.2 && decide ((x.1.2.length + 1) * 40 ≤ boundN)) && (decide (-9223372036854775808 ≤ x.2) && decide (x.2 ≤ 9223372036854775807)) then some (fold1 x.1 x.2) else none
def F38 (x : dIntent × Int) : Option ((Int × List dWrite × Unit) × Unit) := bif okL x.1.2 then some (((back2 x.1 x.2).1, (back2 x.1 x.2).2, ()), ()) else none
def F36 (x : dIntent × Int) : Option (dIntent × Int) := bif (okL x.1.2 && decide ((x.1.2.length + 1) * 40 ≤ boundN)) && (decide (-9223372036854775808 ≤ x.2) && decide (x.2 ≤ 9223372036854775807)) then some (fold2 x.1 x.2) else none
def F37 (x : dIntent × Int) : Option dIntent := bif okWs x.1.2 then some (back1 x.1 x.2) else none

end Go.Proofs.Ytfjmdgdopmfcjaa.AI
