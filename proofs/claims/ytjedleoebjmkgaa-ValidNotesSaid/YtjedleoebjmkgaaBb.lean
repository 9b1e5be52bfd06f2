/- What the functions of this seat answer, in plain words. -/
import Derived.Test.YtjedleoebjmkgaaBa
import Derived.Lib.Strings
import Derived.Lib.Bytealg
set_option linter.unusedVariables false
namespace Go.Proofs.Ytjedleoebjmkgaa.AI
open Go

/-- A list of elements of so many bytes that a program may hold. -/
def okB {α : Type} (b : Nat) (l : List α) : Bool := decide (l.length * b ≤ 140737488355328)
def okF (f : dFoot) : Bool := okB 32 f.1 && (okB 56 f.2.1 && okB 32 f.2.2)
def okLg (l : List dCommit) : Bool := okB 80 l && l.all (fun c => okF c.2)
def okR (l : List dRcommit) : Bool := okB 32 l && l.all (fun c => okB 32 c.2)

def idxI {α : Type} (p : α → Bool) (l : List α) : Int :=
  match l.findIdx? p with
  | some i => (i : Int)
  | none => -1
def noS : ByteArray := ⟨#[]⟩
def noP : dPoint := (0, (0, noS))
def noC : dClash := (0, noP)
def strS (a b : ByteArray) : Int := Lib.compareBytes a.data.toList b.data.toList
def cmpI (a b : Int) : Int := bif decide (a < b) then -1 else bif decide (a > b) then 1 else 0
def orS : List Int → Int
  | [] => 0
  | v :: r => bif v != 0 then v else orS r
/-- The order of places. -/
def cmpP (a b : dPoint) : Int := orS [cmpI a.1 b.1, cmpI a.2.1 b.2.1, strS a.2.2 b.2.2]
def hasR (r : dRange) (s : ByteArray) : Bool := !(strLt s r.1) && (r.2.2 || strLt s r.2.1)
def spanHas (s : dSpan) (p : dPoint) : Bool := (s.1 == p.1 && s.2.1 == p.2.1) && hasR s.2.2 p.2.2
def mayI (a b : Int) : Bool := decide (a ≥ 0) && decide (b ≥ -1)
def sameP (a b : dPoint) : Bool := tPoint.eqB a b
def readsS (f : dFoot) (p : dPoint) : Bool := f.1.any (fun q => sameP p q) || f.2.1.any (fun s => spanHas s p)
def sizeS (f : dFoot) : Int := (f.1.length : Int) + (f.2.1.length : Int) + (f.2.2.length : Int)
def checkS (f : dFoot) : Int :=
  bif decide (sizeS f > 65536) then 2
  else bif f.1.any (fun p => !mayI p.1 p.2.1) || (f.2.2.any (fun p => !mayI p.1 p.2.1) || f.2.1.any (fun s => !mayI s.1 s.2.1)) then 1 else 0
/-- The least of those that are asked for. -/
def leastL (p : dPoint → Bool) : Bool → dPoint → List dPoint → dPoint × Bool
  | b, y, [] => (y, b)
  | b, y, q :: r => bif (!b || decide (cmpP q y < 0)) && p q then leastL p true q r else leastL p b y r
def clashS (a b : dFoot) : dPoint × Bool := leastL (fun q => readsS (a.1, (a.2.1, [])) q) false noP b.2.2
def bothS (a b : dFoot) : dPoint × Bool := leastL (fun q => b.2.2.any (fun v => sameP v q) && q.2.1 == -1) false noP a.2.2
def behindS (l : List dCommit) (at_ : Int) : List dCommit := l.dropWhile (fun c => !decide (c.1 > at_))
def firstS (g : dFoot → dFoot → dPoint × Bool) (f : dFoot) : List dCommit → dClash × Bool
  | [] => (noC, false)
  | c :: r => bif (g f c.2).2 then ((c.1, (g f c.2).1), true) else firstS g f r
def readS (g : dFoot → dFoot → dPoint × Bool) (l : Bool × List dCommit) (f : dFoot) (at_ : Int) : dClash × Bool :=
  bif !l.1 || checkS f != 0 then (noC, false) else firstS g f (behindS l.2 at_)
def tryS (l : Bool × List dCommit) (t : dAttempt) : dClash × Int :=
  bif !l.1 then (noC, 1)
  else bif checkS t.2.1 != 0 then (noC, checkS t.2.1)
  else bif decide (t.2.2 < 1) || decide (t.2.2 > 3) then (noC, 200)
  else bif t.2.2 != 1 && (readS bothS l t.2.1 t.1).2 then ((readS bothS l t.2.1 t.1).1, 112)
  else bif t.2.2 == 3 && (readS clashS l t.2.1 t.1).2 then ((readS clashS l t.2.1 t.1).1, 205)
  else (noC, 0)
def lastC (l : List dCommit) : dCommit := l.getD (l.length - 1) tCommit.dflt
def noteS (l : Bool × List dCommit) (at_ : Int) (f : dFoot) : (Bool × List dCommit) × Int :=
  bif !l.1 then (l, 1)
  else bif checkS f != 0 then (l, checkS f)
  else bif at_ == 0 || decide (at_ > 4611686018427387904) then (l, 1)
  else bif decide (l.2.length > 0) && decide ((lastC l.2).1 ≥ at_) then (l, 81)
  else bif decide (l.2.length ≥ 4096) then (l, 2)
  else ((l.1, l.2 ++ [(at_, ([], ([], f.2.2)))]), 0)
def trimS (l : Bool × List dCommit) (at_ : Int) : (Bool × List dCommit) × Int :=
  bif !l.1 then (l, 0) else ((l.1, behindS l.2 at_), (l.2.length : Int) - ((behindS l.2 at_).length : Int))
def stampsS (l : Bool × List dCommit) (r : List dRcommit) : Bool := decide ((bif l.1 then l.2.map (fun c => c.1) else []) = r.map (fun c => c.1))

/-! ### The reference -/
def cmpR (a b : dPoint) : Int :=
  bif a.1 != b.1 then (bif decide (a.1 < b.1) then -1 else 1) else bif a.2.1 != b.2.1 then (bif decide (a.2.1 < b.2.1) then -1 else 1) else strS a.2.2 b.2.2
def leastR : dPoint → List dPoint → dPoint
  | y, [] => y
  | y, q :: r => bif decide (cmpR q y < 0) then leastR q r else leastR y r
def leastS : List dPoint → dPoint × Bool
  | [] => (noP, false)
  | q :: r => (leastR q r, true)
def readsR (f : dFoot) (p : dPoint) : Bool := f.1.any (fun q => sameP q p) || f.2.1.any (fun s => spanHas s p)
def clashR (a b : dFoot) : dPoint × Bool := leastS (b.2.2.filter (readsR a))
def firstR (g : dFoot → dFoot → dPoint × Bool) (f : dFoot) (at_ : Int) : List dRcommit → dClash × Bool
  | [] => (noC, false)
  | c :: r => bif decide (c.1 ≤ at_) then firstR g f at_ r else bif (g f ([], ([], c.2))).2 then ((c.1, (g f ([], ([], c.2))).1), true) else firstR g f at_ r
def lastR (l : List dRcommit) : dRcommit := l.getD (l.length - 1) tRcommit.dflt
def noteR (l : List dRcommit) (at_ : Int) (f : dFoot) : List dRcommit × Int :=
  bif checkS f != 0 then (l, checkS f)
  else bif decide (at_ < 1) || decide (at_ > 4611686018427387904) then (l, 1)
  else bif decide (l.length > 0) && decide ((lastR l).1 ≥ at_) then (l, 81)
  else bif decide (l.length ≥ 4096) then (l, 2)
  else (l ++ [(at_, f.2.2)], 0)
def trimR (l : List dRcommit) (at_ : Int) : List dRcommit × Int := (l.filter (fun c => decide (c.1 > at_)), (l.length : Int) - ((l.filter (fun c => decide (c.1 > at_))).length : Int))
def sameC (a b : dClash) : Bool := ((a.1 == b.1 && a.2.1 == b.2.1) && a.2.2.1 == b.2.2.1) && strEq a.2.2.2 b.2.2.2

def mergeS : List dPoint → List dPoint → List dPoint
  | [], b => b
  | p :: a, [] => p :: a
  | p :: a, q :: b => bif decide (cmpR p q < 0) then p :: mergeS a (q :: b) else bif cmpR p q == 0 then q :: mergeS a b else q :: mergeS (p :: a) b
termination_by a b => a.length + b.length
def sortS (l : List dPoint) : List dPoint :=
  if h : l.length < 2 then l else mergeS (sortS (l.take (l.length / 2))) (sortS (l.drop (l.length / 2)))
termination_by l.length
decreasing_by
  · rw [List.length_take]; omega
  · rw [List.length_drop]; omega
def comS : List dPoint → List dPoint → dPoint × Bool
  | [], _ => (noP, false)
  | _ :: _, [] => (noP, false)
  | p :: a, q :: b => bif cmpR p q == 0 && p.2.1 == -1 then (p, true) else bif decide (cmpR p q ≤ 0) then comS a (q :: b) else comS (p :: a) b
termination_by a b => a.length + b.length
def bothR (a b : dFoot) : dPoint × Bool := comS (sortS a.2.2) (sortS b.2.2)
def readR (g : dFoot → dFoot → dPoint × Bool) (l : List dRcommit) (f : dFoot) (at_ : Int) : dClash × Bool := bif checkS f != 0 then (noC, false) else firstR g f at_ l
def tryR (l : List dRcommit) (t : dAttempt) : dClash × Int :=
  bif checkS t.2.1 != 0 then (noC, checkS t.2.1)
  else bif decide (t.2.2 < 1) || decide (t.2.2 > 3) then (noC, 200)
  else bif decide (t.2.2 ≥ 2) && (readR bothR l t.2.1 t.1).2 then ((readR bothR l t.2.1 t.1).1, 112)
  else bif t.2.2 == 3 && (readR clashR l t.2.1 t.1).2 then ((readR clashR l t.2.1 t.1).1, 205)
  else (noC, 0)
/-- What becomes of attempts, one behind the other. -/
def schedL (s : Int) (l : List dCommit) : List dAttempt → List dFate
  | [] => []
  | t :: r =>
    bif (tryS (true, l) t).2 != 0 then (0, ((tryS (true, l) t).2, (tryS (true, l) t).1)) :: schedL s l r
    else bif s == 4611686018427387904 then (0, (4, (tryS (true, l) t).1)) :: schedL s l r
    else (s + 1, ((tryS (true, l) t).2, (tryS (true, l) t).1)) :: schedL (s + 1) (noteS (true, l) (s + 1) t.2.1).1.2 r
def schedS (s : Int) (l : List dAttempt) : List dFate × Int := bif decide (s > 4611686018427387904) then ([], 1) else bif decide (l.length > 4096) then ([], 2) else (schedL s [] l, 0)
def okA (l : List dAttempt) : Bool := okB 88 l && l.all (fun t => okF t.2.1)

/-! ### The contracts -/
def F68 (x : ByteArray × ByteArray) : Option Int := some (strS x.1 x.2)
def F67 (x : Int × Int) : Option Int := some (cmpI x.1 x.2)
def F66 (l : List Int) : Option Int := bif okB 8 l then some (orS l) else none
def F58 (x : dPoint × dPoint) : Option Int := some (cmpP x.1 x.2)
def F61 (x : dRange × ByteArray) : Option Bool := some (hasR x.1 x.2)
def F64 (x : List dPoint × Unit) : Option Int := bif okB 32 x.1 then some (idxI (fun p => !mayI p.1 p.2.1) x.1) else none
def F55 (x : List dPoint × Unit) : Option Bool := bif okB 32 x.1 then some (x.1.any fun p => !mayI p.1 p.2.1) else none
def F65a (x : List dSpan × Unit) : Option Int := bif okB 56 x.1 then some (idxI (fun s => !mayI s.1 s.2.1) x.1) else none
def F65b (x : List dSpan × dPoint) : Option Int := bif okB 56 x.1 then some (idxI (fun s => spanHas s x.2) x.1) else none
def F56a (x : List dSpan × Unit) : Option Bool := bif okB 56 x.1 then some (x.1.any fun s => !mayI s.1 s.2.1) else none
def F56b (x : List dSpan × dPoint) : Option Bool := bif okB 56 x.1 then some (x.1.any fun s => spanHas s x.2) else none
def F38 (f : dFoot) : Option Int := bif okF f then some (checkS f) else none
def F69 (x : List dPoint × dPoint) : Option Int := bif okB 32 x.1 then some (idxI (fun q => sameP x.2 q) x.1) else none
def F59 (x : List dPoint × dPoint) : Option Bool := bif okB 32 x.1 then some (x.1.any fun q => sameP x.2 q) else none
def F42 (x : dFoot × dPoint) : Option Bool := bif okF x.1 then some (readsS x.1 x.2) else none
def F40a (x : List dPoint × (List dPoint × dFoot)) : Option (dPoint × Bool) := bif okB 32 x.1 && okF x.2.2 then some (leastL (fun q => x.2.1.any (fun v => sameP v q) || readsS x.2.2 q) false noP x.1) else none
def F40b (x : List dPoint × List dPoint) : Option (dPoint × Bool) := bif okB 32 x.1 then some (leastL (fun q => x.2.any (fun v => sameP v q) && q.2.1 == -1) false noP x.1) else none
def F27 (x : dFoot × dFoot) : Option (dPoint × Bool) := bif okF x.1 && okF x.2 then some (clashS x.1 x.2) else none
def F28 (x : dFoot × dFoot) : Option (dPoint × Bool) := bif okF x.1 && okF x.2 then some (bothS x.1 x.2) else none
def F50 (x : List dCommit × Int) : Option Int := bif okB 80 x.1 then some (idxI (fun c => decide (c.1 > x.2)) x.1) else none
def F31a (x : (Bool × List dCommit) × dFoot × Int × Unit) : Option (dClash × Bool) := bif okLg x.1.2 && okF x.2.1 then some (readS clashS x.1 x.2.1 x.2.2.1) else none
def F31b (x : (Bool × List dCommit) × dFoot × Int × Unit) : Option (dClash × Bool) := bif okLg x.1.2 && okF x.2.1 then some (readS bothS x.1 x.2.1 x.2.2.1) else none
def F12 (x : (Bool × List dCommit) × dFoot × Int) : Option (dClash × Bool) := bif okLg x.1.2 && okF x.2.1 then some (readS clashS x.1 x.2.1 x.2.2) else none
def F14 (x : (Bool × List dCommit) × dFoot × Int) : Option (dClash × Bool) := bif okLg x.1.2 && okF x.2.1 then some (readS bothS x.1 x.2.1 x.2.2) else none
def F21 (x : (Bool × List dCommit) × dAttempt) : Option (dClash × Int) := bif okLg x.1.2 && okF x.2.2.1 then some (tryS x.1 x.2) else none
def F18 (x : (Bool × List dCommit) × List dRcommit) : Option Bool := bif okB 80 x.1.2 && okB 32 x.2 then some (stampsS x.1 x.2) else none
def F39 (x : List dPoint) : Option (List dPoint) := bif okB 32 x then some x else none
def F23 (x : (Bool × List dCommit) × (Int × dFoot)) : Option ((Bool × List dCommit) × Int) := bif okB 80 x.1.2 && okF x.2.2 then some (noteS x.1 x.2.1 x.2.2) else none
def F37 (l : List dCommit) : Option ((List dCommit × Unit) × Unit) := bif okB 80 l then some ((l, ()), ()) else none
def F19 (x : (Bool × List dCommit) × Int) : Option ((Bool × List dCommit) × Int) := bif x.1.1 && okB 80 x.1.2 then some (trimS x.1 x.2) else none
def F17 (x : Unit) : Option Bool := some true
def F45 (x : Int × Int) : Option Bool := some (mayI x.1 x.2)
def F32 (f : dFoot) : Option Int := bif okF f then some (checkS f) else none
def F63 (x : ByteArray × ByteArray) : Option Int := some (strS x.1 x.2)
def F70 (x : dRange × ByteArray) : Option Bool := some (hasR x.1 x.2)
def F49 (x : dPoint × dPoint) : Option Int := some (cmpR x.1 x.2)
def F62 (x : List dSpan × dPoint) : Option Bool := bif okB 56 x.1 then some (x.1.any fun s => spanHas s x.2) else none
def F46 (x : dFoot × dPoint) : Option Bool := bif okF x.1 then some (readsR x.1 x.2) else none
def F47 (l : List dPoint) : Option (dPoint × Bool) := bif okB 32 l then some (leastS l) else none
def F33 (x : dFoot × dFoot) : Option (dPoint × Bool) := bif okF x.1 && okB 32 x.2.2.2 then some (clashR x.1 x.2) else none
def F13 (x : List dRcommit × dFoot × Int) : Option (dClash × Bool) := bif okR x.1 && okF x.2.1 then some (readR clashR x.1 x.2.1 x.2.2) else none
def F20 (x : List dRcommit × Int) : Option (List dRcommit × Int) := bif okB 32 x.1 then some (trimR x.1 x.2) else none
def F30 (x : List dRcommit × Int × dFoot) : Option (List dRcommit × Int) := bif okB 32 x.1 && okF x.2.2 then some (noteR x.1 x.2.1 x.2.2) else none
def F48 (l : List dPoint) : Option (List dPoint) := bif okB 32 l then some (sortS l) else none
def F34 (x : dFoot × dFoot) : Option (dPoint × Bool) := bif okB 32 x.1.2.2 && okB 32 x.2.2.2 then some (bothR x.1 x.2) else none
def F15 (x : List dRcommit × dFoot × Int) : Option (dClash × Bool) := bif okR x.1 && okF x.2.1 then some (readR bothR x.1 x.2.1 x.2.2) else none
def F22 (x : List dRcommit × dAttempt) : Option (dClash × Int) := bif okR x.1 && okF x.2.2.1 then some (tryR x.1 x.2) else none
def F25 (x : Int × List dAttempt) : Option (List dFate × Int) := bif okA x.2 && decide (0 ≤ x.1) then some (schedS x.1 x.2) else none
def F26 (x : Int × List dAttempt) : Option (List dFate × Int) := bif okA x.2 && decide (0 ≤ x.1) then some (schedS x.1 x.2) else none
def F16 (x : dClash × dClash) : Option Bool := some (sameC x.1 x.2)

end Go.Proofs.Ytjedleoebjmkgaa.AI
