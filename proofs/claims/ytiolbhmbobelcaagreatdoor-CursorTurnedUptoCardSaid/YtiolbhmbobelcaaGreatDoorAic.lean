/- The plain run of code: sequences, tests, blocks, loops with a bound on their rounds, calls. -/
import Derived.Test.YtiolbhmbobelcaaGreatDoorAib
set_option linter.unusedVariables false
set_option linter.unusedSimpArgs false
namespace Go.Proofs.YtiolbhmbobelcaaGreatDoor.AI
open Go

inductive Ex : Type where
  | normal | exit (id : Nat) | ret

/-- At a loop's head: the slots that are kept; the places (a slot, or a cell of the variable that a slot points to) where a nil slice stands that will grow. -/
structure Ann where
  keep : List Nat
  grow : List (Nat × Option Nat × TypeId × Ty)
  plain : List Nat
/-- A region that no run comes to. -/
def Ann.dead (a : Ann) : Bool := Nat.beq (a.plain.headD 0) 999999

/-- What a nil slice becomes: a row of our own, or (type 0) data. -/
def growC (e : TypeId) (t : Ty) (H : List Ob) : C × List Ob :=
  bif Nat.beq e 0 then (.sc (.sl t) [], H) else (.own H.length 0, H ++ [Ob.arr e t []])

def growAt (p : Nat × Option Nat × TypeId × Ty) (fr : List AV) (H : List Ob) : List AV × List Ob :=
  match p with
  | (s, none, e, t) => match fr.getD s .undef with
    | .val false [.nils] => (fr.set s (.val false [(growC e t H).1]), (growC e t H).2)
    | _ => (fr, H)
  | (s, some j, e, t) => match fr.getD s .undef with
    | .val false [.ptr id off] => match H[id]? with
      | some (.box cs) => match cs[off + j]? with
        | some .nils => (fr, (growC e t H).2.set id (.box (cs.set (off + j) (growC e t H).1)))
        | _ => (fr, H)
      | _ => (fr, H)
    | _ => (fr, H)

def growAll (l : List (Nat × Option Nat × TypeId × Ty)) (fr : List AV) (H : List Ob) : List AV × List Ob :=
  l.foldl (fun p q => growAt q p.1 p.2) (fr, H)

def maskFrom (keep : List Nat) : Nat → List AV → List AV
  | _, [] => []
  | i, v :: r => (bif keep.any (Nat.beq i) then v else .undef) :: maskFrom keep (i + 1) r

/-- What stands at the head of a round: slots that are not kept, and what was made since the loop began, are lost. -/
def headFr (keep : List Nat) (n : Nat) (fr : List AV) : List AV := (maskFrom keep 0 fr).map (Sub.v (.above n))
def headH (n : Nat) (H : List Ob) : List Ob := (H.take n).map (Sub.ob (.above n))

variable {R : Type}

def loopN (keep : List Nat) (h : Nat) (body : List AV → List Ob → (Ex → List AV → List Ob → Option R) → Option R) : Nat → List AV → List Ob → (Ex → List AV → List Ob → Option R) → Option R
  | 0, _, _, _ => none
  | m + 1, fr, H, k => body fr H fun e fr H => match e with
    | .normal => loopN keep h body m (headFr keep h fr) (headH h H) k
    | e => k e fr H

def isJoin (d : Nat) : Bool := Nat.ble 5000000 d && Nat.ble d 5999999
def isPart (d : Nat) : Bool := Nat.ble 6000000 d && Nat.ble d 6999999
/-- A float, a number or none, as one kind of cell. -/
def joinNf (s : Nat) (fr : List AV) : List AV :=
  match fr.getD s .undef with
  | .val false [.sc (.float .f64) n] => fr.set s (.val false [.nf (some n)])
  | .val false [.nan] => fr.set s (.val false [.nf none])
  | _ => fr
/-- At a region's head: such cells are looked at (a mark: 6000000 and the slot). -/
def partK : List Nat → List AV → (List AV → Option R) → Option R
  | [], fr, k => k fr
  | d :: r, fr, k => bif isPart d then (match fr.getD (d - 6000000) .undef with
      | .val false [.nf o] => fltB o (fun n => partK r (fr.set (d - 6000000) (.val false [.sc (.float .f64) n])) k) (partK r (fr.set (d - 6000000) (.val false [.nan])) k)
      | _ => partK r fr k) else partK r fr k
def isSeal (d : Nat) : Bool := Nat.ble 3000000 d && Nat.ble d 3999999
/-- At a region's end: rows of our own in the slots that are named (a mark: 3000000 and the slot) are given away. -/
def sealK (h0 : Nat) : List Nat → List AV → List Ob → (List AV → List Ob → Option R) → Option R
  | [], fr, H, k => k fr H
  | d :: r, fr, H, k => bif isSeal d then (match fr.getD (d - 3000000) .undef with
      | .val false [.own id _] => bif Nat.ble h0 id then sealK h0 r (St.give id ⟨fr, H⟩).fr (St.give id ⟨fr, H⟩).H k else none
      | _ => none) else bif isJoin d then sealK h0 r (joinNf (d - 5000000) fr) H k else sealK h0 r fr H k

def regOf : Code → Nat
  | .region id _ _ => id
  | .seq a _ => regOf a
  | .block _ c => regOf c
  | .scope c => regOf c
  | .loop c => regOf c
  | _ => 0

variable (T : TypeId → Option TI) (h0 : Nat) (env : FuncId → Option Con) (inl : FuncId → List AV → List Ob → (AV → List Ob → Option R) → Option R)

def execK (n : Nat) (ann : Nat → Ann) : Code → List AV → List Ob → (Ex → List AV → List Ob → Option R) → Option R
  | .skip, fr, H, k => k .normal fr H
  | .region id ops draw, fr, H, k => bif draw && (ann id).dead then none else partK (ann id).plain fr fun fr => regK T h0 env inl draw (ann id).plain ops.toList ops.toList ⟨fr, [], []⟩ H fun g H => sealK h0 (ann id).plain (endG g) H fun fr H => k .normal fr H
  | .seq a b, fr, H, k => execK n ann a fr H fun e fr H => match e with
    | .normal => execK n ann b fr H k
    | e => k e fr H
  | .cond c x y, fr, H, k => match evA fr c with
    | .val false [.sc .bool b] => bif b then execK n ann x fr H k else execK n ann y fr H k
    | _ => none
  | .block id c, fr, H, k => execK n ann c fr H fun e fr H => match e with
    | .exit j => bif Nat.beq j id then k .normal fr H else k (.exit j) fr H
    | e => k e fr H
  | .loop c, fr, H, k =>
    let a := ann (regOf c)
    let p := growAll a.grow fr H
    loopN a.keep p.2.length (fun fr H k => execK n ann c fr H k) n (headFr a.keep p.2.length p.1) (headH p.2.length p.2) k
  | .exit id, fr, H, k => k (.exit id) fr H
  | .ret, fr, H, k => k .ret fr H
  | _, _, _, _ => none

def resCell (T : TypeId → Option TI) (fr : List AV) (H : List Ob) : ResultVar → Option (Bool × List C)
  | .tmp t => match fr.getD t .undef with
    | .val g cs => some (g, cs)
    | _ => none
  | .cell a t => match loadA T t H (fr.getD a .undef) with
    | some (.val g cs) => some (g, cs)
    | _ => none

def resAll (T : TypeId → Option TI) (fr : List AV) (H : List Ob) : List ResultVar → Option (List (Bool × List C))
  | [] => some []
  | r :: l => match resCell T fr H r with
    | some p => match resAll T fr H l with
      | some q => some (p :: q)
      | none => none
    | none => none

def resultsA (T : TypeId → Option TI) (fr : List AV) (H : List Ob) (l : List ResultVar) : Option AV :=
  match resAll T fr H l with
  | some [p] => some (.val p.1 p.2)
  | some l => some (.tup l)
  | none => none

/-- A call of a function that has a body, its own calls being met by 'inl' where no contract is laid. -/
def bodyK (n : Nat) (ann : FuncId → Nat → Ann) (f : FuncId) (fn : Func) (args : List AV) (H : List Ob) (k : AV → List Ob → Option R) : Option R :=
  match fn.body with
  | none => none
  | some c => bif Nat.ble args.length fn.ntmps then
      execK T h0 env inl n (ann f) c (args ++ List.replicate (fn.ntmps - args.length) .undef) H fun e fr H => match e with
        | .exit _ => none
        | _ => match resultsA T fr H fn.results.toList with
          | some v => k v H
          | none => none
    else none

/-- Calls that are walked into, to a depth. -/
def inlD (T : TypeId → Option TI) (env : FuncId → Option Con) (n : Nat) (ann : FuncId → Nat → Ann) (code : FuncId → Option Func) : Nat → FuncId → List AV → List Ob → (AV → List Ob → Option R) → Option R
  | 0, _, _, _, _ => none
  | d + 1, f, args, H, k => match code f with
    | some fn => bodyK T H.length env (inlD T env n ann code d) n ann f fn args H k
    | none => none

/-- The run of a function for itself. -/
def runK (T : TypeId → Option TI) (env : FuncId → Option Con) (n : Nat) (ann : FuncId → Nat → Ann) (code : FuncId → Option Func) (d : Nat) (f : FuncId) (args : List AV) (H : List Ob) (k : AV → List Ob → Option R) : Option R :=
  match code f with
  | some fn => bodyK T 0 env (inlD T env n ann code d) n ann f fn args H k
  | none => none

/-- A loop whose rounds are a function of its variables: so often at most. -/
def iter {X R : Type} (step : (X → Option R) → X → Option R) : Nat → X → Option R
  | 0, _ => none
  | m + 1, x => step (iter step m) x

theorem loop_rec {X R : Type} {keep : List Nat} {h : Nat} {body : List AV → List Ob → (Ex → List AV → List Ob → Option R) → Option R} {K : Ex → List AV → List Ob → Option R}
    (hd : X → List AV) (hH : X → List Ob) (step : (X → Option R) → X → Option R)
    (hs : ∀ m x, loopN keep h body (m + 1) (hd x) (hH x) K = step (fun x' => loopN keep h body m (hd x') (hH x') K) x) :
    ∀ m x, loopN keep h body m (hd x) (hH x) K = iter step m x := by
  intro m
  induction m with
  | zero => intro x; rfl
  | succ m ih =>
    intro x
    rw [hs, iter, show (fun x' => loopN keep h body m (hd x') (hH x') K) = iter step m from funext ih]

end Go.Proofs.YtiolbhmbobelcaaGreatDoor.AI
