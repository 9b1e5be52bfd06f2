/- Places in code, and what follows them. -/
import Derived.Test.YtfccofgchjieeaaGreatDoorAja
import Derived.Test.YtfccofgchjieeaaGreatDoorAiy
set_option linter.unusedVariables false
set_option linter.unusedSimpArgs false
namespace Go.Proofs.YtfccofgchjieeaaGreatDoor.AI
open Go

def bodyOf (fn : Func) : Code :=
  match fn.body with
  | some c => c
  | none => .skip

def subC : List Nat → Code → Code
  | [], c => c
  | i :: p, c => match c with
    | .seq a b => match i with
      | 0 => subC p a
      | _ => subC p b
    | .cond _ x y => match i with
      | 0 => subC p x
      | _ => subC p y
    | .block _ c => subC p c
    | .loop c => subC p c
    | c => c

section
variable {R : Type} (T : TypeId → Option TI) (h0 : Nat) (env : FuncId → Option Con) (inl : FuncId → List AV → List Ob → (AV → List Ob → Option R) → Option R)

/-- What follows a place in the code. -/
def kont (n : Nat) (ann : Nat → Ann) : List Nat → Code → (Ex → List AV → List Ob → Option R) → (Ex → List AV → List Ob → Option R)
  | [], _, k => k
  | i :: p, c, k => match c with
    | .seq a b => match i with
      | 0 => kont n ann p a fun e fr H => match e with
        | .normal => execK T h0 env inl n ann b fr H k
        | e => k e fr H
      | _ => kont n ann p b k
    | .cond _ x y => match i with
      | 0 => kont n ann p x k
      | _ => kont n ann p y k
    | .block id c => kont n ann p c fun e fr H => match e with
      | .exit j => bif Nat.beq j id then k .normal fr H else k (.exit j) fr H
      | e => k e fr H
    | _ => k

/-- What follows the body of a loop that stands around a place: its further rounds. -/
def loopK (keep : List Nat) (h : Nat) (body : List AV → List Ob → (Ex → List AV → List Ob → Option R) → Option R) (m : Nat) (K : Ex → List AV → List Ob → Option R) : Ex → List AV → List Ob → Option R :=
  fun e fr H => match e with
    | .normal => loopN keep h body m (headFr keep h fr) (headH h H) K
    | e => K e fr H

theorem loop_of {X R : Type} {L : Nat → X → Option R} {step : (X → Option R) → X → Option R} (h0 : ∀ x, L 0 x = none) (hs : ∀ m x, L (m + 1) x = step (L m) x) : ∀ m x, L m x = iter step m x := by
  intro m
  induction m with
  | zero => intro x; exact h0 x
  | succ m ih =>
    intro x
    rw [hs, iter, show L m = iter step m from funext ih]

def opsOf : Code → List Oper
  | .region _ ops _ => ops.toList
  | _ => []

/-- What follows a call that is walked into: the rest of its region. -/
def restK (draw : Bool) (pl : List Nat) (ops : List Oper) (j : Nat) (g : G) (kk : G → List Ob → Option R) : AV → List Ob → Option R := fun v H' =>
  match ops[j]? with
  | some o => bif plOk pl o.dst o.op (evA g.fr) v then regK T h0 env inl draw pl ops (ops.drop (j + 1)) (putG g o.dst [] v) H' kk else none
  | none => none

def endK (T : TypeId → Option TI) (fn : Func) (k : AV → List Ob → Option R) : Ex → List AV → List Ob → Option R :=
  fun e fr H => match e with
    | .exit _ => none
    | _ => match resultsA T fr H fn.results.toList with
      | some v => k v H
      | none => none
end

/-- What a law is: true wherever the arguments are what the model lets in. -/
noncomputable def FL (s : Sig) (x : s.den) : Option Bool := by
  classical
  exact if wfL s x then some true else none

theorem FL_some {s : Sig} {x : s.den} {y : Bool} (h : FL s x = some y) : wfL s x ∧ y = true := by
  unfold FL at h
  by_cases hw : wfL s x
  · rw [if_pos hw] at h; exact ⟨hw, (Option.some.inj h).symm⟩
  · rw [if_neg hw] at h; cases h

theorem FL_wf {s : Sig} {x : s.den} (h : wfL s x) : FL s x = some true := by
  unfold FL
  exact if_pos h

end Go.Proofs.YtfccofgchjieeaaGreatDoor.AI
