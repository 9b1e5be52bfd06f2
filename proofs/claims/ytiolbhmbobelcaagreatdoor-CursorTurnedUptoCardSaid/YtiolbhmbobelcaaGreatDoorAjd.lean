import Derived.Test.YtiolbhmbobelcaaGreatDoorAja
import Derived.Test.YtiolbhmbobelcaaGreatDoorAiy
/- Places in code, and what follows them. -/
set_option linter.unusedVariables false
set_option linter.unusedSimpArgs false
namespace Go.Proofs.YtiolbhmbobelcaaGreatDoor.AI
open Go

def bodyOf (fn : Func) : Code :=
  match fn.body with
  | some c => c
  | none => .skip

def subC : List Nat → Code → Code
  | [], c => c
  | i :: p, c => match c with
    | .seq a b => match i with
      | 0 => subC p a
      | _ => subC p b
    | .cond _ x y => match i with
      | 0 => subC p x
      | _ => subC p y
    | .block _ c => subC p c
    | .loop c => subC p c
    | c => c

section
variable {R : Type} (T : TypeId → Option TI) (h0 : Nat) (env : FuncId → Option Con) (inl : FuncId → List AV → List Ob → (AV → List Ob → Option R) → Option R)

/-- What follows a place in the code. -/
def kont (n : Nat) (ann : Nat → Ann) : List Nat → Code → (Ex → List AV → List Ob → Option R) → (Ex → List AV → List Ob → Option R)
  | [], _, k => k
  | i :: p, c, k => match c with
    | .seq a b => match i with
      | 0 => kont n ann p a fun e fr H => match e with
        | .normal => execK T h0 env inl n ann b fr H k
        | e => k e fr H
      | _ => kont n ann p b k
    | .cond _ x y => match i with
      | 0 => kont n ann p x k
      | _ => kont n ann p y k
    | .block id c => kont n ann p c fun e fr H => match e with
      | .exit j => bif Nat.beq j id then k .normal fr H else k (.exit j) fr H
      | e => k e fr H
    | _ => k

/-- What follows the body of a loop that stands around a place: its further rounds. -/
def loopK (keep : List Nat) (h : Nat) (body : List AV → List Ob → (Ex → List AV → List Ob → Option R) → Option R) (m : Nat) (K : Ex → List AV → List Ob → Option R) : Ex → List AV → List Ob → Option R :=
  fun e fr H => match e with
    | .normal => loopN keep h body m (headFr keep h fr) (headH h H) K
    | e => K e fr H

theorem loop_of {X R : Type} {L : Nat → X → Option R} {step : (X → Option R) → X → Option R} (h0 : ∀ x, L 0 x = none) (hs : ∀ m x, L (m + 1) x = step (L m) x) : ∀ m x, L m x = iter step m x := by
  intro m
  induction m with
  | zero => intro x; exact h0 x
  | succ m ih =>
    intro x
    rw [hs, iter, show L m = iter step m from funext ih]

def opsOf : Code → List Oper
  | .region _ ops _ => ops.toList
  | _ => []

/-- What follows a call that is walked into: the rest of its region. -/
def restK (draw : Bool) (pl : List Nat) (ops : List Oper) (j : Nat) (g : G) (kk : G → List Ob → Option R) : AV → List Ob → Option R := fun v H' =>
  match ops[j]? with
  | some o => bif plOk pl o.dst o.op (evA g.fr) v then regK T h0 env inl draw pl ops (ops.drop (j + 1)) (putG g o.dst [] v) H' kk else none
  | none => none

def endK (T : TypeId → Option TI) (fn : Func) (k : AV → List Ob → Option R) : Ex → List AV → List Ob → Option R :=
  fun e fr H => match e with
    | .exit _ => none
    | _ => match resultsA T fr H fn.results.toList with
      | some v => k v H
      | none => none
end

/-- What a law is: true wherever the arguments are what the model lets in. -/
noncomputable def FL (s : Sig) (x : s.den) : Option Bool := by
  classical
  exact if wfL s x then some true else none

theorem FL_some {s : Sig} {x : s.den} {y : Bool} (h : FL s x = some y) : wfL s x ∧ y = true := by
  unfold FL at h
  by_cases hw : wfL s x
  · rw [if_pos hw] at h; exact ⟨hw, (Option.some.inj h).symm⟩
  · rw [if_neg hw] at h; cases h

theorem FL_wf {s : Sig} {x : s.den} (h : wfL s x) : FL s x = some true := by
  unfold FL
  exact if_pos h

/-- A law of arguments of a bounded bulk. -/
noncomputable def FLB (N : Nat) (s : Sig) (x : s.den) : Option Bool := by
  classical
  exact if wfL s x ∧ massL s x ≤ N then some true else none

theorem FLB_some {N : Nat} {s : Sig} {x : s.den} {y : Bool} (h : FLB N s x = some y) : wfL s x ∧ massL s x ≤ N ∧ y = true := by
  unfold FLB at h
  by_cases hw : wfL s x ∧ massL s x ≤ N
  · rw [if_pos hw] at h; exact ⟨hw.1, hw.2, (Option.some.inj h).symm⟩
  · rw [if_neg hw] at h; cases h

theorem FLB_wf {N : Nat} {s : Sig} {x : s.den} (h : wfL s x) (h2 : massL s x ≤ N) : FLB N s x = some true := by
  unfold FLB
  exact if_pos ⟨h, h2⟩

end Go.Proofs.YtiolbhmbobelcaaGreatDoor.AI
/- Contracts of functions that ask whether their slice is nil. -/
set_option linter.unusedVariables false
set_option linter.unusedSimpArgs false
namespace Go.Proofs.YtiolbhmbobelcaaGreatDoor.AI
open Go

section
variable {P : Program} {T : TypeId → Option TI} {env : FuncId → Option Con} {ann : FuncId → Nat → Ann} {code : FuncId → Option Func}

theorem nil_or {x : Cx} {t : Ty} {xs : List t.den} {u : Value} (h : RepV x (.val false [.sc (.sl t) xs]) u) : (xs = [] ∧ RepV x (.val false [.scn true t []]) u) ∨ RepV x (.val false [.scn false t xs]) u := by
  have hc := of_one h
  have h2 : RepT x.ok x.w (.sl t) xs [u] := hc.2
  obtain ⟨A, c, h3, h4, h5⟩ := h2
  simp only [List.cons.injEq, and_true] at h3
  subst h3
  cases A with
  | none =>
    left
    have hx : xs = [] := by
      by_cases hne : xs = []
      · exact hne
      · obtain ⟨b, off, hA, _⟩ := h5 hne; cases hA
    subst hx
    exact ⟨rfl, mk_one ⟨hc.1, ⟨none, c, rfl, h4, h5⟩, .inl ⟨rfl, _, _, rfl⟩⟩⟩
  | some a => exact .inr (mk_one ⟨hc.1, ⟨some a, c, rfl, h4, h5⟩, .inr ⟨rfl, _, _, _, rfl⟩⟩)

/-- A function of one slice that asks whether it is nil: what it answers is the same. -/
theorem mkConN_ok (hm : P.follows .mixedOrders = true) (hT : TOk P T) (hE : EnvOk P env) (hC : CodesOk P env ann code) {d : Nat} {f : FuncId} {t : Ty} {rs : Sig} {F : List t.den → Option rs.den}
    (hrun : ∀ X Y, F X = some Y → ∀ z, (z = true → X = []) → ∃ n, runK T env n ann code d f [.val false [.scn z t X]] [] (readL rs) = some Y) : ConOk P f (mkCon [(false, .sl t)] rs false F) := by
  refine ⟨fun x args vals X Y hI hv hl hF => ?_, fun _ => ⟨fun _ _ _ => rfl, fun _ _ => rfl, fun _ _ _ => rfl⟩, fun h => by cases h⟩
  have hl' : lookL [(false, .sl t)] args = some X := hl
  have hvx : RepVs x.bare (argsL [(false, .sl t)] X) vals.toList := lookL_sound (x := x) (y := x.bare) (fun t d vs h => h) _ _ X _ hl' hv
  obtain ⟨u, r, hu, h1, h2⟩ := hvx
  have hr : r = [] := h2
  subst hr
  have h1' : RepV x.bare (.val false [.sc (.sl t) X]) u := h1
  have go : ∀ z, (z = true → X = []) → RepV x.bare (.val false [.scn z t X]) u →
      Does P (callFunc f vals) x.w fun u w' => ∃ y : Cx, y.w = w' ∧ y.H = x.H ∧ Inv y ∧ Kept x y ∧ (∀ id, IdOk x y id) ∧ Carry (fun c => c) x y ∧ RepV y (outL rs Y) u := fun z hz hrep => by
    obtain ⟨n, hn⟩ := hrun X Y hF z hz
    refine con_core (x' := x.bare) hI rfl rfl (.inr rfl) ?_
    exact run_sound hm hT hE hC (x := x.bare) (r := Y) (k := readL rs) hn (bare_inv hI.okb hI.tab) ⟨u, [], hu, hrep, rfl⟩ (fun v H' y u hk hL => ⟨y, v, H', rfl, hk, hL⟩)
  have fin : Does P (callFunc f vals) x.w fun u w' => ∃ y : Cx, y.w = w' ∧ y.H = x.H ∧ Inv y ∧ Kept x y ∧ (∀ id, IdOk x y id) ∧ Carry (fun c => c) x y ∧ RepV y (outL rs Y) u := by
    rcases nil_or h1' with ⟨rfl, h3⟩ | h3
    · exact go true (fun _ => rfl) h3
    · exact go false (fun h => by cases h) h3
  refine fin.mono ?_
  rintro u w' ⟨y, r1, r2, r3, r4, r5, r6, r7⟩
  exact ⟨y, r1, r2, r3, r4, fun id _ _ => r5 id, r6, by rw [r2]; exact Nat.le_refl _, r7⟩

/-- The same, where the answer holds rows of the caller's own. -/
theorem mkConNO_ok (hm : P.follows .mixedOrders = true) (hT : TOk P T) (hE : EnvOk P env) (hC : CodesOk P env ann code) {d : Nat} {f : FuncId} {t : Ty} {l : List (Bool × List Rc)} {F : List t.den → Option (RdL l)}
    (hrun : ∀ X Y, F X = some Y → ∀ z, (z = true → X = []) → ∃ n, runK T env n ann code d f [.val false [.scn z t X]] [] (readO l) = some Y) : ConOk P f (mkConO [(false, .sl t)] l F) := by
  refine mkConO_of fun x vals z Y hI hvx hF' => ?_
  obtain ⟨u, r, hu, h1, h2⟩ := hvx
  have hr : r = [] := h2
  subst hr
  have h1' : RepV x.bare (.val false [.sc (.sl t) z]) u := h1
  rcases nil_or h1' with ⟨rfl, h3⟩ | h3
  · obtain ⟨n, hn⟩ := hrun [] Y hF' true (fun _ => rfl)
    exact conO_core hm hT hE hC hI hn ⟨u, [], hu, h3, rfl⟩
  · obtain ⟨n, hn⟩ := hrun z Y hF' false (fun h => by cases h)
    exact conO_core hm hT hE hC hI hn ⟨u, [], hu, h3, rfl⟩

/-- A number of a float's bits: 'math.Float64bits', which has no body here. -/
theorem bitsCon_ok {f : FuncId} (hf : ∀ (b : Nat) (w : World), (callFunc f #[.float .f64 b]).run P w = .ok (.value (.int .u64 b)) w) : ConOk P f (mkCon [(false, .float .f64)] [(false, .int .u64)] true fun (b : Nat) => some (b : Int)) := by
  refine ⟨fun x args vals X Y hI hv hl hF => ?_, fun h => (by cases h), fun _ args H l X h => lookL_more H l _ args X h⟩
  have hl' : lookL [(false, .float .f64)] (args.map (roV x.H)) = some X := hl
  have hvx : RepVs x.lend.bare (argsL [(false, .float .f64)] X) vals.toList := lookL_sound (x := x.lend) (y := x.lend.bare) (fun t d vs h => h) _ _ X _ hl' (repVs_ro hI _ _ hv)
  obtain ⟨u, r, hu, h1, h2⟩ := hvx
  have hr : r = [] := h2
  subst hr
  have h1' : RepV x.lend.bare (.val false [.sc (.float .f64) X]) u := h1
  have h3 : [u] = [Value.float .f64 X] := (of_one h1').2
  simp only [List.cons.injEq, and_true] at h3
  subst h3
  have hvals : vals = #[.float .f64 X] := by cases vals; simp_all
  subst hvals
  cases hF
  exact Does.value (hf X x.w) ⟨x, rfl, rfl, hI, Kept.refl x, fun id _ _ => IdOk.same hI rfl rfl (fun _ _ _ => rfl), Carry.id_of ⟨fun _ h => h, fun _ _ => rfl⟩ (fun id _ => IdOk.same hI rfl rfl (fun _ _ _ => rfl)), Nat.le_refl _, RepV_int _ _⟩
end
end Go.Proofs.YtiolbhmbobelcaaGreatDoor.AI
/- A contract out of what a call is known to do: plain data in, plain data out, what stood stands. -/
set_option linter.unusedVariables false
set_option linter.unusedSimpArgs false
namespace Go.Proofs.YtiolbhmbobelcaaGreatDoor.AI
open Go Go.RowKit

section
variable {P : Program}

theorem calls_does {f : FuncId} {fn : Func} {vals : Array Value} {w : World} {S : Value → World → Prop} (hf : P.funcs[f]? = some fn) (hn : (fn.name == "runtime.NumGoroutine") = false) (hb : fn.body.isSome = true)
    (h : Calls P f vals w fun e w' => ∃ v, e = .returned v ∧ S v w') : Does P (callFunc f vals) w S := by
  have hrun : (callFunc f vals).run P w = .ok (.enter f vals) w := by
    simp only [beq_eq_false_iff_ne, ne_eq] at hn
    obtain ⟨c, hc⟩ := Option.isSome_iff_exists.1 hb
    simp [callFunc, go_sem, hf, hc, hn]
  unfold Does
  rw [hrun]
  refine Calls.mono h (fun e w' he => ?_)
  obtain ⟨v, rfl, hs⟩ := he
  exact hs

/-- What is asked of a call that lends its arguments and answers with plain data. -/
theorem lendCon_ok {f : FuncId} {s rs : Sig} {F : s.den → Option rs.den} (hfl : ∀ p ∈ rs, p.2.flat = true) (hrd : ∀ Y, readL rs (outL rs Y) [] = some Y)
    (hcall : ∀ (x : Cx) (vals : Array Value) (X : s.den) (Y : rs.den), Inv x → RepVs x (argsL s X) vals.toList → F X = some Y →
      Does P (callFunc f vals) x.w fun u w' => Below x.w.heap.size x.w w' ∧ ∀ y : Cx, RepV y (outL rs Y) u) : ConOk P f (mkCon s rs true F) := by
  refine ⟨fun x args vals X Y hI hv hl hF => ?_, fun h => (by cases h), fun _ args H l X h => lookL_more H l s args X h⟩
  have hl' : lookL s (args.map (roV x.H)) = some X := hl
  have hI' : Inv x.lend.bare := bare_inv (lend_ok hI) (lend_tab hI)
  have hvx : RepVs x.lend.bare (argsL s X) vals.toList := lookL_sound (x := x.lend) (y := x.lend.bare) (fun t d vs h => h) s _ X _ hl' (repVs_ro hI _ _ hv)
  have fin := con_core (x := x) (x' := x.lend.bare) (f := f) (vals := vals) (rs := rs) (Y := Y) hI rfl rfl (.inl hfl) ((hcall x.lend.bare vals X Y hI' hvx hF).mono (by
    rintro u w' ⟨hb, hrep⟩
    let y : Cx := { ok := x.lend.bare.ok, at_ := fun _ => none, w := w', H := [] }
    have hkin : Kin x.lend.bare y := ⟨fun _ h => h, fun b h => hb.block b (hI'.okb b h)⟩
    refine ⟨y, outL rs Y, [], rfl, hrd Y, ⟨?_, rfl, ?_, fun id hid => by omega, Nat.le_refl _, hrep y⟩⟩
    · exact ⟨fun b h => Nat.lt_of_lt_of_le (hI'.okb b h) hb.size, fun i j b oi oj hi => by simp [y] at hi, fun i b o hi => by simp [y] at hi, fun i o hi => by simp [y] at hi, hI'.tab.kin hkin⟩
    · exact ⟨hb.os, hb.tape, hb.output, hb.size, fun b h _ => hb.block b h, fun b h => (by obtain ⟨i, o, h1, _⟩ := h; simp [y] at h1), fun b h => h, fun b h => .inl h⟩))
  refine fin.mono ?_
  rintro u w' ⟨y, r1, r2, r3, r4, r5, r6, r7⟩
  exact ⟨y, r1, r2, r3, r4, fun id _ _ => r5 id, r6, by rw [r2]; exact Nat.le_refl _, r7⟩
end
end Go.Proofs.YtiolbhmbobelcaaGreatDoor.AI
