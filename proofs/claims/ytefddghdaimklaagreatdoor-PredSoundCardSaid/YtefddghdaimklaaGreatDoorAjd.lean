/- A part of the proof. -/
import Derived.Test.YtefddghdaimklaaGreatDoorAja
import Derived.Test.YtefddghdaimklaaGreatDoorAiy
set_option linter.unusedVariables false
set_option linter.unusedSimpArgs false
/- Places in code, and what follows them. -/
namespace Go.Proofs.YtefddghdaimklaaGreatDoor.AI
open Go
def xw (fn : Func) : Code :=
 match fn.body with
 | some c => c
 | none => .skip
def j1 : List Nat → Code → Code
 | [], c => c
 | i :: p, c => match c with
  | .seq a b => match i with
   | 0 => j1 p a
   | _ => j1 p b
  | .cond _ x y => match i with
   | 0 => j1 p x
   | _ => j1 p y
  | .block _ c => j1 p c
  | .loop c => j1 p c
  | c => c
section
variable {R : Type} (T : TypeId → Option TI) (h0 : Nat) (env : FuncId → Option Con) (inl : FuncId → List AV → List Ob → (AV → List Ob → Option R) → Option R)
def cp (n : Nat) (ann : Nat → Ann) : List Nat → Code → (Ex → List AV → List Ob → Option R) → (Ex → List AV → List Ob → Option R)
 | [], _, k => k
 | i :: p, c, k => match c with
  | .seq a b => match i with
   | 0 => cp n ann p a fun e fr H => match e with
    | .normal => ye T h0 env inl n ann b fr H k
    | e => k e fr H
   | _ => cp n ann p b k
  | .cond _ x y => match i with
   | 0 => cp n ann p x k
   | _ => cp n ann p y k
  | .block id c => cp n ann p c fun e fr H => match e with
   | .exit j => bif Nat.beq j id then k .normal fr H else k (.exit j) fr H
   | e => k e fr H
  | _ => k
theorem zM {X R : Type} {L : Nat → X → Option R} {step : (X → Option R) → X → Option R} (h0 : ∀ x, L 0 x = none) (hs : ∀ m x, L (m + 1) x = step (L m) x) : ∀ m x, L m x = zY step m x := by
 intro m
 induction m with
 | zero => intro x; exact h0 x
 | succ m ih =>
  intro x
  rw [hs, zY, show L m = zY step m from funext ih]
def PL : Code → List Oper
 | .region _ ops _ => ops.toList
 | _ => []
def PO (draw : Bool) (pl : List Nat) (ops : List Oper) (j : Nat) (g : G) (kk : G → List Ob → Option R) : AV → List Ob → Option R := fun v H' =>
 match ops[j]? with
 | some o => bif nh pl o.dst o.op (evA g.fr) v then gk T h0 env inl draw pl ops (ops.drop (j + 1)) (kX g o.dst [] v) H' kk else none
 | none => none
def un (T : TypeId → Option TI) (fn : Func) (k : AV → List Ob → Option R) : Ex → List AV → List Ob → Option R :=
 fun e fr H => match e with
  | .exit _ => none
  | _ => match wa T fr H fn.results.toList with
   | some v => k v H
   | none => none
end
noncomputable def FL (s : Sig) (x : s.den) : Option Bool := by
 classical
 exact if wfL s x then some true else none
theorem UT {s : Sig} {x : s.den} {y : Bool} (h : FL s x = some y) : wfL s x ∧ y = true := by
 unfold FL at h
 by_cases hw : wfL s x
 ·rw [if_pos hw] at h; exact ⟨hw, (Option.some.inj h).symm⟩
 ·rw [if_neg hw] at h; cases h
theorem Pw {s : Sig} {x : s.den} (h : wfL s x) : FL s x = some true := by
 unfold FL
 exact if_pos h
end Go.Proofs.YtefddghdaimklaaGreatDoor.AI
/- Contracts of functions that ask whether their slice is nil. -/
namespace Go.Proofs.YtefddghdaimklaaGreatDoor.AI
open Go
section
variable {P : Program} {T : TypeId → Option TI} {env : FuncId → Option Con} {ann : FuncId → Nat → Ann} {code : FuncId → Option Func}
theorem QO {x : Cx} {t : Ty} {xs : List t.den} {u : Value} (h : RepV x (.val false [.sc (.sl t) xs]) u) : (xs = [] ∧ RepV x (.val false [.scn true t []]) u) ∨ RepV x (.val false [.scn false t xs]) u := by
 have hc := zG h
 have h2 : RepT x.ok x.w (.sl t) xs [u] := hc.2
 obtain ⟨A, c, h3, h4, h5⟩ := h2
 simp only [List.cons.injEq, and_true] at h3
 subst h3
 cases A with
 | none =>
  left
  have hx : xs = [] := by
   by_cases hne : xs = []
   ·exact hne
   ·obtain ⟨b, off, hA, _⟩ := h5 hne; cases hA
  subst hx
  exact ⟨rfl, zF ⟨hc.1, ⟨none, c, rfl, h4, h5⟩, .inl ⟨rfl, _, _, rfl⟩⟩⟩
 | some a => exact .inr (zF ⟨hc.1, ⟨some a, c, rfl, h4, h5⟩, .inr ⟨rfl, _, _, _, rfl⟩⟩)
theorem eW (hm : P.follows .mixedOrders = true) (hT : TOk P T) (hE : xL P env) (hC : xc P env ann code) {d : Nat} {f : FuncId} {t : Ty} {l : List (Bool × List Rc)} {F : List t.den → Option (RdL l)}
  (hrun : ∀ X Y, F X = some Y → ∀ z, (z = true → X = []) → ∃ n, iR T env n ann code d f [.val false [.scn z t X]] [] (cf l) = some Y) : ConOk P f (gW [(false, .sl t)] l F) := by
 refine Za fun x vals z Y hI hvx hF' => ?_
 obtain ⟨u, r, hu, h1, h2⟩ := hvx
 have hr : r = [] := h2
 subst hr
 have h1' : RepV x.bare (.val false [.sc (.sl t) z]) u := h1
 rcases QO h1' with ⟨rfl, h3⟩ | h3
 ·obtain ⟨n, hn⟩ := hrun [] Y hF' true (fun _ => rfl)
  exact lr hm hT hE hC hI hn ⟨u, [], hu, h3, rfl⟩
 ·obtain ⟨n, hn⟩ := hrun z Y hF' false (fun h => by cases h)
  exact lr hm hT hE hC hI hn ⟨u, [], hu, h3, rfl⟩
theorem d5 {f : FuncId} (hf : ∀ (b : Nat) (w : World), (callFunc f #[.float .f64 b]).run P w = .ok (.value (.int .u64 b)) w) : ConOk P f (zk [(false, .float .f64)] [(false, .int .u64)] true fun (b : Nat) => some (b : Int)) := by
 refine ⟨fun x args vals X Y hI hv hl hF => ?_, fun h => (by cases h), fun _ args H l X h => wj H l _ args X h, fun h => by cases h⟩
 have hl' : zU [(false, .float .f64)] (args.map (roV x.H)) = some X := hl
 have hvx : RepVs x.lend.bare (zu [(false, .float .f64)] X) vals.toList := yw (x := x.lend) (y := x.lend.bare) (fun t d vs h => h) _ _ X _ hl' (wM hI _ _ hv)
 obtain ⟨u, r, hu, h1, h2⟩ := hvx
 have hr : r = [] := h2
 subst hr
 have h1' : RepV x.lend.bare (.val false [.sc (.float .f64) X]) u := h1
 have h3 : [u] = [Value.float .f64 X] := (zG h1').2
 simp only [List.cons.injEq, and_true] at h3
 subst h3
 have hvals : vals = #[.float .f64 X] := by cases vals; simp_all
 subst hvals
 cases hF
 exact Does.value (hf X x.w) ⟨x, rfl, rfl, hI, Kept.refl x, fun id _ _ => IdOk.same hI rfl rfl (fun _ _ _ => rfl), Carry.id_of ⟨fun _ h => h, fun _ _ => rfl⟩ (fun id _ => IdOk.same hI rfl rfl (fun _ _ _ => rfl)), NF _, zZ _ _⟩
end
end Go.Proofs.YtefddghdaimklaaGreatDoor.AI
/- A contract out of what a call is known to do: plain data in, plain data out, what stood stands. -/
namespace Go.Proofs.YtefddghdaimklaaGreatDoor.AI
open Go Go.RowKit
section
variable {P : Program}
theorem wm {f : FuncId} {fn : Func} {vals : Array Value} {w : World} {S : Value → World → Prop} (hf : P.funcs[f]? = some fn) (hn : (fn.name == "runtime.NumGoroutine") = false) (hb : fn.body.isSome = true)
  (h : Calls P f vals w fun e w' => ∃ v, e = .returned v ∧ S v w') : Does P (callFunc f vals) w S := by
 have hrun : (callFunc f vals).run P w = .ok (.enter f vals) w := by
  simp only [beq_eq_false_iff_ne, ne_eq] at hn
  obtain ⟨c, hc⟩ := Option.isSome_iff_exists.1 hb
  simp [callFunc, go_sem, hf, hc, hn]
 unfold Does
 rw [hrun]
 refine Calls.mono h (fun e w' he => ?_)
 obtain ⟨v, rfl, hs⟩ := he
 exact hs
theorem xA {f : FuncId} {s rs : Sig} {F : s.den → Option rs.den} (hfl : ∀ p ∈ rs, p.2.flat = true) (hrd : ∀ Y, zq rs (jY rs Y) [] = some Y)
  (hcall : ∀ (x : Cx) (vals : Array Value) (X : s.den) (Y : rs.den), Inv x → RepVs x (zu s X) vals.toList → F X = some Y →
   Does P (callFunc f vals) x.w fun u w' => Below x.w.heap.size x.w w' ∧ ∀ y : Cx, RepV y (jY rs Y) u) : ConOk P f (zk s rs true F) := by
 refine ⟨fun x args vals X Y hI hv hl hF => ?_, fun h => (by cases h), fun _ args H l X h => wj H l s args X h, fun h => by cases h⟩
 have hl' : zU s (args.map (roV x.H)) = some X := hl
 have hI' : Inv x.lend.bare := u4 (mD hI) (qS hI)
 have hvx : RepVs x.lend.bare (zu s X) vals.toList := yw (x := x.lend) (y := x.lend.bare) (fun t d vs h => h) s _ X _ hl' (wM hI _ _ hv)
 have fin := ef (x := x) (x' := x.lend.bare) (f := f) (vals := vals) (rs := rs) (Y := Y) hI rfl rfl (.inl hfl) ((hcall x.lend.bare vals X Y hI' hvx hF).mono (by
  rintro u w' ⟨hb, hrep⟩
  let y : Cx := { ok := x.lend.bare.ok, at_ := fun _ => none, w := w', H := [] }
  have hkin : Kin x.lend.bare y := ⟨fun _ h => h, fun b h => hb.block b (hI'.okb b h)⟩
  refine ⟨y, jY rs Y, [], rfl, hrd Y, ⟨?_, rfl, ?_, fun id hid => by omega, NF _, hrep y⟩⟩
  ·exact ⟨fun b h => Nat.lt_of_lt_of_le (hI'.okb b h) hb.size, fun i j b oi oj hi => by simp [y] at hi, fun i b o hi => by simp [y] at hi, fun i o hi => by simp [y] at hi, hI'.tab.kin hkin⟩
  ·exact ⟨hb.os, hb.tape, hb.output, hb.size, fun b h _ => hb.block b h, fun b h => (by obtain ⟨i, o, h1, _⟩ := h; simp [y] at h1), fun b h => h, fun b h => .inl h⟩))
 refine fin.mono ?_
 rintro u w' ⟨y, r1, r2, r3, r4, r5, r6, r7⟩
 exact ⟨y, r1, r2, r3, r4, fun id _ _ => r5 id, r6, by rw [r2]; exact NF _, r7⟩
end
end Go.Proofs.YtefddghdaimklaaGreatDoor.AI
