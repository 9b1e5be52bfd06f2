/- A part of the proof. -/
import Derived.Test.YtefddghdaimklaaGreatDoorAiz
set_option linter.unusedVariables false
set_option linter.unusedSimpArgs false
namespace Go.Proofs.YtefddghdaimklaaGreatDoor.AI
open Go
def UH (s : Sig) (z : s.den) : List AV := .val false [.ptr 0 0] :: zu s z
def VX : C → Option Nat
 | .own j _ => some j
 | _ => none
def Qs (oj : Option Nat) (o : Ob) : Ob :=
 match oj with
 | some j => Sub.ob (.kill j) o
 | none => o
def Pc {R : Type} (T : TypeId → Option TI) (env : FuncId → Option Con) (n : Nat) (ann : FuncId → Nat → Ann) (code : FuncId → Option Func) (d : Nat) (f : FuncId) (args : List AV) (H : List Ob) (k : AV → List Ob → Option R) : Option R :=
 match code f with
 | some fn => jw T 1 env (xH T env n ann code d) n ann f fn args H k
 | none => none
section
variable {P : Program} {T : TypeId → Option TI} {env : FuncId → Option Con} {ann : FuncId → Nat → Ann} {code : FuncId → Option Func}
theorem d8 {R : Type} (hm : P.follows .mixedOrders = true) (hT : TOk P T) (hE : xL P env) (hC : xc P env ann code) {n d : Nat} {f : FuncId} {r : R} {x : Cx} {args : List AV} {vals : Array Value} {k : AV → List Ob → Option R} {S : Value → World → Prop}
  (h : Pc T env n ann code d f args x.H k = some r) (hI : Inv x) (hv : RepVs x args vals.toList) (hl : 1 ≤ x.H.length) (hk : ∀ v H' y u, k v H' = some r → Left x 1 v H' u y → S u y.w) : Does P (callFunc f vals) x.w S := by
 unfold Pc at h
 split at h
 ·rename_i fn hf
  exact rB hm hT hE (oY hm hT hE hC d) (yn d) (hC f fn hf) h hI hv hl hk
 ·cases h
def Cx.two (x : Cx) (id : Nat) (oj : Option Nat) (H : List Ob) : Cx :=
 {ok := x.ok, at_ := fun i => if i = 0 then x.at_ id else if i = 1 then oj.bind x.at_ else none, w := x.w, H := H }
theorem X7 {x : Cx} {id : Nat} {oj : Option Nat} {H : List Ob} {cs cs' : List C} (hid : x.H[id]? = some (.box cs)) (hH : H[0]? = some (.box cs')) {s : Sig} {rest : List AV} {z : s.den} (hz : zU s rest = some z) {vals : List Value} (hv : RepVs x (.val false [.ptr id 0] :: rest) vals) : RepVs (x.two id oj H) (UH s z) vals := by
 obtain ⟨v, r, rfl, h1, h2⟩ := hv
 refine ⟨v, r, rfl, ?_, yw (x := x) (y := x.two id oj H) (fun t d vs h => h) s rest z r hz h2⟩
 have h3 := zG h1
 refine zF ⟨h3.1, ?_⟩
 have h4 := h3.2
 simp only [zV, RepP, hid] at h4
 have hH' : (x.two id oj H).H[0]? = some (.box cs') := hH
 simp only [zV, RepP, hH']
 exact h4
theorem Tg {x : Cx} (hI : Inv x) {id : Nat} {oj : Option Nat} {H : List Ob} {cs cs' : List C} (hid : x.H[id]? = some (.box cs)) (h0 : ObRep (x.two id oj H) 0 (.box cs'))
  (hH : (oj = none ∧ H = [.box cs']) ∨ ∃ j e t xs xs', oj = some j ∧ x.H[j]? = some (.arr e t xs) ∧ H = [.box cs', .arr e t xs'] ∧ ObRep (x.two id oj H) 1 (.arr e t xs')) : Inv (x.two id oj H) := by
 have get : ∀ (i : Nat) (o : Ob), H[i]? = some o → (i = 0 ∧ o = .box cs') ∨ (i = 1 ∧ ∃ j e t xs xs', oj = some j ∧ x.H[j]? = some (.arr e t xs) ∧ o = .arr e t xs' ∧ ObRep (x.two id oj H) 1 (.arr e t xs')) := fun i o hi => by
  rcases hH with ⟨h1, h2⟩ | ⟨j, e, t, xs, xs', h1, h2, h3, h4⟩
  ·rw [h2] at hi
   cases i with
   | zero => simp at hi; exact .inl ⟨rfl, hi.symm⟩
   | succ i => simp at hi
  ·rw [h3] at hi
   match i with
   | 0 => simp at hi; exact .inl ⟨rfl, hi.symm⟩
   | 1 => simp at hi; exact .inr ⟨rfl, j, e, t, xs, xs', h1, h2, hi.symm, h4⟩
   | i + 2 => simp at hi
 have at0 : (x.two id oj H).at_ 0 = x.at_ id := rfl
 have at1 : (x.two id oj H).at_ 1 = oj.bind x.at_ := rfl
 refine ⟨hI.okb, fun i j b oi oj' hi hj hdi hdj h1 h2 => ?_, fun i b o hi hd hb => ?_, fun i o hi => ?_, hI.tab⟩
 ·rcases get i oi hi with ⟨rfl, _⟩ | ⟨rfl, ji, _, _, _, _, hji, hxi, _, _⟩ <;> rcases get j oj' hj with ⟨rfl, _⟩ | ⟨rfl, jj, _, _, _, _, hjj, hxj, _, _⟩
  ·rfl
  ·exfalso
   rw [at0] at h1; rw [at1, hjj] at h2
   have := hI.inj id jj b _ _ hid hxj (by simp) (by simp) h1 h2
   rw [this, hxj] at hid; cases hid
  ·exfalso
   rw [at0] at h2; rw [at1, hji] at h1
   have := hI.inj id ji b _ _ hid hxi (by simp) (by simp) h2 h1
   rw [this, hxi] at hid; cases hid
  ·rfl
 ·rcases get i o hi with ⟨rfl, _⟩ | ⟨rfl, ji, _, _, _, _, hji, hxi, _, _⟩
  ·rw [at0] at hb
   exact hI.off id b _ hid (by simp) hb
  ·rw [at1, hji] at hb
   exact hI.off ji b _ hxi (by simp) hb
 ·rcases get i o hi with ⟨rfl, rfl⟩ | ⟨rfl, ji, _, _, _, _, hji, hxi, rfl, ho⟩
  ·exact h0
  ·exact ho
theorem Xn {x : Cx} {id : Nat} {oj : Option Nat} {H : List Ob} (b : Nat) (hb : (x.two id oj H).mine b) : x.at_ id = some b ∨ ∃ j, oj = some j ∧ x.at_ j = some b := by
 obtain ⟨i, o, h1, h2, h3⟩ := hb
 have h3' : (if i = 0 then x.at_ id else if i = 1 then oj.bind x.at_ else none) = some b := h3
 by_cases e0 : i = 0
 ·rw [if_pos e0] at h3'; exact .inl h3'
 ·rw [if_neg e0] at h3'
  by_cases e1 : i = 1
  ·rw [if_pos e1] at h3'
   cases oj with
   | none => cases h3'
   | some j => exact .inr ⟨j, rfl, h3'⟩
  ·rw [if_neg e1] at h3'; cases h3'
end
end Go.Proofs.YtefddghdaimklaaGreatDoor.AI
