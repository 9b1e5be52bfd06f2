/- Runs and what follows them; calls that are walked into. -/
import Derived.Test.YtiolbhmbobelcaaGreatDoorAiu
set_option linter.unusedVariables false
set_option linter.unusedSimpArgs false
namespace Go.Proofs.YtiolbhmbobelcaaGreatDoor.AI
open Go

section
variable {A B : Type} {T : TypeId → Option TI} {h0 : Nat} {env : FuncId → Option Con} {inlA : FuncId → List AV → List Ob → (AV → List Ob → Option A) → Option A} {inlB : FuncId → List AV → List Ob → (AV → List Ob → Option B) → Option B} {inlP : FuncId → List AV → List Ob → (AV → List Ob → Option (AV × List Ob)) → Option (AV × List Ob)}

theorem hard_hom (ha : Binds inlA inlP) (hb : Binds inlB inlP) (φ : B → Option A) (op : Op) (ev : Operand → AV) (H : List Ob) (k : AV → List Ob → Option B) :
    hardK T h0 env inlA op ev H (fun v h => (k v h).bind φ) = (hardK T h0 env inlB op ev H k).bind φ := by
  rw [hardK_bind ha, hardK_bind hb]
  cases hardK T h0 env inlP op ev H fun v h => some (v, h) <;> rfl

theorem split_hom (φ : B → Option A) : ∀ (q : Lits) (g : G) (k : G → Bool → Option B), splitK g q (fun g b => (k g b).bind φ) = (splitK g q k).bind φ
  | [], g, k => rfl
  | (t, w) :: r, g, k => by
    simp only [splitK]
    split
    · rename_i b hb
      cases subL (pathOf g.gs t) g.facts <;> cases b <;> cases w <;> simp only [cond_true, cond_false]
      all_goals first | rfl | exact split_hom φ r _ k
    · rfl

theorem reg_hom (ha : Binds inlA inlP) (hb : Binds inlB inlP) (φ : B → Option A) (draw : Bool) (pl : List Nat) (ops : List Oper) : ∀ (l : List Oper) (g : G) (H : List Ob) (k : G → List Ob → Option B),
    regK T h0 env inlA draw pl ops l g H (fun g h => (k g h).bind φ) = (regK T h0 env inlB draw pl ops l g H k).bind φ
  | [], g, H, k => rfl
  | o :: rest, g, H, k => by
    have ih := reg_hom ha hb φ draw pl ops rest
    simp only [regK]
    cases freeG g o.dst with
    | false => rfl
    | true =>
      simp only [cond_true]
      split
      · rfl
      · exact ih _ _ _
      · rename_i q0 _
        cases (q0.filter fun p => !(memL p g.facts)).any (fun p => memL (p.1, !p.2) g.facts) with
        | true => simp only [cond_true]; exact ih _ _ _
        | false =>
          simp only [cond_false]
          cases freeQ o.dst (q0.filter fun p => !(memL p g.facts)) with
          | false => rfl
          | true =>
            simp only [Bool.not_true, cond_false]
            cases isSoft o.op with
            | true =>
              simp only [cond_true]
              split
              · rename_i v _
                cases plOk pl o.dst o.op (evA g.fr) v with
                | false => rfl
                | true => simp only [cond_true]; exact ih _ _ _
              · rw [← split_hom]
                congr 1
                funext g' yes
                cases yes with
                | false => simp only [cond_false]; exact ih _ _ _
                | true => rfl
            | false =>
              simp only [cond_false]
              rw [← split_hom]
              congr 1
              funext g' yes
              cases yes with
              | false => simp only [cond_false]; exact ih _ _ _
              | true =>
                simp only [cond_true]
                cases validAll g' [] o.op with
                | false => rfl
                | true =>
                  simp only [cond_true]
                  cases ((sealsOf env o.op (evA g'.fr)).all (Nat.ble h0)) && (!draw || Nat.beq (cls env o.op) 3 || (sealsOf env o.op (evA g'.fr)).isEmpty) with
                  | false => rfl
                  | true =>
                    simp only [cond_true]
                    rw [← hard_hom ha hb]
                    congr 1
                    funext v H'
                    cases plOk pl o.dst o.op (evA g'.fr) v with
                    | false => rfl
                    | true => simp only [cond_true]; exact ih _ _ _

theorem seal_hom (φ : B → Option A) : ∀ (l : List Nat) (fr : List AV) (H : List Ob) (k : List AV → List Ob → Option B), sealK h0 l fr H (fun fr H => (k fr H).bind φ) = (sealK h0 l fr H k).bind φ
  | [], fr, H, k => rfl
  | d :: l, fr, H, k => by
    simp only [sealK]
    cases isSeal d with
    | false =>
      simp only [cond_false]
      cases isJoin d with
      | false => exact seal_hom φ l fr H k
      | true => exact seal_hom φ l _ H k
    | true =>
      simp only [cond_true]
      split
      · rename_i id n _
        cases Nat.ble h0 id with
        | false => rfl
        | true => exact seal_hom φ l _ _ k
      · rfl

theorem part_hom (φ : B → Option A) : ∀ (l : List Nat) (fr : List AV) (k : List AV → Option B), partK l fr (fun fr => (k fr).bind φ) = (partK l fr k).bind φ
  | [], fr, k => rfl
  | d :: l, fr, k => by
    simp only [partK]
    cases isPart d with
    | false => exact part_hom φ l fr k
    | true =>
      simp only [cond_true]
      split
      · rename_i o _
        cases o with
        | some n => exact part_hom φ l _ k
        | none => exact part_hom φ l _ k
      · exact part_hom φ l fr k

def HomX (F : (Ex → List AV → List Ob → Option A) → Option A) (G : (Ex → List AV → List Ob → Option B) → Option B) (φ : B → Option A) : Prop :=
  ∀ k, F (fun e fr H => (k e fr H).bind φ) = (G k).bind φ

theorem loop_hom (φ : B → Option A) (keep : List Nat) (h : Nat) {bA : List AV → List Ob → (Ex → List AV → List Ob → Option A) → Option A} {bB : List AV → List Ob → (Ex → List AV → List Ob → Option B) → Option B}
    (hbody : ∀ fr H, HomX (bA fr H) (bB fr H) φ) : ∀ (m : Nat) (fr : List AV) (H : List Ob), HomX (loopN keep h bA m fr H) (loopN keep h bB m fr H) φ
  | 0, fr, H => fun k => rfl
  | m + 1, fr, H => fun k => by
    simp only [loopN]
    rw [← hbody fr H]
    congr 1
    funext e fr' H'
    cases e with
    | normal => exact loop_hom φ keep h hbody m _ _ k
    | exit id => rfl
    | ret => rfl

theorem exec_hom (ha : Binds inlA inlP) (hb : Binds inlB inlP) (φ : B → Option A) (n : Nat) (ann : Nat → Ann) : ∀ (c : Code) (fr : List AV) (H : List Ob), HomX (execK T h0 env inlA n ann c fr H) (execK T h0 env inlB n ann c fr H) φ
  | .skip, fr, H => fun k => rfl
  | .region id ops draw, fr, H => fun k => by
    simp only [execK]
    cases draw && (ann id).dead with
    | true => rfl
    | false =>
      simp only [cond_false]
      rw [← part_hom φ]
      congr 1
      funext fr
      rw [← reg_hom ha hb φ draw]
      congr 1
      funext g H
      exact seal_hom φ _ _ _ _
  | .seq x y, fr, H => fun k => by
    simp only [execK]
    rw [← exec_hom ha hb φ n ann x fr H]
    congr 1
    funext e fr' H'
    cases e with
    | normal => exact exec_hom ha hb φ n ann y fr' H' k
    | exit id => rfl
    | ret => rfl
  | .cond c x y, fr, H => fun k => by
    simp only [execK]
    split
    · rename_i b _
      cases b with
      | true => exact exec_hom ha hb φ n ann x fr H k
      | false => exact exec_hom ha hb φ n ann y fr H k
    · rfl
  | .block id c, fr, H => fun k => by
    simp only [execK]
    rw [← exec_hom ha hb φ n ann c fr H]
    congr 1
    funext e fr' H'
    cases e with
    | normal => rfl
    | exit j => simp only; cases Nat.beq j id <;> rfl
    | ret => rfl
  | .loop c, fr, H => fun k => by
    simp only [execK]
    exact loop_hom φ _ _ (fun fr H => exec_hom ha hb φ n ann c fr H) n _ _ k
  | .exit id, fr, H => fun k => rfl
  | .ret, fr, H => fun k => rfl
  | .rangeFunc _ _ _ _, fr, H => fun k => rfl
  | .scope _, fr, H => fun k => rfl
  | .label _, fr, H => fun k => rfl
  | .goto _, fr, H => fun k => rfl
  | .refuse _, fr, H => fun k => rfl

theorem body_hom (ha : Binds inlA inlP) (hb : Binds inlB inlP) (φ : B → Option A) (n : Nat) (ann : FuncId → Nat → Ann) (f : FuncId) (fn : Func) (args : List AV) (H : List Ob) (k : AV → List Ob → Option B) :
    bodyK T h0 env inlA n ann f fn args H (fun v h => (k v h).bind φ) = (bodyK T h0 env inlB n ann f fn args H k).bind φ := by
  unfold bodyK
  split
  · rfl
  · cases Nat.ble args.length fn.ntmps with
    | false => rfl
    | true =>
      simp only [cond_true]
      rw [← exec_hom ha hb φ]
      congr 1
      funext e fr' H'
      cases e with
      | exit j => rfl
      | normal => simp only; split <;> rfl
      | ret => simp only; split <;> rfl
end

section
variable {R : Type} {P : Program} {T : TypeId → Option TI} {env : FuncId → Option Con} {n : Nat} {ann : FuncId → Nat → Ann} {code : FuncId → Option Func}

theorem inlD_binds : ∀ (d : Nat) {R : Type}, Binds (R := R) (inlD T env n ann code d) (inlD T env n ann code d)
  | 0, R => fun f args H k => rfl
  | d + 1, R => fun f args H k => by
    simp only [inlD]
    cases code f with
    | none => rfl
    | some fn =>
      exact body_hom (inlD_binds d (R := R)) (inlD_binds d (R := AV × List Ob)) (fun p => k p.1 p.2) n ann f fn args H fun v h => some (v, h)

def CodesOk (P : Program) (env : FuncId → Option Con) (ann : FuncId → Nat → Ann) (code : FuncId → Option Func) : Prop := ∀ f fn, code f = some fn → CodeOk P env ann f fn

theorem inlD_ok (hm : P.follows .mixedOrders = true) (hT : TOk P T) (hE : EnvOk P env) (hC : CodesOk P env ann code) : ∀ (d : Nat), InlOk P (inlD T env n ann code d)
  | 0 => fun f args x vals v H' h _ _ => by simp [inlD] at h
  | d + 1 => fun f args x vals v H' h hI hv => by
    simp only [inlD] at h
    split at h
    · rename_i fn hf
      refine body_sound hm hT hE (inlD_ok hm hT hE hC d) (inlD_binds d) (hC f fn hf) h hI hv (Nat.le_refl _) ?_
      intro v' H'' y u hk hl
      cases hk
      refine ⟨y, rfl, hl.H, ⟨hl.inv, hl.kept, hl.ids, ?_, hl.len⟩, hl.val⟩
      exact Carry.id_of (hl.kept.kin hI) hl.ids
    · cases h

/-- A whole run, for itself. -/
theorem run_sound (hm : P.follows .mixedOrders = true) (hT : TOk P T) (hE : EnvOk P env) (hC : CodesOk P env ann code) {d : Nat} {f : FuncId} {r : R} {x : Cx} {args : List AV} {vals : Array Value} {k : AV → List Ob → Option R} {S : Value → World → Prop}
    (h : runK T env n ann code d f args x.H k = some r) (hI : Inv x) (hv : RepVs x args vals.toList) (hk : ∀ v H' y u, k v H' = some r → Left x 0 v H' u y → S u y.w) : Does P (callFunc f vals) x.w S := by
  unfold runK at h
  split at h
  · rename_i fn hf
    exact body_sound hm hT hE (inlD_ok hm hT hE hC d) (inlD_binds d) (hC f fn hf) h hI hv (Nat.zero_le _) hk
  · cases h
end

end Go.Proofs.YtiolbhmbobelcaaGreatDoor.AI
