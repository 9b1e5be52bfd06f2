/- A part of the proof. -/
import Derived.Test.YtefddghdaimklaaGreatDoorAit
import Derived.LoopN
set_option linter.unusedVariables false
set_option linter.unusedSimpArgs false
namespace Go.Proofs.YtefddghdaimklaaGreatDoor.AI
open Go
def Ex.to : Ex → Exit
 | .normal => .normal
 | .exit id => .exit id
 | .ret => .ret
def yv (env : FuncId → Option Con) (ann : Nat → Ann) : Code → Bool
 | .region id ops draw => bif draw then (ann id).dead || jf env (ann id).plain ops else true
 | .seq a b => yv env ann a && yv env ann b
 | .cond _ x y => yv env ann x && yv env ann y
 | .block _ c => yv env ann c
 | .loop c => yv env ann c
 | _ => true
section
variable {R : Type} {P : Program} {T : TypeId → Option TI} {h0 : Nat} {env : FuncId → Option Con} {inl : FuncId → List AV → List Ob → (AV → List Ob → Option R) → Option R} {inlP : FuncId → List AV → List Ob → (AV → List Ob → Option (AV × List Ob)) → Option (AV × List Ob)}
theorem RG.self (fr : List AV) : RG ⟨fr, [], []⟩ fr := ⟨rfl, fun q hq => by simp at hq, fun t _ => rfl, fun t h => absurd (fun q hq => by simp [z3] at hq) h⟩
theorem Mono1.of (hE : xL P env) : Mono1 env := ⟨fun f c h hm => (hE f c h).still hm, fun f c h hm => (hE f c h).mono hm, fun f c h hm => (hE f c h).rows hm⟩
theorem yX (hm : P.follows .mixedOrders = true) (hT : TOk P T) (hE : xL P env) (hN : mA P inlP) (hb : sJ inl inlP) {n : Nat} {ann : Nat → Ann} {r : R} :
  ∀ (c : Code) (Q : Exit → Act → World → Prop) (x0 : Cx) (fr : List AV) (H : List Ob) (k : Ex → List AV → List Ob → Option R) (a : Act) (w : World), yv env ann c = true → ye T h0 env inl n ann c fr H k = some r → Good x0 h0 ⟨fr, H⟩ a w →
   (∀ e fr' H' a' w', k e fr' H' = some r → Good x0 h0 ⟨fr', H'⟩ a' w' → Q e.to a' w') → c.wp P Q a w
 | .skip, Q, x0, fr, H, k, a, w, hd, h, hg, hk => wp_skip (hk .normal fr H a w (by simpa [ye] using h) hg)
 | .region id ops draw, Q, x0, fr, H, k, a, w, hd, h, hg, hk => by
  simp only [ye] at h
  have nd : (draw && (ann id).dead) = false := by
   cases hq : draw && (ann id).dead with
   | false => rfl
   | true => rw [hq] at h; cases h
  rw [nd] at h
  obtain ⟨fr, h, hg⟩ := Good.partK _ _ h hg
  obtain ⟨g', st', h1, h2, h3⟩ := pQ hb draw (ann id).plain ops.toList ops.toList _ _ fr _ _ h (RG.self fr)
  rw [← eZ] at h1
  have fin : ∀ a w, Good x0 h0 st' a w → Q .normal a w := fun a w hg' => by
   obtain ⟨fr2, H2, q1, q2⟩ := Good.sealK _ _ _ h3 (Good.end_ (fr := st'.fr) hg' h2)
   exact hk .normal _ _ a w q1 q2
  cases draw with
  | false => exact wp_region (yI hT hE hN fin _ _ a w h1 hg)
  | true =>
   refine wp_region_draw (fun t => ?_)
   simp only [Region.schedule, hm, Bool.true_or, if_true]
   exact yI hT hE hN fin _ _ a _ (fB (Mono1.of hE) (by simp only [NT] at nd; simpa [yv, nd] using hd) h1 t) (hg.drawn _)
 | .seq x y, Q, x0, fr, H, k, a, w, hd, h, hg, hk => by
  simp only [yv, Nt] at hd
  simp only [ye] at h
  refine wp_seq (yX hm hT hE hN hb x _ x0 fr H _ a w hd.1 h hg fun e fr' H' a' w' h' hg' => ?_)
  cases e with
  | normal => exact yX hm hT hE hN hb y Q x0 fr' H' k a' w' hd.2 h' hg' hk
  | exit id => exact hk _ _ _ _ _ h' hg'
  | ret => exact hk _ _ _ _ _ h' hg'
 | .cond c x y, Q, x0, fr, H, k, a, w, hd, h, hg, hk => by
  simp only [yv, Nt] at hd
  simp only [ye] at h
  split at h
  ·rename_i b hc
   obtain ⟨z, hz, hat⟩ := hg
   have hv := hat.fr.ev hat.inv c
   rw [show evA (St.fr ⟨fr, H⟩) c = _ from hc] at hv
   have hb' := v4 hv
   refine wp_cond hb' ?_
   cases b with
   | true => exact yX hm hT hE hN hb x Q x0 fr H k a w hd.1 h ⟨z, hz, hat⟩ hk
   | false => exact yX hm hT hE hN hb y Q x0 fr H k a w hd.2 h ⟨z, hz, hat⟩ hk
  ·cases h
 | .block id c, Q, x0, fr, H, k, a, w, hd, h, hg, hk => by
  simp only [yv] at hd
  simp only [ye] at h
  refine wp_block (yX hm hT hE hN hb c _ x0 fr H _ a w hd h hg fun e fr' H' a' w' h' hg' => ?_)
  cases e with
  | normal => exact hk _ _ _ _ _ h' hg'
  | ret => exact hk _ _ _ _ _ h' hg'
  | exit j =>
   simp only at h'
   show Exit.inBlock id Q (.exit j) a' w'
   simp only [Exit.inBlock]
   by_cases e : j = id
   ·subst e
    rw [if_pos rfl]
    simp only [Nat.beq_refl, Nv] at h'
    exact hk .normal _ _ _ _ h' hg'
   ·rw [if_neg e]
    have : Nat.beq j id = false := by
     cases hb' : Nat.beq j id with
     | true => exact absurd (Nz hb') e
     | false => rfl
    rw [this] at h'
    exact hk (.exit j) _ _ _ _ h' hg'
 | .loop c, Q, x0, fr, H, k, a, w, hd, h, hg, hk => by
  simp only [yv] at hd
  simp only [ye] at h
  obtain ⟨hg1, hle⟩ := hg.growAll (ann (lI c)).grow
  generalize hp : growAll (ann (lI c)).grow fr H = p at h hg1 hle
  obtain ⟨fr1, H1⟩ := p
  simp only at h hg1 hle
  have hx0 : h0 ≤ H1.length ∧ x0.H.length ≤ H1.length := by
   obtain ⟨z, hz, hat⟩ := hg1
   have e : z.H = H1 := hat.H
   rw [← e]
   exact ⟨hat.len, hat.low⟩
  have key : ∀ (m : Nat) (fr : List AV) (H : List Ob) (a : Act) (w : World), tv (ann (lI c)).keep H1.length (fun fr H k => ye T h0 env inl n ann c fr H k) m fr H k = some r → H.length = H1.length → Good x0 h0 ⟨fr, H⟩ a w → Code.rounds P c Q m a w := by
   intro m
   induction m with
   | zero => intro fr H a w hl _ _; simp [tv] at hl
   | succ m ih =>
    intro fr H a w hl hlen hgd
    simp only [tv] at hl
    obtain ⟨x, rfl, hat⟩ := hgd
    have hxH : x.H = H := hat.H
    have start : Good x h0 ⟨fr, H⟩ a x.w := ⟨x, rfl, hat.inv, hat.H, hat.fr, Kept.refl x, fun id _ => IdOk.same hat.inv rfl rfl (fun _ _ _ => rfl), hat.len, hat.defers, NF _⟩
    have back : ∀ fr' H' a' w', Good x h0 ⟨fr', H'⟩ a' w' → Good x0 h0 ⟨fr', H'⟩ a' w' ∧ H1.length ≤ H'.length := by
     rintro fr' H' a' w' ⟨y, rfl, hy⟩
     have e : y.H = H' := hy.H
     refine ⟨⟨y, rfl, hy.inv, hy.H, hy.fr, hat.kept.trans hy.kept, fun id hid => (hat.ids id hid).trans (hy.ids id hid), hy.len, hy.defers, Nat.le_trans hat.low hy.low⟩, ?_⟩
     rw [← e, ← hlen, ← hxH]; exact hy.low
    rw [rounds_succ]
    refine yX hm hT hE hN hb c _ x fr H _ a x.w hd hl start fun e fr' H' a' w' h' hg' => ?_
    obtain ⟨hb1, hb2⟩ := back _ _ _ _ hg'
    cases e with
    | normal =>
     refine ih _ _ a' w' h' ?_ (hb1.head _ hx0.1 hx0.2 hb2)
     simp only [o8, List.length_map, List.length_take]; exact Nat.min_eq_left hb2
    | exit id => exact hk _ _ _ _ _ h' hb1
    | ret => exact hk _ _ _ _ _ h' hb1
  exact wp_loop_rounds n (key n _ _ a w h (by simp [o8]) (hg1.head _ hx0.1 hx0.2 (NF _)))
 | .exit id, Q, x0, fr, H, k, a, w, hd, h, hg, hk => wp_exit (hk (.exit id) fr H a w (by simpa [ye] using h) hg)
 | .ret, Q, x0, fr, H, k, a, w, hd, h, hg, hk => wp_ret (hk .ret fr H a w (by simpa [ye] using h) hg)
 | .rangeFunc _ _ _ _, Q, x0, fr, H, k, a, w, hd, h, hg, hk => by simp [ye] at h
 | .scope _, Q, x0, fr, H, k, a, w, hd, h, hg, hk => by simp [ye] at h
 | .label _, Q, x0, fr, H, k, a, w, hd, h, hg, hk => by simp [ye] at h
 | .goto _, Q, x0, fr, H, k, a, w, hd, h, hg, hk => by simp [ye] at h
 | .refuse _, Q, x0, fr, H, k, a, w, hd, h, hg, hk => by simp [ye] at h
def fF (tmps : Array Value) (rv : ResultVar) : Sem Value :=
 match rv with
 | .tmp t => pure (tmps.getD t undef)
 | .cell a t => do loadVar t (← asAddr (tmps.getD a undef))
theorem dj (fn : Func) (tmps : Array Value) : results fn tmps = (do
  let vs ← fn.results.mapM (fF tmps)
  pure (if h : vs.size = 1 then vs[0] else .tuple vs)) := rfl
theorem mt (hT : TOk P T) {x : Cx} (hI : Inv x) {fr : List AV} {tmps : Array Value} (hf : FrOk x fr tmps) {rv : ResultVar} {p : Bool × List C} (h : hU T fr x.H rv = some p) :
  ∃ u, (fF tmps rv).run P x.w = .ok u x.w ∧ Rep1 x p u := by
 have slot : ∀ t v, fr.getD t .undef = v → RepV x v (tmps.getD t Go.undef) := fun t v hv => by
  cases hq : fr[t]? with
  | none => simp [List.getD, hq] at hv; rw [← hv]; trivial
  | some z =>
   obtain ⟨u, h1, h2⟩ := hf t z hq
   simp only [List.getD, hq, Option.getD_some] at hv
   rw [← hv, show tmps.getD t Go.undef = u by simp [Array.getD_eq_getD_getElem?, h1]]
   exact h2
 unfold hU at h
 split at h
 ·rename_i t
  split at h
  ·rename_i g cs hv
   cases h
   exact ⟨_, rfl, slot t _ hv⟩
  ·cases h
 ·rename_i s t
  split at h
  ·rename_i g cs hl
   cases h
   obtain ⟨z, h1, h2⟩ := oK hT hI hl (slot s _ rfl)
   refine ⟨z, ?_, h2⟩
   simp only [fF]
   generalize tmps.getD s Go.undef = u at h1
   simp only [Instr.loadAt, Sem.run_bind] at h1 ⊢
   cases u with
   | pointer p =>
    cases p with
    | some q => simpa [Instr.sureAddr, asAddr] using h1
    | none => simp [Instr.sureAddr] at h1
   | _ => simp [Instr.sureAddr] at h1
  ·cases h
theorem uO (hT : TOk P T) {x : Cx} (hI : Inv x) {fr : List AV} {tmps : Array Value} (hf : FrOk x fr tmps) : ∀ (l : List ResultVar) (ps : List (Bool × List C)), jV T fr x.H l = some ps →
  ∃ us : List Value, (l.mapM (fF tmps) : Sem (List Value)).run P x.w = .ok us x.w ∧ Rep1s x ps us
 | [], ps, h => by
  simp only [jV, NA] at h
  subst h
  exact ⟨[], rfl, rfl⟩
 | rv :: l, ps, h => by
  simp only [jV] at h
  split at h
  ·rename_i p hp
   split at h
   ·rename_i q hq
    cases h
    obtain ⟨u, h1, h2⟩ := mt hT hI hf hp
    obtain ⟨us, h3, h4⟩ := uO hT hI hf l q hq
    refine ⟨u :: us, ?_, u, us, rfl, h2, h4⟩
    rw [List.mapM_cons]
    simp only [Sem.run_bind, h1, Result.andThen_ok, h3, Sem.run_pure]
   ·cases h
  ·cases h
theorem ub (hT : TOk P T) {x : Cx} (hI : Inv x) {fr : List AV} {tmps : Array Value} (hf : FrOk x fr tmps) {fn : Func} {v : AV} (h : wa T fr x.H fn.results.toList = some v) :
  ∃ u, (results fn tmps).run P x.w = .ok u x.w ∧ RepV x v u := by
 unfold wa at h
 rw [dj]
 rw [show fn.results = fn.results.toList.toArray by simp]
 simp only [List.mapM_toArray, Sem.run_bind]
 split at h
 ·rename_i p hp
  cases h
  obtain ⟨us, h1, h2⟩ := uO hT hI hf _ _ hp
  obtain ⟨u, r, rfl, h3, h4⟩ := h2
  rw [show r = [] from h4] at h1
  refine ⟨u, ?_, h3⟩
  simp [h1]
 ·rename_i l hne hl
  cases h
  obtain ⟨us, h1, h2⟩ := uO hT hI hf _ _ hl
  refine ⟨.tuple us.toArray, ?_, us.toArray, rfl, by simpa using h2⟩
  have hlen : us.length ≠ 1 := fun e => by
   match us, e with
   | [u], _ =>
    cases l with
    | nil => cases h2
    | cons p l' =>
     obtain ⟨_, r, h5, _, h6⟩ := h2
     simp only [List.cons.injEq] at h5
     cases l' with
     | nil => exact hne p rfl
     | cons q l'' =>
      obtain ⟨_, _, h7, _⟩ := h6
      rw [← h5.2] at h7; cases h7
  simp [h1, hlen]
 ·cases h
structure Left (x : Cx) (h0 : Nat) (v : AV) (H' : List Ob) (u : Value) (y : Cx) : Prop where
 inv : Inv y
 H : y.H = H'
 kept : Kept x y
 ids : ∀ id, id < h0 → IdOk x y id
 len : x.H.length ≤ y.H.length
 val : RepV y v u
theorem se {x : Cx} : ∀ (l : List AV) (vs : List Value), RepVs x l vs → vs.length = l.length ∧ ∀ (t : Nat) (v : AV), l[t]? = some v → ∃ u, vs[t]? = some u ∧ RepV x v u
 | [], vs, h => by rw [show vs = [] from h]; exact ⟨rfl, fun t v h => by simp at h⟩
 | a :: l, vs, h => by
  obtain ⟨v, r, rfl, h2, h3⟩ := h
  obtain ⟨h4, h5⟩ := se l r h3
  refine ⟨by simp [h4], fun t v' ht => ?_⟩
  cases t with
  | zero => simp at ht; subst ht; exact ⟨v, rfl, h2⟩
  | succ t => simpa using h5 t v' (by simpa using ht)
structure CodeOk (P : Program) (env : FuncId → Option Con) (ann : FuncId → Nat → Ann) (f : FuncId) (fn : Func) : Prop where
 at_ : P.funcs[f]? = some fn
 name : (fn.name == "runtime.NumGoroutine") = false
 draws : match fn.body with
  | some c => yv env (ann f) c = true
  | none => True
theorem rB (hm : P.follows .mixedOrders = true) (hT : TOk P T) (hE : xL P env) (hN : mA P inlP) (hb : sJ inl inlP) {n : Nat} {ann : FuncId → Nat → Ann} {r : R} {f : FuncId} {fn : Func} (hc : CodeOk P env ann f fn)
  {x : Cx} {args : List AV} {vals : Array Value} {k : AV → List Ob → Option R} {S : Value → World → Prop} (h : jw T h0 env inl n ann f fn args x.H k = some r) (hI : Inv x) (hv : RepVs x args vals.toList) (h0l : h0 ≤ x.H.length)
  (hk : ∀ v H' y u, k v H' = some r → Left x h0 v H' u y → S u y.w) : Does P (callFunc f vals) x.w S := by
 unfold jw at h
 split at h
 ·cases h
 ·rename_i c hbody
  cases hle : Nat.ble args.length fn.ntmps with
  | false => simp [hle] at h
  | true =>
   simp only [hle, Nv] at h
   have hle' := Nat.le_of_ble_eq_true hle
   have hd := hc.draws
   simp only [hbody] at hd
   have hrun : (callFunc f vals).run P x.w = .ok (.enter f vals) x.w := by
    have hn := hc.name
    simp only [beq_eq_false_iff_ne, ne_eq] at hn
    simp [callFunc, go_sem, hc.at_, hbody, hn]
   unfold Does
   rw [hrun]
   simp only
   refine calls_of_wp hc.at_ hbody ?_
   obtain ⟨hlen, hget⟩ := se _ _ hv
   simp only [Array.length_toList] at hlen
   refine yX hm hT hE hN hb c _ x _ _ _ _ x.w hd h ⟨x, rfl, hI, rfl, ?_, Kept.refl x, fun id _ => IdOk.same hI rfl rfl (fun _ _ _ => rfl), h0l, rfl, NF _⟩ ?_
   ·intro t v ht
    have ht' : (args ++ List.replicate (fn.ntmps - args.length) AV.undef)[t]? = some v := ht
    show ∃ u, (vals ++ Array.replicate (fn.ntmps - vals.size) Go.undef)[t]? = some u ∧ RepV x v u
    rw [List.getElem?_append] at ht'
    rw [Array.getElem?_append]
    split at ht'
    ·rename_i hlt
     rw [if_pos (by omega)]
     obtain ⟨u, h1, h2⟩ := hget t v ht'
     exact ⟨u, by simpa using h1, h2⟩
    ·rename_i hlt
     rw [if_neg (by omega)]
     rw [List.getElem?_replicate] at ht'
     split at ht'
     ·rename_i h3
      cases ht'
      refine ⟨Go.undef, ?_, trivial⟩
      rw [Array.getElem?_replicate, if_pos (by omega)]
     ·cases ht'
   ·intro e fr' H' a' w' h' hg'
    have fin : (match wa T fr' H' fn.results.toList with | some v => k v H' | none => none) = some r → a'.defers = [] ∧ ∃ v, (results fn a'.tmps).run P w' = .ok v w' ∧ S v w' := by
     intro h'
     obtain ⟨y, rfl, hy⟩ := hg'
     have e1 : y.H = H' := hy.H
     split at h'
     ·rename_i v hr
      rw [← e1] at hr
      obtain ⟨u, h1, h2⟩ := ub hT hy.inv hy.fr hr
      exact ⟨hy.defers, u, h1, hk v H' y u h' ⟨hy.inv, e1, hy.kept, hy.ids, hy.low, h2⟩⟩
     ·cases h'
    cases e with
    | normal => exact fin h'
    | ret => exact fin h'
    | exit id => simp at h'
end
end Go.Proofs.YtefddghdaimklaaGreatDoor.AI
namespace Go.Proofs.YtefddghdaimklaaGreatDoor.AI
open Go
section
variable {A B : Type} {T : TypeId → Option TI} {h0 : Nat} {env : FuncId → Option Con} {inlA : FuncId → List AV → List Ob → (AV → List Ob → Option A) → Option A} {inlB : FuncId → List AV → List Ob → (AV → List Ob → Option B) → Option B} {inlP : FuncId → List AV → List Ob → (AV → List Ob → Option (AV × List Ob)) → Option (AV × List Ob)}
theorem XB (ha : sJ inlA inlP) (hb : sJ inlB inlP) (φ : B → Option A) (op : Op) (ev : Operand → AV) (H : List Ob) (k : AV → List Ob → Option B) :
  z0 T h0 env inlA op ev H (fun v h => (k v h).bind φ) = (z0 T h0 env inlB op ev H k).bind φ := by
 rw [rE ha, rE hb]
 cases z0 T h0 env inlP op ev H fun v h => some (v, h) <;> rfl
theorem pA (φ : B → Option A) : ∀ (q : uo) (g : G) (k : G → Bool → Option B), sn g q (fun g b => (k g b).bind φ) = (sn g q k).bind φ
 | [], g, k => rfl
 | (t, w) :: r, g, k => by
  simp only [sn]
  split
  ·rename_i b hb
   cases dS (z3 g.gs t) g.facts <;> cases b <;> cases w <;> simp only [Nv, Nu]
   all_goals first | rfl | exact pA φ r _ k
  ·rfl
theorem iA (ha : sJ inlA inlP) (hb : sJ inlB inlP) (φ : B → Option A) (draw : Bool) (pl : List Nat) (ops : List Oper) : ∀ (l : List Oper) (g : G) (H : List Ob) (k : G → List Ob → Option B),
  gk T h0 env inlA draw pl ops l g H (fun g h => (k g h).bind φ) = (gk T h0 env inlB draw pl ops l g H k).bind φ
 | [], g, H, k => rfl
 | o :: rest, g, H, k => by
  have ih := iA ha hb φ draw pl ops rest
  simp only [gk]
  cases tt g o.dst with
  | false => rfl
  | true =>
   simp only [Nv]
   split
   ·rfl
   ·exact ih _ _ _
   ·rename_i q0 _
    cases (q0.filter fun p => !(lp p g.facts)).any (fun p => lp (p.1, !p.2) g.facts) with
    | true => simp only [Nv]; exact ih _ _ _
    | false =>
     simp only [Nu]
     cases mn o.dst (q0.filter fun p => !(lp p g.facts)) with
     | false => rfl
     | true =>
      simp only [NJ, Nu]
      cases yo o.op with
      | true =>
       simp only [Nv]
       split
       ·rename_i v _
        cases nh pl o.dst o.op (evA g.fr) v with
        | false => rfl
        | true => simp only [Nv]; exact ih _ _ _
       ·rw [← pA]
        congr 1
        funext g' yes
        cases yes with
        | false => simp only [Nu]; exact ih _ _ _
        | true => rfl
      | false =>
       simp only [Nu]
       rw [← pA]
       congr 1
       funext g' yes
       cases yes with
       | false => simp only [Nu]; exact ih _ _ _
       | true =>
        simp only [Nv]
        cases xh g' [] o.op with
        | false => rfl
        | true =>
         simp only [Nv]
         cases ((yz env o.op (evA g'.fr)).all (Nat.ble h0)) && (!draw || Nat.beq (cls env o.op) 3 || (yz env o.op (evA g'.fr)).isEmpty) with
         | false => rfl
         | true =>
          simp only [Nv]
          rw [← XB ha hb]
          congr 1
          funext v H'
          cases nh pl o.dst o.op (evA g'.fr) v with
          | false => rfl
          | true => simp only [Nv]; exact ih _ _ _
theorem si (φ : B → Option A) : ∀ (l : List Nat) (fr : List AV) (H : List Ob) (k : List AV → List Ob → Option B), sealK h0 l fr H (fun fr H => (k fr H).bind φ) = (sealK h0 l fr H k).bind φ
 | [], fr, H, k => rfl
 | d :: l, fr, H, k => by
  simp only [sealK]
  cases bK d with
  | false =>
   simp only [Nu]
   cases Zl d with
   | false => exact si φ l fr H k
   | true => exact si φ l _ H k
  | true =>
   simp only [Nv]
   split
   ·rename_i id n _
    cases Nat.ble h0 id with
    | false => rfl
    | true => exact si φ l _ _ k
   ·rfl
theorem tq (φ : B → Option A) : ∀ (l : List Nat) (fr : List AV) (k : List AV → Option B), partK l fr (fun fr => (k fr).bind φ) = (partK l fr k).bind φ
 | [], fr, k => rfl
 | d :: l, fr, k => by
  simp only [partK]
  cases ac d with
  | false => exact tq φ l fr k
  | true =>
   simp only [Nv]
   split
   ·rename_i o _
    cases o with
    | some n => exact tq φ l _ k
    | none => exact tq φ l _ k
   ·exact tq φ l fr k
def Oa (F : (Ex → List AV → List Ob → Option A) → Option A) (G : (Ex → List AV → List Ob → Option B) → Option B) (φ : B → Option A) : Prop :=
 ∀ k, F (fun e fr H => (k e fr H).bind φ) = (G k).bind φ
theorem gw (φ : B → Option A) (keep : List Nat) (h : Nat) {bA : List AV → List Ob → (Ex → List AV → List Ob → Option A) → Option A} {bB : List AV → List Ob → (Ex → List AV → List Ob → Option B) → Option B}
  (hbody : ∀ fr H, Oa (bA fr H) (bB fr H) φ) : ∀ (m : Nat) (fr : List AV) (H : List Ob), Oa (tv keep h bA m fr H) (tv keep h bB m fr H) φ
 | 0, fr, H => fun k => rfl
 | m + 1, fr, H => fun k => by
  simp only [tv]
  rw [← hbody fr H]
  congr 1
  funext e fr' H'
  cases e with
  | normal => exact gw φ keep h hbody m _ _ k
  | exit id => rfl
  | ret => rfl
theorem wJ (ha : sJ inlA inlP) (hb : sJ inlB inlP) (φ : B → Option A) (n : Nat) (ann : Nat → Ann) : ∀ (c : Code) (fr : List AV) (H : List Ob), Oa (ye T h0 env inlA n ann c fr H) (ye T h0 env inlB n ann c fr H) φ
 | .skip, fr, H => fun k => rfl
 | .region id ops draw, fr, H => fun k => by
  simp only [ye]
  cases draw && (ann id).dead with
  | true => rfl
  | false =>
   simp only [Nu]
   rw [← tq φ]
   congr 1
   funext fr
   rw [← iA ha hb φ draw]
   congr 1
   funext g H
   exact si φ _ _ _ _
 | .seq x y, fr, H => fun k => by
  simp only [ye]
  rw [← wJ ha hb φ n ann x fr H]
  congr 1
  funext e fr' H'
  cases e with
  | normal => exact wJ ha hb φ n ann y fr' H' k
  | exit id => rfl
  | ret => rfl
 | .cond c x y, fr, H => fun k => by
  simp only [ye]
  split
  ·rename_i b _
   cases b with
   | true => exact wJ ha hb φ n ann x fr H k
   | false => exact wJ ha hb φ n ann y fr H k
  ·rfl
 | .block id c, fr, H => fun k => by
  simp only [ye]
  rw [← wJ ha hb φ n ann c fr H]
  congr 1
  funext e fr' H'
  cases e with
  | normal => rfl
  | exit j => simp only; cases Nat.beq j id <;> rfl
  | ret => rfl
 | .loop c, fr, H => fun k => by
  simp only [ye]
  exact gw φ _ _ (fun fr H => wJ ha hb φ n ann c fr H) n _ _ k
 | .exit id, fr, H => fun k => rfl
 | .ret, fr, H => fun k => rfl
 | .rangeFunc _ _ _ _, fr, H => fun k => rfl
 | .scope _, fr, H => fun k => rfl
 | .label _, fr, H => fun k => rfl
 | .goto _, fr, H => fun k => rfl
 | .refuse _, fr, H => fun k => rfl
theorem XM (ha : sJ inlA inlP) (hb : sJ inlB inlP) (φ : B → Option A) (n : Nat) (ann : FuncId → Nat → Ann) (f : FuncId) (fn : Func) (args : List AV) (H : List Ob) (k : AV → List Ob → Option B) :
  jw T h0 env inlA n ann f fn args H (fun v h => (k v h).bind φ) = (jw T h0 env inlB n ann f fn args H k).bind φ := by
 unfold jw
 split
 ·rfl
 ·cases Nat.ble args.length fn.ntmps with
  | false => rfl
  | true =>
   simp only [Nv]
   rw [← wJ ha hb φ]
   congr 1
   funext e fr' H'
   cases e with
   | exit j => rfl
   | normal => simp only; split <;> rfl
   | ret => simp only; split <;> rfl
end
section
variable {R : Type} {P : Program} {T : TypeId → Option TI} {env : FuncId → Option Con} {n : Nat} {ann : FuncId → Nat → Ann} {code : FuncId → Option Func}
theorem yn : ∀ (d : Nat) {R : Type}, sJ (R := R) (xH T env n ann code d) (xH T env n ann code d)
 | 0, R => fun f args H k => rfl
 | d + 1, R => fun f args H k => by
  simp only [xH]
  cases code f with
  | none => rfl
  | some fn =>
   exact XM (yn d (R := R)) (yn d (R := AV × List Ob)) (fun p => k p.1 p.2) n ann f fn args H fun v h => some (v, h)
def xc (P : Program) (env : FuncId → Option Con) (ann : FuncId → Nat → Ann) (code : FuncId → Option Func) : Prop := ∀ f fn, code f = some fn → CodeOk P env ann f fn
theorem oY (hm : P.follows .mixedOrders = true) (hT : TOk P T) (hE : xL P env) (hC : xc P env ann code) : ∀ (d : Nat), mA P (xH T env n ann code d)
 | 0 => fun f args x vals v H' h _ _ => by simp [xH] at h
 | d + 1 => fun f args x vals v H' h hI hv => by
  simp only [xH] at h
  split at h
  ·rename_i fn hf
   refine rB hm hT hE (oY hm hT hE hC d) (yn d) (hC f fn hf) h hI hv (NF _) ?_
   intro v' H'' y u hk hl
   cases hk
   refine ⟨y, rfl, hl.H, ⟨hl.inv, hl.kept, hl.ids, ?_, hl.len⟩, hl.val⟩
   exact Carry.id_of (hl.kept.kin hI) hl.ids
  ·cases h
theorem re (hm : P.follows .mixedOrders = true) (hT : TOk P T) (hE : xL P env) (hC : xc P env ann code) {d : Nat} {f : FuncId} {r : R} {x : Cx} {args : List AV} {vals : Array Value} {k : AV → List Ob → Option R} {S : Value → World → Prop}
  (h : iR T env n ann code d f args x.H k = some r) (hI : Inv x) (hv : RepVs x args vals.toList) (hk : ∀ v H' y u, k v H' = some r → Left x 0 v H' u y → S u y.w) : Does P (callFunc f vals) x.w S := by
 unfold iR at h
 split at h
 ·rename_i fn hf
  exact rB hm hT hE (oY hm hT hE hC d) (yn d) (hC f fn hf) h hI hv (Nat.zero_le _) hk
 ·cases h
end
end Go.Proofs.YtefddghdaimklaaGreatDoor.AI
