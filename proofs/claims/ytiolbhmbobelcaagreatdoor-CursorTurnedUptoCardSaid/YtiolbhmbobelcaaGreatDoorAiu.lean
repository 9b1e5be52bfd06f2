/- The run of code is what the machine does: a function's body, from its head to its results. -/
import Derived.Test.YtiolbhmbobelcaaGreatDoorAit
import Derived.LoopN
set_option linter.unusedVariables false
set_option linter.unusedSimpArgs false
namespace Go.Proofs.YtiolbhmbobelcaaGreatDoor.AI
open Go

def Ex.to : Ex → Exit
  | .normal => .normal
  | .exit id => .exit id
  | .ret => .ret

/-- Every region whose order is open is one that may be. -/
def drawsOk (env : FuncId → Option Con) (ann : Nat → Ann) : Code → Bool
  | .region id ops draw => bif draw then (ann id).dead || drawOk env (ann id).plain ops else true
  | .seq a b => drawsOk env ann a && drawsOk env ann b
  | .cond _ x y => drawsOk env ann x && drawsOk env ann y
  | .block _ c => drawsOk env ann c
  | .loop c => drawsOk env ann c
  | _ => true

section
variable {R : Type} {P : Program} {T : TypeId → Option TI} {h0 : Nat} {env : FuncId → Option Con} {inl : FuncId → List AV → List Ob → (AV → List Ob → Option R) → Option R} {inlP : FuncId → List AV → List Ob → (AV → List Ob → Option (AV × List Ob)) → Option (AV × List Ob)}

theorem RG.self (fr : List AV) : RG ⟨fr, [], []⟩ fr := ⟨rfl, fun q hq => by simp at hq, fun t _ => rfl, fun t h => absurd (fun q hq => by simp [pathOf] at hq) h⟩

theorem Mono1.of (hE : EnvOk P env) : Mono1 env := ⟨fun f c h hm => (hE f c h).still hm, fun f c h hm => (hE f c h).mono hm⟩

theorem exec_sound (hm : P.follows .mixedOrders = true) (hT : TOk P T) (hE : EnvOk P env) (hN : InlOk P inlP) (hb : Binds inl inlP) {n : Nat} {ann : Nat → Ann} {r : R} :
    ∀ (c : Code) (Q : Exit → Act → World → Prop) (x0 : Cx) (fr : List AV) (H : List Ob) (k : Ex → List AV → List Ob → Option R) (a : Act) (w : World), drawsOk env ann c = true → execK T h0 env inl n ann c fr H k = some r → Good x0 h0 ⟨fr, H⟩ a w →
      (∀ e fr' H' a' w', k e fr' H' = some r → Good x0 h0 ⟨fr', H'⟩ a' w' → Q e.to a' w') → c.wp P Q a w
  | .skip, Q, x0, fr, H, k, a, w, hd, h, hg, hk => wp_skip (hk .normal fr H a w (by simpa [execK] using h) hg)
  | .region id ops draw, Q, x0, fr, H, k, a, w, hd, h, hg, hk => by
    simp only [execK] at h
    have nd : (draw && (ann id).dead) = false := by
      cases hq : draw && (ann id).dead with
      | false => rfl
      | true => rw [hq] at h; cases h
    rw [nd] at h
    obtain ⟨fr, h, hg⟩ := Good.partK _ _ h hg
    obtain ⟨g', st', h1, h2, h3⟩ := reg_sound hb draw (ann id).plain ops.toList ops.toList _ _ fr _ _ h (RG.self fr)
    rw [← runL_range] at h1
    have fin : ∀ a w, Good x0 h0 st' a w → Q .normal a w := fun a w hg' => by
      obtain ⟨fr2, H2, q1, q2⟩ := Good.sealK _ _ _ h3 (Good.end_ (fr := st'.fr) hg' h2)
      exact hk .normal _ _ a w q1 q2
    cases draw with
    | false => exact wp_region (runD_sound hT hE hN fin _ _ a w h1 hg)
    | true =>
      refine wp_region_draw (fun t => ?_)
      simp only [Region.schedule, hm, Bool.true_or, if_true]
      exact runD_sound hT hE hN fin _ _ a _ (draw_any (Mono1.of hE) (by simp only [Bool.true_and] at nd; simpa [drawsOk, nd] using hd) h1 t) (hg.drawn _)
  | .seq x y, Q, x0, fr, H, k, a, w, hd, h, hg, hk => by
    simp only [drawsOk, Bool.and_eq_true] at hd
    simp only [execK] at h
    refine wp_seq (exec_sound hm hT hE hN hb x _ x0 fr H _ a w hd.1 h hg fun e fr' H' a' w' h' hg' => ?_)
    cases e with
    | normal => exact exec_sound hm hT hE hN hb y Q x0 fr' H' k a' w' hd.2 h' hg' hk
    | exit id => exact hk _ _ _ _ _ h' hg'
    | ret => exact hk _ _ _ _ _ h' hg'
  | .cond c x y, Q, x0, fr, H, k, a, w, hd, h, hg, hk => by
    simp only [drawsOk, Bool.and_eq_true] at hd
    simp only [execK] at h
    split at h
    · rename_i b hc
      obtain ⟨z, hz, hat⟩ := hg
      have hv := hat.fr.ev hat.inv c
      rw [show evA (St.fr ⟨fr, H⟩) c = _ from hc] at hv
      have hb' := of_bool hv
      refine wp_cond hb' ?_
      cases b with
      | true => exact exec_sound hm hT hE hN hb x Q x0 fr H k a w hd.1 h ⟨z, hz, hat⟩ hk
      | false => exact exec_sound hm hT hE hN hb y Q x0 fr H k a w hd.2 h ⟨z, hz, hat⟩ hk
    · cases h
  | .block id c, Q, x0, fr, H, k, a, w, hd, h, hg, hk => by
    simp only [drawsOk] at hd
    simp only [execK] at h
    refine wp_block (exec_sound hm hT hE hN hb c _ x0 fr H _ a w hd h hg fun e fr' H' a' w' h' hg' => ?_)
    cases e with
    | normal => exact hk _ _ _ _ _ h' hg'
    | ret => exact hk _ _ _ _ _ h' hg'
    | exit j =>
      simp only at h'
      show Exit.inBlock id Q (.exit j) a' w'
      simp only [Exit.inBlock]
      by_cases e : j = id
      · subst e
        rw [if_pos rfl]
        simp only [Nat.beq_refl, cond_true] at h'
        exact hk .normal _ _ _ _ h' hg'
      · rw [if_neg e]
        have : Nat.beq j id = false := by
          cases hb' : Nat.beq j id with
          | true => exact absurd (Nat.eq_of_beq_eq_true hb') e
          | false => rfl
        rw [this] at h'
        exact hk (.exit j) _ _ _ _ h' hg'
  | .loop c, Q, x0, fr, H, k, a, w, hd, h, hg, hk => by
    simp only [drawsOk] at hd
    simp only [execK] at h
    obtain ⟨hg1, hle⟩ := hg.growAll (ann (regOf c)).grow
    generalize hp : growAll (ann (regOf c)).grow fr H = p at h hg1 hle
    obtain ⟨fr1, H1⟩ := p
    simp only at h hg1 hle
    have hx0 : h0 ≤ H1.length ∧ x0.H.length ≤ H1.length := by
      obtain ⟨z, hz, hat⟩ := hg1
      have e : z.H = H1 := hat.H
      rw [← e]
      exact ⟨hat.len, hat.low⟩
    have key : ∀ (m : Nat) (fr : List AV) (H : List Ob) (a : Act) (w : World), loopN (ann (regOf c)).keep H1.length (fun fr H k => execK T h0 env inl n ann c fr H k) m fr H k = some r → H.length = H1.length → Good x0 h0 ⟨fr, H⟩ a w → Code.rounds P c Q m a w := by
      intro m
      induction m with
      | zero => intro fr H a w hl _ _; simp [loopN] at hl
      | succ m ih =>
        intro fr H a w hl hlen hgd
        simp only [loopN] at hl
        obtain ⟨x, rfl, hat⟩ := hgd
        have hxH : x.H = H := hat.H
        have start : Good x h0 ⟨fr, H⟩ a x.w := ⟨x, rfl, hat.inv, hat.H, hat.fr, Kept.refl x, fun id _ => IdOk.same hat.inv rfl rfl (fun _ _ _ => rfl), hat.len, hat.defers, Nat.le_refl _⟩
        have back : ∀ fr' H' a' w', Good x h0 ⟨fr', H'⟩ a' w' → Good x0 h0 ⟨fr', H'⟩ a' w' ∧ H1.length ≤ H'.length := by
          rintro fr' H' a' w' ⟨y, rfl, hy⟩
          have e : y.H = H' := hy.H
          refine ⟨⟨y, rfl, hy.inv, hy.H, hy.fr, hat.kept.trans hy.kept, fun id hid => (hat.ids id hid).trans (hy.ids id hid), hy.len, hy.defers, Nat.le_trans hat.low hy.low⟩, ?_⟩
          rw [← e, ← hlen, ← hxH]; exact hy.low
        rw [rounds_succ]
        refine exec_sound hm hT hE hN hb c _ x fr H _ a x.w hd hl start fun e fr' H' a' w' h' hg' => ?_
        obtain ⟨hb1, hb2⟩ := back _ _ _ _ hg'
        cases e with
        | normal =>
          refine ih _ _ a' w' h' ?_ (hb1.head _ hx0.1 hx0.2 hb2)
          simp only [headH, List.length_map, List.length_take]; exact Nat.min_eq_left hb2
        | exit id => exact hk _ _ _ _ _ h' hb1
        | ret => exact hk _ _ _ _ _ h' hb1
    exact wp_loop_rounds n (key n _ _ a w h (by simp [headH]) (hg1.head _ hx0.1 hx0.2 (Nat.le_refl _)))
  | .exit id, Q, x0, fr, H, k, a, w, hd, h, hg, hk => wp_exit (hk (.exit id) fr H a w (by simpa [execK] using h) hg)
  | .ret, Q, x0, fr, H, k, a, w, hd, h, hg, hk => wp_ret (hk .ret fr H a w (by simpa [execK] using h) hg)
  | .rangeFunc _ _ _ _, Q, x0, fr, H, k, a, w, hd, h, hg, hk => by simp [execK] at h
  | .scope _, Q, x0, fr, H, k, a, w, hd, h, hg, hk => by simp [execK] at h
  | .label _, Q, x0, fr, H, k, a, w, hd, h, hg, hk => by simp [execK] at h
  | .goto _, Q, x0, fr, H, k, a, w, hd, h, hg, hk => by simp [execK] at h
  | .refuse _, Q, x0, fr, H, k, a, w, hd, h, hg, hk => by simp [execK] at h

/-! ### Results -/
def resOne (tmps : Array Value) (rv : ResultVar) : Sem Value :=
  match rv with
  | .tmp t => pure (tmps.getD t undef)
  | .cell a t => do loadVar t (← asAddr (tmps.getD a undef))

theorem results_eq (fn : Func) (tmps : Array Value) : results fn tmps = (do
    let vs ← fn.results.mapM (resOne tmps)
    pure (if h : vs.size = 1 then vs[0] else .tuple vs)) := rfl

theorem resCell_sound (hT : TOk P T) {x : Cx} (hI : Inv x) {fr : List AV} {tmps : Array Value} (hf : FrOk x fr tmps) {rv : ResultVar} {p : Bool × List C} (h : resCell T fr x.H rv = some p) :
    ∃ u, (resOne tmps rv).run P x.w = .ok u x.w ∧ Rep1 x p u := by
  have slot : ∀ t v, fr.getD t .undef = v → RepV x v (tmps.getD t Go.undef) := fun t v hv => by
    cases hq : fr[t]? with
    | none => simp [List.getD, hq] at hv; rw [← hv]; trivial
    | some z =>
      obtain ⟨u, h1, h2⟩ := hf t z hq
      simp only [List.getD, hq, Option.getD_some] at hv
      rw [← hv, show tmps.getD t Go.undef = u by simp [Array.getD_eq_getD_getElem?, h1]]
      exact h2
  unfold resCell at h
  split at h
  · rename_i t
    split at h
    · rename_i g cs hv
      cases h
      exact ⟨_, rfl, slot t _ hv⟩
    · cases h
  · rename_i s t
    split at h
    · rename_i g cs hl
      cases h
      obtain ⟨z, h1, h2⟩ := loadA_sound hT hI hl (slot s _ rfl)
      refine ⟨z, ?_, h2⟩
      simp only [resOne]
      generalize tmps.getD s Go.undef = u at h1
      simp only [Instr.loadAt, Sem.run_bind] at h1 ⊢
      cases u with
      | pointer p =>
        cases p with
        | some q => simpa [Instr.sureAddr, asAddr] using h1
        | none => simp [Instr.sureAddr] at h1
      | _ => simp [Instr.sureAddr] at h1
    · cases h

theorem resAll_sound (hT : TOk P T) {x : Cx} (hI : Inv x) {fr : List AV} {tmps : Array Value} (hf : FrOk x fr tmps) : ∀ (l : List ResultVar) (ps : List (Bool × List C)), resAll T fr x.H l = some ps →
    ∃ us : List Value, (l.mapM (resOne tmps) : Sem (List Value)).run P x.w = .ok us x.w ∧ Rep1s x ps us
  | [], ps, h => by
    simp only [resAll, Option.some.injEq] at h
    subst h
    exact ⟨[], rfl, rfl⟩
  | rv :: l, ps, h => by
    simp only [resAll] at h
    split at h
    · rename_i p hp
      split at h
      · rename_i q hq
        cases h
        obtain ⟨u, h1, h2⟩ := resCell_sound hT hI hf hp
        obtain ⟨us, h3, h4⟩ := resAll_sound hT hI hf l q hq
        refine ⟨u :: us, ?_, u, us, rfl, h2, h4⟩
        rw [List.mapM_cons]
        simp only [Sem.run_bind, h1, Result.andThen_ok, h3, Sem.run_pure]
      · cases h
    · cases h

theorem results_sound (hT : TOk P T) {x : Cx} (hI : Inv x) {fr : List AV} {tmps : Array Value} (hf : FrOk x fr tmps) {fn : Func} {v : AV} (h : resultsA T fr x.H fn.results.toList = some v) :
    ∃ u, (results fn tmps).run P x.w = .ok u x.w ∧ RepV x v u := by
  unfold resultsA at h
  rw [results_eq]
  rw [show fn.results = fn.results.toList.toArray by simp]
  simp only [List.mapM_toArray, Sem.run_bind]
  split at h
  · rename_i p hp
    cases h
    obtain ⟨us, h1, h2⟩ := resAll_sound hT hI hf _ _ hp
    obtain ⟨u, r, rfl, h3, h4⟩ := h2
    rw [show r = [] from h4] at h1
    refine ⟨u, ?_, h3⟩
    simp [h1]
  · rename_i l hne hl
    cases h
    obtain ⟨us, h1, h2⟩ := resAll_sound hT hI hf _ _ hl
    refine ⟨.tuple us.toArray, ?_, us.toArray, rfl, by simpa using h2⟩
    have hlen : us.length ≠ 1 := fun e => by
      match us, e with
      | [u], _ =>
        cases l with
        | nil => cases h2
        | cons p l' =>
          obtain ⟨_, r, h5, _, h6⟩ := h2
          simp only [List.cons.injEq] at h5
          cases l' with
          | nil => exact hne p rfl
          | cons q l'' =>
            obtain ⟨_, _, h7, _⟩ := h6
            rw [← h5.2] at h7; cases h7
    simp [h1, hlen]
  · cases h

/-- What a body leaves. -/
structure Left (x : Cx) (h0 : Nat) (v : AV) (H' : List Ob) (u : Value) (y : Cx) : Prop where
  inv : Inv y
  H : y.H = H'
  kept : Kept x y
  ids : ∀ id, id < h0 → IdOk x y id
  len : x.H.length ≤ y.H.length
  val : RepV y v u

theorem repVs_get {x : Cx} : ∀ (l : List AV) (vs : List Value), RepVs x l vs → vs.length = l.length ∧ ∀ (t : Nat) (v : AV), l[t]? = some v → ∃ u, vs[t]? = some u ∧ RepV x v u
  | [], vs, h => by rw [show vs = [] from h]; exact ⟨rfl, fun t v h => by simp at h⟩
  | a :: l, vs, h => by
    obtain ⟨v, r, rfl, h2, h3⟩ := h
    obtain ⟨h4, h5⟩ := repVs_get l r h3
    refine ⟨by simp [h4], fun t v' ht => ?_⟩
    cases t with
    | zero => simp at ht; subst ht; exact ⟨v, rfl, h2⟩
    | succ t => simpa using h5 t v' (by simpa using ht)

/-- The code of the program that a run may walk into. -/
structure CodeOk (P : Program) (env : FuncId → Option Con) (ann : FuncId → Nat → Ann) (f : FuncId) (fn : Func) : Prop where
  at_ : P.funcs[f]? = some fn
  name : (fn.name == "runtime.NumGoroutine") = false
  draws : match fn.body with
    | some c => drawsOk env (ann f) c = true
    | none => True

theorem body_sound (hm : P.follows .mixedOrders = true) (hT : TOk P T) (hE : EnvOk P env) (hN : InlOk P inlP) (hb : Binds inl inlP) {n : Nat} {ann : FuncId → Nat → Ann} {r : R} {f : FuncId} {fn : Func} (hc : CodeOk P env ann f fn)
    {x : Cx} {args : List AV} {vals : Array Value} {k : AV → List Ob → Option R} {S : Value → World → Prop} (h : bodyK T h0 env inl n ann f fn args x.H k = some r) (hI : Inv x) (hv : RepVs x args vals.toList) (h0l : h0 ≤ x.H.length)
    (hk : ∀ v H' y u, k v H' = some r → Left x h0 v H' u y → S u y.w) : Does P (callFunc f vals) x.w S := by
  unfold bodyK at h
  split at h
  · cases h
  · rename_i c hbody
    cases hle : Nat.ble args.length fn.ntmps with
    | false => simp [hle] at h
    | true =>
      simp only [hle, cond_true] at h
      have hle' := Nat.le_of_ble_eq_true hle
      have hd := hc.draws
      simp only [hbody] at hd
      have hrun : (callFunc f vals).run P x.w = .ok (.enter f vals) x.w := by
        have hn := hc.name
        simp only [beq_eq_false_iff_ne, ne_eq] at hn
        simp [callFunc, go_sem, hc.at_, hbody, hn]
      unfold Does
      rw [hrun]
      simp only
      refine calls_of_wp hc.at_ hbody ?_
      obtain ⟨hlen, hget⟩ := repVs_get _ _ hv
      simp only [Array.length_toList] at hlen
      refine exec_sound hm hT hE hN hb c _ x _ _ _ _ x.w hd h ⟨x, rfl, hI, rfl, ?_, Kept.refl x, fun id _ => IdOk.same hI rfl rfl (fun _ _ _ => rfl), h0l, rfl, Nat.le_refl _⟩ ?_
      · intro t v ht
        have ht' : (args ++ List.replicate (fn.ntmps - args.length) AV.undef)[t]? = some v := ht
        show ∃ u, (vals ++ Array.replicate (fn.ntmps - vals.size) Go.undef)[t]? = some u ∧ RepV x v u
        rw [List.getElem?_append] at ht'
        rw [Array.getElem?_append]
        split at ht'
        · rename_i hlt
          rw [if_pos (by omega)]
          obtain ⟨u, h1, h2⟩ := hget t v ht'
          exact ⟨u, by simpa using h1, h2⟩
        · rename_i hlt
          rw [if_neg (by omega)]
          rw [List.getElem?_replicate] at ht'
          split at ht'
          · rename_i h3
            cases ht'
            refine ⟨Go.undef, ?_, trivial⟩
            rw [Array.getElem?_replicate, if_pos (by omega)]
          · cases ht'
      · intro e fr' H' a' w' h' hg'
        have fin : (match resultsA T fr' H' fn.results.toList with | some v => k v H' | none => none) = some r → a'.defers = [] ∧ ∃ v, (results fn a'.tmps).run P w' = .ok v w' ∧ S v w' := by
          intro h'
          obtain ⟨y, rfl, hy⟩ := hg'
          have e1 : y.H = H' := hy.H
          split at h'
          · rename_i v hr
            rw [← e1] at hr
            obtain ⟨u, h1, h2⟩ := results_sound hT hy.inv hy.fr hr
            exact ⟨hy.defers, u, h1, hk v H' y u h' ⟨hy.inv, e1, hy.kept, hy.ids, hy.low, h2⟩⟩
          · cases h'
        cases e with
        | normal => exact fin h'
        | ret => exact fin h'
        | exit id => simp at h'

end
end Go.Proofs.YtiolbhmbobelcaaGreatDoor.AI
