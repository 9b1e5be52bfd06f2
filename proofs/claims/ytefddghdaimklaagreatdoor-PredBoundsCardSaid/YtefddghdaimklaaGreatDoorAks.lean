/- A part of the proof. -/
import Derived.Test.YtefddghdaimklaaGreatDoorAja
set_option linter.unusedVariables false
set_option linter.unusedSimpArgs false
namespace Go.Proofs.YtefddghdaimklaaGreatDoor.AI
open Go
def tU {α : Type} (f : α → α → Bool) : List α → List α → Bool
 | [], m => m.isEmpty
 | a :: l, m => match m with
  | b :: m => f a b && tU f l m
  | [] => false
theorem yP {α : Type} {f : α → α → Bool} (h : ∀ a b, f a b = true → a = b) : ∀ l m : List α, tU f l m = true → l = m
 | [], [], _ => rfl
 | [], b :: m, e => by cases e
 | a :: l, [], e => by cases e
 | a :: l, b :: m, e => by
  simp only [tU, Li] at e
  rw [h a b e.1, yP h l m e.2]
mutual
def qW {α : Type} (f : α → α → Bool) : Rose α → Rose α → Bool
 | .node a k, r => match r with
  | .node b m => f a b && vj f k m
def vj {α : Type} (f : α → α → Bool) : List (Rose α) → List (Rose α) → Bool
 | [], m => m.isEmpty
 | a :: l, m => match m with
  | b :: m => qW f a b && vj f l m
  | [] => false
end
mutual
theorem oR {α : Type} {f : α → α → Bool} (h : ∀ a b, f a b = true → a = b) : ∀ l m : Rose α, qW f l m = true → l = m
 | .node a k, .node b m, e => by
  simp only [qW, Li] at e
  rw [h a b e.1, qw h k m e.2]
theorem qw {α : Type} {f : α → α → Bool} (h : ∀ a b, f a b = true → a = b) : ∀ l m : List (Rose α), vj f l m = true → l = m
 | [], [], _ => rfl
 | [], b :: m, e => by simp [vj] at e
 | a :: l, [], e => by simp [vj] at e
 | a :: l, b :: m, e => by
  simp only [vj, Li] at e
  rw [oR h a b e.1, qw h l m e.2]
end
def eqB (a b : Bool) : Bool := bif a then b else !b
def UR (a b : ByteArray) : Bool := decide (a.data = b.data)
theorem gR {a b : ByteArray} (h : UR a b = true) : a = b := by
 cases a; cases b
 have := LB h
 simp only at this
 rw [this]
def pt : (t : Ty) → t.den → t.den → Bool
 | .bool, a, b => eqB a b
 | .int _, a, b => decide (a = b)
 | .float _, a, b => Nat.beq a b
 | .str, a, b => UR a b
 | .sl e, a, b => tU (pt e) a b
 | .unit, _, _ => true
 | .pair p q, a, b => pt p a.1 b.1 && pt q a.2 b.2
 | .rose p, a, b => qW (pt p) a b
 | .set t, a, b => tU (pt t) a b
theorem wc : ∀ (t : Ty) (a b : t.den), pt t a b = true → a = b
 | .bool, a, b, h => by cases a <;> cases b <;> first | rfl | cases h
 | .int _, a, b, h => LB h
 | .float _, a, b, h => Lo h
 | .str, a, b, h => gR h
 | .sl e, a, b, h => yP (wc e) a b h
 | .unit, _, _, _ => rfl
 | .pair p q, a, b, h => by
  simp only [pt, Li] at h
  exact Prod.ext (wc p _ _ h.1) (wc q _ _ h.2)
 | .rose p, a, b, h => oR (wc p) a b h
 | .set t, a, b, h => yP (wc t) a b h
def qH (a b : C) : Bool :=
 match a with
 | .sc t x => (match b with | .sc u y => if h : t = u then pt u (h ▸ x) y else false | _ => false)
 | .nils => (match b with | .nils => true | _ => false)
 | .own i n => (match b with | .own j m => Nat.beq i j && Nat.beq n m | _ => false)
 | .ptr i n => (match b with | .ptr j m => Nat.beq i j && Nat.beq n m | _ => false)
 | .elr t x o => (match b with | .elr u y p => (if h : t = u then pt u (h ▸ x) y else false) && Nat.beq o p | _ => false)
 | .elo i n o => (match b with | .elo j m p => Nat.beq i j && (Nat.beq n m && Nat.beq o p) | _ => false)
 | .nilp => (match b with | .nilp => true | _ => false)
 | .nilf => (match b with | .nilf => true | _ => false)
 | .nilm => (match b with | .nilm => true | _ => false)
 | .nili => (match b with | .nili => true | _ => false)
 | .nan => (match b with | .nan => true | _ => false)
 | .nf _ => false
 | .undef => (match b with | .undef => true | _ => false)
 | .mp i => (match b with | .mp j => Nat.beq i j | _ => false)
 | .fn f l => (match b with | .fn g m => decide (f = g) && decide (l = m) | _ => false)
 | .fnm f i o => (match b with | .fnm g j p => decide (f = g) && (Nat.beq i j && Nat.beq o p) | _ => false)
 | .fnr _ _ => false
 | .scn _ _ _ => false
theorem qR {a b : C} (h : qH a b = true) : a = b := by
 cases a with
 | sc t x =>
  cases b with
  | sc u y =>
   simp only [qH] at h
   split at h
   ·rename_i e; subst e; have hx : x = y := wc _ _ _ h; rw [hx]
   ·cases h
  | _ => cases h
 | elr t x o =>
  cases b with
  | elr u y p =>
   simp only [qH, Li] at h
   obtain ⟨h, hp⟩ := h
   split at h
   ·rename_i e; subst e; have hx : x = y := wc _ _ _ h; rw [hx, Lo hp]
   ·cases h
  | _ => cases h
 | own i n => cases b with
  | own j m => simp only [qH, Li] at h; rw [Lo h.1, Lo h.2]
  | _ => cases h
 | ptr i n => cases b with
  | ptr j m => simp only [qH, Li] at h; rw [Lo h.1, Lo h.2]
  | _ => cases h
 | elo i n o => cases b with
  | elo j m p => simp only [qH, Li] at h; rw [Lo h.1, Lo h.2.1, Lo h.2.2]
  | _ => cases h
 | mp i => cases b with
  | mp j => rw [Lo h]
  | _ => cases h
 | fn f l => cases b with
  | fn g m => simp only [qH, Li, Lt] at h; rw [h.1, h.2]
  | _ => cases h
 | fnm f i o => cases b with
  | fnm g j p => simp only [qH, Li, Lt] at h; rw [h.1, Lo h.2.1, Lo h.2.2]
  | _ => cases h
 | fnr f l => cases h
 | scn z t l => cases h
 | nils => cases b <;> first | rfl | cases h
 | nilp => cases b <;> first | rfl | cases h
 | nilf => cases b <;> first | rfl | cases h
 | nilm => cases b <;> first | rfl | cases h
 | nili => cases b <;> first | rfl | cases h
 | nf _ => cases h
 | nan => cases b <;> first | rfl | cases h
 | undef => cases b <;> first | rfl | cases h
def W8 (a b : Ob) : Bool :=
 match a with
 | .box l => (match b with | .box m => tU qH l m | _ => false)
 | .arr e t l => (match b with | .arr e' u m => decide (e = e') && (if h : t = u then tU (pt u) (h ▸ l) m else false) | _ => false)
 | .mp t l => (match b with | .mp u m => (if h : t = u then tU (pt u) (h ▸ l) m else false) | _ => false)
 | .tb l => (match b with | .tb m => tU (fun p q => UR p.1 q.1 && tU qH p.2 q.2) l m | _ => false)
 | .dead => (match b with | .dead => true | _ => false)
theorem Ws {a b : Ob} (h : W8 a b = true) : a = b := by
 cases a with
 | box l => cases b with
  | box m => rw [yP (fun _ _ => qR) l m h]
  | _ => cases h
 | arr e t l => cases b with
  | arr e' u m =>
   simp only [W8, Li, Lt] at h
   obtain ⟨rfl, h⟩ := h
   split at h
   ·rename_i e; subst e; have hx : l = m := yP (wc _) l m h; rw [hx]
   ·cases h
  | _ => cases h
 | mp t l => cases b with
  | mp u m =>
   simp only [W8] at h
   split at h
   ·rename_i e; subst e; have hx : l = m := yP (wc _) l m h; rw [hx]
   ·cases h
  | _ => cases h
 | tb l => cases b with
  | tb m =>
   rw [yP (fun p q hq => by
    simp only [Li] at hq
    exact Prod.ext (gR hq.1) (yP (fun _ _ => qR) _ _ hq.2)) l m h]
  | _ => cases h
 | dead => cases b <;> first | rfl | cases h
def SI (a b : AV) : Bool :=
 match a with
 | .val g l => (match b with | .val g' m => eqB g g' && tU qH l m | _ => false)
 | .tup l => (match b with | .tup m => tU (fun p q => eqB p.1 q.1 && tU qH p.2 q.2) l m | _ => false)
 | .skip => (match b with | .skip => true | _ => false)
 | .undef => (match b with | .undef => true | _ => false)
theorem Xi {a b : AV} (h : SI a b = true) : a = b := by
 have hb : ∀ {x y : Bool}, eqB x y = true → x = y := fun {x y} h => by cases x <;> cases y <;> first | rfl | cases h
 cases a with
 | val g l => cases b with
  | val g' m =>
   simp only [SI, Li] at h
   rw [hb h.1, yP (fun _ _ => qR) l m h.2]
  | _ => cases h
 | tup l => cases b with
  | tup m =>
   rw [yP (fun p q hq => by
    simp only [Li] at hq
    exact Prod.ext (hb hq.1) (yP (fun _ _ => qR) _ _ hq.2)) l m h]
  | _ => cases h
 | skip => cases b <;> first | rfl | cases h
 | undef => cases b <;> first | rfl | cases h
def Xn (a b : St) : Bool := tU SI a.fr b.fr && tU W8 a.H b.H
theorem YX {a b : St} (h : Xn a b = true) : a = b := by
 cases a; cases b
 simp only [Xn, Li] at h
 have h1 := yP (fun _ _ => Xi) _ _ h.1
 have h2 := yP (fun _ _ => Ws) _ _ h.2
 rw [St.mk.injEq]
 exact ⟨h1, h2⟩
def ay (ops : Array Oper) (listed : Array Bool) : List Nat := (List.range ops.size).filter fun i => !listed.getD i true && ((ops[i]?).map (·.after.all fun e => !Region.binds .any e || listed.getD e.on false)).getD false
section
variable (T : TypeId → Option TI) (h0 : Nat) (env : FuncId → Option Con) (inl : FuncId → List AV → List Ob → (AV → List Ob → Option (AV × List Ob)) → Option (AV × List Ob))
def eU (ops : Array Oper) (go : Array Bool → St → Option St) (listed : Array Bool) (st : St) (i : Nat) : Option St :=
 match ops[i]? with
 | none => go (listed.setIfInBounds i true) st
 | some o => match yw T h0 env inl false [] ops.toList o st with
  | some s => go (listed.setIfInBounds i true) s
  | none => none
def mc (ops : Array Oper) : Nat → Array Bool → St → Option St
 | 0, _, st => some st
 | fuel + 1, listed, st => match ay ops listed with
  | [] => some st
  | i :: r => match eU T h0 env inl ops (mc ops fuel) listed st i with
   | none => none
   | some s => bif r.all (fun j => match eU T h0 env inl ops (mc ops fuel) listed st j with | some s' => Xn s s' | none => false) then some s else none
end
section
variable {T : TypeId → Option TI} {h0 : Nat} {env : FuncId → Option Con} {inl : FuncId → List AV → List Ob → (AV → List Ob → Option (AV × List Ob)) → Option (AV × List Ob)}
theorem rB (ops : Array Oper) : ∀ (fuel : Nat) (listed : Array Bool) (st st' : St), mc T h0 env inl ops fuel listed st = some st' → ∀ t, t9 T h0 env inl false [] ops (Region.linearise.go .any ops fuel t listed []) st = some st'
 | 0, listed, st, st', h, t => by
  simp only [mc] at h
  simpa [Region.linearise.go, t9] using h
 | fuel + 1, listed, st, st', h, t => by
  simp only [mc] at h
  simp only [Region.linearise.go]
  have hre : (List.range ops.size).filter (fun i => !listed.getD i true && ((ops[i]?).map (·.after.all fun e => !Region.binds .any e || listed.getD e.on false)).getD false) = ay ops listed := rfl
  rw [hre]
  cases hr : ay ops listed with
  | nil =>
   rw [hr] at h
   simp only [Lp] at h
   subst h
   simp [t9]
  | cons i r =>
   rw [hr] at h
   simp only at h
   have hlt : t % (i :: r).length < (i :: r).length := Nat.mod_lt _ (by simp)
   obtain ⟨p, hp⟩ : ∃ p, (i :: r)[t % (i :: r).length]? = some p := ⟨_, LC hlt⟩
   rw [hp]
   simp only
   rw [linearise_go_acc]
   simp only [List.reverse_cons, List.reverse_nil, List.nil_append, List.singleton_append, t9]
   have hmem := Ls hp
   have hone : eU T h0 env inl ops (mc T h0 env inl ops fuel) listed st p = some st' := by
    cases hi : eU T h0 env inl ops (mc T h0 env inl ops fuel) listed st i with
    | none => rw [hi] at h; cases h
    | some s =>
     rw [hi] at h
     simp only at h
     cases hall : r.all (fun j => match eU T h0 env inl ops (mc T h0 env inl ops fuel) listed st j with | some s' => Xn s s' | none => false) with
     | false => rw [hall] at h; cases h
     | true =>
      rw [hall, Lk] at h
      cases h
      rcases LD.1 hmem with rfl | hm
      ·exact hi
      ·have := Ll.1 hall p hm
       split at this
       ·rename_i s' hs'
        rw [hs', YX this]
       ·cases this
   unfold eU at hone
   split at hone
   ·rename_i hn
    rw [hn]
    exact rB ops fuel _ _ _ hone _
   ·rename_i o ho
    rw [ho]
    simp only
    split at hone
    ·rename_i s hs
     rw [hs]
     exact rB ops fuel _ _ _ hone _
    ·cases hone
end
def bK (body : St → Option (Ex × St)) : Nat → St → Option (Ex × St)
 | 0, _ => none
 | m + 1, st => match body st with
  | some (.normal, s) => bK body m s
  | o => o
section
variable (T : TypeId → Option TI) (h0 : Nat) (env : FuncId → Option Con) (inl : FuncId → List AV → List Ob → (AV → List Ob → Option (AV × List Ob)) → Option (AV × List Ob))
def Qn (ann : Nat → Ann) (id : Nat) (ops : Array Oper) (st : St) : Option St :=
 match (bif kA env (ann id).plain ops then t9 T h0 env inl true (ann id).plain ops (List.range ops.size) st else none) with
 | some s => some s
 | none => mc T h0 env inl ops ops.size (Array.replicate ops.size false) st
def wk (n : Nat) (ann : Nat → Ann) : Code → St → Option (Ex × St)
 | .skip, st => some (.normal, st)
 | .region id ops draw, st => match (bif draw then Qn T h0 env inl ann id ops st else t9 T h0 env inl false [] ops (List.range ops.size) st) with
  | some s => some (.normal, s)
  | none => none
 | .seq a b, st => match wk n ann a st with
  | some (.normal, s) => wk n ann b s
  | o => o
 | .cond c x y, st => match evA st.fr c with
  | .val false [.sc .bool b] => bif b then wk n ann x st else wk n ann y st
  | _ => none
 | .block id c, st => match wk n ann c st with
  | some (.exit j, s) => bif Nat.beq j id then some (.normal, s) else some (.exit j, s)
  | o => o
 | .loop c, st => bK (fun st => wk n ann c st) n st
 | .exit id, st => some (.exit id, st)
 | .ret, st => some (.ret, st)
 | _, _ => none
def Vi (n : Nat) (ann : FuncId → Nat → Ann) (f : FuncId) (fn : Func) (args : List AV) (H : List Ob) : Option (AV × List Ob) :=
 match fn.body with
 | none => none
 | some c => bif Nat.ble args.length fn.ntmps then
   (match wk T h0 env inl n (ann f) c ⟨args ++ List.replicate (fn.ntmps - args.length) .undef, H⟩ with
   | some (.exit _, _) => none
   | some (_, s) => (match x9 T s.fr s.H fn.results.toList with
    | some v => some (v, s.H)
    | none => none)
   | none => none)
  else none
end
def QL (T : TypeId → Option TI) (env : FuncId → Option Con) (n : Nat) (ann : FuncId → Nat → Ann) (code : FuncId → Option Func) : Nat → FuncId → List AV → List Ob → (AV → List Ob → Option (AV × List Ob)) → Option (AV × List Ob)
 | 0, _, _, _, _ => none
 | d + 1, f, args, H, k => match code f with
  | some fn => (match Vi T H.length env (QL T env n ann code d) n ann f fn args H with
   | some p => k p.1 p.2
   | none => none)
  | none => none
def Xx (T : TypeId → Option TI) (env : FuncId → Option Con) (n : Nat) (ann : FuncId → Nat → Ann) (code : FuncId → Option Func) (d : Nat) (f : FuncId) (args : List AV) (H : List Ob) : Option (AV × List Ob) :=
 match code f with
 | some fn => Vi T 0 env (QL T env n ann code d) n ann f fn args H
 | none => none
section
variable {P : Program} {T : TypeId → Option TI} {h0 : Nat} {env : FuncId → Option Con} {inl : FuncId → List AV → List Ob → (AV → List Ob → Option (AV × List Ob)) → Option (AV × List Ob)}
theorem ym (hm : P.follows .mixedOrders = true) (hT : TOk P T) (hE : xx P env) (hN : mz P inl) {n : Nat} {ann : Nat → Ann} :
  ∀ (c : Code) (Q : Exit → Act → World → Prop) (x0 : Cx) (st : St) (a : Act) (w : World) (e : Ex) (st' : St), wk T h0 env inl n ann c st = some (e, st') → Good x0 h0 st a w →
   (∀ a' w', Good x0 h0 st' a' w' → Q e.to a' w') → c.wp P Q a w
 | .skip, Q, x0, st, a, w, e, st', h, hg, hk => by
  simp only [wk, Lp, Lw] at h
  obtain ⟨rfl, rfl⟩ := h
  exact wp_skip (hk a w hg)
 | .region id ops draw, Q, x0, st, a, w, e, st', h, hg, hk => by
  simp only [wk] at h
  split at h
  ·rename_i s hs
   cases h
   cases draw with
   | false => exact wp_region (yO hT hE hN hk _ _ a w hs hg)
   | true =>
    rw [Lk] at hs
    refine wp_region_draw (fun t => ?_)
    simp only [Region.schedule, hm, Bool.true_or, if_true]
    unfold Qn at hs
    split at hs
    ·rename_i s' hs'
     cases hs
     cases hd : kA env (ann id).plain ops with
     | false => rw [hd] at hs'; cases hs'
     | true =>
      rw [hd, Lk] at hs'
      exact yO hT hE hN hk _ _ a _ (gD (Mono1.of hE) hd hs' t) (hg.drawn _)
    ·exact yO hT hE hN hk _ _ a _ (rB ops _ _ _ _ hs t) (hg.drawn _)
  ·cases h
 | .seq x y, Q, x0, st, a, w, e, st', h, hg, hk => by
  simp only [wk] at h
  split at h
  ·rename_i s hs
   exact wp_seq (ym hm hT hE hN x _ x0 st a w .normal s hs hg fun a' w' hg' => ym hm hT hE hN y Q x0 s a' w' e st' h hg' hk)
  ·rename_i hne
   refine wp_seq (ym hm hT hE hN x _ x0 st a w e st' h hg fun a' w' hg' => ?_)
   cases e with
   | normal => exact absurd h (hne st')
   | exit id => exact hk _ _ hg'
   | ret => exact hk _ _ hg'
 | .cond c x y, Q, x0, st, a, w, e, st', h, hg, hk => by
  simp only [wk] at h
  split at h
  ·rename_i b hc
   have hg0 := hg
   obtain ⟨z, hz, hat⟩ := hg
   have hv := hat.fr.ev hat.inv c
   rw [hc] at hv
   have hb' := vY hv
   refine wp_cond hb' ?_
   cases b with
   | true => exact ym hm hT hE hN x Q x0 st a w e st' h hg0 hk
   | false => exact ym hm hT hE hN y Q x0 st a w e st' h hg0 hk
  ·cases h
 | .block id c, Q, x0, st, a, w, e, st', h, hg, hk => by
  simp only [wk] at h
  split at h
  ·rename_i j s hs
   refine wp_block (ym hm hT hE hN c _ x0 st a w (.exit j) s hs hg fun a' w' hg' => ?_)
   show Exit.inBlock id Q (.exit j) a' w'
   simp only [Exit.inBlock]
   by_cases ej : j = id
   ·subst ej
    rw [if_pos rfl]
    simp only [Nat.beq_refl, Lk, Lp, Lw] at h
    obtain ⟨rfl, rfl⟩ := h
    exact hk _ _ hg'
   ·rw [if_neg ej]
    have : Nat.beq j id = false := by
     cases hb' : Nat.beq j id with
     | true => exact absurd (Lo hb') ej
     | false => rfl
    rw [this] at h
    simp only [Lj, Lp, Lw] at h
    obtain ⟨rfl, rfl⟩ := h
    exact hk _ _ hg'
  ·rename_i hne
   refine wp_block (ym hm hT hE hN c _ x0 st a w e st' h hg fun a' w' hg' => ?_)
   cases e with
   | normal => exact hk _ _ hg'
   | ret => exact hk _ _ hg'
   | exit j => exact absurd h (hne j st')
 | .loop c, Q, x0, st, a, w, e, st', h, hg, hk => by
  simp only [wk] at h
  have key : ∀ (m : Nat) (st : St) (a : Act) (w : World), bK (fun st => wk T h0 env inl n ann c st) m st = some (e, st') → Good x0 h0 st a w → Code.rounds P c Q m a w := by
   intro m
   induction m with
   | zero => intro st a w hl _; simp [bK] at hl
   | succ m ih =>
    intro st a w hl hgd
    simp only [bK] at hl
    rw [rounds_succ]
    split at hl
    ·rename_i s hs
     exact ym hm hT hE hN c _ x0 st a w .normal s hs hgd fun a' w' hg' => ih s a' w' hl hg'
    ·rename_i hne
     refine ym hm hT hE hN c _ x0 st a w e st' hl hgd fun a' w' hg' => ?_
     cases e with
     | normal => exact absurd hl (hne st')
     | exit id => exact hk _ _ hg'
     | ret => exact hk _ _ hg'
  exact wp_loop_rounds n (key n _ a w h hg)
 | .exit id, Q, x0, st, a, w, e, st', h, hg, hk => by
  simp only [wk, Lp, Lw] at h
  obtain ⟨rfl, rfl⟩ := h
  exact wp_exit (hk a w hg)
 | .ret, Q, x0, st, a, w, e, st', h, hg, hk => by
  simp only [wk, Lp, Lw] at h
  obtain ⟨rfl, rfl⟩ := h
  exact wp_ret (hk a w hg)
 | .rangeFunc _ _ _ _, Q, x0, st, a, w, e, st', h, hg, hk => by simp [wk] at h
 | .scope _, Q, x0, st, a, w, e, st', h, hg, hk => by simp [wk] at h
 | .label _, Q, x0, st, a, w, e, st', h, hg, hk => by simp [wk] at h
 | .goto _, Q, x0, st, a, w, e, st', h, hg, hk => by simp [wk] at h
 | .refuse _, Q, x0, st, a, w, e, st', h, hg, hk => by simp [wk] at h
structure CodeAt (P : Program) (f : FuncId) (fn : Func) : Prop where
 at_ : P.funcs[f]? = some fn
 name : (fn.name == "runtime.NumGoroutine") = false
def tX (P : Program) (code : FuncId → Option Func) : Prop := ∀ f fn, code f = some fn → CodeAt P f fn
theorem n4 {P : Program} : ∀ {l : List (FuncId × Func)}, (∀ p ∈ l, P.funcs[p.1]? = some p.2) → (l.all fun p => !(p.2.name == "runtime.NumGoroutine")) = true → tX P (yk l)
 | [], _, _, f, fn, h => by cases h
 | p :: r, hp, hl, f, fn, h => by
  simp only [List.all_cons, Li] at hl
  unfold yk at h
  cases hb : Nat.beq p.1 f with
  | true =>
   rw [hb] at h
   have := Lo hb
   subst this
   cases h
   have h1 := hl.1
   simp only [Bool.not_eq_true'] at h1
   exact ⟨hp p (by simp), h1⟩
  | false =>
   rw [hb] at h
   exact n4 (fun q hq => hp q (by simp [hq])) hl.2 f fn h
theorem pj (hm : P.follows .mixedOrders = true) (hT : TOk P T) (hE : xx P env) (hN : mz P inl) {n : Nat} {ann : FuncId → Nat → Ann} {f : FuncId} {fn : Func} (hc : CodeAt P f fn)
  {x : Cx} {args : List AV} {vals : Array Value} {v : AV} {H' : List Ob} {S : Value → World → Prop} (h : Vi T h0 env inl n ann f fn args x.H = some (v, H')) (hI : Inv x) (hv : RepVs x args vals.toList) (h0l : h0 ≤ x.H.length)
  (hk : ∀ y u, Left x h0 v H' u y → S u y.w) : Does P (callFunc f vals) x.w S := by
 unfold Vi at h
 split at h
 ·cases h
 ·rename_i c hbody
  cases hle : Nat.ble args.length fn.ntmps with
  | false => simp [hle] at h
  | true =>
   simp only [hle, Lk] at h
   have hle' := Nat.le_of_ble_eq_true hle
   have hrun : (callFunc f vals).run P x.w = .ok (.enter f vals) x.w := by
    have hn := hc.name
    simp only [beq_eq_false_iff_ne, ne_eq] at hn
    simp [callFunc, go_sem, hc.at_, hbody, hn]
   unfold Does
   rw [hrun]
   simp only
   refine calls_of_wp hc.at_ hbody ?_
   obtain ⟨hlen, hget⟩ := sS _ _ hv
   simp only [Array.length_toList] at hlen
   cases hex : wk T h0 env inl n (ann f) c ⟨args ++ List.replicate (fn.ntmps - args.length) .undef, x.H⟩ with
   | none => rw [hex] at h; cases h
   | some p =>
   obtain ⟨e, st'⟩ := p
   rw [hex] at h
   refine ym hm hT hE hN c _ x _ _ x.w e st' hex ⟨x, rfl, hI, rfl, ?_, Kept.refl x, fun id _ => IdOk.same hI rfl rfl (fun _ _ _ => rfl), h0l, rfl, Lu _⟩ ?_
   ·intro t v ht
    have ht' : (args ++ List.replicate (fn.ntmps - args.length) AV.undef)[t]? = some v := ht
    show ∃ u, (vals ++ Array.replicate (fn.ntmps - vals.size) Go.undef)[t]? = some u ∧ RepV x v u
    rw [List.getElem?_append] at ht'
    rw [Array.getElem?_append]
    split at ht'
    ·rename_i hlt
     rw [if_pos (by omega)]
     obtain ⟨u, h1, h2⟩ := hget t v ht'
     exact ⟨u, by simpa using h1, h2⟩
    ·rename_i hlt
     rw [if_neg (by omega)]
     rw [List.getElem?_replicate] at ht'
     split at ht'
     ·rename_i h3
      cases ht'
      refine ⟨Go.undef, ?_, trivial⟩
      rw [Array.getElem?_replicate, if_pos (by omega)]
     ·cases ht'
   ·intro a' w' hg'
    have fin : (match x9 T st'.fr st'.H fn.results.toList with | some v => some (v, st'.H) | none => none) = some (v, H') → a'.defers = [] ∧ ∃ v, (results fn a'.tmps).run P w' = .ok v w' ∧ S v w' := by
     intro h'
     obtain ⟨y, rfl, hy⟩ := hg'
     have e1 : y.H = st'.H := hy.H
     split at h'
     ·rename_i v' hr
      cases h'
      rw [← e1] at hr
      obtain ⟨u, h1, h2⟩ := vX hT hy.inv hy.fr hr
      exact ⟨hy.defers, u, h1, hk y u ⟨hy.inv, e1, hy.kept, hy.ids, hy.low, h2⟩⟩
     ·cases h'
    cases e with
    | normal => exact fin h
    | ret => exact fin h
    | exit id => cases h
end
section
variable {P : Program} {T : TypeId → Option TI} {env : FuncId → Option Con} {n : Nat} {ann : FuncId → Nat → Ann} {code : FuncId → Option Func}
theorem bZ (hm : P.follows .mixedOrders = true) (hT : TOk P T) (hE : xx P env) (hC : tX P code) : ∀ (d : Nat), mz P (QL T env n ann code d)
 | 0 => fun f args x vals v H' h _ _ => by simp [QL] at h
 | d + 1 => fun f args x vals v H' h hI hv => by
  simp only [QL] at h
  split at h
  ·rename_i fn hf
   split at h
   ·rename_i p hp
    cases h
    refine pj hm hT hE (bZ hm hT hE hC d) (hC f fn hf) hp hI hv (Lu _) ?_
    intro y u hl
    refine ⟨y, rfl, hl.H, ⟨hl.inv, hl.kept, hl.ids, ?_, hl.len⟩, hl.val⟩
    exact Carry.id_of (hl.kept.kin hI) hl.ids
   ·cases h
  ·cases h
theorem dL (hm : P.follows .mixedOrders = true) (hT : TOk P T) (hE : xx P env) (hC : tX P code) {d : Nat} {f : FuncId} {x : Cx} {args : List AV} {vals : Array Value} {v : AV} {H' : List Ob} {S : Value → World → Prop}
  (h : Xx T env n ann code d f args x.H = some (v, H')) (hI : Inv x) (hv : RepVs x args vals.toList) (hk : ∀ y u, Left x 0 v H' u y → S u y.w) : Does P (callFunc f vals) x.w S := by
 unfold Xx at h
 split at h
 ·rename_i fn hf
  exact pj hm hT hE (bZ hm hT hE hC d) (hC f fn hf) h hI hv (Nat.zero_le _) hk
 ·cases h
theorem pv (hm : P.follows .mixedOrders = true) (hT : TOk P T) (hE : xx P env) (hC : tX P code) {d : Nat} {f : FuncId} {s rs : Sig} {lend : Bool} {F : s.den → Option rs.den}
  (hfl : lend = true → ∀ p ∈ rs, p.2.flat = true) (hrun : ∀ X Y, F X = some Y → ∃ n, ((Xx T env n ann code d f (zt s X) []).bind fun p => zp rs p.1 p.2) = some Y) : ConOk P f (zj s rs lend F) :=
 n5 hfl fun X Y hF x' vals hH hI hv S hk => by
  obtain ⟨n, hr⟩ := hrun X Y hF
  cases hq : Xx T env n ann code d f (zt s X) [] with
  | none => rw [hq] at hr; cases hr
  | some p =>
   rw [hq] at hr
   exact dL hm hT hE hC (x := x') (by rw [hH]; exact hq) hI hv fun y u hl => hk p.1 p.2 y u hr hl
end
end Go.Proofs.YtefddghdaimklaaGreatDoor.AI
