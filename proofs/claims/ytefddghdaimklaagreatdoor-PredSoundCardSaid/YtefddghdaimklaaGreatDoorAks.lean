/- A part of the proof. -/
import Derived.Test.YtefddghdaimklaaGreatDoorAja
set_option linter.unusedVariables false
set_option linter.unusedSimpArgs false
namespace Go.Proofs.YtefddghdaimklaaGreatDoor.AI
open Go
def tG {α : Type} (f : α → α → Bool) : List α → List α → Bool
 | [], m => m.isEmpty
 | a :: l, m => match m with
  | b :: m => f a b && tG f l m
  | [] => false
theorem yJ {α : Type} {f : α → α → Bool} (h : ∀ a b, f a b = true → a = b) : ∀ l m : List α, tG f l m = true → l = m
 | [], [], _ => rfl
 | [], b :: m, e => by cases e
 | a :: l, [], e => by cases e
 | a :: l, b :: m, e => by
  simp only [tG, Nt] at e
  rw [h a b e.1, yJ h l m e.2]
mutual
def qL {α : Type} (f : α → α → Bool) : Rose α → Rose α → Bool
 | .node a k, r => match r with
  | .node b m => f a b && w7 f k m
def w7 {α : Type} (f : α → α → Bool) : List (Rose α) → List (Rose α) → Bool
 | [], m => m.isEmpty
 | a :: l, m => match m with
  | b :: m => qL f a b && w7 f l m
  | [] => false
end
mutual
theorem pz {α : Type} {f : α → α → Bool} (h : ∀ a b, f a b = true → a = b) : ∀ l m : Rose α, qL f l m = true → l = m
 | .node a k, .node b m, e => by
  simp only [qL, Nt] at e
  rw [h a b e.1, qn h k m e.2]
theorem qn {α : Type} {f : α → α → Bool} (h : ∀ a b, f a b = true → a = b) : ∀ l m : List (Rose α), w7 f l m = true → l = m
 | [], [], _ => rfl
 | [], b :: m, e => by simp [w7] at e
 | a :: l, [], e => by simp [w7] at e
 | a :: l, b :: m, e => by
  simp only [w7, Nt] at e
  rw [pz h a b e.1, qn h l m e.2]
end
def eqB (a b : Bool) : Bool := bif a then b else !b
def Tv (a b : ByteArray) : Bool := decide (a.data = b.data)
theorem fJ {a b : ByteArray} (h : Tv a b = true) : a = b := by
 cases a; cases b
 have := NK h
 simp only at this
 rw [this]
def pT : (t : Ty) → t.den → t.den → Bool
 | .bool, a, b => eqB a b
 | .int _, a, b => decide (a = b)
 | .float _, a, b => Nat.beq a b
 | .str, a, b => Tv a b
 | .sl e, a, b => tG (pT e) a b
 | .unit, _, _ => true
 | .pair p q, a, b => pT p a.1 b.1 && pT q a.2 b.2
 | .rose p, a, b => qL (pT p) a b
 | .set t, a, b => tG (pT t) a b
theorem wb : ∀ (t : Ty) (a b : t.den), pT t a b = true → a = b
 | .bool, a, b, h => by cases a <;> cases b <;> first | rfl | cases h
 | .int _, a, b, h => NK h
 | .float _, a, b, h => Nz h
 | .str, a, b, h => fJ h
 | .sl e, a, b, h => yJ (wb e) a b h
 | .unit, _, _, _ => rfl
 | .pair p q, a, b, h => by
  simp only [pT, Nt] at h
  exact Prod.ext (wb p _ _ h.1) (wb q _ _ h.2)
 | .rose p, a, b, h => pz (wb p) a b h
 | .set t, a, b, h => yJ (wb t) a b h
def qJ (a b : C) : Bool :=
 match a with
 | .sc t x => (match b with | .sc u y => if h : t = u then pT u (h ▸ x) y else false | _ => false)
 | .nils => (match b with | .nils => true | _ => false)
 | .own i n => (match b with | .own j m => Nat.beq i j && Nat.beq n m | _ => false)
 | .ptr i n => (match b with | .ptr j m => Nat.beq i j && Nat.beq n m | _ => false)
 | .elr t x o => (match b with | .elr u y p => (if h : t = u then pT u (h ▸ x) y else false) && Nat.beq o p | _ => false)
 | .elo i n o => (match b with | .elo j m p => Nat.beq i j && (Nat.beq n m && Nat.beq o p) | _ => false)
 | .nilp => (match b with | .nilp => true | _ => false)
 | .nilf => (match b with | .nilf => true | _ => false)
 | .nilm => (match b with | .nilm => true | _ => false)
 | .nili => (match b with | .nili => true | _ => false)
 | .nan => (match b with | .nan => true | _ => false)
 | .nf _ => false
 | .undef => (match b with | .undef => true | _ => false)
 | .mp i => (match b with | .mp j => Nat.beq i j | _ => false)
 | .fn f l => (match b with | .fn g m => decide (f = g) && decide (l = m) | _ => false)
 | .fnm f i o => (match b with | .fnm g j p => decide (f = g) && (Nat.beq i j && Nat.beq o p) | _ => false)
 | .fnr _ _ => false
 | .scn _ _ _ => false
theorem qR {a b : C} (h : qJ a b = true) : a = b := by
 cases a with
 | sc t x =>
  cases b with
  | sc u y =>
   simp only [qJ] at h
   split at h
   ·rename_i e; subst e; have hx : x = y := wb _ _ _ h; rw [hx]
   ·cases h
  | _ => cases h
 | elr t x o =>
  cases b with
  | elr u y p =>
   simp only [qJ, Nt] at h
   obtain ⟨h, hp⟩ := h
   split at h
   ·rename_i e; subst e; have hx : x = y := wb _ _ _ h; rw [hx, Nz hp]
   ·cases h
  | _ => cases h
 | own i n => cases b with
  | own j m => simp only [qJ, Nt] at h; rw [Nz h.1, Nz h.2]
  | _ => cases h
 | ptr i n => cases b with
  | ptr j m => simp only [qJ, Nt] at h; rw [Nz h.1, Nz h.2]
  | _ => cases h
 | elo i n o => cases b with
  | elo j m p => simp only [qJ, Nt] at h; rw [Nz h.1, Nz h.2.1, Nz h.2.2]
  | _ => cases h
 | mp i => cases b with
  | mp j => rw [Nz h]
  | _ => cases h
 | fn f l => cases b with
  | fn g m => simp only [qJ, Nt, NE] at h; rw [h.1, h.2]
  | _ => cases h
 | fnm f i o => cases b with
  | fnm g j p => simp only [qJ, Nt, NE] at h; rw [h.1, Nz h.2.1, Nz h.2.2]
  | _ => cases h
 | fnr f l => cases h
 | scn z t l => cases h
 | nils => cases b <;> first | rfl | cases h
 | nilp => cases b <;> first | rfl | cases h
 | nilf => cases b <;> first | rfl | cases h
 | nilm => cases b <;> first | rfl | cases h
 | nili => cases b <;> first | rfl | cases h
 | nf _ => cases h
 | nan => cases b <;> first | rfl | cases h
 | undef => cases b <;> first | rfl | cases h
def W0 (a b : Ob) : Bool :=
 match a with
 | .box l => (match b with | .box m => tG qJ l m | _ => false)
 | .arr e t l => (match b with | .arr e' u m => decide (e = e') && (if h : t = u then tG (pT u) (h ▸ l) m else false) | _ => false)
 | .mp t l => (match b with | .mp u m => (if h : t = u then tG (pT u) (h ▸ l) m else false) | _ => false)
 | .tb l => (match b with | .tb m => tG (fun p q => Tv p.1 q.1 && tG qJ p.2 q.2) l m | _ => false)
 | .dead => (match b with | .dead => true | _ => false)
theorem XA {a b : Ob} (h : W0 a b = true) : a = b := by
 cases a with
 | box l => cases b with
  | box m => rw [yJ (fun _ _ => qR) l m h]
  | _ => cases h
 | arr e t l => cases b with
  | arr e' u m =>
   simp only [W0, Nt, NE] at h
   obtain ⟨rfl, h⟩ := h
   split at h
   ·rename_i e; subst e; have hx : l = m := yJ (wb _) l m h; rw [hx]
   ·cases h
  | _ => cases h
 | mp t l => cases b with
  | mp u m =>
   simp only [W0] at h
   split at h
   ·rename_i e; subst e; have hx : l = m := yJ (wb _) l m h; rw [hx]
   ·cases h
  | _ => cases h
 | tb l => cases b with
  | tb m =>
   rw [yJ (fun p q hq => by
    simp only [Nt] at hq
    exact Prod.ext (fJ hq.1) (yJ (fun _ _ => qR) _ _ hq.2)) l m h]
  | _ => cases h
 | dead => cases b <;> first | rfl | cases h
def Ub (a b : AV) : Bool :=
 match a with
 | .val g l => (match b with | .val g' m => eqB g g' && tG qJ l m | _ => false)
 | .tup l => (match b with | .tup m => tG (fun p q => eqB p.1 q.1 && tG qJ p.2 q.2) l m | _ => false)
 | .skip => (match b with | .skip => true | _ => false)
 | .undef => (match b with | .undef => true | _ => false)
theorem Wk {a b : AV} (h : Ub a b = true) : a = b := by
 have hb : ∀ {x y : Bool}, eqB x y = true → x = y := fun {x y} h => by cases x <;> cases y <;> first | rfl | cases h
 cases a with
 | val g l => cases b with
  | val g' m =>
   simp only [Ub, Nt] at h
   rw [hb h.1, yJ (fun _ _ => qR) l m h.2]
  | _ => cases h
 | tup l => cases b with
  | tup m =>
   rw [yJ (fun p q hq => by
    simp only [Nt] at hq
    exact Prod.ext (hb hq.1) (yJ (fun _ _ => qR) _ _ hq.2)) l m h]
  | _ => cases h
 | skip => cases b <;> first | rfl | cases h
 | undef => cases b <;> first | rfl | cases h
def XD (a b : St) : Bool := tG Ub a.fr b.fr && tG W0 a.H b.H
theorem W5 {a b : St} (h : XD a b = true) : a = b := by
 cases a; cases b
 simp only [XD, Nt] at h
 have h1 := yJ (fun _ _ => Wk) _ _ h.1
 have h2 := yJ (fun _ _ => XA) _ _ h.2
 rw [St.mk.injEq]
 exact ⟨h1, h2⟩
def aR (ops : Array Oper) (listed : Array Bool) : List Nat := (List.range ops.size).filter fun i => !listed.getD i true && ((ops[i]?).map (·.after.all fun e => !Region.binds .any e || listed.getD e.on false)).getD false
section
variable (T : TypeId → Option TI) (h0 : Nat) (env : FuncId → Option Con) (inl : FuncId → List AV → List Ob → (AV → List Ob → Option (AV × List Ob)) → Option (AV × List Ob))
def dZ (ops : Array Oper) (go : Array Bool → St → Option St) (listed : Array Bool) (st : St) (i : Nat) : Option St :=
 match ops[i]? with
 | none => go (listed.setIfInBounds i true) st
 | some o => match yt T h0 env inl false [] ops.toList o st with
  | some s => go (listed.setIfInBounds i true) s
  | none => none
def mW (ops : Array Oper) : Nat → Array Bool → St → Option St
 | 0, _, st => some st
 | fuel + 1, listed, st => match aR ops listed with
  | [] => some st
  | i :: r => match dZ T h0 env inl ops (mW ops fuel) listed st i with
   | none => none
   | some s => bif r.all (fun j => match dZ T h0 env inl ops (mW ops fuel) listed st j with | some s' => XD s s' | none => false) then some s else none
end
section
variable {T : TypeId → Option TI} {h0 : Nat} {env : FuncId → Option Con} {inl : FuncId → List AV → List Ob → (AV → List Ob → Option (AV × List Ob)) → Option (AV × List Ob)}
theorem rG (ops : Array Oper) : ∀ (fuel : Nat) (listed : Array Bool) (st st' : St), mW T h0 env inl ops fuel listed st = some st' → ∀ t, tL T h0 env inl false [] ops (Region.linearise.go .any ops fuel t listed []) st = some st'
 | 0, listed, st, st', h, t => by
  simp only [mW] at h
  simpa [Region.linearise.go, tL] using h
 | fuel + 1, listed, st, st', h, t => by
  simp only [mW] at h
  simp only [Region.linearise.go]
  have hre : (List.range ops.size).filter (fun i => !listed.getD i true && ((ops[i]?).map (·.after.all fun e => !Region.binds .any e || listed.getD e.on false)).getD false) = aR ops listed := rfl
  rw [hre]
  cases hr : aR ops listed with
  | nil =>
   rw [hr] at h
   simp only [NA] at h
   subst h
   simp [tL]
  | cons i r =>
   rw [hr] at h
   simp only at h
   have hlt : t % (i :: r).length < (i :: r).length := Nat.mod_lt _ (by simp)
   obtain ⟨p, hp⟩ : ∃ p, (i :: r)[t % (i :: r).length]? = some p := ⟨_, NL hlt⟩
   rw [hp]
   simp only
   rw [linearise_go_acc]
   simp only [List.reverse_cons, List.reverse_nil, List.nil_append, List.singleton_append, tL]
   have hmem := ND hp
   have hone : dZ T h0 env inl ops (mW T h0 env inl ops fuel) listed st p = some st' := by
    cases hi : dZ T h0 env inl ops (mW T h0 env inl ops fuel) listed st i with
    | none => rw [hi] at h; cases h
    | some s =>
     rw [hi] at h
     simp only at h
     cases hall : r.all (fun j => match dZ T h0 env inl ops (mW T h0 env inl ops fuel) listed st j with | some s' => XD s s' | none => false) with
     | false => rw [hall] at h; cases h
     | true =>
      rw [hall, Nv] at h
      cases h
      rcases NM.1 hmem with rfl | hm
      ·exact hi
      ·have := Nw.1 hall p hm
       split at this
       ·rename_i s' hs'
        rw [hs', W5 this]
       ·cases this
   unfold dZ at hone
   split at hone
   ·rename_i hn
    rw [hn]
    exact rG ops fuel _ _ _ hone _
   ·rename_i o ho
    rw [ho]
    simp only
    split at hone
    ·rename_i s hs
     rw [hs]
     exact rG ops fuel _ _ _ hone _
    ·cases hone
end
def Zh (body : St → Option (Ex × St)) : Nat → St → Option (Ex × St)
 | 0, _ => none
 | m + 1, st => match body st with
  | some (.normal, s) => Zh body m s
  | o => o
section
variable (T : TypeId → Option TI) (h0 : Nat) (env : FuncId → Option Con) (inl : FuncId → List AV → List Ob → (AV → List Ob → Option (AV × List Ob)) → Option (AV × List Ob))
def QN (ann : Nat → Ann) (id : Nat) (ops : Array Oper) (st : St) : Option St :=
 match (bif jf env (ann id).plain ops then tL T h0 env inl true (ann id).plain ops (List.range ops.size) st else none) with
 | some s => some s
 | none => mW T h0 env inl ops ops.size (Array.replicate ops.size false) st
def wn (n : Nat) (ann : Nat → Ann) : Code → St → Option (Ex × St)
 | .skip, st => some (.normal, st)
 | .region id ops draw, st => match (bif draw then QN T h0 env inl ann id ops st else tL T h0 env inl false [] ops (List.range ops.size) st) with
  | some s => some (.normal, s)
  | none => none
 | .seq a b, st => match wn n ann a st with
  | some (.normal, s) => wn n ann b s
  | o => o
 | .cond c x y, st => match evA st.fr c with
  | .val false [.sc .bool b] => bif b then wn n ann x st else wn n ann y st
  | _ => none
 | .block id c, st => match wn n ann c st with
  | some (.exit j, s) => bif Nat.beq j id then some (.normal, s) else some (.exit j, s)
  | o => o
 | .loop c, st => Zh (fun st => wn n ann c st) n st
 | .exit id, st => some (.exit id, st)
 | .ret, st => some (.ret, st)
 | _, _ => none
def Wd (n : Nat) (ann : FuncId → Nat → Ann) (f : FuncId) (fn : Func) (args : List AV) (H : List Ob) : Option (AV × List Ob) :=
 match fn.body with
 | none => none
 | some c => bif Nat.ble args.length fn.ntmps then
   (match wn T h0 env inl n (ann f) c ⟨args ++ List.replicate (fn.ntmps - args.length) .undef, H⟩ with
   | some (.exit _, _) => none
   | some (_, s) => (match wa T s.fr s.H fn.results.toList with
    | some v => some (v, s.H)
    | none => none)
   | none => none)
  else none
end
def RE (T : TypeId → Option TI) (env : FuncId → Option Con) (n : Nat) (ann : FuncId → Nat → Ann) (code : FuncId → Option Func) : Nat → FuncId → List AV → List Ob → (AV → List Ob → Option (AV × List Ob)) → Option (AV × List Ob)
 | 0, _, _, _, _ => none
 | d + 1, f, args, H, k => match code f with
  | some fn => (match Wd T H.length env (RE T env n ann code d) n ann f fn args H with
   | some p => k p.1 p.2
   | none => none)
  | none => none
def Xu (T : TypeId → Option TI) (env : FuncId → Option Con) (n : Nat) (ann : FuncId → Nat → Ann) (code : FuncId → Option Func) (d : Nat) (f : FuncId) (args : List AV) (H : List Ob) : Option (AV × List Ob) :=
 match code f with
 | some fn => Wd T 0 env (RE T env n ann code d) n ann f fn args H
 | none => none
section
variable {P : Program} {T : TypeId → Option TI} {h0 : Nat} {env : FuncId → Option Con} {inl : FuncId → List AV → List Ob → (AV → List Ob → Option (AV × List Ob)) → Option (AV × List Ob)}
theorem yh (hm : P.follows .mixedOrders = true) (hT : TOk P T) (hE : xL P env) (hN : mA P inl) {n : Nat} {ann : Nat → Ann} :
  ∀ (c : Code) (Q : Exit → Act → World → Prop) (x0 : Cx) (st : St) (a : Act) (w : World) (e : Ex) (st' : St), wn T h0 env inl n ann c st = some (e, st') → Good x0 h0 st a w →
   (∀ a' w', Good x0 h0 st' a' w' → Q e.to a' w') → c.wp P Q a w
 | .skip, Q, x0, st, a, w, e, st', h, hg, hk => by
  simp only [wn, NA, NH] at h
  obtain ⟨rfl, rfl⟩ := h
  exact wp_skip (hk a w hg)
 | .region id ops draw, Q, x0, st, a, w, e, st', h, hg, hk => by
  simp only [wn] at h
  split at h
  ·rename_i s hs
   cases h
   cases draw with
   | false => exact wp_region (yI hT hE hN hk _ _ a w hs hg)
   | true =>
    rw [Nv] at hs
    refine wp_region_draw (fun t => ?_)
    simp only [Region.schedule, hm, Bool.true_or, if_true]
    unfold QN at hs
    split at hs
    ·rename_i s' hs'
     cases hs
     cases hd : jf env (ann id).plain ops with
     | false => rw [hd] at hs'; cases hs'
     | true =>
      rw [hd, Nv] at hs'
      exact yI hT hE hN hk _ _ a _ (fB (Mono1.of hE) hd hs' t) (hg.drawn _)
    ·exact yI hT hE hN hk _ _ a _ (rG ops _ _ _ _ hs t) (hg.drawn _)
  ·cases h
 | .seq x y, Q, x0, st, a, w, e, st', h, hg, hk => by
  simp only [wn] at h
  split at h
  ·rename_i s hs
   exact wp_seq (yh hm hT hE hN x _ x0 st a w .normal s hs hg fun a' w' hg' => yh hm hT hE hN y Q x0 s a' w' e st' h hg' hk)
  ·rename_i hne
   refine wp_seq (yh hm hT hE hN x _ x0 st a w e st' h hg fun a' w' hg' => ?_)
   cases e with
   | normal => exact absurd h (hne st')
   | exit id => exact hk _ _ hg'
   | ret => exact hk _ _ hg'
 | .cond c x y, Q, x0, st, a, w, e, st', h, hg, hk => by
  simp only [wn] at h
  split at h
  ·rename_i b hc
   have hg0 := hg
   obtain ⟨z, hz, hat⟩ := hg
   have hv := hat.fr.ev hat.inv c
   rw [hc] at hv
   have hb' := v4 hv
   refine wp_cond hb' ?_
   cases b with
   | true => exact yh hm hT hE hN x Q x0 st a w e st' h hg0 hk
   | false => exact yh hm hT hE hN y Q x0 st a w e st' h hg0 hk
  ·cases h
 | .block id c, Q, x0, st, a, w, e, st', h, hg, hk => by
  simp only [wn] at h
  split at h
  ·rename_i j s hs
   refine wp_block (yh hm hT hE hN c _ x0 st a w (.exit j) s hs hg fun a' w' hg' => ?_)
   show Exit.inBlock id Q (.exit j) a' w'
   simp only [Exit.inBlock]
   by_cases ej : j = id
   ·subst ej
    rw [if_pos rfl]
    simp only [Nat.beq_refl, Nv, NA, NH] at h
    obtain ⟨rfl, rfl⟩ := h
    exact hk _ _ hg'
   ·rw [if_neg ej]
    have : Nat.beq j id = false := by
     cases hb' : Nat.beq j id with
     | true => exact absurd (Nz hb') ej
     | false => rfl
    rw [this] at h
    simp only [Nu, NA, NH] at h
    obtain ⟨rfl, rfl⟩ := h
    exact hk _ _ hg'
  ·rename_i hne
   refine wp_block (yh hm hT hE hN c _ x0 st a w e st' h hg fun a' w' hg' => ?_)
   cases e with
   | normal => exact hk _ _ hg'
   | ret => exact hk _ _ hg'
   | exit j => exact absurd h (hne j st')
 | .loop c, Q, x0, st, a, w, e, st', h, hg, hk => by
  simp only [wn] at h
  have key : ∀ (m : Nat) (st : St) (a : Act) (w : World), Zh (fun st => wn T h0 env inl n ann c st) m st = some (e, st') → Good x0 h0 st a w → Code.rounds P c Q m a w := by
   intro m
   induction m with
   | zero => intro st a w hl _; simp [Zh] at hl
   | succ m ih =>
    intro st a w hl hgd
    simp only [Zh] at hl
    rw [rounds_succ]
    split at hl
    ·rename_i s hs
     exact yh hm hT hE hN c _ x0 st a w .normal s hs hgd fun a' w' hg' => ih s a' w' hl hg'
    ·rename_i hne
     refine yh hm hT hE hN c _ x0 st a w e st' hl hgd fun a' w' hg' => ?_
     cases e with
     | normal => exact absurd hl (hne st')
     | exit id => exact hk _ _ hg'
     | ret => exact hk _ _ hg'
  exact wp_loop_rounds n (key n _ a w h hg)
 | .exit id, Q, x0, st, a, w, e, st', h, hg, hk => by
  simp only [wn, NA, NH] at h
  obtain ⟨rfl, rfl⟩ := h
  exact wp_exit (hk a w hg)
 | .ret, Q, x0, st, a, w, e, st', h, hg, hk => by
  simp only [wn, NA, NH] at h
  obtain ⟨rfl, rfl⟩ := h
  exact wp_ret (hk a w hg)
 | .rangeFunc _ _ _ _, Q, x0, st, a, w, e, st', h, hg, hk => by simp [wn] at h
 | .scope _, Q, x0, st, a, w, e, st', h, hg, hk => by simp [wn] at h
 | .label _, Q, x0, st, a, w, e, st', h, hg, hk => by simp [wn] at h
 | .goto _, Q, x0, st, a, w, e, st', h, hg, hk => by simp [wn] at h
 | .refuse _, Q, x0, st, a, w, e, st', h, hg, hk => by simp [wn] at h
structure CodeAt (P : Program) (f : FuncId) (fn : Func) : Prop where
 at_ : P.funcs[f]? = some fn
 name : (fn.name == "runtime.NumGoroutine") = false
def tD (P : Program) (code : FuncId → Option Func) : Prop := ∀ f fn, code f = some fn → CodeAt P f fn
theorem lg {P : Program} : ∀ {l : List (FuncId × Func)}, (∀ p ∈ l, P.funcs[p.1]? = some p.2) → (l.all fun p => !(p.2.name == "runtime.NumGoroutine")) = true → tD P (xW l)
 | [], _, _, f, fn, h => by cases h
 | p :: r, hp, hl, f, fn, h => by
  simp only [List.all_cons, Nt] at hl
  unfold xW at h
  cases hb : Nat.beq p.1 f with
  | true =>
   rw [hb] at h
   have := Nz hb
   subst this
   cases h
   have h1 := hl.1
   simp only [Bool.not_eq_true'] at h1
   exact ⟨hp p (by simp), h1⟩
  | false =>
   rw [hb] at h
   exact lg (fun q hq => hp q (by simp [hq])) hl.2 f fn h
theorem pg (hm : P.follows .mixedOrders = true) (hT : TOk P T) (hE : xL P env) (hN : mA P inl) {n : Nat} {ann : FuncId → Nat → Ann} {f : FuncId} {fn : Func} (hc : CodeAt P f fn)
  {x : Cx} {args : List AV} {vals : Array Value} {v : AV} {H' : List Ob} {S : Value → World → Prop} (h : Wd T h0 env inl n ann f fn args x.H = some (v, H')) (hI : Inv x) (hv : RepVs x args vals.toList) (h0l : h0 ≤ x.H.length)
  (hk : ∀ y u, Left x h0 v H' u y → S u y.w) : Does P (callFunc f vals) x.w S := by
 unfold Wd at h
 split at h
 ·cases h
 ·rename_i c hbody
  cases hle : Nat.ble args.length fn.ntmps with
  | false => simp [hle] at h
  | true =>
   simp only [hle, Nv] at h
   have hle' := Nat.le_of_ble_eq_true hle
   have hrun : (callFunc f vals).run P x.w = .ok (.enter f vals) x.w := by
    have hn := hc.name
    simp only [beq_eq_false_iff_ne, ne_eq] at hn
    simp [callFunc, go_sem, hc.at_, hbody, hn]
   unfold Does
   rw [hrun]
   simp only
   refine calls_of_wp hc.at_ hbody ?_
   obtain ⟨hlen, hget⟩ := se _ _ hv
   simp only [Array.length_toList] at hlen
   cases hex : wn T h0 env inl n (ann f) c ⟨args ++ List.replicate (fn.ntmps - args.length) .undef, x.H⟩ with
   | none => rw [hex] at h; cases h
   | some p =>
   obtain ⟨e, st'⟩ := p
   rw [hex] at h
   refine yh hm hT hE hN c _ x _ _ x.w e st' hex ⟨x, rfl, hI, rfl, ?_, Kept.refl x, fun id _ => IdOk.same hI rfl rfl (fun _ _ _ => rfl), h0l, rfl, NF _⟩ ?_
   ·intro t v ht
    have ht' : (args ++ List.replicate (fn.ntmps - args.length) AV.undef)[t]? = some v := ht
    show ∃ u, (vals ++ Array.replicate (fn.ntmps - vals.size) Go.undef)[t]? = some u ∧ RepV x v u
    rw [List.getElem?_append] at ht'
    rw [Array.getElem?_append]
    split at ht'
    ·rename_i hlt
     rw [if_pos (by omega)]
     obtain ⟨u, h1, h2⟩ := hget t v ht'
     exact ⟨u, by simpa using h1, h2⟩
    ·rename_i hlt
     rw [if_neg (by omega)]
     rw [List.getElem?_replicate] at ht'
     split at ht'
     ·rename_i h3
      cases ht'
      refine ⟨Go.undef, ?_, trivial⟩
      rw [Array.getElem?_replicate, if_pos (by omega)]
     ·cases ht'
   ·intro a' w' hg'
    have fin : (match wa T st'.fr st'.H fn.results.toList with | some v => some (v, st'.H) | none => none) = some (v, H') → a'.defers = [] ∧ ∃ v, (results fn a'.tmps).run P w' = .ok v w' ∧ S v w' := by
     intro h'
     obtain ⟨y, rfl, hy⟩ := hg'
     have e1 : y.H = st'.H := hy.H
     split at h'
     ·rename_i v' hr
      cases h'
      rw [← e1] at hr
      obtain ⟨u, h1, h2⟩ := ub hT hy.inv hy.fr hr
      exact ⟨hy.defers, u, h1, hk y u ⟨hy.inv, e1, hy.kept, hy.ids, hy.low, h2⟩⟩
     ·cases h'
    cases e with
    | normal => exact fin h
    | ret => exact fin h
    | exit id => cases h
end
section
variable {P : Program} {T : TypeId → Option TI} {env : FuncId → Option Con} {n : Nat} {ann : FuncId → Nat → Ann} {code : FuncId → Option Func}
theorem af (hm : P.follows .mixedOrders = true) (hT : TOk P T) (hE : xL P env) (hC : tD P code) : ∀ (d : Nat), mA P (RE T env n ann code d)
 | 0 => fun f args x vals v H' h _ _ => by simp [RE] at h
 | d + 1 => fun f args x vals v H' h hI hv => by
  simp only [RE] at h
  split at h
  ·rename_i fn hf
   split at h
   ·rename_i p hp
    cases h
    refine pg hm hT hE (af hm hT hE hC d) (hC f fn hf) hp hI hv (NF _) ?_
    intro y u hl
    refine ⟨y, rfl, hl.H, ⟨hl.inv, hl.kept, hl.ids, ?_, hl.len⟩, hl.val⟩
    exact Carry.id_of (hl.kept.kin hI) hl.ids
   ·cases h
  ·cases h
theorem dy (hm : P.follows .mixedOrders = true) (hT : TOk P T) (hE : xL P env) (hC : tD P code) {d : Nat} {f : FuncId} {x : Cx} {args : List AV} {vals : Array Value} {v : AV} {H' : List Ob} {S : Value → World → Prop}
  (h : Xu T env n ann code d f args x.H = some (v, H')) (hI : Inv x) (hv : RepVs x args vals.toList) (hk : ∀ y u, Left x 0 v H' u y → S u y.w) : Does P (callFunc f vals) x.w S := by
 unfold Xu at h
 split at h
 ·rename_i fn hf
  exact pg hm hT hE (af hm hT hE hC d) (hC f fn hf) h hI hv (Nat.zero_le _) hk
 ·cases h
theorem pi (hm : P.follows .mixedOrders = true) (hT : TOk P T) (hE : xL P env) (hC : tD P code) {d : Nat} {f : FuncId} {s rs : Sig} {lend : Bool} {F : s.den → Option rs.den}
  (hfl : lend = true → ∀ p ∈ rs, p.2.flat = true) (hrun : ∀ X Y, F X = some Y → ∃ n, ((Xu T env n ann code d f (zu s X) []).bind fun p => zq rs p.1 p.2) = some Y) : ConOk P f (zk s rs lend F) :=
 mG hfl fun X Y hF x' vals hH hI hv S hk => by
  obtain ⟨n, hr⟩ := hrun X Y hF
  cases hq : Xu T env n ann code d f (zu s X) [] with
  | none => rw [hq] at hr; cases hr
  | some p =>
   rw [hq] at hr
   exact dy hm hT hE hC (x := x') (by rw [hH]; exact hq) hI hv fun y u hl => hk p.1 p.2 y u hr hl
end
end Go.Proofs.YtefddghdaimklaaGreatDoor.AI
