/- A part of the proof. -/
import Derived.Test.YtefddghdaimklaaGreatDoorAib
import Derived.Laws.StructEq
import Derived.WideKeyRuns
set_option linter.unusedVariables false
set_option linter.unusedSimpArgs false
namespace Go.Proofs.YtefddghdaimklaaGreatDoor.AI
open Go
inductive Ex : Type where
 | normal | exit (id : Nat) | ret
structure Ann where
 keep : List Nat
 grow : List (Nat × Option Nat × TypeId × Ty)
 plain : List Nat
def Ann.dead (a : Ann) : Bool := Nat.beq (a.plain.headD 0) 999999
def dF (e : TypeId) (t : Ty) (H : List Ob) : C × List Ob :=
 bif Nat.beq e 0 then (.sc (.sl t) [], H) else (.own H.length 0, H ++ [Ob.arr e t []])
def growAt (p : Nat × Option Nat × TypeId × Ty) (fr : List AV) (H : List Ob) : List AV × List Ob :=
 match p with
 | (s, none, e, t) => match fr.getD s .undef with
  | .val false [.nils] => (fr.set s (.val false [(dF e t H).1]), (dF e t H).2)
  | _ => (fr, H)
 | (s, some j, e, t) => match fr.getD s .undef with
  | .val false [.ptr id off] => match H[id]? with
   | some (.box cs) => match cs[off + j]? with
    | some .nils => (fr, (dF e t H).2.set id (.box (cs.set (off + j) (dF e t H).1)))
    | _ => (fr, H)
   | _ => (fr, H)
  | _ => (fr, H)
def growAll (l : List (Nat × Option Nat × TypeId × Ty)) (fr : List AV) (H : List Ob) : List AV × List Ob :=
 l.foldl (fun p q => growAt q p.1 p.2) (fr, H)
def wN (keep : List Nat) : Nat → List AV → List AV
 | _, [] => []
 | i, v :: r => (bif keep.any (Nat.beq i) then v else .undef) :: wN keep (i + 1) r
def bw (keep : List Nat) (n : Nat) (fr : List AV) : List AV := (wN keep 0 fr).map (Sub.v (.above n))
def o8 (n : Nat) (H : List Ob) : List Ob := (H.take n).map (Sub.ob (.above n))
variable {R : Type}
def tv (keep : List Nat) (h : Nat) (body : List AV → List Ob → (Ex → List AV → List Ob → Option R) → Option R) : Nat → List AV → List Ob → (Ex → List AV → List Ob → Option R) → Option R
 | 0, _, _, _ => none
 | m + 1, fr, H, k => body fr H fun e fr H => match e with
  | .normal => tv keep h body m (bw keep h fr) (o8 h H) k
  | e => k e fr H
def Zl (d : Nat) : Bool := Nat.ble 5000000 d && Nat.ble d 5999999
def ac (d : Nat) : Bool := Nat.ble 6000000 d && Nat.ble d 6999999
def joinNf (s : Nat) (fr : List AV) : List AV :=
 match fr.getD s .undef with
 | .val false [.sc (.float .f64) n] => fr.set s (.val false [.nf (some n)])
 | .val false [.nan] => fr.set s (.val false [.nf none])
 | _ => fr
def partK : List Nat → List AV → (List AV → Option R) → Option R
 | [], fr, k => k fr
 | d :: r, fr, k => bif ac d then (match fr.getD (d - 6000000) .undef with
   | .val false [.nf o] => VF o (fun n => partK r (fr.set (d - 6000000) (.val false [.sc (.float .f64) n])) k) (partK r (fr.set (d - 6000000) (.val false [.nan])) k)
   | _ => partK r fr k) else partK r fr k
def bK (d : Nat) : Bool := Nat.ble 3000000 d && Nat.ble d 3999999
def sealK (h0 : Nat) : List Nat → List AV → List Ob → (List AV → List Ob → Option R) → Option R
 | [], fr, H, k => k fr H
 | d :: r, fr, H, k => bif bK d then (match fr.getD (d - 3000000) .undef with
   | .val false [.own id _] => bif Nat.ble h0 id then sealK h0 r (St.give id ⟨fr, H⟩).fr (St.give id ⟨fr, H⟩).H k else none
   | _ => none) else bif Zl d then sealK h0 r (joinNf (d - 5000000) fr) H k else sealK h0 r fr H k
def lI : Code → Nat
 | .region id _ _ => id
 | .seq a _ => lI a
 | .block _ c => lI c
 | .scope c => lI c
 | .loop c => lI c
 | _ => 0
variable (T : TypeId → Option TI) (h0 : Nat) (env : FuncId → Option Con) (inl : FuncId → List AV → List Ob → (AV → List Ob → Option R) → Option R)
def ye (n : Nat) (ann : Nat → Ann) : Code → List AV → List Ob → (Ex → List AV → List Ob → Option R) → Option R
 | .skip, fr, H, k => k .normal fr H
 | .region id ops draw, fr, H, k => bif draw && (ann id).dead then none else partK (ann id).plain fr fun fr => gk T h0 env inl draw (ann id).plain ops.toList ops.toList ⟨fr, [], []⟩ H fun g H => sealK h0 (ann id).plain (R6 g) H fun fr H => k .normal fr H
 | .seq a b, fr, H, k => ye n ann a fr H fun e fr H => match e with
  | .normal => ye n ann b fr H k
  | e => k e fr H
 | .cond c x y, fr, H, k => match evA fr c with
  | .val false [.sc .bool b] => bif b then ye n ann x fr H k else ye n ann y fr H k
  | _ => none
 | .block id c, fr, H, k => ye n ann c fr H fun e fr H => match e with
  | .exit j => bif Nat.beq j id then k .normal fr H else k (.exit j) fr H
  | e => k e fr H
 | .loop c, fr, H, k =>
  let a := ann (lI c)
  let p := growAll a.grow fr H
  tv a.keep p.2.length (fun fr H k => ye n ann c fr H k) n (bw a.keep p.2.length p.1) (o8 p.2.length p.2) k
 | .exit id, fr, H, k => k (.exit id) fr H
 | .ret, fr, H, k => k .ret fr H
 | _, _, _, _ => none
def hU (T : TypeId → Option TI) (fr : List AV) (H : List Ob) : ResultVar → Option (Bool × List C)
 | .tmp t => match fr.getD t .undef with
  | .val g cs => some (g, cs)
  | _ => none
 | .cell a t => match uK T t H (fr.getD a .undef) with
  | some (.val g cs) => some (g, cs)
  | _ => none
def jV (T : TypeId → Option TI) (fr : List AV) (H : List Ob) : List ResultVar → Option (List (Bool × List C))
 | [] => some []
 | r :: l => match hU T fr H r with
  | some p => match jV T fr H l with
   | some q => some (p :: q)
   | none => none
  | none => none
def wa (T : TypeId → Option TI) (fr : List AV) (H : List Ob) (l : List ResultVar) : Option AV :=
 match jV T fr H l with
 | some [p] => some (.val p.1 p.2)
 | some l => some (.tup l)
 | none => none
def jw (n : Nat) (ann : FuncId → Nat → Ann) (f : FuncId) (fn : Func) (args : List AV) (H : List Ob) (k : AV → List Ob → Option R) : Option R :=
 match fn.body with
 | none => none
 | some c => bif Nat.ble args.length fn.ntmps then
   ye T h0 env inl n (ann f) c (args ++ List.replicate (fn.ntmps - args.length) .undef) H fun e fr H => match e with
    | .exit _ => none
    | _ => match wa T fr H fn.results.toList with
     | some v => k v H
     | none => none
  else none
def xH (T : TypeId → Option TI) (env : FuncId → Option Con) (n : Nat) (ann : FuncId → Nat → Ann) (code : FuncId → Option Func) : Nat → FuncId → List AV → List Ob → (AV → List Ob → Option R) → Option R
 | 0, _, _, _, _ => none
 | d + 1, f, args, H, k => match code f with
  | some fn => jw T H.length env (xH T env n ann code d) n ann f fn args H k
  | none => none
def iR (T : TypeId → Option TI) (env : FuncId → Option Con) (n : Nat) (ann : FuncId → Nat → Ann) (code : FuncId → Option Func) (d : Nat) (f : FuncId) (args : List AV) (H : List Ob) (k : AV → List Ob → Option R) : Option R :=
 match code f with
 | some fn => jw T 0 env (xH T env n ann code d) n ann f fn args H k
 | none => none
def zY {X R : Type} (step : (X → Option R) → X → Option R) : Nat → X → Option R
 | 0, _ => none
 | m + 1, x => step (zY step m) x
end Go.Proofs.YtefddghdaimklaaGreatDoor.AI
namespace Go.Proofs.YtefddghdaimklaaGreatDoor.AI
open Go
def IdOk (x y : Cx) (id : Nat) : Prop :=
 match x.H[id]? with
 | none => True
 | some .dead => True
 | some (.box _) => (∃ cs, y.H[id]? = some (.box cs)) ∧ y.at_ id = x.at_ id
 | some (.mp t _) => (∃ xs, y.H[id]? = some (.mp t xs)) ∧ y.at_ id = x.at_ id
 | some (.tb _) => (∃ xs, y.H[id]? = some (.tb xs)) ∧ y.at_ id = x.at_ id
 | some (.arr e t xs) => ∃ xs', y.H[id]? = some (.arr e t xs') ∧ xs.length ≤ xs'.length ∧ y.at_ id = x.at_ id ∧
   ∀ b, x.at_ id = some b → ∀ cur' e' fr', y.w.heap[b]? = some (.cells cur' e' fr') → ∃ cur e'' fr, x.w.heap[b]? = some (.cells cur e'' fr) ∧ cur.size ≤ cur'.size
def vK : C → List Nat
 | .own id _ => [id]
 | .ptr id _ => [id]
 | .elo id _ _ => [id]
 | .fn _ caps => caps.map (·.1)
 | .mp id => [id]
 | .fnm _ id _ => [id]
 | _ => []
structure Kin (x y : Cx) : Prop where
 ok : ∀ b, x.ok b → y.ok b
 blk : ∀ b, x.ok b → y.w.heap[b]? = x.w.heap[b]?
theorem Tabs.kin {x y : Cx} (h : Kin x y) (ht : Tabs x.ok x.w) : Tabs y.ok y.w := ht.imp h.ok h.blk
theorem RepT.kin {x y : Cx} (h : Kin x y) {t : Ty} {d : t.den} {vs : List Value} (hr : RepT x.ok x.w t d vs) : RepT y.ok y.w t d vs :=
 RepT.imp h.ok h.blk t d vs hr
theorem RepP.move {x y : Cx} {id off : Nat} {v : Value} (hi : IdOk x y id) (h : RepP x id off v) : RepP y id off v := by
 unfold RepP IdOk at *
 cases hx : x.H[id]? with
 | none => simp [hx] at h
 | some o =>
  cases o with
  | box cs =>
   simp only [hx] at h hi
   obtain ⟨b, h1, h2⟩ := h
   obtain ⟨⟨cs', hi⟩, ha⟩ := hi
   simp only [hi]; exact ⟨b, by rw [ha, h1], h2⟩
  | arr e t xs => simp [hx] at h
  | mp t xs => simp [hx] at h
  | tb _ => simp [hx] at h
  | dead => simp [hx] at h
theorem RepCaps.move {x y : Cx} : ∀ (l : List (Nat × Nat)) (vs : List Value), (∀ id ∈ l.map (·.1), IdOk x y id) → RepCaps x l vs → RepCaps y l vs
 | [], _, _, h => h
 | (id, off) :: l, vs, hi, h => by
  obtain ⟨v, r, h1, h2, h3, h4⟩ := h
  exact ⟨v, r, h1, h2, h3.move (hi id (by simp)), RepCaps.move l r (fun i hm => hi i (by simp at hm ⊢; exact .inr hm)) h4⟩
theorem RepE.kin {x y : Cx} (hk : Kin x y) {t : Ty} {d : t.den} {off : Nat} {v : Value} (h : RepE x t d off v) : RepE y t d off v := by
 obtain ⟨b, o, vs, h3, h4, h5, h6⟩ := h
 refine ⟨b, o, vs, h3, hk.ok b h4, RepT.kin hk h5, fun j u hj => ?_⟩
 rw [World.cell?_of_block (w := x.w) (w' := y.w) (hk.blk b h4)]
 exact h6 j u hj
theorem RepRo.kin {x y : Cx} (hk : Kin x y) : ∀ (l : List ((t : Ty) × t.den)) (vs : List Value), RepRo x l vs → RepRo y l vs
 | [], _, h => h
 | ⟨t, d⟩ :: l, vs, h => by
  obtain ⟨v, r, h1, h2, h3⟩ := h
  exact ⟨v, r, h1, h2.kin hk, RepRo.kin hk l r h3⟩
theorem RepC.move {x y : Cx} (hk : Kin x y) {c : C} {v : Value} (hi : ∀ id ∈ vK c, IdOk x y id) (h : RepC x c v) : RepC y c v := by
 refine ⟨h.1, ?_⟩
 have h2 := h.2
 cases c with
 | sc t d => exact RepT.kin hk h2
 | nils => exact h2
 | own id n =>
  have hi' := hi id (by simp [vK])
  simp only [zV] at h2 ⊢
  unfold IdOk at hi'
  cases hx : x.H[id]? with
  | none => simp [hx] at h2
  | some o =>
   cases o with
   | box cs => simp [hx] at h2
   | mp _ _ => simp [hx] at h2
   | tb _ => simp [hx] at h2
   | dead => simp [hx] at h2
   | arr e t xs =>
    simp only [hx] at h2 hi'
    obtain ⟨xs', h3, h4, h5, h6⟩ := hi'
    simp only [h3, h5]
    refine ⟨Nat.le_trans h2.1 h4, ?_⟩
    cases ha : x.at_ id with
    | none => simpa [ha] using h2.2
    | some b =>
     have h2' := h2.2
     simp only [ha] at h2'
     obtain ⟨c, q1, q2, q3, q4⟩ := h2'
     refine ⟨c, q1, q2, q3, fun cur' e' fr' hb => ?_⟩
     obtain ⟨cur, e'', fr, r1, r2⟩ := h6 b ha cur' e' fr' hb
     exact Nat.le_trans (q4 _ _ _ r1) r2
 | ptr id off => exact RepP.move (hi id (by simp [vK])) h2
 | elr t d off => exact RepE.kin hk h2
 | fnr f caps =>
  obtain ⟨vs, h3, h4⟩ := h2
  exact ⟨vs, h3, RepRo.kin hk _ _ h4⟩
 | scn z t xs => exact ⟨RepT.kin hk h2.1, h2.2⟩
 | nan => exact h2
 | nf o => cases o <;> exact h2
 | fnm f id off =>
  obtain ⟨p, q1, q2, q3⟩ := h2
  exact ⟨p, q1, q2, RepP.move (hi id (by simp [vK])) q3⟩
 | nili => exact h2
 | elo id i off =>
  have hi' := hi id (by simp [vK])
  simp only [zV] at h2 ⊢
  unfold IdOk at hi'
  cases hx : x.H[id]? with
  | none => simp [hx] at h2
  | some o =>
   cases o with
   | box cs => simp [hx] at h2
   | mp _ _ => simp [hx] at h2
   | tb _ => simp [hx] at h2
   | dead => simp [hx] at h2
   | arr e t xs =>
    simp only [hx] at h2 hi'
    obtain ⟨xs', h3, h4, h5, h6⟩ := hi'
    simp only [h3, h5]
    obtain ⟨q1, b, q2, q3⟩ := h2
    exact ⟨by omega, b, q2, q3⟩
 | nilp => exact h2
 | nilf => exact h2
 | nilm => exact h2
 | mp id =>
  have hi' := hi id (by simp [vK])
  simp only [zV] at h2 ⊢
  unfold IdOk at hi'
  cases hx : x.H[id]? with
  | none => simp [hx] at h2
  | some o =>
   cases o with
   | mp t xs =>
    simp only [hx] at h2 hi'
    obtain ⟨b, h3, h4⟩ := h2
    obtain ⟨⟨xs', hi'⟩, ha⟩ := hi'
    simp only [hi']; exact ⟨b, by rw [ha, h3], h4⟩
   | tb xs =>
    simp only [hx] at h2 hi'
    obtain ⟨b, h3, h4⟩ := h2
    obtain ⟨⟨xs', hi'⟩, ha⟩ := hi'
    simp only [hi']; exact ⟨b, by rw [ha, h3], h4⟩
   | _ => simp [hx] at h2
 | fn f caps =>
  obtain ⟨vs, h3, h4⟩ := h2
  exact ⟨vs, h3, RepCaps.move caps _ (fun i hm => hi i hm) h4⟩
 | undef => trivial
def Carry (σ : C → C) (x y : Cx) : Prop := ∀ c v, RepC x c v → RepC y (σ c) v
theorem Carry.id_of {x y : Cx} (hk : Kin x y) (hi : ∀ id, id < x.H.length → IdOk x y id) : Carry (fun c => c) x y := by
 intro c v h
 refine h.move hk fun id hid => ?_
 rcases Nat.lt_or_ge id x.H.length with hl | hl
 ·exact hi id hl
 ·unfold IdOk; rw [List.getElem?_eq_none hl]; trivial
theorem Carry.kill {x y : Cx} (hk : Kin x y) (i : Nat) (ha : ∃ e t xs, x.H[i]? = some (.arr e t xs)) (hi : ∀ id, id < x.H.length → id ≠ i → IdOk x y id) : Carry (Sub.c (.kill i)) x y := by
 intro c v h
 have key : ∀ id, id ≠ i → IdOk x y id := fun id hne => by
  rcases Nat.lt_or_ge id x.H.length with hl | hl
  ·exact hi id hl hne
  ·unfold IdOk; rw [List.getElem?_eq_none hl]; trivial
 obtain ⟨e, t, xs, ha⟩ := ha
 have hp : ∀ off u, ¬ RepP x i off u := fun off u hp => by simp [RepP, ha] at hp
 cases c with
 | own id n =>
  simp only [Sub.c]
  cases hb : Nat.beq id i with
  | true => exact ⟨h.1, trivial⟩
  | false => exact h.move hk (fun j hj => by
    simp [vK] at hj; subst hj; exact key _ (fun e => by subst e; simp at hb))
 | elo id j off =>
  simp only [Sub.c]
  cases hb : Nat.beq id i with
  | true => exact ⟨h.1, trivial⟩
  | false => exact h.move hk (fun j hj => by
    simp [vK] at hj; subst hj; exact key _ (fun e => by subst e; simp at hb))
 | ptr id off =>
  show RepC y (.ptr id off) v
  exact h.move hk (fun j hj => by
   simp [vK] at hj; subst hj; exact key _ (fun e => by subst e; exact hp _ _ h.2))
 | fn f caps =>
  show RepC y (.fn f caps) v
  refine h.move hk (fun j hj => key j (fun e => ?_))
  subst e
  obtain ⟨vs, _, hc⟩ := h.2
  have : ∀ (l : List (Nat × Nat)) (vs : List Value), RepCaps x l vs → j ∉ l.map (·.1) := by
   intro l
   induction l with
   | nil => intro _ _; simp
   | cons p l ih =>
    intro vs hc
    obtain ⟨v, r, _, _, h3, h4⟩ := hc
    simp only [NN, NM, not_or]
    exact ⟨fun e => hp _ _ (e ▸ h3), ih r h4⟩
  exact this _ _ hc hj
 | sc t d => show RepC y (.sc t d) v; exact h.move hk (by simp [vK])
 | nils => show RepC y (.nils) v; exact h.move hk (by simp [vK])
 | elr t d off => show RepC y (.elr t d off) v; exact h.move hk (by simp [vK])
 | fnr f caps => show RepC y (.fnr f caps) v; exact h.move hk (by simp [vK])
 | scn z t xs => show RepC y (.scn z t xs) v; exact h.move hk (by simp [vK])
 | nan => show RepC y (.nan) v; exact h.move hk (by simp [vK])
 | nf o => show RepC y (.nf o) v; exact h.move hk (by simp [vK])
 | fnm f id off =>
  show RepC y (.fnm f id off) v
  exact h.move hk (fun j hj => by
   simp [vK] at hj; subst hj; exact key _ (fun e => by subst e; obtain ⟨p, _, _, q⟩ := h.2; exact hp _ _ q))
 | nili => show RepC y (.nili) v; exact h.move hk (by simp [vK])
 | nilp => show RepC y (.nilp) v; exact h.move hk (by simp [vK])
 | nilf => show RepC y (.nilf) v; exact h.move hk (by simp [vK])
 | nilm => show RepC y (.nilm) v; exact h.move hk (by simp [vK])
 | mp id =>
  show RepC y (.mp id) v
  exact h.move hk (fun j hj => by
   simp [vK] at hj; subst hj; exact key _ (fun e => by subst e; have h2 := h.2; simp [zV, ha] at h2))
 | undef => show RepC y (.undef) v; exact h.move hk (by simp [vK])
theorem Carry.above {x y : Cx} (hk : Kin x y) (m : Nat) (hi : ∀ id, id < m → IdOk x y id) : Carry (Sub.c (.above m)) x y := by
 intro c v h
 cases c with
 | own id n =>
  simp only [Sub.c]
  cases hb : Nat.ble m id with
  | true => exact ⟨h.1, trivial⟩
  | false => exact h.move hk (fun j hj => by
    simp [vK] at hj; subst hj; exact hi _ (by rcases Nat.lt_or_ge j m with h1 | h1; exact h1; rw [Nat.ble_eq_true_of_le h1] at hb; cases hb))
 | elo id j off =>
  simp only [Sub.c]
  cases hb : Nat.ble m id with
  | true => exact ⟨h.1, trivial⟩
  | false => exact h.move hk (fun j hj => by
    simp [vK] at hj; subst hj; exact hi _ (by rcases Nat.lt_or_ge j m with h1 | h1; exact h1; rw [Nat.ble_eq_true_of_le h1] at hb; cases hb))
 | ptr id off =>
  simp only [Sub.c]
  cases hb : Nat.ble m id with
  | true => exact ⟨h.1, trivial⟩
  | false => exact h.move hk (fun j hj => by
    simp [vK] at hj; subst hj; exact hi _ (by rcases Nat.lt_or_ge j m with h1 | h1; exact h1; rw [Nat.ble_eq_true_of_le h1] at hb; cases hb))
 | fn f caps =>
  simp only [Sub.c]
  cases hb : caps.all (fun p => Nat.blt p.1 m) with
  | false => exact ⟨h.1, trivial⟩
  | true => exact h.move hk (fun j hj => by
    obtain ⟨p, hp, rfl⟩ := List.mem_map.1 (show j ∈ caps.map (·.1) from hj)
    have := Nw.1 hb p hp
    exact hi _ (by simp [Nat.blt] at this; omega))
 | sc t d => show RepC y (.sc t d) v; exact h.move hk (by simp [vK])
 | nils => show RepC y (.nils) v; exact h.move hk (by simp [vK])
 | elr t d off => show RepC y (.elr t d off) v; exact h.move hk (by simp [vK])
 | fnr f caps => show RepC y (.fnr f caps) v; exact h.move hk (by simp [vK])
 | scn z t xs => show RepC y (.scn z t xs) v; exact h.move hk (by simp [vK])
 | nan => show RepC y (.nan) v; exact h.move hk (by simp [vK])
 | nf o => show RepC y (.nf o) v; exact h.move hk (by simp [vK])
 | fnm f id off =>
  simp only [Sub.c]
  cases hb : Nat.ble m id with
  | true => exact ⟨h.1, trivial⟩
  | false => exact h.move hk (fun j hj => by
    simp [vK] at hj; subst hj; exact hi _ (by rcases Nat.lt_or_ge j m with h1 | h1; exact h1; rw [Nat.ble_eq_true_of_le h1] at hb; cases hb))
 | nili => show RepC y (.nili) v; exact h.move hk (by simp [vK])
 | nilp => show RepC y (.nilp) v; exact h.move hk (by simp [vK])
 | nilf => show RepC y (.nilf) v; exact h.move hk (by simp [vK])
 | nilm => show RepC y (.nilm) v; exact h.move hk (by simp [vK])
 | mp id =>
  simp only [Sub.c]
  cases hb : Nat.ble m id with
  | true => exact ⟨h.1, trivial⟩
  | false => exact h.move hk (fun j hj => by
    simp [vK] at hj; subst hj; exact hi _ (by rcases Nat.lt_or_ge j m with h1 | h1; exact h1; rw [Nat.ble_eq_true_of_le h1] at hb; cases hb))
 | undef => show RepC y (.undef) v; exact h.move hk (by simp [vK])
theorem Carry.give {x y : Cx} (hk : Kin x y) (i : Nat) {e : TypeId} {t : Ty} {xs : List t.den} (ha : x.H[i]? = some (.arr e t xs)) (ho : ObRep x i (.arr e t xs))
  (hnew : ∀ b, x.at_ i = some b → y.ok b ∧ y.w.heap[b]? = x.w.heap[b]?) (hi : ∀ id, id < x.H.length → id ≠ i → IdOk x y id) : Carry (Sub.c (.give i t xs)) x y := by
 have kill := Carry.kill hk i ⟨e, t, xs, ha⟩ hi
 intro c v h
 cases c with
 | own id n =>
  simp only [Sub.c]
  cases hb : Nat.beq id i with
  | false => have := kill _ _ h; simpa only [Sub.c, hb, Nu] using this
  | true =>
   have : id = i := Nz hb
   subst this
   refine ⟨h.1, ?_⟩
   have h2 := h.2
   simp only [zV, ha] at h2
   obtain ⟨hn, h2⟩ := h2
   have hlen : (xs.take n).length = n := by simp [Nat.min_eq_left hn]
   cases hat : x.at_ id with
   | none =>
    simp only [hat] at h2
    obtain ⟨⟨A, rfl⟩, rfl⟩ := h2
    exact ⟨A, 0, by simp, by simp, fun hne => absurd (by simp) hne⟩
   | some b =>
    simp only [hat] at h2
    obtain ⟨c, rfl, h3, h4, h5⟩ := h2
    refine ⟨some ⟨b, 0, none⟩, c, by rw [hlen], by rw [hlen]; exact h3, fun _ => ⟨b, 0, rfl, (hnew b hat).1, fun j d hj => ?_⟩⟩
    simp only [ObRep, hat] at ho
    obtain ⟨cur, h6, h7, h8⟩ := ho
    rw [List.getElem?_take] at hj
    split at hj
    ·obtain ⟨vs, h9, h10⟩ := h8 j d hj
     refine ⟨vs, RepT.kin hk h9, (RepT.len t d vs h9).1, fun q u hq => ?_⟩
     rw [World.cell?_of_block (w := x.w) (w' := y.w) (hnew b hat).2]
     have := h10 q u hq
     simp [World.cell?, h6, this]
    ·cases hj
 | elo id j off =>
  simp only [Sub.c]
  exact kill _ _ h
 | ptr id off => exact kill _ _ h
 | fn f caps => exact kill _ _ h
 | sc t d => exact kill _ _ h
 | nils => exact kill _ _ h
 | elr t d off => exact kill _ _ h
 | fnr f caps => exact kill _ _ h
 | scn z t xs => exact kill _ _ h
 | nan => exact kill _ _ h
 | nf o => exact kill _ _ h
 | fnm f id off => exact kill _ _ h
 | nili => exact kill _ _ h
 | nilp => exact kill _ _ h
 | nilf => exact kill _ _ h
 | nilm => exact kill _ _ h
 | mp id => exact kill _ _ h
 | undef => exact kill _ _ h
theorem RepCs.carry {σ : C → C} {x y : Cx} (h : Carry σ x y) : ∀ (cs : List C) (vs : List Value), RepCs x cs vs → RepCs y (cs.map σ) vs
 | [], _, hr => hr
 | c :: l, vs, hr => by
  obtain ⟨v, r, h1, h2, h3⟩ := hr
  exact ⟨v, r, h1, h c v h2, RepCs.carry h l r h3⟩
theorem Rep1.carry {σ : C → C} {x y : Cx} (h : Carry σ x y) {g : Bool} {cs : List C} {v : Value} (hr : Rep1 x (g, cs) v) : Rep1 y (g, cs.map σ) v := by
 cases g with
 | true => obtain ⟨vs, h1, h2⟩ := hr; exact ⟨vs, h1, RepCs.carry h _ _ h2⟩
 | false => exact RepCs.carry h cs [v] hr
theorem Rep1s.carry {σ : C → C} {x y : Cx} (h : Carry σ x y) : ∀ (l : List (Bool × List C)) (vs : List Value), Rep1s x l vs → Rep1s y (l.map fun p => (p.1, p.2.map σ)) vs
 | [], _, hr => hr
 | p :: l, vs, hr => by
  obtain ⟨v, r, h1, h2, h3⟩ := hr
  exact ⟨v, r, h1, Rep1.carry h h2, Rep1s.carry h l r h3⟩
theorem RepV.carry {s : Sub} {x y : Cx} (h : Carry s.c x y) {a : AV} {v : Value} (hr : RepV x a v) : RepV y (s.v a) v := by
 cases a with
 | val g cs => exact Rep1.carry h hr
 | tup l => obtain ⟨vs, h1, h2⟩ := hr; exact ⟨vs, h1, Rep1s.carry h _ _ h2⟩
 | skip => exact hr
 | undef => trivial
theorem jk (l : List (Bool × List C)) : (l.map fun p => (p.1, p.2.map fun c => c)) = l := by
 induction l with
 | nil => rfl
 | cons p l ih => rw [NN, ih]; simp
theorem RepV.keep {x y : Cx} (h : Carry (fun c => c) x y) {a : AV} {v : Value} (hr : RepV x a v) : RepV y a v := by
 cases a with
 | val g cs => have := Rep1.carry (g := g) h hr; rw [List.map_id' cs] at this; exact this
 | tup l => obtain ⟨vs, h1, h2⟩ := hr; have := Rep1s.carry h _ _ h2; rw [jk] at this; exact ⟨vs, h1, this⟩
 | skip => exact hr
 | undef => trivial
theorem RepCs.keep {x y : Cx} (h : Carry (fun c => c) x y) {cs : List C} {vs : List Value} (hr : RepCs x cs vs) : RepCs y cs vs := by
 have := RepCs.carry h _ _ hr; simpa using this
theorem RepCs.len {x : Cx} : ∀ (cs : List C) (vs : List Value), RepCs x cs vs → vs.length = cs.length ∧ vU vs
 | [], vs, h => by rw [show vs = [] from h]; exact ⟨rfl, by simp [vU]⟩
 | c :: l, vs, h => by
  obtain ⟨v, r, rfl, h2, h3⟩ := h
  have := RepCs.len l r h3
  refine ⟨by simp [this.1], fun u hu => ?_⟩
  rcases NM.1 hu with rfl | hu
  ·exact h2.1
  ·exact this.2 u hu
theorem RepCs.append {x : Cx} : ∀ (cs ds : List C) (vs us : List Value), RepCs x cs vs → RepCs x ds us → RepCs x (cs ++ ds) (vs ++ us)
 | [], ds, vs, us, h, k => by rw [show vs = [] from h]; exact k
 | c :: l, ds, vs, us, h, k => by
  obtain ⟨v, r, rfl, h2, h3⟩ := h
  exact ⟨v, r ++ us, rfl, h2, RepCs.append l ds r us h3 k⟩
theorem RepCs.drop {x : Cx} : ∀ (n : Nat) (cs : List C) (vs : List Value), RepCs x cs vs → RepCs x (cs.drop n) (vs.drop n)
 | 0, cs, vs, h => h
 | n + 1, [], vs, h => by rw [show vs = [] from h]; simp [RepCs]
 | n + 1, c :: l, vs, h => by
  obtain ⟨v, r, rfl, h2, h3⟩ := h
  exact RepCs.drop n l r h3
theorem RepCs.take {x : Cx} : ∀ (n : Nat) (cs : List C) (vs : List Value), RepCs x cs vs → RepCs x (cs.take n) (vs.take n)
 | 0, cs, vs, h => by simp [RepCs]
 | n + 1, [], vs, h => by rw [show vs = [] from h]; simp [RepCs]
 | n + 1, c :: l, vs, h => by
  obtain ⟨v, r, rfl, h2, h3⟩ := h
  exact ⟨v, r.take n, rfl, h2, RepCs.take n l r h3⟩
theorem RepCs.get {x : Cx} : ∀ (cs : List C) (vs : List Value) (i : Nat) (c : C), RepCs x cs vs → cs[i]? = some c → ∃ v, vs[i]? = some v ∧ RepC x c v
 | [], vs, i, c, h, hc => by simp at hc
 | c' :: l, vs, 0, c, h, hc => by
  obtain ⟨v, r, rfl, h2, h3⟩ := h
  simp at hc; subst hc
  exact ⟨v, rfl, h2⟩
 | c' :: l, vs, i + 1, c, h, hc => by
  obtain ⟨v, r, rfl, h2, h3⟩ := h
  exact RepCs.get l r i c h3 (by simpa using hc)
theorem RepT.cells {x : Cx} : ∀ (t : Ty) (d : t.den) (vs : List Value), RepT x.ok x.w t d vs → RepCs x (t.cells d) vs
 | .bool, d, vs, h => by
  have h' : vs = [.bool d] := h
  subst h'
  exact ⟨_, [], rfl, ⟨rfl, rfl⟩, rfl⟩
 | .int k, d, vs, h => by
  have h' : vs = [.int k d] := h
  subst h'
  exact ⟨_, [], rfl, ⟨rfl, rfl⟩, rfl⟩
 | .float k, d, vs, h => by
  have h' : vs = [.float k d] := h
  subst h'
  exact ⟨_, [], rfl, ⟨rfl, rfl⟩, rfl⟩
 | .str, d, vs, h => by
  have h' : vs = [.string d] := h
  subst h'
  exact ⟨_, [], rfl, ⟨rfl, rfl⟩, rfl⟩
 | .unit, d, vs, h => h
 | .pair a b, d, vs, h => by
  obtain ⟨p, q, rfl, h1, h2⟩ := h
  exact RepCs.append _ _ _ _ (RepT.cells a _ _ h1) (RepT.cells b _ _ h2)
 | .sl t, d, vs, h => by
  have h' := h
  obtain ⟨A, c, rfl, h1, h2⟩ := h
  exact ⟨_, [], rfl, ⟨rfl, h'⟩, rfl⟩
 | .set t, d, vs, h => by
  have h' := h
  obtain ⟨b, rfl, _⟩ := h
  exact ⟨_, [], rfl, ⟨rfl, h'⟩, rfl⟩
 | .rose a, .node d ks, vs, h => by
  obtain ⟨n, hn⟩ := h
  cases n with
  | zero => exact hn.elim
  | succ n =>
   obtain ⟨p, A, c, rfl, h2, h3, h4⟩ := hn
   refine RepCs.append _ _ _ _ (RepT.cells a _ _ h2) ⟨_, [], rfl, ⟨rfl, A, c, rfl, h3, ?_⟩, rfl⟩
   exact h4.imp (fun r vs hr => ⟨n, hr⟩) (fun _ h => h) (fun _ _ => rfl)
theorem wP : ∀ (t : Ty) (d : t.den), (t.cells d).length = t.size
 | .bool, _ => rfl
 | .int _, _ => rfl
 | .float _, _ => rfl
 | .str, _ => rfl
 | .unit, _ => rfl
 | .pair a b, d => by simp [Ty.cells, Ty.size, wP a, wP b]
 | .sl _, _ => rfl
 | .set _, _ => rfl
 | .rose a, .node d ks => by simp [Ty.cells, Ty.size, wP a]
end Go.Proofs.YtefddghdaimklaaGreatDoor.AI
namespace Go.Proofs.YtefddghdaimklaaGreatDoor.AI
open Go
def Ty.prims : Ty → List Ty
 | .pair a b => a.prims ++ b.prims
 | t => [t]
def PV : Ty → Value → Prop
 | .bool, v => ∃ b, v = .bool b
 | .int k, v => ∃ n, v = .int k n
 | .str, v => ∃ s, v = .string s
 | _, _ => False
def PVs : List Ty → List Value → Prop
 | [], vs => vs = []
 | p :: ps, vs => ∃ v r, vs = v :: r ∧ PV p v ∧ PVs ps r
theorem PVs.append : ∀ {ps qs : List Ty} {vs us : List Value}, PVs ps vs → PVs qs us → PVs (ps ++ qs) (vs ++ us)
 | [], qs, vs, us, h, k => by rw [show vs = [] from h]; exact k
 | p :: ps, qs, vs, us, h, k => by
  obtain ⟨v, r, rfl, h1, h2⟩ := h
  exact ⟨v, r ++ us, rfl, h1, PVs.append h2 k⟩
theorem PVs.len : ∀ {ps : List Ty} {vs : List Value}, PVs ps vs → vs.length = ps.length
 | [], vs, h => by rw [show vs = [] from h]; rfl
 | p :: ps, vs, h => by
  obtain ⟨v, r, rfl, h1, h2⟩ := h
  simp [PVs.len h2]
theorem uA : ∀ (t : Ty) (d : t.den), t.keyTy = true → PVs t.prims (t.keyV d)
 | .bool, d, _ => ⟨_, [], rfl, ⟨_, rfl⟩, rfl⟩
 | .int k, d, _ => ⟨_, [], rfl, ⟨_, rfl⟩, rfl⟩
 | .str, d, _ => ⟨_, [], rfl, ⟨_, rfl⟩, rfl⟩
 | .pair a b, d, h => by
  simp only [Ty.keyTy, Nt] at h
  exact PVs.append (uA a d.1 h.1) (uA b d.2 h.2)
theorem u7 {ok : Nat → Prop} {w : World} : ∀ (t : Ty) (d : t.den) (vs : List Value), t.keyTy = true → RepT ok w t d vs → vs = t.keyV d
 | .bool, d, vs, _, h => h
 | .int k, d, vs, _, h => h
 | .str, d, vs, _, h => h
 | .pair a b, d, vs, h, hr => by
  simp only [Ty.keyTy, Nt] at h
  obtain ⟨p, q, rfl, h1, h2⟩ := hr
  rw [u7 a _ _ h.1 h1, u7 b _ _ h.2 h2]; rfl
def dY : Value → Value → Bool
 | .int _ a, .int _ b => a == b
 | .string a, .string b => a.toList == b.toList
 | .bool a, .bool b => a == b
 | _, _ => false
def ue : List Value → List Value → Bool
 | [], [] => true
 | a :: l, b :: m => dY a b && ue l m
 | _, _ => false
theorem sG : ∀ (a c b d : List Value), a.length = c.length → ue (a ++ b) (c ++ d) = (ue a c && ue b d)
 | [], [], b, d, _ => rfl
 | [], _ :: _, b, d, h => by cases h
 | _ :: _, [], b, d, h => by cases h
 | x :: a, y :: c, b, d, h => by
  simp only [List.cons_append, ue, sG a c b d (by simpa using h), Bool.and_assoc]
theorem rC : ∀ (t : Ty) (a b : t.den), t.keyTy = true → ue (t.keyV a) (t.keyV b) = t.eqB a b
 | .bool, a, b, _ => by simp [Ty.keyV, Ty.eqB, ue, dY]
 | .int k, a, b, _ => by simp [Ty.keyV, Ty.eqB, ue, dY]
 | .str, a, b, _ => by simp [Ty.keyV, Ty.eqB, ue, dY, zd]
 | .pair s t, a, b, h => by
  simp only [Ty.keyTy, Nt] at h
  simp only [Ty.keyV, Ty.eqB]
  rw [sG _ _ _ _ (by rw [(uA s a.1 h.1).len, (uA s b.1 h.1).len]), rC s _ _ h.1, rC t _ _ h.2]
theorem fv {a b : ByteArray} (h : a.toList = b.toList) : a = b := by
 cases a with
 | mk d => cases b with
  | mk e =>
   have h1 : d.toList = e.toList := by simpa [ByteArray.toList_eq] using h
   exact congrArg ByteArray.mk (Array.ext' h1)
theorem rL : ∀ (t : Ty) (a b : t.den), t.keyTy = true → (t.eqB a b = true ↔ a = b)
 | .bool, a, b, _ => by simp [Ty.eqB]
 | .int k, a, b, _ => by simp [Ty.eqB]
 | .str, a, b, _ => by
  simp only [Ty.eqB, zd, beq_iff_eq]
  exact ⟨fv, fun h => by rw [h]⟩
 | .pair s t, a, b, h => by
  simp only [Ty.keyTy, Nt] at h
  simp only [Ty.eqB, Nt, rL s _ _ h.1, rL t _ _ h.2]
  exact ⟨fun h => Prod.ext h.1 h.2, fun h => by rw [h]; exact ⟨rfl, rfl⟩⟩
def gf (P : Program) (t : TypeId) : Ty → Bool
 | .bool => match P.underlying t with | some .bool => true | _ => false
 | .int k => match P.underlying t with | some (.int k') => decide (k = k') | _ => false
 | .str => match P.underlying t with | some .string => true | _ => false
 | _ => false
def tN (P : Program) : List Field → Nat → List Ty → Bool
 | [], _, [] => true
 | f :: fs, i, p :: ps => (f.name != "_") && Nat.beq f.offset i && gf P f.type p && tN P fs (i + 1) ps
 | _, _, _ => false
section
variable {P : Program}
theorem pD {t : TypeId} {p : Ty} (h : gf P t p = true) {xs : Array Value} {off : Nat} {v : Value} (hx : xs[off]? = some v) (w : World) : (Go.part t xs off).run P w = .ok v w := by
 have hagg : (isAgg t).run P w = .ok false w := by
  unfold gf at h
  split at h
  ·split at h
   ·rename_i hu; simp [isAgg, run_underlying hu]
   ·cases h
  ·split at h
   ·rename_i hu; simp [isAgg, run_underlying hu]
   ·cases h
  ·split at h
   ·rename_i hu; simp [isAgg, run_underlying hu]
   ·cases h
  ·cases h
 simp only [Go.part, Sem.run_bind, hagg, Result.andThen_ok, Bool.false_eq_true, if_false, hx, Sem.run_pure]
theorem ST {t : TypeId} {p : Ty} (h : gf P t p = true) {a b : Value} (ha : PV p a) (hb : PV p b) (n : Nat) (w : World) : (Op.equalIn (n + 1) t a b).run P w = .ok (dY a b) w := by
 unfold gf at h
 split at h
 ·split at h
  ·rename_i hu
   obtain ⟨x, rfl⟩ := ha
   obtain ⟨y, rfl⟩ := hb
   exact run_equalIn_bool w n t x y hu
  ·cases h
 ·split at h
  ·rename_i k hu
   obtain ⟨x, rfl⟩ := ha
   obtain ⟨y, rfl⟩ := hb
   rw [NK h]
   exact run_equalIn_int w n t _ _ x y hu
  ·cases h
 ·split at h
  ·rename_i hu
   obtain ⟨x, rfl⟩ := ha
   obtain ⟨y, rfl⟩ := hb
   exact run_equalIn_string w n t x y hu
  ·cases h
 ·cases h
theorem dG {t : TypeId} {p : Ty} (h : gf P t p = true) {a : Value} (ha : PV p a) (em : Bool) (n : Nat) (w : World) : (Instr.checkKey em (n + 1) t a).run P w = .ok () w := by
 unfold gf at h
 split at h
 ·split at h
  ·rename_i hu
   obtain ⟨x, rfl⟩ := ha
   simp [Instr.checkKey, run_underlying hu]
  ·cases h
 ·split at h
  ·rename_i k hu
   obtain ⟨x, rfl⟩ := ha
   simp [Instr.checkKey, run_underlying hu]
  ·cases h
 ·split at h
  ·rename_i hu
   obtain ⟨x, rfl⟩ := ha
   simp [Instr.checkKey, run_underlying hu]
  ·cases h
 ·cases h
theorem kP (n : Nat) (xs ys : Array Value) (w : World) : ∀ (fs : List Field) (i : Nat) (ps : List Ty) (va vb : List Value), tN P fs i ps = true → PVs ps va → PVs ps vb →
  (∀ (j : Nat) (v : Value), va[j]? = some v → xs[i + j]? = some v) → (∀ (j : Nat) (v : Value), vb[j]? = some v → ys[i + j]? = some v) → (Op.eqFields (n + 1) xs ys fs).run P w = .ok (ue va vb) w
 | [], i, [], va, vb, _, ha, hb, _, _ => by
  rw [show va = [] from ha, show vb = [] from hb]
  simp [Op.eqFields, ue]
 | [], _, _ :: _, _, _, h, _, _, _, _ => by cases h
 | _ :: _, _, [], _, _, h, _, _, _, _ => by cases h
 | f :: fs, i, p :: ps, va, vb, h, ha, hb, hx, hy => by
  simp only [tN, Nt] at h
  obtain ⟨⟨⟨h1, h2⟩, h3⟩, h4⟩ := h
  have h2 := Nz h2
  have h1 : f.name ≠ "_" := by simpa using h1
  obtain ⟨a, ra, rfl, a1, a2⟩ := ha
  obtain ⟨b, rb, rfl, b1, b2⟩ := hb
  have ea := pD h3 (hx 0 a rfl) w
  have eb := pD h3 (hy 0 b rfl) w
  rw [Nat.add_zero, ← h2] at ea eb
  have ih := kP n xs ys w fs (i + 1) ps ra rb h4 a2 b2 (fun j v hj => by have := hx (j + 1) v (by simpa using hj); rw [← this]; congr 1; omega) (fun j v hj => by have := hy (j + 1) v (by simpa using hj); rw [← this]; congr 1; omega)
  simp only [Op.eqFields]
  rw [if_pos h1]
  simp only [Sem.run_bind, ea, eb, ST h3 a1 b1, Result.andThen_ok, ue]
  cases dY a b with
  | true => simpa using ih
  | false => simp
structure EqOk (P : Program) (t : TypeId) (kt : Ty) : Prop where
 key : kt.keyTy = true
 wide : ∃ F, P.underlying t = some (.struct F)
 guard : P.eqGuardType P.depth t = false
 check : ∀ (w : World) (em : Bool) (d : kt.den), (Instr.checkKey em 10000 t (.agg (kt.keyV d).toArray)).run P w = .ok () w
 eq : ∀ (w : World) (a b : kt.den), (Op.equalIn 10000 t (.agg (kt.keyV a).toArray) (.agg (kt.keyV b).toArray)).run P w = .ok (kt.eqB a b) w
def YQ (P : Program) (t : TypeId) (kt : Ty) : Bool :=
 kt.keyTy && (match P.underlying t with | some (.struct F) => tN P F.toList 0 kt.prims | _ => false) && !P.stoodInHeld t && !P.eqGuardType P.depth t
theorem rY (em : Bool) (n : Nat) (cs : Array Value) (w : World) : ∀ (fs : List Field) (i : Nat) (ps : List Ty) (vs : List Value), tN P fs i ps = true → PVs ps vs → (∀ (j : Nat) (v : Value), vs[j]? = some v → cs[i + j]? = some v) →
  (forIn fs PUnit.unit (fun f _ =>
   if f.name ≠ "_" then do
    let v ← Go.part f.type cs f.offset
    Instr.checkKey em (n + 1) f.type v
    pure (ForInStep.yield PUnit.unit)
   else pure (ForInStep.yield PUnit.unit)) : Sem PUnit).run P w = .ok PUnit.unit w
 | [], i, [], vs, _, _, _ => by simp
 | [], _, _ :: _, _, h, _, _ => by cases h
 | _ :: _, _, [], _, h, _, _ => by cases h
 | f :: fs, i, p :: ps, vs, h, hv, hx => by
  simp only [tN, Nt] at h
  obtain ⟨⟨⟨h1, h2⟩, h3⟩, h4⟩ := h
  have h2 := Nz h2
  have h1 : f.name ≠ "_" := by simpa using h1
  obtain ⟨a, ra, rfl, a1, a2⟩ := hv
  have ea := pD h3 (hx 0 a rfl) w
  rw [Nat.add_zero, ← h2] at ea
  have ih := rY em n cs w fs (i + 1) ps ra h4 a2 (fun j v hj => by have := hx (j + 1) v (by simpa using hj); rw [← this]; congr 1; omega)
  simp only [List.forIn_cons, Sem.run_bind, if_pos h1, ea, dG h3 a1, Result.andThen_ok, Sem.run_pure]
  exact ih
theorem jH {t : TypeId} {F : Array Field} (hu : P.underlying t = some (.struct F)) (em : Bool) (n : Nat) (cs : Array Value) (w : World) {ps : List Ty} {vs : List Value} (h : tN P F.toList 0 ps = true) (hv : PVs ps vs) (hx : ∀ (j : Nat) (v : Value), vs[j]? = some v → cs[0 + j]? = some v) :
  (Instr.checkKey em (n + 2) t (.agg cs)).run P w = .ok () w := by
 have := rY (P := P) em n cs w F.toList 0 ps vs h hv hx
 rw [Instr.checkKey]
 simp only [Sem.run_bind, run_underlying hu, Result.andThen_ok]
 rw [← Array.forIn_toList, this]
 rfl
theorem oL {t : TypeId} {kt : Ty} (h : YQ P t kt = true) : EqOk P t kt := by
 unfold YQ at h
 simp only [Nt, Bool.not_eq_true'] at h
 obtain ⟨⟨⟨h1, h2⟩, h3⟩, h4⟩ := h
 split at h2
 ·rename_i F hu
  refine ⟨h1, ⟨F, hu⟩, h4, fun w em d => ?_, fun w a b => ?_⟩
  ·exact jH hu em 9998 _ w h2 (uA kt d h1) (fun j v hj => by simpa using hj)
  ·have hf : P.fieldsOf t = F := by simp [Program.fieldsOf, hu]
   rw [run_equalIn_struct w 9999 t _ _ (by rw [hf]; exact hu) h3, hf]
   rw [kP 9998 _ _ w F.toList 0 kt.prims _ _ h2 (uA kt a h1) (uA kt b h1) (fun j v hj => by simpa using hj) (fun j v hj => by simpa using hj), rC kt a b h1]
 ·cases h2
end
end Go.Proofs.YtefddghdaimklaaGreatDoor.AI
namespace Go.Proofs.YtefddghdaimklaaGreatDoor.AI
open Go
theorem wA {x : Cx} {t : Ty} {c : C} {d : t.den} (h : Ty.one t c = some d) {v : Value} (hr : RepC x c v) : RepT x.ok x.w t d [v] := by
 unfold Ty.one at h
 split at h
 ·rename_i u y
  split at h
  ·rename_i hu
   subst hu
   cases h
   exact hr.2
  ·cases h
 ·split at h
  ·cases h
   have h2 : v = .slice none 0 0 := hr.2
   subst h2
   exact ⟨none, 0, rfl, NF _, fun hne => absurd rfl hne⟩
  ·cases h
 ·cases h
theorem yL {x : Cx} : ∀ (t : Ty) (cs : List C) (d : t.den) (r : List C) (vs : List Value), t.ofCells cs = some (d, r) → RepCs x cs vs →
  ∃ p q, vs = p ++ q ∧ RepT x.ok x.w t d p ∧ RepCs x r q
 | .unit, cs, d, r, vs, h, hr => by
  simp [Ty.ofCells] at h; subst h
  exact ⟨[], vs, rfl, rfl, hr⟩
 | .pair a b, cs, d, r, vs, h, hr => by
  unfold Ty.ofCells at h
  split at h
  ·rename_i y r1 h1
   split at h
   ·rename_i z r2 h2
    cases h
    obtain ⟨p, q, rfl, h3, h4⟩ := yL a cs y r1 vs h1 hr
    obtain ⟨p', q', rfl, h5, h6⟩ := yL b r1 z _ q h2 h4
    exact ⟨p ++ p', q', by simp, ⟨p, p', rfl, h3, h5⟩, h6⟩
   ·cases h
  ·cases h
 | .rose a, cs, d, r, vs, h, hr => by
  unfold Ty.ofCells at h
  split at h
  ·rename_i y c r1 h1
   split at h
   ·rename_i ks h2
    cases h
    obtain ⟨p, q, rfl, h3, v, q', rfl, h5, h6⟩ := yL a cs y _ vs h1 hr
    obtain ⟨A, n, h7, h8, h9⟩ := wA h2 h5
    refine ⟨p ++ [v], q', by simp, ?_, h6⟩
    have hb : ∃ N, RowT (RoseR (RepT x.ok x.w a) x.ok x.w (a.size + 1) N) x.ok x.w (a.size + 1) A ks := by
     by_cases hk : ks = []
     ·exact ⟨0, fun hne => absurd hk hne⟩
     ·obtain ⟨b, off, hA, hok, hx⟩ := h9 hk
      have mono : ∀ n m (r : Rose a.den) (us : List Value), n ≤ m → RoseR (RepT x.ok x.w a) x.ok x.w (a.size + 1) n r us → RoseR (RepT x.ok x.w a) x.ok x.w (a.size + 1) m r us := by
       intro n
       induction n with
       | zero => intro m r us _ h; exact h.elim
       | succ n ih =>
        intro m r us hle h
        obtain ⟨m, rfl⟩ : ∃ k, m = k + 1 := ⟨m - 1, by omega⟩
        cases r with
        | node y ks =>
         obtain ⟨p, A, c, h1, h2, h3, h4⟩ := h
         exact ⟨p, A, c, h1, h2, h3, h4.imp (fun r us => ih m r us (by omega)) (fun _ h => h) (fun _ _ => rfl)⟩
      have all : ∀ k, ∃ N, ∀ i y, i < k → ks[i]? = some y → ∃ us, RoseR (RepT x.ok x.w a) x.ok x.w (a.size + 1) N y us ∧ us.length = a.size + 1 ∧ ∀ j u, us[j]? = some u → x.w.cell? ⟨b, off + i * (a.size + 1) + j, none⟩ = some u := by
       intro k
       induction k with
       | zero => exact ⟨0, fun i y hi => by omega⟩
       | succ k ih =>
        obtain ⟨N, hN⟩ := ih
        cases hy : ks[k]? with
        | none =>
         refine ⟨N, fun i y hi hiy => hN i y ?_ hiy⟩
         rcases Nat.lt_or_ge i k with h1 | h1
         ·exact h1
         ·have : i = k := by omega
          subst this; rw [hy] at hiy; cases hiy
        | some y =>
         obtain ⟨us, ⟨n, hn⟩, h1, h2⟩ := hx k y hy
         refine ⟨max N n, fun i y' hi hiy => ?_⟩
         by_cases e : i = k
         ·subst e; rw [hy] at hiy; cases hiy
          exact ⟨us, mono _ _ _ _ (Nat.le_max_right _ _) hn, h1, h2⟩
         ·obtain ⟨us', h3, h4, h5⟩ := hN i y' (by omega) hiy
          exact ⟨us', mono _ _ _ _ (Nat.le_max_left _ _) h3, h4, h5⟩
      obtain ⟨N, hN⟩ := all ks.length
      exact ⟨N, fun _ => ⟨b, off, hA, hok, fun i y hi => hN i y (NB.1 hi).1 hi⟩⟩
    obtain ⟨N, hN⟩ := hb
    simp only [List.cons.injEq, and_true] at h7
    subst h7
    exact ⟨N + 1, p, A, n, rfl, h3, h8, hN⟩
   ·cases h
  ·cases h
 | .bool, cs, d, r, vs, h, hr => by
  cases cs with
  | nil => simp [Ty.ofCells] at h
  | cons c l =>
   simp only [Ty.ofCells] at h
   split at h
   ·rename_i y h1
    cases h
    obtain ⟨v, q, rfl, h2, h3⟩ := hr
    exact ⟨[v], q, rfl, wA h1 h2, h3⟩
   ·cases h
 | .int k, cs, d, r, vs, h, hr => by
  cases cs with
  | nil => simp [Ty.ofCells] at h
  | cons c l =>
   simp only [Ty.ofCells] at h
   split at h
   ·rename_i y h1
    cases h
    obtain ⟨v, q, rfl, h2, h3⟩ := hr
    exact ⟨[v], q, rfl, wA h1 h2, h3⟩
   ·cases h
 | .float k, cs, d, r, vs, h, hr => by
  cases cs with
  | nil => simp [Ty.ofCells] at h
  | cons c l =>
   simp only [Ty.ofCells] at h
   split at h
   ·rename_i y h1
    cases h
    obtain ⟨v, q, rfl, h2, h3⟩ := hr
    exact ⟨[v], q, rfl, wA h1 h2, h3⟩
   ·cases h
 | .str, cs, d, r, vs, h, hr => by
  cases cs with
  | nil => simp [Ty.ofCells] at h
  | cons c l =>
   simp only [Ty.ofCells] at h
   split at h
   ·rename_i y h1
    cases h
    obtain ⟨v, q, rfl, h2, h3⟩ := hr
    exact ⟨[v], q, rfl, wA h1 h2, h3⟩
   ·cases h
 | .sl t, cs, d, r, vs, h, hr => by
  cases cs with
  | nil => simp [Ty.ofCells] at h
  | cons c l =>
   simp only [Ty.ofCells] at h
   split at h
   ·rename_i y h1
    cases h
    obtain ⟨v, q, rfl, h2, h3⟩ := hr
    exact ⟨[v], q, rfl, wA h1 h2, h3⟩
   ·cases h
 | .set t, cs, d, r, vs, h, hr => by
  cases cs with
  | nil => simp [Ty.ofCells] at h
  | cons c l =>
   simp only [Ty.ofCells] at h
   split at h
   ·rename_i y h1
    cases h
    obtain ⟨v, q, rfl, h2, h3⟩ := hr
    exact ⟨[v], q, rfl, wA h1 h2, h3⟩
   ·cases h
theorem zQ {x : Cx} {t : Ty} {cs : List C} {d : t.den} {vs : List Value} (h : t.whole cs = some d) (hr : RepCs x cs vs) : RepT x.ok x.w t d vs := by
 unfold Ty.whole at h
 split at h
 ·rename_i y h1
  cases h
  obtain ⟨p, q, rfl, h2, h3⟩ := yL t cs _ _ vs h1 hr
  rw [show q = [] from h3, List.append_nil]
  exact h2
 ·cases h
end Go.Proofs.YtefddghdaimklaaGreatDoor.AI
