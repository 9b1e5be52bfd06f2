/- A part of the proof. -/
import Derived.Test.YtefddghdaimklaaGreatDoorAil
set_option linter.unusedVariables false
set_option linter.unusedSimpArgs false
namespace Go.Proofs.YtefddghdaimklaaGreatDoor.AI
open Go
def yY (ops : List Oper) (fr : List AV) (o : Oper) : Option Bool :=
 match o.guard with
 | none => some true
 | some (j, want) => match ops[j]? with
  | some oj => match oj.dst with
   | some t => match fr.getD t .undef with
    | .val false [.sc .bool b] => some (b == want)
    | .skip => some false
    | _ => none
   | none => none
  | none => none
def uf (fr : List AV) : List Nat → List AV
 | [] => fr
 | id :: r => uf (fr.map (Sub.v (.kill id))) r
section
variable (T : TypeId → Option TI) (h0 : Nat) (env : FuncId → Option Con) (inl : FuncId → List AV → List Ob → (AV → List Ob → Option (AV × List Ob)) → Option (AV × List Ob))
def vF (op : Op) (fr : List AV) (H : List Ob) : Option AV :=
 match op with
 | .pick c a b => match evA fr c with
  | .val false [.sc .bool z] => some (bif z then evA fr a else evA fr b)
  | _ => none
 | op => uI T op (evA fr) H
def ls (draw : Bool) (op : Op) (st : St) : Option (St × AV) :=
 let ids := yz env op (evA st.fr)
 bif (ids.all (Nat.ble h0)) && (!draw || Nat.beq (cls env op) 3 || ids.isEmpty) then
  let s := St.seals ids st
  match z0 T h0 env inl op (evA s.fr) s.H (fun v h => some (v, h)) with
  | some (v, H') => some (⟨uf s.fr (zL env op (evA s.fr) s.H), H'⟩, v)
  | none => none
 else none
def opD (draw : Bool) (op : Op) (st : St) : Option (St × AV) :=
 bif yo op then (match vF T op st.fr st.H with
  | some v => some (st, v)
  | none => none) else ls T h0 env inl draw op st
def yt (draw : Bool) (pl : List Nat) (ops : List Oper) (o : Oper) (st : St) : Option St :=
 match yY ops st.fr o with
 | none => none
 | some false => some ⟨wS st.fr o.dst .skip, st.H⟩
 | some true => match opD T h0 env inl draw o.op st with
  | some (s, v) => bif nh pl o.dst o.op (evA st.fr) v then some ⟨wS s.fr o.dst v, s.H⟩ else none
  | none => none
def tL (draw : Bool) (pl : List Nat) (ops : Array Oper) : List Nat → St → Option St
 | [], st => some st
 | i :: r, st => match ops[i]? with
  | none => tL draw pl ops r st
  | some o => match yt T h0 env inl draw pl ops.toList o st with
   | some s => tL draw pl ops r s
   | none => none
end
def FrOk (x : Cx) (fr : List AV) (tmps : Array Value) : Prop := ∀ (t : Nat) (v : AV), fr[t]? = some v → ∃ u : Value, tmps[t]? = some u ∧ RepV x v u
theorem FrOk.put {x : Cx} {fr : List AV} {a : Act} (h : FrOk x fr a.tmps) {dst : Option Tmp} {v : AV} {u : Value} (hv : RepV x v u) : FrOk x (wS fr dst v) (a.put dst u).tmps := by
 cases dst with
 | none => exact h
 | some d =>
  intro t z hz
  simp only [wS] at hz
  have hsz : d < fr.length → d < a.tmps.size := fun hd => by
   obtain ⟨u', h1, _⟩ := h d fr[d] (NL hd)
   exact (Array.getElem?_eq_some_iff.1 h1).1
  by_cases e : t = d
  ·subst e
   have hl : t < fr.length := by have := (NB.1 hz).1; simpa using this
   rw [List.getElem?_set_self hl] at hz
   cases hz
   exact ⟨u, by simp [Act.put, hsz hl], hv⟩
  ·rw [List.getElem?_set_ne (Ne.symm e)] at hz
   obtain ⟨u', h1, h2⟩ := h t z hz
   exact ⟨u', by simp [Act.put, Array.getElem?_setIfInBounds_ne (Ne.symm e), h1], h2⟩
theorem FrOk.ev {x : Cx} {fr : List AV} {a : Act} (h : FrOk x fr a.tmps) (hI : Inv x) (o : Operand) : RepV x (evA fr o) (a.eval o) := by
 cases o with
 | tmp t =>
  simp only [evA, Act.eval]
  cases hf : fr[t]? with
  | none => rw [show fr.getD t .undef = .undef by simp [List.getD, hf]]; trivial
  | some v =>
   obtain ⟨u, h1, h2⟩ := h t v hf
   rw [show fr.getD t .undef = v by simp [List.getD, hf], show a.tmps.getD t Go.undef = u by simp [Array.getD_eq_getD_getElem?, h1]]
   exact h2
 | const v =>
  simp only [evA, Act.eval, ma]
  split
  ·exact z5 _
  ·exact zZ _ _
  ·exact zF ⟨rfl, rfl⟩
  ·exact xG _
  ·exact zF ⟨rfl, rfl⟩
  ·exact zF ⟨rfl, rfl⟩
  ·exact zF ⟨rfl, rfl⟩
  ·exact zF ⟨rfl, rfl⟩
  ·trivial
 | global g =>
  simp only [evA, Act.eval]
  cases hg : dI g with
  | none => trivial
  | some p =>
   obtain ⟨h1, vs, h2, h3⟩ := hI.tab.2 g p hg
   exact zF ⟨rfl, g, 0, vs, rfl, h1, h2, fun j u hj => by rw [Nat.zero_add]; exact h3 j u hj⟩
 | func f => exact zF ⟨rfl, #[], rfl, rfl⟩
theorem FrOk.sub {x y : Cx} {s : Sub} (hc : Carry s.c x y) {fr : List AV} {tmps : Array Value} (h : FrOk x fr tmps) : FrOk y (fr.map s.v) tmps := by
 intro t v hv
 rw [List.getElem?_map] at hv
 cases hf : fr[t]? with
 | none => simp [hf] at hv
 | some z =>
  simp [hf] at hv
  subst hv
  obtain ⟨u, h1, h2⟩ := h t z hf
  exact ⟨u, h1, RepV.carry hc h2⟩
theorem FrOk.keep {x y : Cx} (hc : Carry (fun c => c) x y) {fr : List AV} {tmps : Array Value} (h : FrOk x fr tmps) : FrOk y fr tmps := fun t v hv => by
 obtain ⟨u, h1, h2⟩ := h t v hv
 exact ⟨u, h1, RepV.keep hc h2⟩
def ym : List Nat → AV → AV
 | [], v => v
 | id :: r, v => ym r (Sub.v (.kill id) v)
theorem nO (ks : List Nat) : ∀ (fr : List AV) (t : Nat), (uf fr ks)[t]? = (fr[t]?).map (ym ks) := by
 induction ks with
 | nil => intro fr t; cases h : fr[t]? <;> simp [uf, ym, h]
 | cons id r ih => intro fr t; rw [uf, ih]; cases h : fr[t]? <;> simp [ym, h]
theorem cR (ks : List Nat) : ∀ (g : Bool) (cs : List C), ym ks (.val g cs) = .val g (cs.map (yN ks)) := by
 induction ks with
 | nil => intro g cs; simp [ym, yN]
 | cons id r ih => intro g cs; simp only [ym, Sub.v, ih, List.map_map]; rfl
theorem aF (ks : List Nat) : ∀ (l : List (Bool × List C)), ym ks (.tup l) = .tup (l.map fun p => (p.1, p.2.map (yN ks))) := by
 induction ks with
 | nil => intro l; simp [ym, yN]
 | cons id r ih =>
  intro l
  simp only [ym, Sub.v, ih, List.map_map]
  congr 1
  apply List.map_congr_left
  intro p _
  simp only [Function.comp, List.map_map]
  rfl
theorem dA (ks : List Nat) : ym ks .skip = .skip := by
 induction ks with
 | nil => rfl
 | cons id r ih => simp only [ym, Sub.v, ih]
theorem iJ (ks : List Nat) : ym ks .undef = .undef := by
 induction ks with
 | nil => rfl
 | cons id r ih => simp only [ym, Sub.v, ih]
theorem RepV.kill {x y : Cx} {ks : List Nat} (hc : Carry (yN ks) x y) {v : AV} {u : Value} (h : RepV x v u) : RepV y (ym ks v) u := by
 cases v with
 | val g cs => rw [cR]; exact Rep1.carry hc h
 | tup l => rw [aF]; obtain ⟨vs, h1, h2⟩ := h; exact ⟨vs, h1, Rep1s.carry hc _ _ h2⟩
 | skip => rw [dA]; exact h
 | undef => rw [iJ]; trivial
theorem FrOk.kill {x y : Cx} {ks : List Nat} (hc : Carry (yN ks) x y) {fr : List AV} {tmps : Array Value} (h : FrOk x fr tmps) : FrOk y (uf fr ks) tmps := by
 intro t v hv
 rw [nO] at hv
 cases hf : fr[t]? with
 | none => simp [hf] at hv
 | some z =>
  simp [hf] at hv
  subst hv
  obtain ⟨u, h1, h2⟩ := h t z hf
  exact ⟨u, h1, RepV.kill hc h2⟩
theorem IdOk.trans {x y z : Cx} {id : Nat} (h : IdOk x y id) (k : IdOk y z id) : IdOk x z id := by
 unfold IdOk at *
 cases hx : x.H[id]? with
 | none => trivial
 | some o =>
  cases o with
  | dead => trivial
  | box cs =>
   simp only [hx] at h
   obtain ⟨⟨cs', h1⟩, h2⟩ := h
   simp only [h1] at k
   exact ⟨k.1, k.2.trans h2⟩
  | mp t xs =>
   simp only [hx] at h
   obtain ⟨⟨cs', h1⟩, h2⟩ := h
   simp only [h1] at k
   exact ⟨k.1, k.2.trans h2⟩
  | tb xs =>
   simp only [hx] at h
   obtain ⟨⟨cs', h1⟩, h2⟩ := h
   simp only [h1] at k
   exact ⟨k.1, k.2.trans h2⟩
  | arr e t xs =>
   simp only [hx] at h
   obtain ⟨xs', h1, h2, h3, h4⟩ := h
   simp only [h1] at k
   obtain ⟨xs'', k1, k2, k3, k4⟩ := k
   refine ⟨xs'', k1, Nat.le_trans h2 k2, k3.trans h3, fun b hb cur' e' fr' hc => ?_⟩
   obtain ⟨c2, e2, f2, r1, r2⟩ := k4 b (by rw [h3, hb]) cur' e' fr' hc
   obtain ⟨c1, e1, f1, r3, r4⟩ := h4 b hb _ _ _ r1
   exact ⟨c1, e1, f1, r3, Nat.le_trans r4 r2⟩
structure At (x0 : Cx) (h0 : Nat) (st : St) (a : Act) (x : Cx) : Prop where
 inv : Inv x
 H : x.H = st.H
 fr : FrOk x st.fr a.tmps
 kept : Kept x0 x
 ids : ∀ id, id < h0 → IdOk x0 x id
 len : h0 ≤ x.H.length
 defers : a.defers = []
 low : x0.H.length ≤ x.H.length
def Good (x0 : Cx) (h0 : Nat) (st : St) (a : Act) (w : World) : Prop := ∃ x, x.w = w ∧ At x0 h0 st a x
theorem Yq {x0 x : Cx} {h0 : Nat} {st : St} {a : Act} (h : At x0 h0 st a x) {id : Nat} (hid : h0 ≤ id) : ∃ y, y.w = x.w ∧ At x0 h0 (st.give id) a y := by
 unfold St.give
 split
 ·rename_i e t xs hx
  have hI := h.inv
  have hx' : x.H[id]? = some (.arr e t xs) := by rw [h.H]; exact hx
  let y : Cx := { ok := fun b => x.ok b ∨ x.at_ id = some b, at_ := x.at_, w := x.w, H := (Sub.h (.give id t xs) x.H).set id .dead }
  have hlt : id < x.H.length := (NB.1 hx').1
  have hkin : Kin x y := ⟨fun b hb => .inl hb, fun b hb => rfl⟩
  have get : ∀ i, i ≠ id → y.H[i]? = (x.H[i]?).map (Sub.ob (.give id t xs)) := fun i hne => by
   show ((Sub.h (.give id t xs) x.H).set id .dead)[i]? = _
   rw [List.getElem?_set_ne (Ne.symm hne)]; simp [Sub.h]
  have getid : y.H[id]? = some .dead := by
   show ((Sub.h (.give id t xs) x.H).set id .dead)[id]? = _
   rw [List.getElem?_set_self (by simpa [Sub.h] using hlt)]
  have hids : ∀ j, j ≠ id → IdOk x y j := fun j hne => by
   unfold IdOk
   rw [get j hne]
   cases hq : x.H[j]? with
   | none => trivial
   | some q =>
    cases q with
    | dead => trivial
    | box cs => exact ⟨⟨_, rfl⟩, rfl⟩
    | mp t xs => exact ⟨⟨_, rfl⟩, rfl⟩
    | tb xs => exact ⟨⟨_, rfl⟩, rfl⟩
    | arr e' t' xs' => exact ⟨xs', rfl, NF _, rfl, fun b hb cur' e2 fr' hc => ⟨cur', e2, fr', hc, NF _⟩⟩
  have hcar : Carry (Sub.c (.give id t xs)) x y := Carry.give hkin id hx' (hI.obs _ _ hx') (fun b hb => ⟨.inr hb, rfl⟩) (fun j _ hne => hids j hne)
  have old : ∀ (i : Nat) (oi : Ob), y.H[i]? = some oi → oi ≠ Ob.dead → ∃ q : Ob, i ≠ id ∧ x.H[i]? = some q ∧ q ≠ Ob.dead ∧ oi = Sub.ob (.give id t xs) q := fun i oi hi hd => by
   by_cases e : i = id
   ·subst e; rw [getid] at hi; cases hi; exact absurd rfl hd
   ·rw [get i e] at hi
    cases hq : x.H[i]? with
    | none => simp [hq] at hi
    | some q =>
     simp [hq] at hi
     refine ⟨q, e, rfl, fun hqd => hd ?_, hi.symm⟩
     subst hqd; rw [← hi]; rfl
  have hinv : Inv y := by
   refine ⟨fun b hb => ?_, fun i j b oi oj hi hj hdi hdj h1 h2 => ?_, fun i b oi hi hd hb hok => ?_, fun i oi hi => ?_, hI.tab.kin hkin⟩
   ·rcases hb with hb | hb
    ·exact hI.okb b hb
    ·exact hI.lt hx' (by simp) hb
   ·obtain ⟨q, _, hq, hqd, _⟩ := old i oi hi hdi
    obtain ⟨q', _, hq', hqd', _⟩ := old j oj hj hdj
    exact hI.inj i j b q q' hq hq' hqd hqd' h1 h2
   ·obtain ⟨q, hne, hq, hqd, _⟩ := old i oi hi hd
    rcases hok with hok | hok
    ·exact hI.off i b q hq hqd hb hok
    ·exact hne (hI.inj i id b q _ hq hx' hqd (by simp) hb hok)
   ·by_cases hd : oi = .dead
    ·subst hd; trivial
    ·obtain ⟨q, hne, hq, hqd, rfl⟩ := old i oi hi hd
     exact (hI.obs i q hq).move hkin hcar rfl (fun b _ => rfl)
  have hkept : Kept x y := by
   refine ⟨rfl, rfl, rfl, NF _, fun _ _ _ => rfl, fun b hb => ?_, fun b hb => .inl hb, fun b hb => ?_⟩
   ·obtain ⟨i, oi, h1, h2, h3⟩ := hb
    obtain ⟨q, _, hq, hqd, _⟩ := old i oi h1 h2
    exact .inl ⟨i, q, hq, hqd, h3⟩
   ·rcases hb with hb | hb
    ·exact .inl hb
    ·exact .inr (.inl ⟨id, _, hx', by simp, hb⟩)
  refine ⟨y, rfl, hinv, ?_, h.fr.sub hcar, h.kept.trans hkept, fun j hj => (h.ids j hj).trans (hids j (by omega)), ?_, h.defers, ?_⟩
  ·show (Sub.h (.give id t xs) x.H).set id .dead = _
   rw [h.H]; rfl
  ·show h0 ≤ ((Sub.h (.give id t xs) x.H).set id .dead).length
   simp [Sub.h]; exact h.len
  ·show x0.H.length ≤ ((Sub.h (.give id t xs) x.H).set id .dead).length
   simp [Sub.h]; exact h.low
 ·exact ⟨x, rfl, h⟩
theorem gI {x0 : Cx} {h0 : Nat} {a : Act} : ∀ (ids : List Nat) {x : Cx} {st : St}, At x0 h0 st a x → (∀ i ∈ ids, h0 ≤ i) → ∃ y, y.w = x.w ∧ At x0 h0 (St.seals ids st) a y
 | [], x, st, h, _ => ⟨x, rfl, h⟩
 | i :: r, x, st, h, hi => by
  obtain ⟨y, h1, h2⟩ := Yq h (hi i (by simp))
  obtain ⟨z, h3, h4⟩ := gI r h2 (fun j hj => hi j (by simp [hj]))
  exact ⟨z, by rw [h3, h1], h4⟩
section
variable {P : Program} {T : TypeId → Option TI} {h0 : Nat} {env : FuncId → Option Con} {inl : FuncId → List AV → List Ob → (AV → List Ob → Option (AV × List Ob)) → Option (AV × List Ob)}
theorem cD (hT : TOk P T) (hE : xL P env) (hN : mA P inl) {draw : Bool} {x0 x : Cx} {o : Oper} {st s : St} {a : Act} {v : AV} (h : opD T h0 env inl draw o.op st = some (s, v)) (hat : At x0 h0 st a x) :
  Does P (execOp a.eval o) x.w fun u w' => Good x0 h0 ⟨wS s.fr o.dst v, s.H⟩ (a.put o.dst u) w' := by
 have hdef : ∀ (u : Value), (a.put o.dst u).defers = a.defers := fun u => by cases o.dst <;> rfl
 unfold opD at h
 cases hs : yo o.op with
 | true =>
  simp only [hs, Nv] at h
  split at h
  ·rename_i z hz
   cases h
   have : ∃ u, (execOp a.eval o).run P x.w = .ok (.value u) x.w ∧ RepV x v u := by
    unfold vF at hz
    split at hz
    ·rename_i c p q ho
     split at hz
     ·rename_i b hb
      cases hz
      have hc := hat.fr.ev hat.inv c
      rw [hb] at hc
      have hcv := v4 hc
      refine ⟨_, by simp [execOp, ho, hcv, asBool]; rfl, ?_⟩
      cases b with
      | true => exact hat.fr.ev hat.inv p
      | false => exact hat.fr.ev hat.inv q
     ·cases hz
    ·rw [← hat.H] at hz
     exact ij hT hat.inv (fun o => hat.fr.ev hat.inv o) rfl hz
   obtain ⟨u, h1, h2⟩ := this
   exact Does.value h1 ⟨x, rfl, hat.inv, hat.H, hat.fr.put h2, hat.kept, hat.ids, hat.len, by rw [hdef]; exact hat.defers, hat.low⟩
  ·cases h
 | false =>
  simp only [hs, Nu] at h
  unfold ls at h
  simp only at h
  cases hc : ((yz env o.op (evA st.fr)).all (Nat.ble h0)) && (!draw || Nat.beq (cls env o.op) 3 || (yz env o.op (evA st.fr)).isEmpty) with
  | false => simp [hc] at h
  | true =>
   simp only [hc, Nv] at h
   split at h
   ·rename_i v' H' hk
    cases h
    rw [Nt] at hc
    obtain ⟨y, hyw, hy⟩ := gI (yz env o.op (evA st.fr)) hat (fun i hi => Nat.le_of_ble_eq_true (Nw.1 hc.1 i hi))
    rw [← hy.H] at hk
    have hd := dD hT hE hN hy.inv hy.len (fun o => hy.fr.ev hy.inv o) (o := o) hk
    rw [hyw] at hd
    refine hd.mono ?_
    rintro u w' ⟨z, r1, r2, r3, r4⟩
    rw [hy.H] at r3
    exact ⟨z, r1, r3.inv, r2, (hy.fr.kill r3.carry).put r4, hy.kept.trans r3.kept, fun id hid => (hy.ids id hid).trans (r3.ids id hid), Nat.le_trans hy.len r3.len, by rw [hdef]; exact hat.defers, Nat.le_trans hy.low r3.len⟩
   ·cases h
theorem qd {x0 x : Cx} {ops : Array Oper} {o : Oper} {st : St} {a : Act} {b : Bool} (h : yY ops.toList st.fr o = some b) (hat : At x0 h0 st a x) : Region.wanted o (yielded ops a.tmps) = b := by
 unfold yY at h
 unfold Region.wanted
 split at h
 ·rename_i hg; cases h; simp [hg]
 ·rename_i j want hg
  simp only [hg]
  split at h
  ·rename_i oj hj
   split at h
   ·rename_i t ht
    have hj' : ops[j]? = some oj := by simpa using hj
    have hy : ∀ v, st.fr.getD t .undef = v → v ≠ .undef → ∃ u, a.tmps[t]? = some u ∧ RepV x v u := fun v hv hne => by
     cases hf : st.fr[t]? with
     | none => simp [List.getD, hf] at hv; exact absurd hv.symm hne
     | some z =>
      simp [List.getD, hf] at hv
      subst hv
      exact hat.fr t z hf
    split at h
    ·rename_i c hc
     cases h
     obtain ⟨u, h1, h2⟩ := hy _ hc (by simp)
     have := v4 h2
     subst this
     simp [yielded, hj', ht, h1]
    ·rename_i hc
     cases h
     obtain ⟨u, h1, h2⟩ := hy _ hc (by simp)
     have h3 : u = Go.undef := h2
     subst h3
     simp [yielded, hj', ht, h1, Go.undef]
    ·cases h
   ·cases h
  ·cases h
theorem yI (hT : TOk P T) (hE : xL P env) (hN : mA P inl) {draw : Bool} {pl : List Nat} {x0 : Cx} {ops : Array Oper} {Q : Exit → Act → World → Prop} {st' : St} (hQ : ∀ a w, Good x0 h0 st' a w → Q .normal a w) :
  ∀ (idx : List Nat) (st : St) (a : Act) (w : World), tL T h0 env inl draw pl ops idx st = some st' → Good x0 h0 st a w → wpOps P ops Q idx a w
 | [], st, a, w, h, hg => by
  simp [tL] at h; subst h
  exact hQ a w hg
 | i :: r, st, a, w, h, hg => by
  unfold wpOps
  unfold tL at h
  split at h
  ·rename_i hi
   rw [hi]
   exact yI hT hE hN hQ r st a w h hg
  ·rename_i o hi
   rw [hi]
   simp only
   split at h
   ·rename_i s hs
    obtain ⟨x, rfl, hat⟩ := hg
    unfold yt at hs
    split at hs
    ·cases hs
    ·rename_i hgd
     cases hs
     rw [qd hgd hat, if_neg (by simp)]
     refine yI hT hE hN hQ r _ _ _ h ⟨x, rfl, hat.inv, hat.H, hat.fr.put (v := .skip) rfl, hat.kept, hat.ids, hat.len, ?_, hat.low⟩
     have : (a.put o.dst Go.undef).defers = a.defers := by cases o.dst <;> rfl
     rw [this]; exact hat.defers
    ·rename_i hgd
     rw [qd hgd hat, if_pos rfl]
     split at hs
     ·rename_i s2 v hop
      cases hp : nh pl o.dst o.op (evA st.fr) v with
      | false => simp [hp] at hs
      | true =>
      simp only [hp, Nv, NA] at hs
      subst hs
      exact .inl ((cD hT hE hN hop hat).wp (fun u w' hg' => yI hT hE hN hQ r _ _ _ h hg'))
     ·cases hs
   ·cases h
end
end Go.Proofs.YtefddghdaimklaaGreatDoor.AI
