/- How readings are carried from one state of memory to another. -/
import Derived.Test.YtiolbhmbobelcaaGreatDoorAic
set_option linter.unusedVariables false
set_option linter.unusedSimpArgs false
namespace Go.Proofs.YtiolbhmbobelcaaGreatDoor.AI
open Go

def IdOk (x y : Cx) (id : Nat) : Prop :=
  match x.H[id]? with
  | none => True
  | some .dead => True
  | some (.box _) => (∃ cs, y.H[id]? = some (.box cs)) ∧ y.at_ id = x.at_ id
  | some (.mp t _) => (∃ xs, y.H[id]? = some (.mp t xs)) ∧ y.at_ id = x.at_ id
  | some (.tb _) => (∃ xs, y.H[id]? = some (.tb xs)) ∧ y.at_ id = x.at_ id
  | some (.arr e t xs) => ∃ xs', y.H[id]? = some (.arr e t xs') ∧ xs.length ≤ xs'.length ∧ y.at_ id = x.at_ id ∧
      ∀ b, x.at_ id = some b → ∀ cur' e' fr', y.w.heap[b]? = some (.cells cur' e' fr') → ∃ cur e'' fr, x.w.heap[b]? = some (.cells cur e'' fr) ∧ cur.size ≤ cur'.size

def idsC : C → List Nat
  | .own id _ => [id]
  | .ptr id _ => [id]
  | .elo id _ _ => [id]
  | .fn _ caps => caps.map (·.1)
  | .mp id => [id]
  | .fnm _ id _ => [id]
  | _ => []

structure Kin (x y : Cx) : Prop where
  ok : ∀ b, x.ok b → y.ok b
  blk : ∀ b, x.ok b → y.w.heap[b]? = x.w.heap[b]?

theorem Tabs.kin {x y : Cx} (h : Kin x y) (ht : Tabs x.ok x.w) : Tabs y.ok y.w := ht.imp h.ok h.blk
theorem RepT.kin {x y : Cx} (h : Kin x y) {t : Ty} {d : t.den} {vs : List Value} (hr : RepT x.ok x.w t d vs) : RepT y.ok y.w t d vs :=
  RepT.imp h.ok h.blk t d vs hr

theorem RepP.move {x y : Cx} {id off : Nat} {v : Value} (hi : IdOk x y id) (h : RepP x id off v) : RepP y id off v := by
  unfold RepP IdOk at *
  cases hx : x.H[id]? with
  | none => simp [hx] at h
  | some o =>
    cases o with
    | box cs =>
      simp only [hx] at h hi
      obtain ⟨b, h1, h2⟩ := h
      obtain ⟨⟨cs', hi⟩, ha⟩ := hi
      simp only [hi]; exact ⟨b, by rw [ha, h1], h2⟩
    | arr e t xs => simp [hx] at h
    | mp t xs => simp [hx] at h
    | tb _ => simp [hx] at h
    | dead => simp [hx] at h

theorem RepCaps.move {x y : Cx} : ∀ (l : List (Nat × Nat)) (vs : List Value), (∀ id ∈ l.map (·.1), IdOk x y id) → RepCaps x l vs → RepCaps y l vs
  | [], _, _, h => h
  | (id, off) :: l, vs, hi, h => by
    obtain ⟨v, r, h1, h2, h3, h4⟩ := h
    exact ⟨v, r, h1, h2, h3.move (hi id (by simp)), RepCaps.move l r (fun i hm => hi i (by simp at hm ⊢; exact .inr hm)) h4⟩

theorem RepE.kin {x y : Cx} (hk : Kin x y) {t : Ty} {d : t.den} {off : Nat} {v : Value} (h : RepE x t d off v) : RepE y t d off v := by
  obtain ⟨b, o, vs, h3, h4, h5, h6⟩ := h
  refine ⟨b, o, vs, h3, hk.ok b h4, RepT.kin hk h5, fun j u hj => ?_⟩
  rw [World.cell?_of_block (w := x.w) (w' := y.w) (hk.blk b h4)]
  exact h6 j u hj

theorem RepRo.kin {x y : Cx} (hk : Kin x y) : ∀ (l : List ((t : Ty) × t.den)) (vs : List Value), RepRo x l vs → RepRo y l vs
  | [], _, h => h
  | ⟨t, d⟩ :: l, vs, h => by
    obtain ⟨v, r, h1, h2, h3⟩ := h
    exact ⟨v, r, h1, h2.kin hk, RepRo.kin hk l r h3⟩

theorem RepC.move {x y : Cx} (hk : Kin x y) {c : C} {v : Value} (hi : ∀ id ∈ idsC c, IdOk x y id) (h : RepC x c v) : RepC y c v := by
  refine ⟨h.1, ?_⟩
  have h2 := h.2
  cases c with
  | sc t d => exact RepT.kin hk h2
  | nils => exact h2
  | own id n =>
    have hi' := hi id (by simp [idsC])
    simp only [RepC1] at h2 ⊢
    unfold IdOk at hi'
    cases hx : x.H[id]? with
    | none => simp [hx] at h2
    | some o =>
      cases o with
      | box cs => simp [hx] at h2
      | mp _ _ => simp [hx] at h2
      | tb _ => simp [hx] at h2
      | dead => simp [hx] at h2
      | arr e t xs =>
        simp only [hx] at h2 hi'
        obtain ⟨xs', h3, h4, h5, h6⟩ := hi'
        simp only [h3, h5]
        refine ⟨Nat.le_trans h2.1 h4, ?_⟩
        cases ha : x.at_ id with
        | none => simpa [ha] using h2.2
        | some b =>
          have h2' := h2.2
          simp only [ha] at h2'
          obtain ⟨c, q1, q2, q3, q4⟩ := h2'
          refine ⟨c, q1, q2, q3, fun cur' e' fr' hb => ?_⟩
          obtain ⟨cur, e'', fr, r1, r2⟩ := h6 b ha cur' e' fr' hb
          exact Nat.le_trans (q4 _ _ _ r1) r2
  | ptr id off => exact RepP.move (hi id (by simp [idsC])) h2
  | elr t d off => exact RepE.kin hk h2
  | fnr f caps =>
    obtain ⟨vs, h3, h4⟩ := h2
    exact ⟨vs, h3, RepRo.kin hk _ _ h4⟩
  | scn z t xs => exact ⟨RepT.kin hk h2.1, h2.2⟩
  | nan => exact h2
  | nf o => cases o <;> exact h2
  | fnm f id off =>
    obtain ⟨p, q1, q2, q3⟩ := h2
    exact ⟨p, q1, q2, RepP.move (hi id (by simp [idsC])) q3⟩
  | nili => exact h2
  | elo id i off =>
    have hi' := hi id (by simp [idsC])
    simp only [RepC1] at h2 ⊢
    unfold IdOk at hi'
    cases hx : x.H[id]? with
    | none => simp [hx] at h2
    | some o =>
      cases o with
      | box cs => simp [hx] at h2
      | mp _ _ => simp [hx] at h2
      | tb _ => simp [hx] at h2
      | dead => simp [hx] at h2
      | arr e t xs =>
        simp only [hx] at h2 hi'
        obtain ⟨xs', h3, h4, h5, h6⟩ := hi'
        simp only [h3, h5]
        obtain ⟨q1, b, q2, q3⟩ := h2
        exact ⟨by omega, b, q2, q3⟩
  | nilp => exact h2
  | nilf => exact h2
  | nilm => exact h2
  | mp id =>
    have hi' := hi id (by simp [idsC])
    simp only [RepC1] at h2 ⊢
    unfold IdOk at hi'
    cases hx : x.H[id]? with
    | none => simp [hx] at h2
    | some o =>
      cases o with
      | mp t xs =>
        simp only [hx] at h2 hi'
        obtain ⟨b, h3, h4⟩ := h2
        obtain ⟨⟨xs', hi'⟩, ha⟩ := hi'
        simp only [hi']; exact ⟨b, by rw [ha, h3], h4⟩
      | tb xs =>
        simp only [hx] at h2 hi'
        obtain ⟨b, h3, h4⟩ := h2
        obtain ⟨⟨xs', hi'⟩, ha⟩ := hi'
        simp only [hi']; exact ⟨b, by rw [ha, h3], h4⟩
      | _ => simp [hx] at h2
  | fn f caps =>
    obtain ⟨vs, h3, h4⟩ := h2
    exact ⟨vs, h3, RepCaps.move caps _ (fun i hm => hi i hm) h4⟩
  | undef => trivial

/-- A substitution carries readings over. -/
def Carry (σ : C → C) (x y : Cx) : Prop := ∀ c v, RepC x c v → RepC y (σ c) v

theorem Carry.id_of {x y : Cx} (hk : Kin x y) (hi : ∀ id, id < x.H.length → IdOk x y id) : Carry (fun c => c) x y := by
  intro c v h
  refine h.move hk fun id hid => ?_
  rcases Nat.lt_or_ge id x.H.length with hl | hl
  · exact hi id hl
  · unfold IdOk; rw [List.getElem?_eq_none hl]; trivial

/-- The references to one object are lost. -/
theorem Carry.kill {x y : Cx} (hk : Kin x y) (i : Nat) (ha : ∃ e t xs, x.H[i]? = some (.arr e t xs)) (hi : ∀ id, id < x.H.length → id ≠ i → IdOk x y id) : Carry (Sub.c (.kill i)) x y := by
  intro c v h
  have key : ∀ id, id ≠ i → IdOk x y id := fun id hne => by
    rcases Nat.lt_or_ge id x.H.length with hl | hl
    · exact hi id hl hne
    · unfold IdOk; rw [List.getElem?_eq_none hl]; trivial
  obtain ⟨e, t, xs, ha⟩ := ha
  have hp : ∀ off u, ¬ RepP x i off u := fun off u hp => by simp [RepP, ha] at hp
  cases c with
  | own id n =>
    simp only [Sub.c]
    cases hb : Nat.beq id i with
    | true => exact ⟨h.1, trivial⟩
    | false => exact h.move hk (fun j hj => by
        simp [idsC] at hj; subst hj; exact key _ (fun e => by subst e; simp at hb))
  | elo id j off =>
    simp only [Sub.c]
    cases hb : Nat.beq id i with
    | true => exact ⟨h.1, trivial⟩
    | false => exact h.move hk (fun j hj => by
        simp [idsC] at hj; subst hj; exact key _ (fun e => by subst e; simp at hb))
  | ptr id off =>
    show RepC y (.ptr id off) v
    exact h.move hk (fun j hj => by
      simp [idsC] at hj; subst hj; exact key _ (fun e => by subst e; exact hp _ _ h.2))
  | fn f caps =>
    show RepC y (.fn f caps) v
    refine h.move hk (fun j hj => key j (fun e => ?_))
    subst e
    obtain ⟨vs, _, hc⟩ := h.2
    have : ∀ (l : List (Nat × Nat)) (vs : List Value), RepCaps x l vs → j ∉ l.map (·.1) := by
      intro l
      induction l with
      | nil => intro _ _; simp
      | cons p l ih =>
        intro vs hc
        obtain ⟨v, r, _, _, h3, h4⟩ := hc
        simp only [List.map_cons, List.mem_cons, not_or]
        exact ⟨fun e => hp _ _ (e ▸ h3), ih r h4⟩
    exact this _ _ hc hj
  | sc t d => show RepC y (.sc t d) v; exact h.move hk (by simp [idsC])
  | nils => show RepC y (.nils) v; exact h.move hk (by simp [idsC])
  | elr t d off => show RepC y (.elr t d off) v; exact h.move hk (by simp [idsC])
  | fnr f caps => show RepC y (.fnr f caps) v; exact h.move hk (by simp [idsC])
  | scn z t xs => show RepC y (.scn z t xs) v; exact h.move hk (by simp [idsC])
  | nan => show RepC y (.nan) v; exact h.move hk (by simp [idsC])
  | nf o => show RepC y (.nf o) v; exact h.move hk (by simp [idsC])
  | fnm f id off =>
    show RepC y (.fnm f id off) v
    exact h.move hk (fun j hj => by
      simp [idsC] at hj; subst hj; exact key _ (fun e => by subst e; obtain ⟨p, _, _, q⟩ := h.2; exact hp _ _ q))
  | nili => show RepC y (.nili) v; exact h.move hk (by simp [idsC])
  | nilp => show RepC y (.nilp) v; exact h.move hk (by simp [idsC])
  | nilf => show RepC y (.nilf) v; exact h.move hk (by simp [idsC])
  | nilm => show RepC y (.nilm) v; exact h.move hk (by simp [idsC])
  | mp id =>
    show RepC y (.mp id) v
    exact h.move hk (fun j hj => by
      simp [idsC] at hj; subst hj; exact key _ (fun e => by subst e; have h2 := h.2; simp [RepC1, ha] at h2))
  | undef => show RepC y (.undef) v; exact h.move hk (by simp [idsC])

/-- What was made since is lost. -/
theorem Carry.above {x y : Cx} (hk : Kin x y) (m : Nat) (hi : ∀ id, id < m → IdOk x y id) : Carry (Sub.c (.above m)) x y := by
  intro c v h
  cases c with
  | own id n =>
    simp only [Sub.c]
    cases hb : Nat.ble m id with
    | true => exact ⟨h.1, trivial⟩
    | false => exact h.move hk (fun j hj => by
        simp [idsC] at hj; subst hj; exact hi _ (by rcases Nat.lt_or_ge j m with h1 | h1; exact h1; rw [Nat.ble_eq_true_of_le h1] at hb; cases hb))
  | elo id j off =>
    simp only [Sub.c]
    cases hb : Nat.ble m id with
    | true => exact ⟨h.1, trivial⟩
    | false => exact h.move hk (fun j hj => by
        simp [idsC] at hj; subst hj; exact hi _ (by rcases Nat.lt_or_ge j m with h1 | h1; exact h1; rw [Nat.ble_eq_true_of_le h1] at hb; cases hb))
  | ptr id off =>
    simp only [Sub.c]
    cases hb : Nat.ble m id with
    | true => exact ⟨h.1, trivial⟩
    | false => exact h.move hk (fun j hj => by
        simp [idsC] at hj; subst hj; exact hi _ (by rcases Nat.lt_or_ge j m with h1 | h1; exact h1; rw [Nat.ble_eq_true_of_le h1] at hb; cases hb))
  | fn f caps =>
    simp only [Sub.c]
    cases hb : caps.all (fun p => Nat.blt p.1 m) with
    | false => exact ⟨h.1, trivial⟩
    | true => exact h.move hk (fun j hj => by
        obtain ⟨p, hp, rfl⟩ := List.mem_map.1 (show j ∈ caps.map (·.1) from hj)
        have := List.all_eq_true.1 hb p hp
        exact hi _ (by simp [Nat.blt] at this; omega))
  | sc t d => show RepC y (.sc t d) v; exact h.move hk (by simp [idsC])
  | nils => show RepC y (.nils) v; exact h.move hk (by simp [idsC])
  | elr t d off => show RepC y (.elr t d off) v; exact h.move hk (by simp [idsC])
  | fnr f caps => show RepC y (.fnr f caps) v; exact h.move hk (by simp [idsC])
  | scn z t xs => show RepC y (.scn z t xs) v; exact h.move hk (by simp [idsC])
  | nan => show RepC y (.nan) v; exact h.move hk (by simp [idsC])
  | nf o => show RepC y (.nf o) v; exact h.move hk (by simp [idsC])
  | fnm f id off =>
    simp only [Sub.c]
    cases hb : Nat.ble m id with
    | true => exact ⟨h.1, trivial⟩
    | false => exact h.move hk (fun j hj => by
        simp [idsC] at hj; subst hj; exact hi _ (by rcases Nat.lt_or_ge j m with h1 | h1; exact h1; rw [Nat.ble_eq_true_of_le h1] at hb; cases hb))
  | nili => show RepC y (.nili) v; exact h.move hk (by simp [idsC])
  | nilp => show RepC y (.nilp) v; exact h.move hk (by simp [idsC])
  | nilf => show RepC y (.nilf) v; exact h.move hk (by simp [idsC])
  | nilm => show RepC y (.nilm) v; exact h.move hk (by simp [idsC])
  | mp id =>
    simp only [Sub.c]
    cases hb : Nat.ble m id with
    | true => exact ⟨h.1, trivial⟩
    | false => exact h.move hk (fun j hj => by
        simp [idsC] at hj; subst hj; exact hi _ (by rcases Nat.lt_or_ge j m with h1 | h1; exact h1; rw [Nat.ble_eq_true_of_le h1] at hb; cases hb))
  | undef => show RepC y (.undef) v; exact h.move hk (by simp [idsC])

/-- An object of our own becomes one that is only read. -/
theorem Carry.give {x y : Cx} (hk : Kin x y) (i : Nat) {e : TypeId} {t : Ty} {xs : List t.den} (ha : x.H[i]? = some (.arr e t xs)) (ho : ObRep x i (.arr e t xs))
    (hnew : ∀ b, x.at_ i = some b → y.ok b ∧ y.w.heap[b]? = x.w.heap[b]?) (hi : ∀ id, id < x.H.length → id ≠ i → IdOk x y id) : Carry (Sub.c (.give i t xs)) x y := by
  have kill := Carry.kill hk i ⟨e, t, xs, ha⟩ hi
  intro c v h
  cases c with
  | own id n =>
    simp only [Sub.c]
    cases hb : Nat.beq id i with
    | false => have := kill _ _ h; simpa only [Sub.c, hb, cond_false] using this
    | true =>
      have : id = i := Nat.eq_of_beq_eq_true hb
      subst this
      refine ⟨h.1, ?_⟩
      have h2 := h.2
      simp only [RepC1, ha] at h2
      obtain ⟨hn, h2⟩ := h2
      have hlen : (xs.take n).length = n := by simp [Nat.min_eq_left hn]
      cases hat : x.at_ id with
      | none =>
        simp only [hat] at h2
        obtain ⟨⟨A, rfl⟩, rfl⟩ := h2
        exact ⟨A, 0, by simp, by simp, fun hne => absurd (by simp) hne⟩
      | some b =>
        simp only [hat] at h2
        obtain ⟨c, rfl, h3, h4, h5⟩ := h2
        refine ⟨some ⟨b, 0, none⟩, c, by rw [hlen], by rw [hlen]; exact h3, fun _ => ⟨b, 0, rfl, (hnew b hat).1, fun j d hj => ?_⟩⟩
        simp only [ObRep, hat] at ho
        obtain ⟨cur, h6, h7, h8⟩ := ho
        rw [List.getElem?_take] at hj
        split at hj
        · obtain ⟨vs, h9, h10⟩ := h8 j d hj
          refine ⟨vs, RepT.kin hk h9, (RepT.len t d vs h9).1, fun q u hq => ?_⟩
          rw [World.cell?_of_block (w := x.w) (w' := y.w) (hnew b hat).2]
          have := h10 q u hq
          simp [World.cell?, h6, this]
        · cases hj
  | elo id j off =>
    simp only [Sub.c]
    exact kill _ _ h
  | ptr id off => exact kill _ _ h
  | fn f caps => exact kill _ _ h
  | sc t d => exact kill _ _ h
  | nils => exact kill _ _ h
  | elr t d off => exact kill _ _ h
  | fnr f caps => exact kill _ _ h
  | scn z t xs => exact kill _ _ h
  | nan => exact kill _ _ h
  | nf o => exact kill _ _ h
  | fnm f id off => exact kill _ _ h
  | nili => exact kill _ _ h
  | nilp => exact kill _ _ h
  | nilf => exact kill _ _ h
  | nilm => exact kill _ _ h
  | mp id => exact kill _ _ h
  | undef => exact kill _ _ h

theorem RepCs.carry {σ : C → C} {x y : Cx} (h : Carry σ x y) : ∀ (cs : List C) (vs : List Value), RepCs x cs vs → RepCs y (cs.map σ) vs
  | [], _, hr => hr
  | c :: l, vs, hr => by
    obtain ⟨v, r, h1, h2, h3⟩ := hr
    exact ⟨v, r, h1, h c v h2, RepCs.carry h l r h3⟩

theorem Rep1.carry {σ : C → C} {x y : Cx} (h : Carry σ x y) {g : Bool} {cs : List C} {v : Value} (hr : Rep1 x (g, cs) v) : Rep1 y (g, cs.map σ) v := by
  cases g with
  | true => obtain ⟨vs, h1, h2⟩ := hr; exact ⟨vs, h1, RepCs.carry h _ _ h2⟩
  | false => exact RepCs.carry h cs [v] hr

theorem Rep1s.carry {σ : C → C} {x y : Cx} (h : Carry σ x y) : ∀ (l : List (Bool × List C)) (vs : List Value), Rep1s x l vs → Rep1s y (l.map fun p => (p.1, p.2.map σ)) vs
  | [], _, hr => hr
  | p :: l, vs, hr => by
    obtain ⟨v, r, h1, h2, h3⟩ := hr
    exact ⟨v, r, h1, Rep1.carry h h2, Rep1s.carry h l r h3⟩

theorem RepV.carry {s : Sub} {x y : Cx} (h : Carry s.c x y) {a : AV} {v : Value} (hr : RepV x a v) : RepV y (s.v a) v := by
  cases a with
  | val g cs => exact Rep1.carry h hr
  | tup l => obtain ⟨vs, h1, h2⟩ := hr; exact ⟨vs, h1, Rep1s.carry h _ _ h2⟩
  | skip => exact hr
  | undef => trivial

theorem map_id_pairs (l : List (Bool × List C)) : (l.map fun p => (p.1, p.2.map fun c => c)) = l := by
  induction l with
  | nil => rfl
  | cons p l ih => rw [List.map_cons, ih]; simp

theorem RepV.keep {x y : Cx} (h : Carry (fun c => c) x y) {a : AV} {v : Value} (hr : RepV x a v) : RepV y a v := by
  cases a with
  | val g cs => have := Rep1.carry (g := g) h hr; rw [List.map_id' cs] at this; exact this
  | tup l => obtain ⟨vs, h1, h2⟩ := hr; have := Rep1s.carry h _ _ h2; rw [map_id_pairs] at this; exact ⟨vs, h1, this⟩
  | skip => exact hr
  | undef => trivial

theorem RepCs.keep {x y : Cx} (h : Carry (fun c => c) x y) {cs : List C} {vs : List Value} (hr : RepCs x cs vs) : RepCs y cs vs := by
  have := RepCs.carry h _ _ hr; simpa using this

theorem RepCs.len {x : Cx} : ∀ (cs : List C) (vs : List Value), RepCs x cs vs → vs.length = cs.length ∧ Plain vs
  | [], vs, h => by rw [show vs = [] from h]; exact ⟨rfl, by simp [Plain]⟩
  | c :: l, vs, h => by
    obtain ⟨v, r, rfl, h2, h3⟩ := h
    have := RepCs.len l r h3
    refine ⟨by simp [this.1], fun u hu => ?_⟩
    rcases List.mem_cons.1 hu with rfl | hu
    · exact h2.1
    · exact this.2 u hu

theorem RepCs.append {x : Cx} : ∀ (cs ds : List C) (vs us : List Value), RepCs x cs vs → RepCs x ds us → RepCs x (cs ++ ds) (vs ++ us)
  | [], ds, vs, us, h, k => by rw [show vs = [] from h]; exact k
  | c :: l, ds, vs, us, h, k => by
    obtain ⟨v, r, rfl, h2, h3⟩ := h
    exact ⟨v, r ++ us, rfl, h2, RepCs.append l ds r us h3 k⟩

theorem RepCs.drop {x : Cx} : ∀ (n : Nat) (cs : List C) (vs : List Value), RepCs x cs vs → RepCs x (cs.drop n) (vs.drop n)
  | 0, cs, vs, h => h
  | n + 1, [], vs, h => by rw [show vs = [] from h]; simp [RepCs]
  | n + 1, c :: l, vs, h => by
    obtain ⟨v, r, rfl, h2, h3⟩ := h
    exact RepCs.drop n l r h3

theorem RepCs.take {x : Cx} : ∀ (n : Nat) (cs : List C) (vs : List Value), RepCs x cs vs → RepCs x (cs.take n) (vs.take n)
  | 0, cs, vs, h => by simp [RepCs]
  | n + 1, [], vs, h => by rw [show vs = [] from h]; simp [RepCs]
  | n + 1, c :: l, vs, h => by
    obtain ⟨v, r, rfl, h2, h3⟩ := h
    exact ⟨v, r.take n, rfl, h2, RepCs.take n l r h3⟩

theorem RepCs.get {x : Cx} : ∀ (cs : List C) (vs : List Value) (i : Nat) (c : C), RepCs x cs vs → cs[i]? = some c → ∃ v, vs[i]? = some v ∧ RepC x c v
  | [], vs, i, c, h, hc => by simp at hc
  | c' :: l, vs, 0, c, h, hc => by
    obtain ⟨v, r, rfl, h2, h3⟩ := h
    simp at hc; subst hc
    exact ⟨v, rfl, h2⟩
  | c' :: l, vs, i + 1, c, h, hc => by
    obtain ⟨v, r, rfl, h2, h3⟩ := h
    exact RepCs.get l r i c h3 (by simpa using hc)

/-- A datum's cells read as the datum does. -/
theorem RepT.cells {x : Cx} : ∀ (t : Ty) (d : t.den) (vs : List Value), RepT x.ok x.w t d vs → RepCs x (t.cells d) vs
  | .bool, d, vs, h => by
    have h' : vs = [.bool d] := h
    subst h'
    exact ⟨_, [], rfl, ⟨rfl, rfl⟩, rfl⟩
  | .int k, d, vs, h => by
    have h' : vs = [.int k d] := h
    subst h'
    exact ⟨_, [], rfl, ⟨rfl, rfl⟩, rfl⟩
  | .float k, d, vs, h => by
    have h' : vs = [.float k d] := h
    subst h'
    exact ⟨_, [], rfl, ⟨rfl, rfl⟩, rfl⟩
  | .str, d, vs, h => by
    have h' : vs = [.string d] := h
    subst h'
    exact ⟨_, [], rfl, ⟨rfl, rfl⟩, rfl⟩
  | .unit, d, vs, h => h
  | .pair a b, d, vs, h => by
    obtain ⟨p, q, rfl, h1, h2⟩ := h
    exact RepCs.append _ _ _ _ (RepT.cells a _ _ h1) (RepT.cells b _ _ h2)
  | .sl t, d, vs, h => by
    have h' := h
    obtain ⟨A, c, rfl, h1, h2⟩ := h
    exact ⟨_, [], rfl, ⟨rfl, h'⟩, rfl⟩
  | .set t, d, vs, h => by
    have h' := h
    obtain ⟨b, rfl, _⟩ := h
    exact ⟨_, [], rfl, ⟨rfl, h'⟩, rfl⟩
  | .rose a, .node d ks, vs, h => by
    obtain ⟨n, hn⟩ := h
    cases n with
    | zero => exact hn.elim
    | succ n =>
      obtain ⟨p, A, c, rfl, h2, h3, h4⟩ := hn
      refine RepCs.append _ _ _ _ (RepT.cells a _ _ h2) ⟨_, [], rfl, ⟨rfl, A, c, rfl, h3, ?_⟩, rfl⟩
      exact h4.imp (fun r vs hr => ⟨n, hr⟩) (fun _ h => h) (fun _ _ => rfl)

theorem cells_length : ∀ (t : Ty) (d : t.den), (t.cells d).length = t.size
  | .bool, _ => rfl
  | .int _, _ => rfl
  | .float _, _ => rfl
  | .str, _ => rfl
  | .unit, _ => rfl
  | .pair a b, d => by simp [Ty.cells, Ty.size, cells_length a, cells_length b]
  | .sl _, _ => rfl
  | .set _, _ => rfl
  | .rose a, .node d ks => by simp [Ty.cells, Ty.size, cells_length a]

end Go.Proofs.YtiolbhmbobelcaaGreatDoor.AI
