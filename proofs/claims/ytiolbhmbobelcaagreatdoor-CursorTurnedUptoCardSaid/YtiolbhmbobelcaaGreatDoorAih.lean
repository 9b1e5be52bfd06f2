/- append: the object that grows. -/
import Derived.Test.YtiolbhmbobelcaaGreatDoorAig
set_option linter.unusedVariables false
set_option linter.unusedSimpArgs false
namespace Go.Proofs.YtiolbhmbobelcaaGreatDoor.AI
open Go

def killAll : List Nat → C → C
  | [], c => c
  | id :: r, c => killAll r (Sub.c (.kill id) c)

structure Step (h0 : Nat) (ks : List Nat) (x y : Cx) : Prop where
  inv : Inv y
  kept : Kept x y
  ids : ∀ id, id < h0 → IdOk x y id
  carry : Carry (killAll ks) x y
  len : x.H.length ≤ y.H.length

theorem Step.of_id {h0 : Nat} {x y : Cx} (hi : Inv y) (hk : Kept x y) (h0l : h0 ≤ x.H.length) (h : ∀ id, id < x.H.length → IdOk x y id) (hkin : Kin x y) (hl : x.H.length ≤ y.H.length) : Step h0 [] x y :=
  ⟨hi, hk, fun id hid => h id (by omega), Carry.id_of hkin h, hl⟩

theorem Step.refl {h0 : Nat} {x : Cx} (hI : Inv x) (h0l : h0 ≤ x.H.length) : Step h0 [] x x :=
  Step.of_id hI (Kept.refl x) h0l (fun id _ => IdOk.same hI rfl rfl (fun _ _ _ => rfl)) ⟨fun _ h => h, fun _ _ => rfl⟩ (Nat.le_refl _)

/-- What a list of data takes, cell by cell. -/
theorem flat_of {α : Type} {R : α → List Value → Prop} {cell : Nat → Option Value} (hplain : ∀ d vs, R d vs → Plain vs) (size : Nat) : ∀ (xs : List α) (base : Nat),
    (∀ i d, xs[i]? = some d → ∃ vs, R d vs ∧ vs.length = size ∧ ∀ j v, vs[j]? = some v → cell (base + i * size + j) = some v) →
    ∃ news : List Value, news.length = xs.length * size ∧ Plain news ∧ (∀ j v, news[j]? = some v → cell (base + j) = some v) ∧
      ∀ i d, xs[i]? = some d → ∃ vs, R d vs ∧ vs.length = size ∧ ∀ j v, vs[j]? = some v → news[i * size + j]? = some v
  | [], base, _ => ⟨[], by simp, by simp [Plain], fun j v hj => by simp at hj, fun i d hi => by simp at hi⟩
  | x :: r, base, h => by
    obtain ⟨vs, h1, h2, h3⟩ := h 0 x rfl
    obtain ⟨news, h4, h5, h6, h7⟩ := flat_of hplain size r (base + size) (fun i d hi => by
      obtain ⟨us, q1, q2, q3⟩ := h (i + 1) d (by simpa using hi)
      refine ⟨us, q1, q2, fun j v hj => ?_⟩
      have := q3 j v hj
      rw [Nat.add_mul, Nat.one_mul] at this
      rw [← this]; congr 1; omega)
    refine ⟨vs ++ news, by simp [h2, h4, Nat.add_mul]; omega, fun v hv => ?_, fun j v hj => ?_, fun i d hi => ?_⟩
    · rcases List.mem_append.1 hv with hv | hv
      · exact hplain _ _ h1 v hv
      · exact h5 v hv
    · rw [List.getElem?_append] at hj
      split at hj
      · have := h3 j v hj
        simpa using this
      · have := h6 _ v hj
        rw [← this]; congr 1; omega
    · cases i with
      | zero =>
        simp at hi; subst hi
        refine ⟨vs, h1, h2, fun j v hj => ?_⟩
        rw [Nat.zero_mul, Nat.zero_add, List.getElem?_append_left (List.getElem?_eq_some_iff.1 hj).1]
        exact hj
      | succ i =>
        obtain ⟨us, q1, q2, q3⟩ := h7 i d (by simpa using hi)
        refine ⟨us, q1, q2, fun j v hj => ?_⟩
        rw [List.getElem?_append_right (by rw [Nat.add_mul, Nat.one_mul]; omega)]
        have := q3 j v hj
        rw [← this]; congr 1
        rw [Nat.add_mul, Nat.one_mul]; omega

/-- What is appended: as the machine has it. -/
structure Src (x : Cx) (t : Ty) (ys : List t.den) (v : Value) : Prop where
  out : ∃ A c, v = .slice A ys.length c ∧ (ys ≠ [] → ∃ b off news, A = some ⟨b, off, none⟩ ∧ news.length = ys.length * t.size ∧ Plain news ∧ (∀ j u, news[j]? = some u → x.w.cell? ⟨b, off + j, none⟩ = some u) ∧
    ∀ i d, ys[i]? = some d → ∃ vs, RepT x.ok x.w t d vs ∧ vs.length = t.size ∧ ∀ j u, vs[j]? = some u → news[i * t.size + j]? = some u)

theorem src_sc {x : Cx} {t : Ty} {ys : List t.den} {v : Value} (h : RepC x (.sc (.sl t) ys) v) : Src x t ys v := by
  obtain ⟨A, c, h1, h2, h3⟩ := h.2
  simp only [List.cons.injEq, and_true] at h1
  subst h1
  refine ⟨A, c, rfl, fun hne => ?_⟩
  obtain ⟨b, off, rfl, h4, h5⟩ := h3 hne
  obtain ⟨news, q1, q2, q3, q4⟩ := flat_of (R := RepT x.ok x.w t) (cell := fun j => x.w.cell? ⟨b, j, none⟩) (fun d vs hr => (RepT.len _ _ _ hr).2) t.size ys off h5
  exact ⟨b, off, news, rfl, q1, q2, q3, q4⟩

theorem own_take {x : Cx} {id n : Nat} {e : TypeId} {t : Ty} {xs : List t.den} (hI : Inv x) (hx : x.H[id]? = some (.arr e t xs)) {v : Value} (h : RepC x (.own id n) v) : Src x t (xs.take n) v := by
  have h2 := h.2
  simp only [RepC1, hx] at h2
  obtain ⟨hn, h2⟩ := h2
  have hlen : (xs.take n).length = n := by simp [Nat.min_eq_left hn]
  cases hat : x.at_ id with
  | none =>
    simp only [hat] at h2
    obtain ⟨⟨A, rfl⟩, rfl⟩ := h2
    exact ⟨A, 0, by simp, fun hne => absurd (by simp) hne⟩
  | some b =>
    simp only [hat] at h2
    obtain ⟨c, rfl, h3, h4, h5⟩ := h2
    refine ⟨some ⟨b, 0, none⟩, c, by rw [hlen], fun hne => ?_⟩
    have ho := hI.obs _ _ hx
    simp only [ObRep, hat] at ho
    obtain ⟨cur, h6, h7, h8⟩ := ho
    obtain ⟨news, q1, q2, q3, q4⟩ := flat_of (R := RepT x.ok x.w t) (cell := fun j => x.w.cell? ⟨b, j, none⟩) (fun d vs hr => (RepT.len _ _ _ hr).2) t.size (xs.take n) 0 (fun i d hi => by
      rw [List.getElem?_take] at hi
      split at hi
      · obtain ⟨vs, r1, r2⟩ := h8 i d hi
        refine ⟨vs, r1, (RepT.len _ _ _ r1).1, fun j u hj => ?_⟩
        simp [World.cell?, h6, r2 j u hj]
      · cases hi)
    exact ⟨b, 0, news, rfl, q1, q2, q3, q4⟩

theorem sliceOf_sound {x : Cx} (hI : Inv x) {c : C} {t : Ty} {ys : List t.den} (h : sliceOf x.H c = some ⟨t, ys⟩) {v : Value} (hr : RepC x c v) : Src x t ys v := by
  unfold sliceOf at h
  split at h
  · cases h; exact src_sc hr
  · cases h; exact src_sc (t := t) ⟨hr.1, hr.2.1⟩
  · split at h
    · rename_i e t' xs hx
      cases h
      exact own_take hI hx hr
    · cases h
  · cases h

theorem srcOf_sound {x : Cx} (hI : Inv x) {c : C} {t : Ty} {ys : List t.den} (h : srcOf x.H t c = some ys) {v : Value} (hr : RepC x c v) : Src x t ys v := by
  unfold srcOf at h
  split at h
  · cases h
    have h2 : v = .slice none 0 0 := hr.2
    subst h2
    exact ⟨none, 0, rfl, fun hne => absurd rfl hne⟩
  · split at h
    · rename_i u zs hs
      split at h
      · rename_i hu
        subst hu
        cases h
        exact sliceOf_sound hI hs hr
      · cases h
    · cases h

/-! ### The object that grows -/
def Cx.repl (x : Cx) (w : World) (id : Nat) (b : Option Nat) (o : Ob) : Cx :=
  { ok := x.ok, at_ := fun i => if i = id then b else x.at_ i, w := w, H := (Sub.h (.kill id) x.H).set id o }

structure ReplOk (x : Cx) (w : World) (id : Nat) (b : Option Nat) : Prop where
  os : w.os = x.w.os
  tape : w.tape = x.w.tape
  output : w.output = x.w.output
  size : x.w.heap.size ≤ w.heap.size
  other : ∀ k, k < x.w.heap.size → x.at_ id ≠ some k → w.heap[k]? = x.w.heap[k]?
  live : ∃ e t xs, x.H[id]? = some (.arr e t xs)
  new : ∀ k, b = some k → (x.at_ id = some k ∨ x.w.heap.size ≤ k) ∧ k < w.heap.size

section
variable {x : Cx} {w : World} {id : Nat} {b : Option Nat} {o : Ob}

theorem repl_kin (hI : Inv x) (h : ReplOk x w id b) : Kin x (x.repl w id b o) := by
  obtain ⟨e, t, xs, hx⟩ := h.live
  refine ⟨fun _ h => h, fun k hk => h.other k (hI.okb k hk) (fun hat => hI.off id k _ hx (by simp) hat hk)⟩

theorem repl_get {i : Nat} (hne : i ≠ id) : (x.repl w id b o).H[i]? = (x.H[i]?).map (Sub.ob (.kill id)) := by
  simp [Cx.repl, Sub.h, List.getElem?_set_ne (Ne.symm hne)]

theorem repl_get_new (h : ReplOk x w id b) : (x.repl w id b o).H[id]? = some o := by
  obtain ⟨e, t, xs, hx⟩ := h.live
  have hlt := (List.getElem?_eq_some_iff.1 hx).1
  simp [Cx.repl, Sub.h, hlt]

theorem repl_at {i : Nat} (hne : i ≠ id) : (x.repl w id b o).at_ i = x.at_ i := by simp [Cx.repl, hne]
theorem repl_at_new : (x.repl w id b o).at_ id = b := by simp [Cx.repl]

theorem repl_blk (hI : Inv x) (h : ReplOk x w id b) {i k : Nat} {oi : Ob} (hne : i ≠ id) (hi : x.H[i]? = some oi) (hd : oi ≠ .dead) (hk : x.at_ i = some k) : w.heap[k]? = x.w.heap[k]? := by
  obtain ⟨e, t, xs, hx⟩ := h.live
  exact h.other k (hI.lt hi hd hk) (fun hat => hne (hI.inj i id k _ _ hi hx hd (by simp) hk hat))

theorem repl_idOk (hI : Inv x) (h : ReplOk x w id b) {j : Nat} (hne : j ≠ id) : IdOk x (x.repl w id b o) j := by
  unfold IdOk
  rw [repl_get hne]
  cases hx : x.H[j]? with
  | none => trivial
  | some oo =>
    cases oo with
    | dead => trivial
    | box cs => exact ⟨⟨_, rfl⟩, repl_at hne⟩
    | mp t xs => exact ⟨⟨_, rfl⟩, repl_at hne⟩
    | tb xs => exact ⟨⟨_, rfl⟩, repl_at hne⟩
    | arr e t xs =>
      refine ⟨xs, rfl, Nat.le_refl _, repl_at hne, fun k hk cur' e' fr' hc => ?_⟩
      have := repl_blk hI h hne hx (by simp) hk
      have hc' : w.heap[k]? = some (.cells cur' e' fr') := hc
      rw [this] at hc'
      exact ⟨cur', e', fr', hc', Nat.le_refl _⟩

theorem repl_carry (hI : Inv x) (h : ReplOk x w id b) : Carry (Sub.c (.kill id)) x (x.repl w id b o) :=
  Carry.kill (repl_kin hI h) id h.live (fun j _ hne => repl_idOk hI h hne)

theorem repl_inv (hI : Inv x) (h : ReplOk x w id b) (hd : o ≠ .dead) (ho : ObRep (x.repl w id b o) id o) : Inv (x.repl w id b o) := by
  obtain ⟨e, t, xs, hx⟩ := h.live
  have old : ∀ (i : Nat) (oi : Ob), i ≠ id → (x.repl w id b o).H[i]? = some oi → ∃ q : Ob, x.H[i]? = some q ∧ oi = Sub.ob (.kill id) q := fun i oi hne hi => by
    rw [repl_get hne] at hi
    cases hq : x.H[i]? with
    | none => simp [hq] at hi
    | some q => exact ⟨q, rfl, by simpa [hq] using hi.symm⟩
  have ndead : ∀ (q : Ob), Sub.ob (.kill id) q ≠ Ob.dead → q ≠ Ob.dead := fun q hq e => hq (by subst e; rfl)
  refine ⟨fun k hk => Nat.lt_of_lt_of_le (hI.okb k hk) h.size, fun i j k oi oj hi hj hdi hdj hk1 hk2 => ?_, fun i k oi hi hdi hk => ?_, fun i oi hi => ?_, hI.tab.kin (repl_kin hI h)⟩
  · by_cases e1 : i = id <;> by_cases e2 : j = id
    · rw [e1, e2]
    · subst e1
      obtain ⟨q, hq, rfl⟩ := old j oj e2 hj
      rw [repl_at_new] at hk1
      rw [repl_at e2] at hk2
      have hlt := hI.lt hq (ndead _ hdj) hk2
      rcases (h.new k hk1).1 with h1 | h1
      · exact (hI.inj i j k _ _ hx hq (by simp) (ndead _ hdj) h1 hk2)
      · omega
    · subst e2
      obtain ⟨q, hq, rfl⟩ := old i oi e1 hi
      rw [repl_at_new] at hk2
      rw [repl_at e1] at hk1
      have hlt := hI.lt hq (ndead _ hdi) hk1
      rcases (h.new k hk2).1 with h1 | h1
      · exact (hI.inj i j k _ _ hq hx (ndead _ hdi) (by simp) hk1 h1)
      · omega
    · obtain ⟨q, hq, rfl⟩ := old i oi e1 hi
      obtain ⟨q', hq', rfl⟩ := old j oj e2 hj
      rw [repl_at e1] at hk1
      rw [repl_at e2] at hk2
      exact hI.inj i j k _ _ hq hq' (ndead _ hdi) (ndead _ hdj) hk1 hk2
  · by_cases e1 : i = id
    · subst e1
      rw [repl_at_new] at hk
      intro hok
      rcases (h.new k hk).1 with h1 | h1
      · exact hI.off i k _ hx (by simp) h1 hok
      · have := hI.okb k hok; omega
    · obtain ⟨q, hq, rfl⟩ := old i oi e1 hi
      rw [repl_at e1] at hk
      exact hI.off i k _ hq (ndead _ hdi) hk
  · by_cases e1 : i = id
    · subst e1
      rw [repl_get_new h] at hi
      cases hi
      exact ho
    · obtain ⟨q, hq, rfl⟩ := old i oi e1 hi
      cases q with
      | dead => trivial
      | _ => exact (hI.obs i _ hq).move (repl_kin hI h) (repl_carry hI h) (repl_at e1) (fun k hk => repl_blk hI h e1 hq (by simp) hk)

theorem repl_kept (hI : Inv x) (h : ReplOk x w id b) : Kept x (x.repl w id b o) := by
  obtain ⟨e, t, xs, hx⟩ := h.live
  refine ⟨h.os, h.tape, h.output, h.size, fun k hk hm => h.other k hk (fun hat => hm ⟨id, _, hx, by simp, hat⟩), fun k hk => ?_, fun _ h => h, fun _ h => .inl h⟩
  obtain ⟨i, oi, h1, h2, h3⟩ := hk
  by_cases e1 : i = id
  · subst e1
    rw [repl_at_new] at h3
    rcases (h.new k h3).1 with h4 | h4
    · exact .inl ⟨i, _, hx, by simp, h4⟩
    · exact .inr h4
  · rw [repl_get e1] at h1
    rw [repl_at e1] at h3
    cases hq : x.H[i]? with
    | none => simp [hq] at h1
    | some q =>
      refine .inl ⟨i, q, hq, fun e => h2 ?_, h3⟩
      subst e
      simp [hq, Sub.ob] at h1
      exact h1.symm

theorem repl_step {h0 : Nat} (hI : Inv x) (h : ReplOk x w id b) (hd : o ≠ .dead) (ho : ObRep (x.repl w id b o) id o) (hle : h0 ≤ id) : Step h0 [id] x (x.repl w id b o) :=
  ⟨repl_inv hI h hd ho, repl_kept hI h, fun j hj => repl_idOk hI h (by omega), repl_carry hI h, by simp [Cx.repl, Sub.h]⟩
end

/-! ### append as the machine has it -/
section
variable {P : Program} {T : TypeId → Option TI}

theorem run_append_empty {t ty e : TypeId} {i : TypeInfo} (ht : P.underlying t = some (.slice e)) (hi : P.info? e = some i) (base A : Option Addr) (n cap c : Nat) (hn : n ≤ cap) (w : World) :
    (Builtin.append_ #[t, t] ty #[.slice base n cap, .slice A 0 c]).run P w = .ok (.slice base n cap) w := by
  cases base <;> cases A <;>
    simp [Builtin.append_, run_underlying ht, sizeOf, typeInfo, hi, Builtin.lenOf, Builtin.firstCells, hn, loadCells, loadCellsFrom, storeCells]

theorem getElem?_append_toArray (a : List Value) (b : Array Value) (i : Nat) (h : i < a.length) : (a.toArray ++ b)[i]? = a[i]? := by
  simp [Array.getElem?_append, h]

end
end Go.Proofs.YtiolbhmbobelcaaGreatDoor.AI
