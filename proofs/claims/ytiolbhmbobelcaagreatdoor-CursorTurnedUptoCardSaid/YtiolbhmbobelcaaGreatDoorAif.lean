/- New objects, stores, what is given away: how the state moves. -/
import Derived.Test.YtiolbhmbobelcaaGreatDoorAie
set_option linter.unusedVariables false
set_option linter.unusedSimpArgs false
namespace Go.Proofs.YtiolbhmbobelcaaGreatDoor.AI
open Go

/-- What a run leaves as it was. -/
structure Kept (x y : Cx) : Prop where
  os : y.w.os = x.w.os
  tape : y.w.tape = x.w.tape
  output : y.w.output = x.w.output
  size : x.w.heap.size ≤ y.w.heap.size
  block : ∀ b, b < x.w.heap.size → ¬ x.mine b → y.w.heap[b]? = x.w.heap[b]?
  mine : ∀ b, y.mine b → x.mine b ∨ x.w.heap.size ≤ b
  ok : ∀ b, x.ok b → y.ok b
  oknew : ∀ b, y.ok b → x.ok b ∨ x.mine b ∨ x.w.heap.size ≤ b

theorem Kept.refl (x : Cx) : Kept x x := ⟨rfl, rfl, rfl, Nat.le_refl _, fun _ _ _ => rfl, fun _ h => .inl h, fun _ h => h, fun _ h => .inl h⟩

theorem Kept.trans {x y z : Cx} (h : Kept x y) (k : Kept y z) : Kept x z := by
  refine ⟨k.os.trans h.os, k.tape.trans h.tape, k.output.trans h.output, Nat.le_trans h.size k.size, fun b hb hm => ?_, fun b hb => ?_, fun b hb => k.ok b (h.ok b hb), fun b hb => ?_⟩
  · have h1 : ¬ y.mine b := fun hy => (h.mine b hy).elim hm (fun h2 => by omega)
    rw [k.block b (Nat.lt_of_lt_of_le hb h.size) h1, h.block b hb hm]
  · rcases k.mine b hb with h1 | h1
    · exact h.mine b h1
    · exact .inr (Nat.le_trans h.size h1)
  · rcases k.oknew b hb with h1 | h1 | h1
    · exact h.oknew b h1
    · rcases h.mine b h1 with h2 | h2
      · exact .inr (.inl h2)
      · exact .inr (.inr h2)
    · exact .inr (.inr (Nat.le_trans h.size h1))

theorem Inv.notMine {x : Cx} (hI : Inv x) {b : Nat} (hb : x.ok b) : ¬ x.mine b := by
  rintro ⟨i, o, h1, h2, h3⟩
  exact hI.off i b o h1 h2 h3 hb

theorem Kept.kin {x y : Cx} (hI : Inv x) (h : Kept x y) : Kin x y :=
  ⟨h.ok, fun b hb => h.block b (hI.okb b hb) (hI.notMine hb)⟩

theorem Inv.lt {x : Cx} (hI : Inv x) {i b : Nat} {o : Ob} (h : x.H[i]? = some o) (hd : o ≠ .dead) (hb : x.at_ i = some b) : b < x.w.heap.size := by
  have ho := hI.obs i o h
  cases o with
  | box cs =>
    obtain ⟨b', vs, e, h1, h2, h3⟩ := ho
    rw [hb] at h1; cases h1
    exact (Array.getElem?_eq_some_iff.1 h2).1
  | arr e t xs =>
    simp only [ObRep, hb] at ho
    obtain ⟨cur, h2, h3⟩ := ho
    exact (Array.getElem?_eq_some_iff.1 h2).1
  | mp t xs =>
    obtain ⟨b', h1, es, c, h2, _⟩ := ho
    rw [hb] at h1; cases h1
    exact (Array.getElem?_eq_some_iff.1 h2).1
  | tb xs =>
    obtain ⟨b', h1, es, c, h2, _⟩ := ho
    rw [hb] at h1; cases h1
    exact (Array.getElem?_eq_some_iff.1 h2).1
  | dead => exact absurd rfl hd

theorem ObRep.move {x y : Cx} (hk : Kin x y) {s : Sub} (hc : Carry s.c x y) {i : Nat} (hat : y.at_ i = x.at_ i) (hb : ∀ b, x.at_ i = some b → y.w.heap[b]? = x.w.heap[b]?) {o : Ob} (h : ObRep x i o) : ObRep y i (s.ob o) := by
  cases o with
  | box cs =>
    obtain ⟨b, vs, e, h1, h2, h3⟩ := h
    exact ⟨b, vs, e, by rw [hat, h1], by rw [hb b h1, h2], RepCs.carry hc _ _ h3⟩
  | arr e t xs =>
    simp only [ObRep, Sub.ob, hat] at h ⊢
    cases ha : x.at_ i with
    | none => simpa [ha] using h
    | some b =>
      simp only [ha] at h ⊢
      obtain ⟨cur, h1, h2, h3⟩ := h
      refine ⟨cur, by rw [hb b ha, h1], h2, fun j d hj => ?_⟩
      obtain ⟨vs, h4, h5⟩ := h3 j d hj
      exact ⟨vs, RepT.kin hk h4, h5⟩
  | mp t xs =>
    obtain ⟨b, h1, h2⟩ := h
    exact ⟨b, by rw [hat, h1], by rw [hb b h1]; exact h2⟩
  | tb xs =>
    obtain ⟨b, h1, h2⟩ := h
    exact ⟨b, by rw [hat, h1], by rw [hb b h1]; exact h2⟩
  | dead => trivial

theorem ObRep.keep {x y : Cx} (hk : Kin x y) (hc : Carry (fun c => c) x y) {i : Nat} (hat : y.at_ i = x.at_ i) (hb : ∀ b, x.at_ i = some b → y.w.heap[b]? = x.w.heap[b]?) {o : Ob} (h : ObRep x i o) : ObRep y i o := by
  cases o with
  | box cs =>
    obtain ⟨b, vs, e, h1, h2, h3⟩ := h
    exact ⟨b, vs, e, by rw [hat, h1], by rw [hb b h1, h2], RepCs.keep hc h3⟩
  | arr e t xs =>
    simp only [ObRep, hat] at h ⊢
    cases ha : x.at_ i with
    | none => simpa [ha] using h
    | some b =>
      simp only [ha] at h ⊢
      obtain ⟨cur, h1, h2, h3⟩ := h
      refine ⟨cur, by rw [hb b ha, h1], h2, fun j d hj => ?_⟩
      obtain ⟨vs, h4, h5⟩ := h3 j d hj
      exact ⟨vs, RepT.kin hk h4, h5⟩
  | mp t xs =>
    obtain ⟨b, h1, h2⟩ := h
    exact ⟨b, by rw [hat, h1], by rw [hb b h1]; exact h2⟩
  | tb xs =>
    obtain ⟨b, h1, h2⟩ := h
    exact ⟨b, by rw [hat, h1], by rw [hb b h1]; exact h2⟩
  | dead => trivial

/-- An id whose object and block stay. -/
theorem IdOk.same {x y : Cx} (hI : Inv x) {id : Nat} (hH : y.H[id]? = x.H[id]?) (hat : y.at_ id = x.at_ id) (hb : ∀ b, x.at_ id = some b → b < x.w.heap.size → y.w.heap[b]? = x.w.heap[b]?) : IdOk x y id := by
  unfold IdOk
  cases h : x.H[id]? with
  | none => trivial
  | some o =>
    cases o with
    | dead => trivial
    | box cs => exact ⟨⟨cs, by rw [hH, h]⟩, hat⟩
    | mp t xs => exact ⟨⟨xs, by rw [hH, h]⟩, hat⟩
    | tb xs => exact ⟨⟨xs, by rw [hH, h]⟩, hat⟩
    | arr e t xs =>
      refine ⟨xs, by rw [hH, h], Nat.le_refl _, hat, fun b hb' cur' e' fr' hc => ?_⟩
      have hlt := hI.lt h (by simp) hb'
      rw [hb b hb' hlt] at hc
      exact ⟨cur', e', fr', hc, Nat.le_refl _⟩

/-! ### A world that only draws -/
def Cx.withW (x : Cx) (w : World) : Cx := { x with w := w }

theorem withW_kin {x : Cx} {w : World} (hh : w.heap = x.w.heap) : Kin x (x.withW w) := ⟨fun _ h => h, fun b _ => by simp [Cx.withW, hh]⟩
theorem withW_idOk {x : Cx} (hI : Inv x) {w : World} (hh : w.heap = x.w.heap) (id : Nat) : IdOk x (x.withW w) id := IdOk.same hI rfl rfl (fun b _ _ => by simp [Cx.withW, hh])
theorem withW_carry {x : Cx} (hI : Inv x) {w : World} (hh : w.heap = x.w.heap) : Carry (fun c => c) x (x.withW w) := Carry.id_of (withW_kin hh) (fun id _ => withW_idOk hI hh id)
theorem withW_inv {x : Cx} (hI : Inv x) {w : World} (hh : w.heap = x.w.heap) : Inv (x.withW w) :=
  ⟨fun b hb => by simpa [Cx.withW, hh] using hI.okb b hb, hI.inj, hI.off, fun i o h => (hI.obs i o h).keep (withW_kin hh) (withW_carry hI hh) rfl (fun b _ => by simp [Cx.withW, hh]), hI.tab.kin (withW_kin hh)⟩
theorem withW_kept {x : Cx} {w : World} (hh : w.heap = x.w.heap) (h1 : w.os = x.w.os) (h2 : w.tape = x.w.tape) (h3 : w.output = x.w.output) : Kept x (x.withW w) :=
  ⟨h1, h2, h3, by simp [Cx.withW, hh], fun b _ _ => by simp [Cx.withW, hh], fun b h => .inl h, fun _ h => h, fun _ h => .inl h⟩

/-! ### A new object -/
def Cx.push (x : Cx) (w : World) (b : Option Nat) (o : Ob) : Cx := { ok := x.ok, at_ := fun i => if i = x.H.length then b else x.at_ i, w := w, H := x.H ++ [o] }

structure PushOk (x : Cx) (w : World) (b : Option Nat) : Prop where
  os : w.os = x.w.os
  tape : w.tape = x.w.tape
  output : w.output = x.w.output
  size : x.w.heap.size ≤ w.heap.size
  old : ∀ k, k < x.w.heap.size → w.heap[k]? = x.w.heap[k]?
  new : ∀ k, b = some k → x.w.heap.size ≤ k ∧ k < w.heap.size

section
variable {x : Cx} {w : World} {b : Option Nat} {o : Ob}

theorem push_kin (hI : Inv x) (h : PushOk x w b) : Kin x (x.push w b o) := ⟨fun _ h => h, fun k hk => h.old k (hI.okb k hk)⟩
theorem push_get {i : Nat} (hi : i < x.H.length) : (x.push w b o).H[i]? = x.H[i]? := by simp [Cx.push, List.getElem?_append_left hi]
theorem push_get_new : (x.push w b o).H[x.H.length]? = some o := by simp [Cx.push]
theorem push_at {i : Nat} (hi : i < x.H.length) : (x.push w b o).at_ i = x.at_ i := by simp [Cx.push]; omega
theorem push_at_new : (x.push w b o).at_ x.H.length = b := by simp [Cx.push]
theorem push_idOk (hI : Inv x) (h : PushOk x w b) {id : Nat} (hi : id < x.H.length) : IdOk x (x.push w b o) id :=
  IdOk.same hI (push_get hi) (push_at hi) (fun k hk hlt => h.old k hlt)
theorem push_carry (hI : Inv x) (h : PushOk x w b) : Carry (fun c => c) x (x.push w b o) := Carry.id_of (push_kin hI h) (fun id hid => push_idOk hI h hid)

theorem push_inv (hI : Inv x) (h : PushOk x w b) (ho : ObRep (x.push w b o) x.H.length o) : Inv (x.push w b o) := by
  have old : ∀ i oi, (x.push w b o).H[i]? = some oi → i ≠ x.H.length → i < x.H.length ∧ x.H[i]? = some oi := fun i oi hi hne => by
    have hl : i < x.H.length := by
      rcases Nat.lt_or_ge i x.H.length with h1 | h1
      · exact h1
      · rw [List.getElem?_eq_none (by simp [Cx.push]; omega)] at hi; cases hi
    exact ⟨hl, by rw [← hi, push_get hl]⟩
  refine ⟨fun k hk => Nat.lt_of_lt_of_le (hI.okb k hk) h.size, fun i j k oi oj hi hj hdi hdj hk1 hk2 => ?_, fun i k oi hi hd hk => ?_, fun i oi hi => ?_, hI.tab.kin (push_kin hI h)⟩
  · by_cases e1 : i = x.H.length <;> by_cases e2 : j = x.H.length
    · rw [e1, e2]
    · subst e1
      obtain ⟨hl, hj'⟩ := old j oj hj e2
      rw [push_at_new] at hk1
      rw [push_at hl] at hk2
      have := hI.lt hj' hdj hk2
      have := (h.new k hk1).1
      omega
    · subst e2
      obtain ⟨hl, hi'⟩ := old i oi hi e1
      rw [push_at_new] at hk2
      rw [push_at hl] at hk1
      have := hI.lt hi' hdi hk1
      have := (h.new k hk2).1
      omega
    · obtain ⟨hl, hi'⟩ := old i oi hi e1
      obtain ⟨hl2, hj'⟩ := old j oj hj e2
      rw [push_at hl] at hk1
      rw [push_at hl2] at hk2
      exact hI.inj i j k oi oj hi' hj' hdi hdj hk1 hk2
  · by_cases e1 : i = x.H.length
    · subst e1
      rw [push_at_new] at hk
      intro hok
      have := hI.okb k hok
      have := (h.new k hk).1
      omega
    · obtain ⟨hl, hi'⟩ := old i oi hi e1
      rw [push_at hl] at hk
      exact hI.off i k oi hi' hd hk
  · by_cases e1 : i = x.H.length
    · subst e1
      rw [push_get_new] at hi
      cases hi
      exact ho
    · obtain ⟨hl, hi'⟩ := old i oi hi e1
      cases oi with
      | dead => trivial
      | _ => exact (hI.obs i _ hi').keep (push_kin hI h) (push_carry hI h) (push_at hl) (fun k hk => h.old k (hI.lt hi' (by simp) hk))

theorem push_kept (hI : Inv x) (h : PushOk x w b) : Kept x (x.push w b o) := by
  refine ⟨h.os, h.tape, h.output, h.size, fun k hk _ => h.old k hk, fun k hk => ?_, fun _ h => h, fun _ h => .inl h⟩
  obtain ⟨i, oi, h1, h2, h3⟩ := hk
  by_cases e1 : i = x.H.length
  · subst e1
    rw [push_at_new] at h3
    exact .inr (h.new k h3).1
  · have hl : i < x.H.length := by
      rcases Nat.lt_or_ge i x.H.length with h4 | h4
      · exact h4
      · rw [List.getElem?_eq_none (by simp [Cx.push]; omega)] at h1; cases h1
    rw [push_get hl] at h1
    rw [push_at hl] at h3
    exact .inl ⟨i, oi, h1, h2, h3⟩
end

theorem pushOk_alloc (x : Cx) (vs : Array Value) (e : TypeId) : PushOk x (x.w.alloc (.cells vs e)) (some x.w.heap.size) :=
  ⟨rfl, rfl, rfl, by simp, fun k hk => by first | exact heap_alloc_old x.w _ k hk | exact heap_alloc_old x.w _ hk, fun k hk => by cases hk; simp⟩
theorem pushOk_drewAlloc (x : Cx) (vs : Array Value) (e : TypeId) : PushOk x (x.w.drew.alloc (.cells vs e)) (some x.w.heap.size) :=
  ⟨rfl, rfl, rfl, by simp, fun k hk => by first | exact heap_alloc_old x.w.drew _ k hk | exact heap_alloc_old x.w.drew _ hk, fun k hk => by cases hk; simp⟩
theorem pushOk_none (x : Cx) : PushOk x x.w none := ⟨rfl, rfl, rfl, Nat.le_refl _, fun _ _ => rfl, fun k hk => by cases hk⟩

/-- A new variable. -/
theorem push_box {x : Cx} (hI : Inv x) {vs : Array Value} {cs : List C} (e : TypeId) (hr : RepCs x cs vs.toList) :
    Inv (x.push (x.w.alloc (.cells vs e)) (some x.w.heap.size) (.box cs)) ∧ RepV (x.push (x.w.alloc (.cells vs e)) (some x.w.heap.size) (.box cs)) (.val false [.ptr x.H.length 0]) (.pointer (some ⟨x.w.heap.size, 0, none⟩)) := by
  have hp := pushOk_alloc x vs e
  refine ⟨push_inv hI hp ⟨x.w.heap.size, vs, e, push_at_new, heap_alloc_new x.w _, RepCs.keep (push_carry hI hp) hr⟩, mk_one ⟨rfl, ?_⟩⟩
  show RepP _ _ _ _
  unfold RepP
  rw [push_get_new]
  exact ⟨_, push_at_new, rfl⟩

/-! ### An object that is written: same block, same length -/
def Cx.put (x : Cx) (w : World) (id : Nat) (o : Ob) : Cx := { x with w := w, H := x.H.set id o }

/-- Rows of cells that read as a list of data. -/
def RowC (x : Cx) (t : Ty) (xs : List t.den) (cur : Array Value) : Prop :=
  ∀ i d, xs[i]? = some d → ∃ vs, RepT x.ok x.w t d vs ∧ ∀ j v, vs[j]? = some v → cur[i * t.size + j]? = some v

structure PutOk (x : Cx) (w : World) (id b : Nat) : Prop where
  os : w.os = x.w.os
  tape : w.tape = x.w.tape
  output : w.output = x.w.output
  size : w.heap.size = x.w.heap.size
  other : ∀ k, k ≠ b → w.heap[k]? = x.w.heap[k]?
  live : ∃ o, x.H[id]? = some o ∧ o ≠ .dead
  at_ : x.at_ id = some b
  len : ∀ cur' e' fr', w.heap[b]? = some (.cells cur' e' fr') → ∃ cur e fr, x.w.heap[b]? = some (.cells cur e fr) ∧ cur.size = cur'.size

section
variable {x : Cx} {w : World} {id b : Nat} {o : Ob}
theorem put_kin (hI : Inv x) (h : PutOk x w id b) : Kin x (x.put w id o) := by
  obtain ⟨oo, h1, h2⟩ := h.live
  refine ⟨fun _ h => h, fun k hk => h.other k (fun e => ?_)⟩
  subst e
  exact hI.off id k oo h1 h2 h.at_ hk

theorem put_idOk (hI : Inv x) (h : PutOk x w id b) (hkind : match x.H[id]? with
    | some (.box _) => ∃ cs, o = .box cs
    | some (.arr e t xs) => ∃ xs', o = .arr e t xs' ∧ xs.length ≤ xs'.length
    | some (.mp t _) => ∃ xs, o = .mp t xs
    | some (.tb _) => ∃ xs, o = .tb xs
    | _ => True) (j : Nat) : IdOk x (x.put w id o) j := by
  have hlt : id < x.H.length := by
    obtain ⟨oo, h1, _⟩ := h.live
    exact (List.getElem?_eq_some_iff.1 h1).1
  by_cases e : j = id
  · subst e
    unfold IdOk
    have hnew : (x.put w j o).H[j]? = some o := by simp [Cx.put, hlt]
    cases hx : x.H[j]? with
    | none => trivial
    | some oo =>
      cases oo with
      | dead => trivial
      | box cs =>
        simp only [hx] at hkind
        obtain ⟨cs', rfl⟩ := hkind
        exact ⟨⟨cs', hnew⟩, rfl⟩
      | mp t xs =>
        simp only [hx] at hkind
        obtain ⟨xs', rfl⟩ := hkind
        exact ⟨⟨xs', hnew⟩, rfl⟩
      | tb xs =>
        simp only [hx] at hkind
        obtain ⟨xs', rfl⟩ := hkind
        exact ⟨⟨xs', hnew⟩, rfl⟩
      | arr e t xs =>
        simp only [hx] at hkind
        obtain ⟨xs', rfl, hl⟩ := hkind
        refine ⟨xs', hnew, hl, rfl, fun k hk cur' e' fr' hc => ?_⟩
        have : k = b := by rw [h.at_] at hk; exact (Option.some.inj hk).symm
        subst this
        obtain ⟨cur, e2, fr2, h3, h4⟩ := h.len cur' e' fr' hc
        exact ⟨cur, e2, fr2, h3, Nat.le_of_eq h4⟩
  · unfold IdOk
    have hH : (x.put w id o).H[j]? = x.H[j]? := by simp [Cx.put, List.getElem?_set_ne (Ne.symm e)]
    cases hx : x.H[j]? with
    | none => trivial
    | some oo =>
      cases oo with
      | dead => trivial
      | box cs => exact ⟨⟨cs, by rw [hH, hx]⟩, rfl⟩
      | mp t xs => exact ⟨⟨xs, by rw [hH, hx]⟩, rfl⟩
      | tb xs => exact ⟨⟨xs, by rw [hH, hx]⟩, rfl⟩
      | arr e' t xs =>
        refine ⟨xs, by rw [hH, hx], Nat.le_refl _, rfl, fun k hk cur' e2 fr' hc => ?_⟩
        have hne : k ≠ b := fun hkb => by
          subst hkb
          obtain ⟨o', h1, h2⟩ := h.live
          exact e (hI.inj j id k _ _ hx h1 (by simp) h2 hk h.at_)
        have : (x.put w id o).w.heap[k]? = x.w.heap[k]? := h.other k hne
        rw [this] at hc
        exact ⟨cur', e2, fr', hc, Nat.le_refl _⟩

theorem put_inv (hI : Inv x) (h : PutOk x w id b) (hk : ∀ j, j < x.H.length → IdOk x (x.put w id o) j) (hd : o ≠ .dead) (ho : ObRep (x.put w id o) id o) : Inv (x.put w id o) := by
  obtain ⟨o', h1, h2⟩ := h.live
  have hlt : id < x.H.length := (List.getElem?_eq_some_iff.1 h1).1
  have get : ∀ (i : Nat) (oi : Ob), (x.put w id o).H[i]? = some oi → oi ≠ Ob.dead → ∃ q : Ob, x.H[i]? = some q ∧ q ≠ Ob.dead := fun i oi hi hdi => by
    by_cases e : i = id
    · subst e; exact ⟨o', h1, h2⟩
    · have : (x.put w id o).H[i]? = x.H[i]? := by simp [Cx.put, List.getElem?_set_ne (Ne.symm e)]
      exact ⟨oi, by rw [← this]; exact hi, hdi⟩
  refine ⟨fun k hk => by simpa [Cx.put, h.size] using hI.okb k hk, fun i j k oi oj hi hj hdi hdj hk1 hk2 => ?_, fun i k oi hi hdi hk => ?_, fun i oi hi => ?_, hI.tab.kin (put_kin hI h)⟩
  · obtain ⟨q, hq, hqd⟩ := get i oi hi hdi
    obtain ⟨q', hq', hqd'⟩ := get j oj hj hdj
    exact hI.inj i j k q q' hq hq' hqd hqd' hk1 hk2
  · obtain ⟨q, hq, hqd⟩ := get i oi hi hdi
    exact hI.off i k q hq hqd hk
  · by_cases e : i = id
    · subst e
      have hnew : (x.put w i o).H[i]? = some o := by simp [Cx.put, hlt]
      rw [hnew] at hi; cases hi
      exact ho
    · have hH : (x.put w id o).H[i]? = x.H[i]? := by simp [Cx.put, List.getElem?_set_ne (Ne.symm e)]
      rw [hH] at hi
      cases oi with
      | dead => trivial
      | _ =>
        refine (hI.obs i _ hi).keep (put_kin hI h) (Carry.id_of (put_kin hI h) hk) rfl (fun k hk => h.other k (fun hkb => ?_))
        subst hkb
        exact e (hI.inj i id k _ _ hi h1 (by simp) h2 hk h.at_)

theorem put_kept (hI : Inv x) (h : PutOk x w id b) (hd : o ≠ .dead) : Kept x (x.put w id o) := by
  obtain ⟨o', h1, h2⟩ := h.live
  refine ⟨h.os, h.tape, h.output, Nat.le_of_eq h.size.symm, fun k hk hm => h.other k (fun e => hm ⟨id, o', h1, h2, by rw [h.at_, e]⟩), fun k hk => ?_, fun _ h => h, fun _ h => .inl h⟩
  obtain ⟨i, oi, h3, h4, h5⟩ := hk
  by_cases e : i = id
  · subst e; exact .inl ⟨i, o', h1, h2, h5⟩
  · have hH : (x.put w id o).H[i]? = x.H[i]? := by simp [Cx.put, List.getElem?_set_ne (Ne.symm e)]
    rw [hH] at h3
    exact .inl ⟨i, oi, h3, h4, h5⟩
end

end Go.Proofs.YtiolbhmbobelcaaGreatDoor.AI
