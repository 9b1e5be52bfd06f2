/- A part of the proof. -/
import Derived.Test.YtefddghdaimklaaGreatDoorAie
import Derived.Great.BuildSlice
set_option linter.unusedVariables false
set_option linter.unusedSimpArgs false
namespace Go.Proofs.YtefddghdaimklaaGreatDoor.AI
open Go
structure Kept (x y : Cx) : Prop where
 os : y.w.os = x.w.os
 tape : y.w.tape = x.w.tape
 output : y.w.output = x.w.output
 size : x.w.heap.size ≤ y.w.heap.size
 block : ∀ b, b < x.w.heap.size → ¬ x.mine b → y.w.heap[b]? = x.w.heap[b]?
 mine : ∀ b, y.mine b → x.mine b ∨ x.w.heap.size ≤ b
 ok : ∀ b, x.ok b → y.ok b
 oknew : ∀ b, y.ok b → x.ok b ∨ x.mine b ∨ x.w.heap.size ≤ b
theorem Kept.refl (x : Cx) : Kept x x := ⟨rfl, rfl, rfl, NF _, fun _ _ _ => rfl, fun _ h => .inl h, fun _ h => h, fun _ h => .inl h⟩
theorem Kept.trans {x y z : Cx} (h : Kept x y) (k : Kept y z) : Kept x z := by
 refine ⟨k.os.trans h.os, k.tape.trans h.tape, k.output.trans h.output, Nat.le_trans h.size k.size, fun b hb hm => ?_, fun b hb => ?_, fun b hb => k.ok b (h.ok b hb), fun b hb => ?_⟩
 ·have h1 : ¬ y.mine b := fun hy => (h.mine b hy).elim hm (fun h2 => by omega)
  rw [k.block b (Nat.lt_of_lt_of_le hb h.size) h1, h.block b hb hm]
 ·rcases k.mine b hb with h1 | h1
  ·exact h.mine b h1
  ·exact .inr (Nat.le_trans h.size h1)
 ·rcases k.oknew b hb with h1 | h1 | h1
  ·exact h.oknew b h1
  ·rcases h.mine b h1 with h2 | h2
   ·exact .inr (.inl h2)
   ·exact .inr (.inr h2)
  ·exact .inr (.inr (Nat.le_trans h.size h1))
theorem Inv.notMine {x : Cx} (hI : Inv x) {b : Nat} (hb : x.ok b) : ¬ x.mine b := by
 rintro ⟨i, o, h1, h2, h3⟩
 exact hI.off i b o h1 h2 h3 hb
theorem Kept.kin {x y : Cx} (hI : Inv x) (h : Kept x y) : Kin x y :=
 ⟨h.ok, fun b hb => h.block b (hI.okb b hb) (hI.notMine hb)⟩
theorem Inv.lt {x : Cx} (hI : Inv x) {i b : Nat} {o : Ob} (h : x.H[i]? = some o) (hd : o ≠ .dead) (hb : x.at_ i = some b) : b < x.w.heap.size := by
 have ho := hI.obs i o h
 cases o with
 | box cs =>
  obtain ⟨b', vs, e, h1, h2, h3⟩ := ho
  rw [hb] at h1; cases h1
  exact (Array.getElem?_eq_some_iff.1 h2).1
 | arr e t xs =>
  simp only [ObRep, hb] at ho
  obtain ⟨cur, h2, h3⟩ := ho
  exact (Array.getElem?_eq_some_iff.1 h2).1
 | mp t xs =>
  obtain ⟨b', h1, es, c, h2, _⟩ := ho
  rw [hb] at h1; cases h1
  exact (Array.getElem?_eq_some_iff.1 h2).1
 | tb xs =>
  obtain ⟨b', h1, es, c, h2, _⟩ := ho
  rw [hb] at h1; cases h1
  exact (Array.getElem?_eq_some_iff.1 h2).1
 | dead => exact absurd rfl hd
theorem ObRep.move {x y : Cx} (hk : Kin x y) {s : Sub} (hc : Carry s.c x y) {i : Nat} (hat : y.at_ i = x.at_ i) (hb : ∀ b, x.at_ i = some b → y.w.heap[b]? = x.w.heap[b]?) {o : Ob} (h : ObRep x i o) : ObRep y i (s.ob o) := by
 cases o with
 | box cs =>
  obtain ⟨b, vs, e, h1, h2, h3⟩ := h
  exact ⟨b, vs, e, by rw [hat, h1], by rw [hb b h1, h2], RepCs.carry hc _ _ h3⟩
 | arr e t xs =>
  simp only [ObRep, Sub.ob, hat] at h ⊢
  cases ha : x.at_ i with
  | none => simpa [ha] using h
  | some b =>
   simp only [ha] at h ⊢
   obtain ⟨cur, h1, h2, h3⟩ := h
   refine ⟨cur, by rw [hb b ha, h1], h2, fun j d hj => ?_⟩
   obtain ⟨vs, h4, h5⟩ := h3 j d hj
   exact ⟨vs, RepT.kin hk h4, h5⟩
 | mp t xs =>
  obtain ⟨b, h1, h2⟩ := h
  exact ⟨b, by rw [hat, h1], by rw [hb b h1]; exact h2⟩
 | tb xs =>
  obtain ⟨b, h1, h2⟩ := h
  exact ⟨b, by rw [hat, h1], by rw [hb b h1]; exact h2⟩
 | dead => trivial
theorem ObRep.keep {x y : Cx} (hk : Kin x y) (hc : Carry (fun c => c) x y) {i : Nat} (hat : y.at_ i = x.at_ i) (hb : ∀ b, x.at_ i = some b → y.w.heap[b]? = x.w.heap[b]?) {o : Ob} (h : ObRep x i o) : ObRep y i o := by
 cases o with
 | box cs =>
  obtain ⟨b, vs, e, h1, h2, h3⟩ := h
  exact ⟨b, vs, e, by rw [hat, h1], by rw [hb b h1, h2], RepCs.keep hc h3⟩
 | arr e t xs =>
  simp only [ObRep, hat] at h ⊢
  cases ha : x.at_ i with
  | none => simpa [ha] using h
  | some b =>
   simp only [ha] at h ⊢
   obtain ⟨cur, h1, h2, h3⟩ := h
   refine ⟨cur, by rw [hb b ha, h1], h2, fun j d hj => ?_⟩
   obtain ⟨vs, h4, h5⟩ := h3 j d hj
   exact ⟨vs, RepT.kin hk h4, h5⟩
 | mp t xs =>
  obtain ⟨b, h1, h2⟩ := h
  exact ⟨b, by rw [hat, h1], by rw [hb b h1]; exact h2⟩
 | tb xs =>
  obtain ⟨b, h1, h2⟩ := h
  exact ⟨b, by rw [hat, h1], by rw [hb b h1]; exact h2⟩
 | dead => trivial
theorem IdOk.same {x y : Cx} (hI : Inv x) {id : Nat} (hH : y.H[id]? = x.H[id]?) (hat : y.at_ id = x.at_ id) (hb : ∀ b, x.at_ id = some b → b < x.w.heap.size → y.w.heap[b]? = x.w.heap[b]?) : IdOk x y id := by
 unfold IdOk
 cases h : x.H[id]? with
 | none => trivial
 | some o =>
  cases o with
  | dead => trivial
  | box cs => exact ⟨⟨cs, by rw [hH, h]⟩, hat⟩
  | mp t xs => exact ⟨⟨xs, by rw [hH, h]⟩, hat⟩
  | tb xs => exact ⟨⟨xs, by rw [hH, h]⟩, hat⟩
  | arr e t xs =>
   refine ⟨xs, by rw [hH, h], NF _, hat, fun b hb' cur' e' fr' hc => ?_⟩
   have hlt := hI.lt h (by simp) hb'
   rw [hb b hb' hlt] at hc
   exact ⟨cur', e', fr', hc, NF _⟩
def Cx.withW (x : Cx) (w : World) : Cx := { x with w := w }
theorem s6 {x : Cx} {w : World} (hh : w.heap = x.w.heap) : Kin x (x.withW w) := ⟨fun _ h => h, fun b _ => by simp [Cx.withW, hh]⟩
theorem rz {x : Cx} (hI : Inv x) {w : World} (hh : w.heap = x.w.heap) (id : Nat) : IdOk x (x.withW w) id := IdOk.same hI rfl rfl (fun b _ _ => by simp [Cx.withW, hh])
theorem oe {x : Cx} (hI : Inv x) {w : World} (hh : w.heap = x.w.heap) : Carry (fun c => c) x (x.withW w) := Carry.id_of (s6 hh) (fun id _ => rz hI hh id)
theorem jl {x : Cx} (hI : Inv x) {w : World} (hh : w.heap = x.w.heap) : Inv (x.withW w) :=
 ⟨fun b hb => by simpa [Cx.withW, hh] using hI.okb b hb, hI.inj, hI.off, fun i o h => (hI.obs i o h).keep (s6 hh) (oe hI hh) rfl (fun b _ => by simp [Cx.withW, hh]), hI.tab.kin (s6 hh)⟩
theorem nk {x : Cx} {w : World} (hh : w.heap = x.w.heap) (h1 : w.os = x.w.os) (h2 : w.tape = x.w.tape) (h3 : w.output = x.w.output) : Kept x (x.withW w) :=
 ⟨h1, h2, h3, by simp [Cx.withW, hh], fun b _ _ => by simp [Cx.withW, hh], fun b h => .inl h, fun _ h => h, fun _ h => .inl h⟩
def Cx.push (x : Cx) (w : World) (b : Option Nat) (o : Ob) : Cx := { ok := x.ok, at_ := fun i => if i = x.H.length then b else x.at_ i, w := w, H := x.H ++ [o] }
structure PushOk (x : Cx) (w : World) (b : Option Nat) : Prop where
 os : w.os = x.w.os
 tape : w.tape = x.w.tape
 output : w.output = x.w.output
 size : x.w.heap.size ≤ w.heap.size
 old : ∀ k, k < x.w.heap.size → w.heap[k]? = x.w.heap[k]?
 new : ∀ k, b = some k → x.w.heap.size ≤ k ∧ k < w.heap.size
section
variable {x : Cx} {w : World} {b : Option Nat} {o : Ob}
theorem xE (hI : Inv x) (h : PushOk x w b) : Kin x (x.push w b o) := ⟨fun _ h => h, fun k hk => h.old k (hI.okb k hk)⟩
theorem mm {i : Nat} (hi : i < x.H.length) : (x.push w b o).H[i]? = x.H[i]? := by simp [Cx.push, List.getElem?_append_left hi]
theorem zW : (x.push w b o).H[x.H.length]? = some o := by simp [Cx.push]
theorem vZ {i : Nat} (hi : i < x.H.length) : (x.push w b o).at_ i = x.at_ i := by simp [Cx.push]; omega
theorem zv : (x.push w b o).at_ x.H.length = b := by simp [Cx.push]
theorem vI (hI : Inv x) (h : PushOk x w b) {id : Nat} (hi : id < x.H.length) : IdOk x (x.push w b o) id :=
 IdOk.same hI (mm hi) (vZ hi) (fun k hk hlt => h.old k hlt)
theorem td (hI : Inv x) (h : PushOk x w b) : Carry (fun c => c) x (x.push w b o) := Carry.id_of (xE hI h) (fun id hid => vI hI h hid)
theorem mY (hI : Inv x) (h : PushOk x w b) (ho : ObRep (x.push w b o) x.H.length o) : Inv (x.push w b o) := by
 have old : ∀ i oi, (x.push w b o).H[i]? = some oi → i ≠ x.H.length → i < x.H.length ∧ x.H[i]? = some oi := fun i oi hi hne => by
  have hl : i < x.H.length := by
   rcases Nat.lt_or_ge i x.H.length with h1 | h1
   ·exact h1
   ·rw [List.getElem?_eq_none (by simp [Cx.push]; omega)] at hi; cases hi
  exact ⟨hl, by rw [← hi, mm hl]⟩
 refine ⟨fun k hk => Nat.lt_of_lt_of_le (hI.okb k hk) h.size, fun i j k oi oj hi hj hdi hdj hk1 hk2 => ?_, fun i k oi hi hd hk => ?_, fun i oi hi => ?_, hI.tab.kin (xE hI h)⟩
 ·by_cases e1 : i = x.H.length <;> by_cases e2 : j = x.H.length
  ·rw [e1, e2]
  ·subst e1
   obtain ⟨hl, hj'⟩ := old j oj hj e2
   rw [zv] at hk1
   rw [vZ hl] at hk2
   have := hI.lt hj' hdj hk2
   have := (h.new k hk1).1
   omega
  ·subst e2
   obtain ⟨hl, hi'⟩ := old i oi hi e1
   rw [zv] at hk2
   rw [vZ hl] at hk1
   have := hI.lt hi' hdi hk1
   have := (h.new k hk2).1
   omega
  ·obtain ⟨hl, hi'⟩ := old i oi hi e1
   obtain ⟨hl2, hj'⟩ := old j oj hj e2
   rw [vZ hl] at hk1
   rw [vZ hl2] at hk2
   exact hI.inj i j k oi oj hi' hj' hdi hdj hk1 hk2
 ·by_cases e1 : i = x.H.length
  ·subst e1
   rw [zv] at hk
   intro hok
   have := hI.okb k hok
   have := (h.new k hk).1
   omega
  ·obtain ⟨hl, hi'⟩ := old i oi hi e1
   rw [vZ hl] at hk
   exact hI.off i k oi hi' hd hk
 ·by_cases e1 : i = x.H.length
  ·subst e1
   rw [zW] at hi
   cases hi
   exact ho
  ·obtain ⟨hl, hi'⟩ := old i oi hi e1
   cases oi with
   | dead => trivial
   | _ => exact (hI.obs i _ hi').keep (xE hI h) (td hI h) (vZ hl) (fun k hk => h.old k (hI.lt hi' (by simp) hk))
theorem uy (hI : Inv x) (h : PushOk x w b) : Kept x (x.push w b o) := by
 refine ⟨h.os, h.tape, h.output, h.size, fun k hk _ => h.old k hk, fun k hk => ?_, fun _ h => h, fun _ h => .inl h⟩
 obtain ⟨i, oi, h1, h2, h3⟩ := hk
 by_cases e1 : i = x.H.length
 ·subst e1
  rw [zv] at h3
  exact .inr (h.new k h3).1
 ·have hl : i < x.H.length := by
   rcases Nat.lt_or_ge i x.H.length with h4 | h4
   ·exact h4
   ·rw [List.getElem?_eq_none (by simp [Cx.push]; omega)] at h1; cases h1
  rw [mm hl] at h1
  rw [vZ hl] at h3
  exact .inl ⟨i, oi, h1, h2, h3⟩
end
theorem xN (x : Cx) (vs : Array Value) (e : TypeId) : PushOk x (x.w.alloc (.cells vs e)) (some x.w.heap.size) :=
 ⟨rfl, rfl, rfl, by simp, fun k hk => by first | exact heap_alloc_old x.w _ k hk | exact heap_alloc_old x.w _ hk, fun k hk => by cases hk; simp⟩
theorem xX (x : Cx) (vs : Array Value) (e : TypeId) : PushOk x (x.w.drew.alloc (.cells vs e)) (some x.w.heap.size) :=
 ⟨rfl, rfl, rfl, by simp, fun k hk => by first | exact heap_alloc_old x.w.drew _ k hk | exact heap_alloc_old x.w.drew _ hk, fun k hk => by cases hk; simp⟩
theorem wu (x : Cx) : PushOk x x.w none := ⟨rfl, rfl, rfl, NF _, fun _ _ => rfl, fun k hk => by cases hk⟩
theorem gX {x : Cx} (hI : Inv x) {vs : Array Value} {cs : List C} (e : TypeId) (hr : RepCs x cs vs.toList) :
  Inv (x.push (x.w.alloc (.cells vs e)) (some x.w.heap.size) (.box cs)) ∧ RepV (x.push (x.w.alloc (.cells vs e)) (some x.w.heap.size) (.box cs)) (.val false [.ptr x.H.length 0]) (.pointer (some ⟨x.w.heap.size, 0, none⟩)) := by
 have hp := xN x vs e
 refine ⟨mY hI hp ⟨x.w.heap.size, vs, e, zv, heap_alloc_new x.w _, RepCs.keep (td hI hp) hr⟩, zF ⟨rfl, ?_⟩⟩
 show RepP _ _ _ _
 unfold RepP
 rw [zW]
 exact ⟨_, zv, rfl⟩
def Cx.put (x : Cx) (w : World) (id : Nat) (o : Ob) : Cx := { x with w := w, H := x.H.set id o }
structure PutOk (x : Cx) (w : World) (id b : Nat) : Prop where
 os : w.os = x.w.os
 tape : w.tape = x.w.tape
 output : w.output = x.w.output
 size : w.heap.size = x.w.heap.size
 other : ∀ k, k ≠ b → w.heap[k]? = x.w.heap[k]?
 live : ∃ o, x.H[id]? = some o ∧ o ≠ .dead
 at_ : x.at_ id = some b
 len : ∀ cur' e' fr', w.heap[b]? = some (.cells cur' e' fr') → ∃ cur e fr, x.w.heap[b]? = some (.cells cur e fr) ∧ cur.size = cur'.size
section
variable {x : Cx} {w : World} {id b : Nat} {o : Ob}
theorem uB (hI : Inv x) (h : PutOk x w id b) : Kin x (x.put w id o) := by
 obtain ⟨oo, h1, h2⟩ := h.live
 refine ⟨fun _ h => h, fun k hk => h.other k (fun e => ?_)⟩
 subst e
 exact hI.off id k oo h1 h2 h.at_ hk
theorem tn (hI : Inv x) (h : PutOk x w id b) (hkind : match x.H[id]? with
  | some (.box _) => ∃ cs, o = .box cs
  | some (.arr e t xs) => ∃ xs', o = .arr e t xs' ∧ xs.length ≤ xs'.length
  | some (.mp t _) => ∃ xs, o = .mp t xs
  | some (.tb _) => ∃ xs, o = .tb xs
  | _ => True) (j : Nat) : IdOk x (x.put w id o) j := by
 have hlt : id < x.H.length := by
  obtain ⟨oo, h1, _⟩ := h.live
  exact (NB.1 h1).1
 by_cases e : j = id
 ·subst e
  unfold IdOk
  have hnew : (x.put w j o).H[j]? = some o := by simp [Cx.put, hlt]
  cases hx : x.H[j]? with
  | none => trivial
  | some oo =>
   cases oo with
   | dead => trivial
   | box cs =>
    simp only [hx] at hkind
    obtain ⟨cs', rfl⟩ := hkind
    exact ⟨⟨cs', hnew⟩, rfl⟩
   | mp t xs =>
    simp only [hx] at hkind
    obtain ⟨xs', rfl⟩ := hkind
    exact ⟨⟨xs', hnew⟩, rfl⟩
   | tb xs =>
    simp only [hx] at hkind
    obtain ⟨xs', rfl⟩ := hkind
    exact ⟨⟨xs', hnew⟩, rfl⟩
   | arr e t xs =>
    simp only [hx] at hkind
    obtain ⟨xs', rfl, hl⟩ := hkind
    refine ⟨xs', hnew, hl, rfl, fun k hk cur' e' fr' hc => ?_⟩
    have : k = b := by rw [h.at_] at hk; exact (Option.some.inj hk).symm
    subst this
    obtain ⟨cur, e2, fr2, h3, h4⟩ := h.len cur' e' fr' hc
    exact ⟨cur, e2, fr2, h3, Nat.le_of_eq h4⟩
 ·unfold IdOk
  have hH : (x.put w id o).H[j]? = x.H[j]? := by simp [Cx.put, List.getElem?_set_ne (Ne.symm e)]
  cases hx : x.H[j]? with
  | none => trivial
  | some oo =>
   cases oo with
   | dead => trivial
   | box cs => exact ⟨⟨cs, by rw [hH, hx]⟩, rfl⟩
   | mp t xs => exact ⟨⟨xs, by rw [hH, hx]⟩, rfl⟩
   | tb xs => exact ⟨⟨xs, by rw [hH, hx]⟩, rfl⟩
   | arr e' t xs =>
    refine ⟨xs, by rw [hH, hx], NF _, rfl, fun k hk cur' e2 fr' hc => ?_⟩
    have hne : k ≠ b := fun hkb => by
     subst hkb
     obtain ⟨o', h1, h2⟩ := h.live
     exact e (hI.inj j id k _ _ hx h1 (by simp) h2 hk h.at_)
    have : (x.put w id o).w.heap[k]? = x.w.heap[k]? := h.other k hne
    rw [this] at hc
    exact ⟨cur', e2, fr', hc, NF _⟩
theorem iT (hI : Inv x) (h : PutOk x w id b) (hk : ∀ j, j < x.H.length → IdOk x (x.put w id o) j) (hd : o ≠ .dead) (ho : ObRep (x.put w id o) id o) : Inv (x.put w id o) := by
 obtain ⟨o', h1, h2⟩ := h.live
 have hlt : id < x.H.length := (NB.1 h1).1
 have get : ∀ (i : Nat) (oi : Ob), (x.put w id o).H[i]? = some oi → oi ≠ Ob.dead → ∃ q : Ob, x.H[i]? = some q ∧ q ≠ Ob.dead := fun i oi hi hdi => by
  by_cases e : i = id
  ·subst e; exact ⟨o', h1, h2⟩
  ·have : (x.put w id o).H[i]? = x.H[i]? := by simp [Cx.put, List.getElem?_set_ne (Ne.symm e)]
   exact ⟨oi, by rw [← this]; exact hi, hdi⟩
 refine ⟨fun k hk => by simpa [Cx.put, h.size] using hI.okb k hk, fun i j k oi oj hi hj hdi hdj hk1 hk2 => ?_, fun i k oi hi hdi hk => ?_, fun i oi hi => ?_, hI.tab.kin (uB hI h)⟩
 ·obtain ⟨q, hq, hqd⟩ := get i oi hi hdi
  obtain ⟨q', hq', hqd'⟩ := get j oj hj hdj
  exact hI.inj i j k q q' hq hq' hqd hqd' hk1 hk2
 ·obtain ⟨q, hq, hqd⟩ := get i oi hi hdi
  exact hI.off i k q hq hqd hk
 ·by_cases e : i = id
  ·subst e
   have hnew : (x.put w i o).H[i]? = some o := by simp [Cx.put, hlt]
   rw [hnew] at hi; cases hi
   exact ho
  ·have hH : (x.put w id o).H[i]? = x.H[i]? := by simp [Cx.put, List.getElem?_set_ne (Ne.symm e)]
   rw [hH] at hi
   cases oi with
   | dead => trivial
   | _ =>
    refine (hI.obs i _ hi).keep (uB hI h) (Carry.id_of (uB hI h) hk) rfl (fun k hk => h.other k (fun hkb => ?_))
    subst hkb
    exact e (hI.inj i id k _ _ hi h1 (by simp) h2 hk h.at_)
theorem mN (hI : Inv x) (h : PutOk x w id b) (hd : o ≠ .dead) : Kept x (x.put w id o) := by
 obtain ⟨o', h1, h2⟩ := h.live
 refine ⟨h.os, h.tape, h.output, Nat.le_of_eq h.size.symm, fun k hk hm => h.other k (fun e => hm ⟨id, o', h1, h2, by rw [h.at_, e]⟩), fun k hk => ?_, fun _ h => h, fun _ h => .inl h⟩
 obtain ⟨i, oi, h3, h4, h5⟩ := hk
 by_cases e : i = id
 ·subst e; exact .inl ⟨i, o', h1, h2, h5⟩
 ·have hH : (x.put w id o).H[i]? = x.H[i]? := by simp [Cx.put, List.getElem?_set_ne (Ne.symm e)]
  rw [hH] at h3
  exact .inl ⟨i, oi, h3, h4, h5⟩
end
end Go.Proofs.YtefddghdaimklaaGreatDoor.AI
namespace Go.Proofs.YtefddghdaimklaaGreatDoor.AI
open Go
theorem yW {x : Cx} {g : Bool} {cs : List C} {v : Value} (h : Rep1 x (g, cs) v) : RepCs x cs v.cells.toList := by
 cases g with
 | true => obtain ⟨vs, rfl, h2⟩ := h; exact h2
 | false =>
  have h1 : v.oneCell' = true := (RepCs.len _ _ (show RepCs x cs [v] from h)).2 v (by simp)
  have : v.cells = #[v] := by cases v <;> simp_all [Value.cells, Value.oneCell']
  rw [this]; exact h
theorem ql : ∀ (vs : List Value) (off k : Nat) (cells : Array Value), off + k + vs.length ≤ cells.size →
  (vs.zipIdx k).foldl (fun cs p => cs.setIfInBounds (off + p.2) p.1) cells = (cells.toList.take (off + k) ++ vs ++ cells.toList.drop (off + k + vs.length)).toArray
 | [], off, k, cells, _ => by simp
 | v :: r, off, k, cells, h => by
  have h1 : off + (k + 1) + r.length ≤ (cells.setIfInBounds (off + k) v).size := by simp at h ⊢; omega
  rw [List.zipIdx_cons, List.foldl_cons, ql r off (k + 1) _ h1]
  congr 1
  have e := list_seg_step cells.toList (off + k) v r (by simp at h ⊢; omega)
  simpa [Array.toList_setIfInBounds, Nat.add_assoc] using e
theorem kB {place : Nat → Option (Nat × Nat)} {cells : Array Value} {i off size : Nat} {v : Value} {rest : List (Nat × Value)} (hp : place i = some (off, size)) (hs : v.cells.size = size) (hf : off + size ≤ cells.size) :
  Instr.fill place cells ((i, v) :: rest) = Instr.fill place (cells.toList.take off ++ v.cells.toList ++ cells.toList.drop (off + size)).toArray rest := by
 subst hs
 have e := ql v.cells.toList off 0 cells (by simpa using hf)
 simp only [Nat.add_zero, Array.length_toList] at e
 simp only [Instr.fill, hp]
 rw [if_neg (by simp; omega)]
 congr 1
 rw [← Array.foldl_toList, Array.toList_zipIdx]
 exact e
theorem tU {x : Cx} {fs : List (Nat × Nat × Bool)} {ev : Operand → AV} {ρ : Operand → Value} (hev : ∀ o, RepV x (ev o) (ρ o)) :
  ∀ (parts : List (Nat × Operand)) (cs cs' : List C) (cells : Array Value), mJ fs ev cs parts = some cs' → RepCs x cs cells.toList →
   ∃ cells', Instr.fill (((fs.map fun p => (p.1, p.2.1)).toArray)[·]?) cells (parts.map fun p => (p.1, ρ p.2)) = some cells' ∧ RepCs x cs' cells'.toList
 | [], cs, cs', cells, h, hr => by
  simp [mJ] at h; subst h
  exact ⟨cells, rfl, hr⟩
 | (j, o) :: r, cs, cs', cells, h, hr => by
  unfold mJ at h
  split at h
  ·rename_i off size g g' vs hf ho
   split at h
   ·rename_i hc
    have ho' := hev o
    rw [ho] at ho'
    have h1 := yW ho'
    have hl := (RepCs.len _ _ h1).1
    have hl2 := (RepCs.len _ _ hr).1
    simp only [Array.length_toList] at hl hl2
    simp only [NN]
    rw [kB (off := off) (size := size) (by simp [hf]) (by omega) (by omega)]
    exact tU hev r _ _ _ h (RepCs.append _ _ _ _ (RepCs.append _ _ _ _ (RepCs.take _ _ _ hr) h1) (RepCs.drop _ _ _ hr))
   ·cases h
  ·cases h
theorem jJ {fs : List (Nat × Nat)} {size : Nat} (h : ∀ i p, fs[i]? = some p → p = (i * size, size)) : ∀ (parts : List (Nat × Value)) (cells cells' : Array Value), Instr.fill (fs.toArray[·]?) cells parts = some cells' → Instr.fill (fun i => some (i * size, size)) cells parts = some cells'
 | [], cells, cells', e => e
 | (i, v) :: r, cells, cells', e => by
  unfold Instr.fill at e ⊢
  cases hp : fs.toArray[i]? with
  | none => simp only [hp] at e; cases e
  | some p =>
   have hp' := h i p (by simpa using hp)
   subst hp'
   simp only [hp] at e
   simp only
   split at e
   ·cases e
   ·rename_i hc
    rw [if_neg hc]
    exact jJ h r _ _ e
theorem xz {x : Cx} : ∀ (z : List Z), z.all Z.plain = true → RepCs x (z.map Z.cell) (z.map Z.val)
 | [], _ => rfl
 | z :: r, h => by
  simp only [List.all_cons, Nt] at h
  refine ⟨_, _, rfl, ?_, xz r h.2⟩
  cases z with
  | dat t => cases t <;> first | (exact ⟨rfl, rfl⟩) | (simp [Z.plain] at h)
  | nils => exact ⟨rfl, rfl⟩
  | nilp => exact ⟨rfl, rfl⟩
  | nilf => exact ⟨rfl, rfl⟩
  | nilm => exact ⟨rfl, rfl⟩
  | nili => exact ⟨rfl, rfl⟩
theorem pj {x : Cx} {t : Ty} {ev : Operand → AV} {ρ : Operand → Value} (hev : ∀ o, RepV x (ev o) (ρ o)) :
  ∀ (parts : List (Nat × Operand)) (k : Nat) (xs : List t.den), elems t ev k parts = some xs → xs.length = parts.length ∧
   ∀ (cells : Array Value), (k + parts.length) * t.size ≤ cells.size →
    ∃ cells', Instr.fill (fun i => some (i * t.size, t.size)) cells (parts.map fun p => (p.1, ρ p.2)) = some cells' ∧ cells'.size = cells.size ∧
     (∀ i, i < k * t.size → cells'[i]? = cells[i]?) ∧ ∀ i d, xs[i]? = some d → ∃ vs, RepT x.ok x.w t d vs ∧ ∀ j v, vs[j]? = some v → cells'[(k + i) * t.size + j]? = some v
 | [], k, xs, h => by
  simp [elems] at h; subst h
  exact ⟨rfl, fun cells _ => ⟨cells, rfl, rfl, fun _ _ => rfl, fun i d hi => by simp at hi⟩⟩
 | (j, o) :: r, k, xs, h => by
  unfold elems at h
  split at h
  ·rename_i hj
   subst hj
   split at h
   ·rename_i g cs ho
    split at h
    ·rename_i d hd
     split at h
     ·rename_i l hl
      cases h
      obtain ⟨h1, h2⟩ := pj hev r (k + 1) l hl
      refine ⟨by simp [h1], fun cells hsz => ?_⟩
      have ho' := hev o
      rw [ho] at ho'
      have h3 := yW ho'
      have h4 := zQ hd h3
      have h5 := (RepT.len _ _ _ h4).1
      simp only [Array.length_toList] at h5
      simp only [List.length_cons] at hsz
      have hk : k * t.size + t.size ≤ cells.size := by
       have : (k + 1) * t.size ≤ (k + (r.length + 1)) * t.size := NP _ (by omega)
       rw [Nat.add_mul, Nat.one_mul] at this
       omega
      simp only [NN]
      rw [kB (off := k * t.size) (size := t.size) rfl h5 hk]
      generalize hnew : (cells.toList.take (k * t.size) ++ (ρ o).cells.toList ++ cells.toList.drop (k * t.size + t.size)).toArray = new
      have hns : new.size = cells.size := by
       rw [← hnew]; simp [h5]; omega
      have hget : ∀ i, new[i]? = if i < k * t.size then cells[i]? else if i < k * t.size + t.size then (ρ o).cells[i - k * t.size]? else cells[i]? := by
       intro i
       rw [← hnew]
       simp only [List.getElem?_toArray, List.getElem?_append, NV, List.length_take, Array.length_toList, h5]
       have e1 : min (k * t.size) cells.size = k * t.size := Nat.min_eq_left (by omega)
       rw [e1]
       by_cases hi1 : i < k * t.size
       ·rw [if_pos (by omega), if_pos hi1, if_pos hi1, List.getElem?_take, if_pos hi1]; simp
       ·by_cases hi2 : i < k * t.size + t.size
        ·rw [if_pos hi2, if_neg hi1, if_neg hi1, if_pos hi2]; simp
        ·rw [if_neg hi2, if_neg hi1, if_neg hi2, List.getElem?_drop]
         simp only [Array.getElem?_toList]
         congr 1
         omega
      obtain ⟨cells', h6, h7, h8, h9⟩ := h2 new (by rw [hns]; rw [show k + 1 + r.length = k + (r.length + 1) by omega]; exact hsz)
      refine ⟨cells', h6, by rw [h7, hns], fun i hi => ?_, fun i d' hi => ?_⟩
      ·rw [h8 i (by rw [Nat.add_mul, Nat.one_mul]; omega), hget, if_pos hi]
      ·cases i with
       | zero =>
        simp at hi; subst hi
        refine ⟨_, h4, fun j v hj => ?_⟩
        have hjl : j < t.size := by
         rw [← h5]
         exact (Array.getElem?_eq_some_iff.1 (by simpa using hj)).1
        rw [Nat.add_zero, h8 _ (by rw [Nat.add_mul, Nat.one_mul]; omega), hget, if_neg (by omega), if_pos (by omega)]
        simpa [Nat.add_sub_cancel_left] using hj
       | succ i =>
        obtain ⟨vs, h10, h11⟩ := h9 i d' (by simpa using hi)
        refine ⟨vs, h10, fun j v hj => ?_⟩
        have := h11 j v hj
        rwa [show k + 1 + i = k + (i + 1) by omega] at this
     ·cases h
    ·cases h
   ·cases h
  ·cases h
end Go.Proofs.YtefddghdaimklaaGreatDoor.AI
namespace Go.Proofs.YtefddghdaimklaaGreatDoor.AI
open Go
def yN : List Nat → C → C
 | [], c => c
 | id :: r, c => yN r (Sub.c (.kill id) c)
structure Step (h0 : Nat) (ks : List Nat) (x y : Cx) : Prop where
 inv : Inv y
 kept : Kept x y
 ids : ∀ id, id < h0 → IdOk x y id
 carry : Carry (yN ks) x y
 len : x.H.length ≤ y.H.length
theorem Step.of_id {h0 : Nat} {x y : Cx} (hi : Inv y) (hk : Kept x y) (h0l : h0 ≤ x.H.length) (h : ∀ id, id < x.H.length → IdOk x y id) (hkin : Kin x y) (hl : x.H.length ≤ y.H.length) : Step h0 [] x y :=
 ⟨hi, hk, fun id hid => h id (by omega), Carry.id_of hkin h, hl⟩
theorem Step.refl {h0 : Nat} {x : Cx} (hI : Inv x) (h0l : h0 ≤ x.H.length) : Step h0 [] x x :=
 Step.of_id hI (Kept.refl x) h0l (fun id _ => IdOk.same hI rfl rfl (fun _ _ _ => rfl)) ⟨fun _ h => h, fun _ _ => rfl⟩ (NF _)
theorem i3 {α : Type} {R : α → List Value → Prop} {cell : Nat → Option Value} (hplain : ∀ d vs, R d vs → vU vs) (size : Nat) : ∀ (xs : List α) (base : Nat),
  (∀ i d, xs[i]? = some d → ∃ vs, R d vs ∧ vs.length = size ∧ ∀ j v, vs[j]? = some v → cell (base + i * size + j) = some v) →
  ∃ news : List Value, news.length = xs.length * size ∧ vU news ∧ (∀ j v, news[j]? = some v → cell (base + j) = some v) ∧
   ∀ i d, xs[i]? = some d → ∃ vs, R d vs ∧ vs.length = size ∧ ∀ j v, vs[j]? = some v → news[i * size + j]? = some v
 | [], base, _ => ⟨[], by simp, by simp [vU], fun j v hj => by simp at hj, fun i d hi => by simp at hi⟩
 | x :: r, base, h => by
  obtain ⟨vs, h1, h2, h3⟩ := h 0 x rfl
  obtain ⟨news, h4, h5, h6, h7⟩ := i3 hplain size r (base + size) (fun i d hi => by
   obtain ⟨us, q1, q2, q3⟩ := h (i + 1) d (by simpa using hi)
   refine ⟨us, q1, q2, fun j v hj => ?_⟩
   have := q3 j v hj
   rw [Nat.add_mul, Nat.one_mul] at this
   rw [← this]; congr 1; omega)
  refine ⟨vs ++ news, by simp [h2, h4, Nat.add_mul]; omega, fun v hv => ?_, fun j v hj => ?_, fun i d hi => ?_⟩
  ·rcases NS.1 hv with hv | hv
   ·exact hplain _ _ h1 v hv
   ·exact h5 v hv
  ·rw [List.getElem?_append] at hj
   split at hj
   ·have := h3 j v hj
    simpa using this
   ·have := h6 _ v hj
    rw [← this]; congr 1; omega
  ·cases i with
   | zero =>
    simp at hi; subst hi
    refine ⟨vs, h1, h2, fun j v hj => ?_⟩
    rw [Nat.zero_mul, Nat.zero_add, List.getElem?_append_left (NB.1 hj).1]
    exact hj
   | succ i =>
    obtain ⟨us, q1, q2, q3⟩ := h7 i d (by simpa using hi)
    refine ⟨us, q1, q2, fun j v hj => ?_⟩
    rw [List.getElem?_append_right (by rw [Nat.add_mul, Nat.one_mul]; omega)]
    have := q3 j v hj
    rw [← this]; congr 1
    rw [Nat.add_mul, Nat.one_mul]; omega
structure Src (x : Cx) (t : Ty) (ys : List t.den) (v : Value) : Prop where
 out : ∃ A c, v = .slice A ys.length c ∧ (ys ≠ [] → ∃ b off news, A = some ⟨b, off, none⟩ ∧ news.length = ys.length * t.size ∧ vU news ∧ (∀ j u, news[j]? = some u → x.w.cell? ⟨b, off + j, none⟩ = some u) ∧
  ∀ i d, ys[i]? = some d → ∃ vs, RepT x.ok x.w t d vs ∧ vs.length = t.size ∧ ∀ j u, vs[j]? = some u → news[i * t.size + j]? = some u)
theorem VM {x : Cx} {t : Ty} {ys : List t.den} {v : Value} (h : RepC x (.sc (.sl t) ys) v) : Src x t ys v := by
 obtain ⟨A, c, h1, h2, h3⟩ := h.2
 simp only [List.cons.injEq, and_true] at h1
 subst h1
 refine ⟨A, c, rfl, fun hne => ?_⟩
 obtain ⟨b, off, rfl, h4, h5⟩ := h3 hne
 obtain ⟨news, q1, q2, q3, q4⟩ := i3 (R := RepT x.ok x.w t) (cell := fun j => x.w.cell? ⟨b, j, none⟩) (fun d vs hr => (RepT.len _ _ _ hr).2) t.size ys off h5
 exact ⟨b, off, news, rfl, q1, q2, q3, q4⟩
theorem f7 {x : Cx} {id n : Nat} {e : TypeId} {t : Ty} {xs : List t.den} (hI : Inv x) (hx : x.H[id]? = some (.arr e t xs)) {v : Value} (h : RepC x (.own id n) v) : Src x t (xs.take n) v := by
 have h2 := h.2
 simp only [zV, hx] at h2
 obtain ⟨hn, h2⟩ := h2
 have hlen : (xs.take n).length = n := by simp [Nat.min_eq_left hn]
 cases hat : x.at_ id with
 | none =>
  simp only [hat] at h2
  obtain ⟨⟨A, rfl⟩, rfl⟩ := h2
  exact ⟨A, 0, by simp, fun hne => absurd (by simp) hne⟩
 | some b =>
  simp only [hat] at h2
  obtain ⟨c, rfl, h3, h4, h5⟩ := h2
  refine ⟨some ⟨b, 0, none⟩, c, by rw [hlen], fun hne => ?_⟩
  have ho := hI.obs _ _ hx
  simp only [ObRep, hat] at ho
  obtain ⟨cur, h6, h7, h8⟩ := ho
  obtain ⟨news, q1, q2, q3, q4⟩ := i3 (R := RepT x.ok x.w t) (cell := fun j => x.w.cell? ⟨b, j, none⟩) (fun d vs hr => (RepT.len _ _ _ hr).2) t.size (xs.take n) 0 (fun i d hi => by
   rw [List.getElem?_take] at hi
   split at hi
   ·obtain ⟨vs, r1, r2⟩ := h8 i d hi
    refine ⟨vs, r1, (RepT.len _ _ _ r1).1, fun j u hj => ?_⟩
    simp [World.cell?, h6, r2 j u hj]
   ·cases hi)
  exact ⟨b, 0, news, rfl, q1, q2, q3, q4⟩
theorem mR {x : Cx} (hI : Inv x) {c : C} {t : Ty} {ys : List t.den} (h : iH x.H c = some ⟨t, ys⟩) {v : Value} (hr : RepC x c v) : Src x t ys v := by
 unfold iH at h
 split at h
 ·cases h; exact VM hr
 ·cases h; exact VM (t := t) ⟨hr.1, hr.2.1⟩
 ·split at h
  ·rename_i e t' xs hx
   cases h
   exact f7 hI hx hr
  ·cases h
 ·cases h
theorem iL {x : Cx} (hI : Inv x) {c : C} {t : Ty} {ys : List t.den} (h : UX x.H t c = some ys) {v : Value} (hr : RepC x c v) : Src x t ys v := by
 unfold UX at h
 split at h
 ·cases h
  have h2 : v = .slice none 0 0 := hr.2
  subst h2
  exact ⟨none, 0, rfl, fun hne => absurd rfl hne⟩
 ·split at h
  ·rename_i u zs hs
   split at h
   ·rename_i hu
    subst hu
    cases h
    exact mR hI hs hr
   ·cases h
  ·cases h
def Cx.repl (x : Cx) (w : World) (id : Nat) (b : Option Nat) (o : Ob) : Cx :=
 {ok := x.ok, at_ := fun i => if i = id then b else x.at_ i, w := w, H := (Sub.h (.kill id) x.H).set id o }
structure ReplOk (x : Cx) (w : World) (id : Nat) (b : Option Nat) : Prop where
 os : w.os = x.w.os
 tape : w.tape = x.w.tape
 output : w.output = x.w.output
 size : x.w.heap.size ≤ w.heap.size
 other : ∀ k, k < x.w.heap.size → x.at_ id ≠ some k → w.heap[k]? = x.w.heap[k]?
 live : ∃ e t xs, x.H[id]? = some (.arr e t xs)
 new : ∀ k, b = some k → (x.at_ id = some k ∨ x.w.heap.size ≤ k) ∧ k < w.heap.size
section
variable {x : Cx} {w : World} {id : Nat} {b : Option Nat} {o : Ob}
theorem sD (hI : Inv x) (h : ReplOk x w id b) : Kin x (x.repl w id b o) := by
 obtain ⟨e, t, xs, hx⟩ := h.live
 refine ⟨fun _ h => h, fun k hk => h.other k (hI.okb k hk) (fun hat => hI.off id k _ hx (by simp) hat hk)⟩
theorem mi {i : Nat} (hne : i ≠ id) : (x.repl w id b o).H[i]? = (x.H[i]?).map (Sub.ob (.kill id)) := by
 simp [Cx.repl, Sub.h, List.getElem?_set_ne (Ne.symm hne)]
theorem xO (h : ReplOk x w id b) : (x.repl w id b o).H[id]? = some o := by
 obtain ⟨e, t, xs, hx⟩ := h.live
 have hlt := (NB.1 hx).1
 simp [Cx.repl, Sub.h, hlt]
theorem wC {i : Nat} (hne : i ≠ id) : (x.repl w id b o).at_ i = x.at_ i := by simp [Cx.repl, hne]
theorem z6 : (x.repl w id b o).at_ id = b := by simp [Cx.repl]
theorem gV (hI : Inv x) (h : ReplOk x w id b) {i k : Nat} {oi : Ob} (hne : i ≠ id) (hi : x.H[i]? = some oi) (hd : oi ≠ .dead) (hk : x.at_ i = some k) : w.heap[k]? = x.w.heap[k]? := by
 obtain ⟨e, t, xs, hx⟩ := h.live
 exact h.other k (hI.lt hi hd hk) (fun hat => hne (hI.inj i id k _ _ hi hx hd (by simp) hk hat))
theorem jp (hI : Inv x) (h : ReplOk x w id b) {j : Nat} (hne : j ≠ id) : IdOk x (x.repl w id b o) j := by
 unfold IdOk
 rw [mi hne]
 cases hx : x.H[j]? with
 | none => trivial
 | some oo =>
  cases oo with
  | dead => trivial
  | box cs => exact ⟨⟨_, rfl⟩, wC hne⟩
  | mp t xs => exact ⟨⟨_, rfl⟩, wC hne⟩
  | tb xs => exact ⟨⟨_, rfl⟩, wC hne⟩
  | arr e t xs =>
   refine ⟨xs, rfl, NF _, wC hne, fun k hk cur' e' fr' hc => ?_⟩
   have := gV hI h hne hx (by simp) hk
   have hc' : w.heap[k]? = some (.cells cur' e' fr') := hc
   rw [this] at hc'
   exact ⟨cur', e', fr', hc', NF _⟩
theorem np (hI : Inv x) (h : ReplOk x w id b) : Carry (Sub.c (.kill id)) x (x.repl w id b o) :=
 Carry.kill (sD hI h) id h.live (fun j _ hne => jp hI h hne)
theorem X9 (hI : Inv x) (h : ReplOk x w id b) (hd : o ≠ .dead) (ho : ObRep (x.repl w id b o) id o) : Inv (x.repl w id b o) := by
 obtain ⟨e, t, xs, hx⟩ := h.live
 have old : ∀ (i : Nat) (oi : Ob), i ≠ id → (x.repl w id b o).H[i]? = some oi → ∃ q : Ob, x.H[i]? = some q ∧ oi = Sub.ob (.kill id) q := fun i oi hne hi => by
  rw [mi hne] at hi
  cases hq : x.H[i]? with
  | none => simp [hq] at hi
  | some q => exact ⟨q, rfl, by simpa [hq] using hi.symm⟩
 have ndead : ∀ (q : Ob), Sub.ob (.kill id) q ≠ Ob.dead → q ≠ Ob.dead := fun q hq e => hq (by subst e; rfl)
 refine ⟨fun k hk => Nat.lt_of_lt_of_le (hI.okb k hk) h.size, fun i j k oi oj hi hj hdi hdj hk1 hk2 => ?_, fun i k oi hi hdi hk => ?_, fun i oi hi => ?_, hI.tab.kin (sD hI h)⟩
 ·by_cases e1 : i = id <;> by_cases e2 : j = id
  ·rw [e1, e2]
  ·subst e1
   obtain ⟨q, hq, rfl⟩ := old j oj e2 hj
   rw [z6] at hk1
   rw [wC e2] at hk2
   have hlt := hI.lt hq (ndead _ hdj) hk2
   rcases (h.new k hk1).1 with h1 | h1
   ·exact (hI.inj i j k _ _ hx hq (by simp) (ndead _ hdj) h1 hk2)
   ·omega
  ·subst e2
   obtain ⟨q, hq, rfl⟩ := old i oi e1 hi
   rw [z6] at hk2
   rw [wC e1] at hk1
   have hlt := hI.lt hq (ndead _ hdi) hk1
   rcases (h.new k hk2).1 with h1 | h1
   ·exact (hI.inj i j k _ _ hq hx (ndead _ hdi) (by simp) hk1 h1)
   ·omega
  ·obtain ⟨q, hq, rfl⟩ := old i oi e1 hi
   obtain ⟨q', hq', rfl⟩ := old j oj e2 hj
   rw [wC e1] at hk1
   rw [wC e2] at hk2
   exact hI.inj i j k _ _ hq hq' (ndead _ hdi) (ndead _ hdj) hk1 hk2
 ·by_cases e1 : i = id
  ·subst e1
   rw [z6] at hk
   intro hok
   rcases (h.new k hk).1 with h1 | h1
   ·exact hI.off i k _ hx (by simp) h1 hok
   ·have := hI.okb k hok; omega
  ·obtain ⟨q, hq, rfl⟩ := old i oi e1 hi
   rw [wC e1] at hk
   exact hI.off i k _ hq (ndead _ hdi) hk
 ·by_cases e1 : i = id
  ·subst e1
   rw [xO h] at hi
   cases hi
   exact ho
  ·obtain ⟨q, hq, rfl⟩ := old i oi e1 hi
   cases q with
   | dead => trivial
   | _ => exact (hI.obs i _ hq).move (sD hI h) (np hI h) (wC e1) (fun k hk => gV hI h e1 hq (by simp) hk)
theorem ZD (hI : Inv x) (h : ReplOk x w id b) : Kept x (x.repl w id b o) := by
 obtain ⟨e, t, xs, hx⟩ := h.live
 refine ⟨h.os, h.tape, h.output, h.size, fun k hk hm => h.other k hk (fun hat => hm ⟨id, _, hx, by simp, hat⟩), fun k hk => ?_, fun _ h => h, fun _ h => .inl h⟩
 obtain ⟨i, oi, h1, h2, h3⟩ := hk
 by_cases e1 : i = id
 ·subst e1
  rw [z6] at h3
  rcases (h.new k h3).1 with h4 | h4
  ·exact .inl ⟨i, _, hx, by simp, h4⟩
  ·exact .inr h4
 ·rw [mi e1] at h1
  rw [wC e1] at h3
  cases hq : x.H[i]? with
  | none => simp [hq] at h1
  | some q =>
   refine .inl ⟨i, q, hq, fun e => h2 ?_, h3⟩
   subst e
   simp [hq, Sub.ob] at h1
   exact h1.symm
theorem t6 {h0 : Nat} (hI : Inv x) (h : ReplOk x w id b) (hd : o ≠ .dead) (ho : ObRep (x.repl w id b o) id o) (hle : h0 ≤ id) : Step h0 [id] x (x.repl w id b o) :=
 ⟨X9 hI h hd ho, ZD hI h, fun j hj => jp hI h (by omega), np hI h, by simp [Cx.repl, Sub.h]⟩
end
section
variable {P : Program} {T : TypeId → Option TI}
theorem ua (a : List Value) (b : Array Value) (i : Nat) (h : i < a.length) : (a.toArray ++ b)[i]? = a[i]? := by
 simp [Array.getElem?_append, h]
end
end Go.Proofs.YtefddghdaimklaaGreatDoor.AI
