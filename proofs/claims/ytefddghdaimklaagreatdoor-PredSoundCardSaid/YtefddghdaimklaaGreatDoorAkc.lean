/- A part of the proof. -/
import Derived.Test.YtefddghdaimklaaGreatDoorAij
import Derived.ChangeMaps5
set_option linter.unusedVariables false
set_option linter.unusedSimpArgs false
namespace Go.Proofs.YtefddghdaimklaaGreatDoor.AI
open Go Go.ChangeMaps
section
variable {P : Program} {T : TypeId → Option TI}
theorem U2 : ∀ (p : Ty) (v : Value) (n : Nat), PV p v → Instr.sameBits n v v = true
 | .bool, v, n, h => by obtain ⟨b, rfl⟩ := h; simp [Instr.sameBits]
 | .int k, v, n, h => by obtain ⟨b, rfl⟩ := h; simp [Instr.sameBits]
 | .str, v, n, h => by obtain ⟨b, rfl⟩ := h; simp [Instr.sameBits, beq_toListBytes]
 | .float _, v, n, h => h.elim
 | .sl _, v, n, h => h.elim
 | .unit, v, n, h => h.elim
 | .pair _ _, v, n, h => h.elim
 | .rose _, v, n, h => h.elim
 | .set _, v, n, h => h.elim
theorem fH (n : Nat) : ∀ (ps : List Ty) (vs : List Value), PVs ps vs → ((vs.zip vs).all fun q => Instr.sameBits n q.1 q.2) = true
 | [], vs, h => by rw [show vs = [] from h]; rfl
 | p :: ps, vs, h => by
  obtain ⟨v, r, rfl, h1, h2⟩ := h
  simp only [List.zip_cons_cons, List.all_cons, U2 p v n h1, fH n ps r h2, NC]
theorem Zu {kt : Ty} (hk : kt.keyTy = true) (d : kt.den) (w : World) : (Instr.keyThatStays (.agg (kt.keyV d).toArray) (.agg (kt.keyV d).toArray)).run P w = .ok (.agg (kt.keyV d).toArray) w := by
 have h : Instr.sameBits 10000 (.agg (kt.keyV d).toArray) (.agg (kt.keyV d).toArray) = true := by
  have h2 : ∀ n, Instr.sameBits (n + 1) (.agg (kt.keyV d).toArray) (.agg (kt.keyV d).toArray) = true := fun n => by
   have := fH n kt.prims _ (uA kt d hk)
   simp only [Instr.sameBits, beq_self_eq_true, NT]
   simpa using this
  exact h2 9999
 simp [Instr.keyThatStays, h]
theorem mg {k : TypeId} {kt : Ty} (hE : EqOk P k kt) (d : kt.den) (w : World) : ∀ (es : List MapEntry) (xs : List kt.den) (i : Nat), es.map (·.key) = xs.map (fun d => Value.agg (kt.keyV d).toArray) →
  (xs.any (fun v => kt.eqB v d) = false ∧ (Instr.findAsking k (.agg (kt.keyV d).toArray) es i).run P w = .ok none w) ∨
  (xs.any (fun v => kt.eqB v d) = true ∧ ∃ j e, (Instr.findAsking k (.agg (kt.keyV d).toArray) es i).run P w = .ok (some (i + j, e.val)) w ∧ es[j]? = some e ∧ e.key = .agg (kt.keyV d).toArray)
 | [], [], i, _ => .inl ⟨rfl, by simp [Instr.findAsking]⟩
 | [], _ :: _, i, h => by cases h
 | _ :: _, [], i, h => by cases h
 | e :: es, x :: xs, i, h => by
  simp only [NN, List.cons.injEq] at h
  obtain ⟨h1, h2⟩ := h
  have heq : (Op.equal k (.agg (kt.keyV d).toArray) e.key).run P w = .ok (kt.eqB d x) w := by rw [h1]; exact hE.eq w d x
  cases hc : kt.eqB d x with
  | true =>
   have hdx := (rL kt d x hE.key).1 hc
   refine .inr ⟨?_, 0, e, ?_, rfl, by rw [h1, hdx]⟩
   ·rw [List.any_cons, (rL kt x d hE.key).2 hdx.symm]; rfl
   ·simp [Instr.findAsking, heq, hc]
  | false =>
   have hxd : kt.eqB x d = false := by
    cases hq : kt.eqB x d with
    | false => rfl
    | true => rw [(rL kt d x hE.key).2 ((rL kt x d hE.key).1 hq).symm] at hc; cases hc
   rcases mg hE d w es xs (i + 1) h2 with ⟨h3, h4⟩ | ⟨h3, j, e', h4, h5, h6⟩
   ·exact .inl ⟨by rw [List.any_cons, hxd, h3]; rfl, by simp [Instr.findAsking, heq, hc, h4]⟩
   ·refine .inr ⟨by rw [List.any_cons, hxd, h3]; rfl, j + 1, e', ?_, by simpa using h5, h6⟩
    simp [Instr.findAsking, heq, hc, h4]; omega
theorem tp {k : TypeId} {kt : Ty} (hE : EqOk P k kt) (v : Value) (es : List MapEntry) (w : World) : (Instr.findKey k v es).run P w = (Instr.findAsking k v es).run P w := by
 obtain ⟨F, hF⟩ := hE.wide
 exact run_findKey_eq w (by rw [hF]) v es
theorem dk {t k e : TypeId} {kt : Ty} (hu : P.underlying t = some (.map k e)) (hE : EqOk P k kt) (hz : ∀ w : World, (zeroValue e).run P w = .ok (.agg #[]) w) {b : Nat} {xs : List kt.den} {w : World} (hs : SF kt xs w.heap[b]?) (d : kt.den) :
  (Instr.lookup t (.map (some b)) (.agg (kt.keyV d).toArray) true).run P w = .ok (.tuple #[.agg #[], .bool (xs.any fun v => kt.eqB v d)]) w := by
 obtain ⟨es, clock, hb, hk, hv⟩ := hs
 rcases mg hE d w es.toList xs 0 hk with ⟨h1, h2⟩ | ⟨h1, j, e', h2, h3, h4⟩
 ·simp [Instr.lookup, run_underlying hu, MapKept.run_getObj_map hb, hE.check, tp hE, h2, hz, h1]
 ·have := hv e' (ND h3)
  simp [Instr.lookup, run_underlying hu, MapKept.run_getObj_map hb, hE.check, tp hE, h2, h1, this]
theorem dq {t k e : TypeId} {kt : Ty} (hu : P.underlying t = some (.map k e)) (hE : EqOk P k kt) {b : Nat} {xs : List kt.den} {w : World} (hs : SF kt xs w.heap[b]?) (d : kt.den) :
  ∃ es clock es' clock', w.heap[b]? = some (.map es clock) ∧ (Instr.mapUpdate t (.map (some b)) (.agg (kt.keyV d).toArray) (.agg #[])).run P w = .ok () (setBlock w b (.map es' clock')) ∧
   SF kt (bif xs.any (fun v => kt.eqB v d) then xs else xs ++ [d]) (some (.map es' clock')) := by
 obtain ⟨es, clock, hb, hk, hv⟩ := hs
 rcases mg hE d w es.toList xs 0 hk with ⟨h1, h2⟩ | ⟨h1, j, e', h2, h3, h4⟩
 ·refine ⟨es, clock, es.push ⟨.agg (kt.keyV d).toArray, .agg #[], clock⟩, clock + 1, hb, ?_, ?_⟩
  ·simp [Instr.mapUpdate, run_underlying hu, MapKept.run_getObj_map hb, hE.check, tp hE, h2, MapKept.run_setObj_map _ hb, Result.andThen, setBlock]
  ·rw [h1]
   refine ⟨_, _, rfl, by simp [hk], fun x hx => ?_⟩
   simp only [Array.toList_push, NS, List.mem_singleton] at hx
   rcases hx with hx | rfl
   ·exact hv x hx
   ·rfl
 ·have hj : es[j]? = some e' := by simpa using h3
  refine ⟨es, clock, es.modify j (fun e => { e with key := .agg (kt.keyV d).toArray, val := .agg #[] }), clock, hb, ?_, ?_⟩
  ·simp [Instr.mapUpdate, run_underlying hu, MapKept.run_getObj_map hb, hE.check, tp hE, h2, hj, h4, Zu hE.key, MapKept.run_setObj_map _ hb, Result.andThen, setBlock]
  ·rw [h1]
   have hself : es.modify j (fun e => { e with key := .agg (kt.keyV d).toArray, val := .agg #[] }) = es := by
    apply Array.ext'
    rw [Array.toList_modify]
    refine List.ext_getElem? fun i => ?_
    rw [List.getElem?_modify]
    by_cases hij : j = i
    ·subst hij
     rw [h3]
     have hv' := hv e' (ND h3)
     simp only [Option.map_eq_map, Option.map_some, if_true]
     cases e' with
     | mk ky vl bn =>
      simp only at h4 hv'
      rw [h4, hv']
    ·simp [hij]
   rw [hself]
   exact ⟨es, clock, rfl, hk, hv⟩
theorem map_some {t k : TypeId} {kt : Ty} {sz by_ : Nat} {ty : Option Ty} {z : List Z} (hT : TOk P T) (h : T t = some ⟨.map k kt, sz, by_, ty, z⟩) : ∃ e, P.underlying t = some (.map k e) ∧ EqOk P k kt ∧ ∀ w : World, (zeroValue e).run P w = .ok (.agg #[]) w := (hT _ _ h).desc
theorem iz {x : Cx} (hI : Inv x) {c : C} {t : Ty} {xs : List t.den} (h : Te x.H c = some ⟨t, xs⟩) {v : Value} (hr : RepC x c v) : ∃ b, v = .map (some b) ∧ SF t xs x.w.heap[b]? := by
 unfold Te at h
 split at h
 ·cases h
  obtain ⟨b, h1, h2, h3⟩ := hr.2
  simp only [List.cons.injEq, and_true] at h1
  exact ⟨b, h1, h3⟩
 ·rename_i id
  split at h
  ·rename_i t' xs' hx
   cases h
   have h2 := hr.2
   simp only [zV, hx] at h2
   obtain ⟨b, hb, rfl⟩ := h2
   obtain ⟨b', hb', h3⟩ := hI.obs _ _ hx
   rw [hb] at hb'; cases hb'
   exact ⟨b, rfl, h3⟩
  ·cases h
 ·cases h
theorem fi {u t : Ty} {xs : List u.den} {ys : List t.den} (h : oN (u := u) (t := t) xs = some ys) : ∃ e : u = t, ys = e ▸ xs := by
 unfold oN at h
 split at h
 ·rename_i e; cases h; exact ⟨e, rfl⟩
 ·cases h
theorem iV (hT : TOk P T) {x : Cx} (hI : Inv x) {t k : TypeId} {kt : Ty} {sz by_ : Nat} {ty : Option Ty} {z : List Z} (ht : T t = some ⟨.map k kt, sz, by_, ty, z⟩) {c : C} {cs : List C} {v : AV} (h : T9 x.H kt c cs = some v) {m key : Value} (hm : RepC x c m) (hk : RepV x (.val true cs) key) :
  ∃ u, (Instr.lookup t m key true).run P x.w = .ok u x.w ∧ RepV x v u := by
 obtain ⟨e, hu, hE, hz⟩ := map_some hT ht
 unfold T9 at h
 split at h
 ·rename_i t' xs0 hs
  split at h
  ·rename_i xs hc
   split at h
   ·rename_i d hd
    cases h
    obtain ⟨rfl, rfl⟩ := fi hc
    obtain ⟨b, rfl, hset⟩ := iz hI hs hm
    obtain ⟨vs, rfl, hcs⟩ := hk
    have ev : vs = (t'.keyV d).toArray := by rw [← u7 t' d _ hE.key (zQ hd hcs)]
    subst ev
    exact ⟨_, dk hu hE hz hset d, _, rfl, _, _, rfl, ⟨#[], rfl, rfl⟩, _, _, rfl, ⟨_, [], rfl, ⟨rfl, rfl⟩, rfl⟩, rfl⟩
   ·cases h
  ·cases h
 ·cases h
theorem dt (hT : TOk P T) {x : Cx} (hI : Inv x) {h0 : Nat} (hle : h0 ≤ x.H.length) {t k : TypeId} {kt : Ty} {sz by_ : Nat} {ty : Option Ty} {z : List Z} (ht : T t = some ⟨.map k kt, sz, by_, ty, z⟩) {id : Nat} {cs : List C} {H' : List Ob} (h : P4 x.H kt id cs = some H') {m key : Value} (hm : RepV x (.val false [.mp id]) m) (hk : RepV x (.val true cs) key) {v : Value} (hv : RepV x (.val true []) v) :
  ∃ y : Cx, (Instr.mapUpdate t m key v).run P x.w = .ok () y.w ∧ y.H = H' ∧ Step h0 [] x y := by
 obtain ⟨e, hu, hE, hz⟩ := map_some hT ht
 unfold P4 at h
 split at h
 ·rename_i t' xs0 hx
  split at h
  ·rename_i xs hc
   split at h
   ·rename_i d hd
    cases h
    obtain ⟨rfl, rfl⟩ := fi hc
    have hm2 := (zG hm).2
    simp only [zV, hx] at hm2
    obtain ⟨b, hat, rfl⟩ := hm2
    obtain ⟨b', hat', hset⟩ := hI.obs _ _ hx
    rw [hat] at hat'; cases hat'
    obtain ⟨vs, rfl, hcs⟩ := hk
    have ev : vs = (t'.keyV d).toArray := by rw [← u7 t' d _ hE.key (zQ hd hcs)]
    subst ev
    obtain ⟨us, rfl, hus⟩ := hv
    have eu : us = #[] := by
     have : us.toList = [] := hus
     cases us; simp_all
    subst eu
    obtain ⟨es, clock, es', clock', hb, hrun, hset'⟩ := dq hu hE hset d
    have hsame := heap_setBlock_same hb (.map es' clock')
    have hother := fun (i : Nat) (hi : i ≠ b) => heap_setBlock_other hb (.map es' clock') hi
    have hput : PutOk x (setBlock x.w b (.map es' clock')) id b := ⟨rfl, rfl, rfl, by simp [setBlock], fun k hk => hother k hk, ⟨_, hx, by simp⟩, hat, fun cur' e' fr' hc => by rw [hsame] at hc; cases hc⟩
    have hids := fun j => tn (o := .mp t' (bif xs.any (fun v => t'.eqB v d) then xs else xs ++ [d])) hI hput (by rw [hx]; exact ⟨_, rfl⟩) j
    exact ⟨x.put _ id _, hrun, rfl, qM hI hput hids (by simp) ⟨b, hat, by show SF _ _ ((setBlock x.w b (.map es' clock')).heap[b]?); rw [hsame]; exact hset'⟩ hle⟩
   ·cases h
  ·cases h
 ·cases h
theorem sZ (x : Cx) (o : Obj) : PushOk x (x.w.alloc o) (some x.w.heap.size) :=
 ⟨rfl, rfl, rfl, Nat.le_of_lt (by have := Array.getElem?_eq_some_iff.1 (heap_alloc_new x.w o); exact this.1), fun k hk => by first | exact heap_alloc_old x.w _ k hk | exact heap_alloc_old x.w _ hk, fun k hk => by cases hk; exact ⟨NF _, (Array.getElem?_eq_some_iff.1 (heap_alloc_new x.w o)).1⟩⟩
end
end Go.Proofs.YtefddghdaimklaaGreatDoor.AI
