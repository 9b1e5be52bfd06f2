/- A part of the proof. -/
import Derived.Test.YtefddghdaimklaaGreatDoorAio
set_option linter.unusedVariables false
set_option linter.unusedSimpArgs false
namespace Go.Proofs.YtefddghdaimklaaGreatDoor.AI
open Go
section
variable {R : Type} {T : TypeId → Option TI} {h0 : Nat} {env : FuncId → Option Con} {inl : FuncId → List AV → List Ob → (AV → List Ob → Option R) → Option R} {inlP : FuncId → List AV → List Ob → (AV → List Ob → Option (AV × List Ob)) → Option (AV × List Ob)}
variable (T h0 env inlP) in
def fZ (draw : Bool) (pl : List Nat) (all : List Oper) : List Oper → St → Option St
 | [], st => some st
 | o :: r, st => match yt T h0 env inlP draw pl all o st with
  | some s => fZ draw pl all r s
  | none => none
theorem dU {all : List Oper} {g : G} {fr : List AV} (hR : RG g fr) {o : Oper} (h : uG all g o = some none) : yY all fr o = some false := by
 unfold uG at h
 unfold yY
 split at h
 ·cases h
 ·rename_i j want hg
  simp only [hg]
  split at h
  ·rename_i oj hj
   simp only [hj]
   split at h
   ·rename_i t ht
    simp only [ht]
    split at h
    ·cases h
    ·rename_i hs
     split at h
     ·rename_i hp
      have := hR.hold t (by rw [hp]; intro q hq; simp at hq)
      rw [this, hs]
     ·cases h
    ·cases h
   ·cases h
  ·cases h
theorem dN {all : List Oper} {g : G} {fr : List AV} (hR : RG g fr) {o : Oper} {q0 : uo} (h : uG all g o = some (some q0)) :
  (Holds fr q0 → yY all fr o = some true) ∧ (¬ Holds fr q0 → yY all fr o = some false) := by
 unfold uG at h
 unfold yY
 split at h
 ·rename_i hg
  cases h
  simp only [hg]
  exact ⟨fun _ => trivial, fun hn => absurd (fun q hq => by simp at hq) hn⟩
 ·rename_i j want hg
  simp only [hg]
  split at h
  ·rename_i oj hj
   simp only [hj]
   split at h
   ·rename_i t ht
    simp only [ht]
    split at h
    ·rename_i b hs
     cases h
     constructor
     ·intro hh
      have := hh (t, want) (by simp)
      simp only at this
      rw [this]
      simp [zH]
     ·intro hn
      by_cases hp : Holds fr (z3 g.gs t)
      ·have h1 := hR.hold t hp
       rw [h1, hs]
       have : b ≠ want := fun e => hn (by
        intro q hq
        rcases NS.1 hq with hq | hq
        ·exact hp q hq
        ·rw [List.mem_singleton.1 hq]; rw [h1, hs, e]; rfl)
       simp [this]
      ·rw [hR.skip t hp]
    ·split at h <;> cases h
    ·cases h
   ·cases h
  ·cases h
theorem Vx {g : G} {fr : List AV} (hR : RG g fr) {op : Op} (hv : xh g [] op = true) : ∀ o ∈ op.operands.toList, evA fr o = evA g.fr o :=
 tQ hR (fun q hq => by simp at hq) hv
theorem kC {pl : List Nat} {op : Op} {ev ev' : Operand → AV} (h : ∀ o ∈ op.operands.toList, ev' o = ev o) : sT pl op ev' = sT pl op ev := by
 unfold sT
 split
 ·rename_i c
  split
  ·rename_i s hcal
   rw [h (.tmp s) (by simp [Op.operands, Call.operands, hcal])]
  ·rfl
 ·rfl
theorem uX {f g : Operand → AV} {op : Op} (h : ∀ o ∈ op.operands.toList, f o = g o) (p : AV → Bool) : (op.operands.toList.all fun o => p (f o)) = op.operands.toList.all fun o => p (g o) := by
 rw [Bool.eq_iff_iff, Nw, Nw]
 exact ⟨fun k o ho => by rw [← h o ho]; exact k o ho, fun k o ho => by rw [h o ho]; exact k o ho⟩
theorem gh {f g : Operand → AV} {op : Op} (h : ∀ o ∈ op.operands.toList, f o = g o) (pl : List Nat) (d : Nat) : iU pl d op f = iU pl d op g := by
 unfold iU
 rw [uX h xt]
 congr 1
 cases xC (7500000 + d) pl with
 | false => rfl
 | true =>
  simp only [Nv]
  split
  ·rename_i N _; exact uX h (YO N)
  ·rfl
theorem jz {f g : Operand → AV} {op : Op} (h : ∀ o ∈ op.operands.toList, f o = g o) (pl : List Nat) : l5 pl op f = l5 pl op g := by
 unfold l5
 split
 ·rename_i t a x
  rw [h a (by simp [Op.operands])]
 ·rfl
theorem jg {f g : Operand → AV} {op : Op} (h : ∀ o ∈ op.operands.toList, f o = g o) (pl : List Nat) (d : Nat) : kZ pl d op f = kZ pl d op g := by
 unfold kZ
 split
 ·rw [uX h zX]
 ·rfl
theorem n4 {f g : Operand → AV} {op : Op} (h : ∀ o ∈ op.operands.toList, f o = g o) (pl : List Nat) (dst : Option Tmp) (v : AV) : nh pl dst op f v = nh pl dst op g v := by
 unfold nh
 split
 ·exact jz h pl
 ·rename_i d
  rw [jg h pl d]
  cases hm : xC d pl with
  | false => rfl
  | true =>
   simp only [Nv]
   split
   ·rfl
   ·rename_i hnp
    rw [gh h pl d, uX h zX, kC h]
theorem bM {g : G} {fr : List AV} (hR : RG g fr) {q : uo} (hh : Holds fr q) {op : Op} {pl : List Nat} {dst : Option Tmp} {v : AV} (hv : (∃ c a b, op = .pick c a b) ∨ xh g q op = true) (h : nh pl dst op (evA g.fr) v = true) : nh pl dst op (evA fr) v = true := by
 rcases hv with ⟨c, a, b, rfl⟩ | hv
 ·unfold nh at h ⊢
  split at h
  ·rfl
  ·rename_i d
   cases hm : xC d pl with
   | false =>
    rfl
   | true => rw [hm] at h; cases h
 ·rw [← h]
  exact n4 (fun o ho => (tQ hR hh hv o ho)) pl dst v
theorem i1 {g : G} {q : uo} {op : Op} {H : List Ob} {v : AV} (hs : ZF T g q op H = some v) : (∃ c a b, op = .pick c a b) ∨ xh g q op = true := by
 unfold ZF at hs
 split at hs
 ·exact .inl ⟨_, _, _, rfl⟩
 ·right
  cases hv : xh g q op with
  | false => simp [hv] at hs
  | true => rfl
theorem pQ (hb : sJ inl inlP) (draw : Bool) (pl : List Nat) (all : List Oper) : ∀ (l : List Oper) (g : G) (H : List Ob) (fr : List AV) (k : G → List Ob → Option R) (r : R),
  gk T h0 env inl draw pl all l g H k = some r → RG g fr → ∃ g' st', fZ T h0 env inlP draw pl all l ⟨fr, H⟩ = some st' ∧ RG g' st'.fr ∧ k g' st'.H = some r
 | [], g, H, fr, k, r, h, hR => ⟨g, ⟨fr, H⟩, rfl, hR, h⟩
 | o :: rest, g, H, fr, k, r, h, hR => by
  have ih := pQ hb draw pl all rest
  unfold gk at h
  cases hf : tt g o.dst with
  | false => simp [hf] at h
  | true =>
   simp only [hf, Nv] at h
   have skipStep : yY all fr o = some false → gk T h0 env inl draw pl all rest (kX g o.dst [] .skip) H k = some r →
     ∃ g' st', fZ T h0 env inlP draw pl all (o :: rest) ⟨fr, H⟩ = some st' ∧ RG g' st'.fr ∧ k g' st'.H = some r := fun hg h => by
    have hR' : RG (kX g o.dst [] .skip) (wS fr o.dst .skip) := hR.put hf (by cases o.dst <;> rfl) (fun _ => rfl) (fun _ => rfl)
    obtain ⟨g', st', h1, h2, h3⟩ := ih _ _ _ _ _ h hR'
    exact ⟨g', st', by simp only [fZ, yt, hg]; exact h1, h2, h3⟩
   split at h
   ·cases h
   ·rename_i hgp
    exact skipStep (dU hR hgp) h
   ·rename_i q0 hgp
    obtain ⟨hg1, hg2⟩ := dN hR hgp
    generalize hqd : (q0.filter fun p => !(lp p g.facts)) = q at h
    have hq : Holds fr q ↔ Holds fr q0 := by
     constructor
     ·intro hh p hp
      cases hm : lp p g.facts with
      | true => exact hR.facts p ((sj _ _).1 hm)
      | false => exact hh p (by rw [← hqd]; exact List.mem_filter.2 ⟨hp, by simp [hm]⟩)
     ·intro hh p hp
      rw [← hqd] at hp
      exact hh p (List.mem_filter.1 hp).1
    cases hc : q.any (fun p => lp (p.1, !p.2) g.facts) with
    | true =>
     simp only [hc, Nv] at h
     refine skipStep (hg2 (fun hh => ?_)) h
     obtain ⟨p, hp, hm⟩ := List.any_eq_true.1 hc
     have h1 := hR.facts _ ((sj _ _).1 hm)
     have h2 := hq.2 hh p hp
     simp only at h1
     rw [h2] at h1
     have := rn h1
     cases hp2 : p.2 <;> simp [hp2] at this
    | false =>
     simp only [hc, Nu] at h
     cases hfq : mn o.dst q with
     | false => simp [hfq] at h
     | true =>
      simp only [hfq, NJ, Nu] at h
      cases hs : yo o.op with
      | true =>
       simp only [hs, Nv] at h
       split at h
       ·rename_i v hv
        cases hpl : nh pl o.dst o.op (evA g.fr) v with
        | false => simp [hpl] at h
        | true =>
        simp only [hpl, Nv] at h
        by_cases hh : Holds fr q
        ·have hsd := gm hR hh hv
         have hpl2 := bM hR hh (i1 hv) hpl
         have hR' := hR.put (v1 := v) (v2 := v) hf hfq (fun _ => rfl) (fun hn => absurd hh hn)
         obtain ⟨g', st', h1, h2, h3⟩ := ih _ _ _ _ _ h hR'
         exact ⟨g', st', by simp only [fZ, yt, hg1 (hq.1 hh), opD, hs, Nv, hsd, hpl2]; exact h1, h2, h3⟩
        ·have hR' := hR.put (v1 := .skip) (v2 := v) hf hfq (fun hn => absurd hn hh) (fun _ => rfl)
         obtain ⟨g', st', h1, h2, h3⟩ := ih _ _ _ _ _ h hR'
         exact ⟨g', st', by simp only [fZ, yt, hg2 (fun hn => hh (hq.2 hn))]; exact h1, h2, h3⟩
       ·obtain ⟨g1, yes, h1, hR1, hf1, hy, hn⟩ := wG q g _ h hR hf hfq
        cases yes with
        | false =>
         simp only [Nu] at h1
         have hR' : RG (kX g1 o.dst [] .skip) (wS fr o.dst .skip) := hR1.put hf1 (by cases o.dst <;> rfl) (fun _ => rfl) (fun _ => rfl)
         obtain ⟨g', st', r1, r2, r3⟩ := ih _ _ _ _ _ h1 hR'
         exact ⟨g', st', by simp only [fZ, yt, hg2 (fun hh => hn rfl (hq.2 hh))]; exact r1, r2, r3⟩
        | true => simp only [Nv] at h1; cases h1
      | false =>
       simp only [hs, Nu] at h
       obtain ⟨g1, yes, h1, hR1, hf1, hy, hn⟩ := wG q g _ h hR hf hfq
       cases yes with
       | false =>
        simp only [Nu] at h1
        have hR' : RG (kX g1 o.dst [] .skip) (wS fr o.dst .skip) := hR1.put hf1 (by cases o.dst <;> rfl) (fun _ => rfl) (fun _ => rfl)
        obtain ⟨g', st', r1, r2, r3⟩ := ih _ _ _ _ _ h1 hR'
        exact ⟨g', st', by simp only [fZ, yt, hg2 (fun hh => hn rfl (hq.2 hh))]; exact r1, r2, r3⟩
       | true =>
        simp only [Nv] at h1
        cases hva : xh g1 [] o.op with
        | false => simp [hva] at h1
        | true =>
         simp only [hva, Nv] at h1
         have hev := Vx hR1 hva
         have hids := wc (env := env) hev
         generalize hidv : yz env o.op (evA g1.fr) = ids at h1 hids
         cases hcc : (ids.all (Nat.ble h0)) && (!draw || Nat.beq (cls env o.op) 3 || ids.isEmpty) with
         | false => simp [hcc] at h1
         | true =>
          simp only [hcc, Nv] at h1
          obtain ⟨e1, e2⟩ := z8 ids g1.fr H
          obtain ⟨e3, e4⟩ := z8 ids fr H
          have hH : (YT g1 H ids).2 = (St.seals ids ⟨fr, H⟩).H := e4 g1.fr
          have hG : (YT g1 H ids).1 = ⟨g1.fr.map (um (x8 ids H)), g1.gs, g1.facts⟩ := by simp only [YT, e1]
          rw [hG, hH] at h1
          have hR2 := hR1.map (p5 (x8 ids H))
          rw [← e3] at hR2
          generalize hS : St.seals ids ⟨fr, H⟩ = S at h1 hR2
          have hva2 : xh ⟨g1.fr.map (um (x8 ids H)), g1.gs, g1.facts⟩ [] o.op = true := hva
          have hev2 := Vx hR2 hva2
          rw [rE hb] at h1
          cases hk : z0 T h0 env inlP o.op (evA (g1.fr.map (um (x8 ids H)))) S.H (fun v h => some (v, h)) with
          | none => simp [hk] at h1
          | some p =>
           obtain ⟨v, H'⟩ := p
           simp only [hk, Nx] at h1
           cases hpl : nh pl o.dst o.op (evA g1.fr) v with
           | false => simp [hpl] at h1
           | true =>
           simp only [hpl, Nv] at h1
           have hpl2 := bM hR1 (q := []) (fun q hq => by simp at hq) (.inr hva) hpl
           rw [et] at h1
           generalize hks : zL env o.op (evA (g1.fr.map (um (x8 ids H)))) S.H = ks at h1
           have hks' : zL env o.op (evA S.fr) S.H = ks := by rw [we hev2]; exact hks
           have hk' : z0 T h0 env inlP o.op (evA S.fr) S.H (fun v h => some (v, h)) = some (v, H') := by rw [vL T hev2]; exact hk
           have hR3 := hR2.map (l8 ks)
           have hfree : tt ⟨(g1.fr.map (um (x8 ids H))).map (ym ks), g1.gs, g1.facts⟩ o.dst = true := by
            cases hd : o.dst with
            | none => rfl
            | some d => rw [hd] at hf1; simpa [tt] using hf1
           simp only [rF] at h1
           have hR' := hR3.put (dst := o.dst) (p := []) (v1 := v) (v2 := v) hfree (by cases o.dst <;> rfl) (fun _ => rfl) (fun hn => absurd (fun q hq => by simp at hq) hn)
           obtain ⟨g', st', r1, r2, r3⟩ := ih _ _ _ _ _ h1 hR'
           refine ⟨g', st', ?_, r2, r3⟩
           have hhard : ls T h0 env inlP draw o.op ⟨fr, H⟩ = some (⟨uf S.fr ks, H'⟩, v) := by
            simp only [ls, hids, hcc, Nv, hS, hk', hks']
           simp only [fZ, yt, hg1 (hq.1 (hy rfl)), opD, hs, Nu, hhard, hpl2, Nv]
           rw [rF]; exact r1
theorem l6 (draw : Bool) (pl : List Nat) (ops : Array Oper) : ∀ (l : List Oper) (k : Nat), (∀ j, l[j]? = ops[k + j]?) → ∀ st, tL T h0 env inlP draw pl ops (List.range' k l.length) st = fZ T h0 env inlP draw pl ops.toList l st
 | [], k, _, st => rfl
 | o :: r, k, h, st => by
  have h1 : ops[k]? = some o := by simpa using (h 0).symm
  have ih := l6 draw pl ops r (k + 1) (fun j => by have := h (j + 1); simpa [Nat.add_assoc, Nat.add_comm 1 j] using this)
  simp only [List.length_cons, List.range'_succ, tL, h1, fZ]
  cases yt T h0 env inlP draw pl ops.toList o st with
  | none => rfl
  | some s => exact ih s
theorem eZ (draw : Bool) (pl : List Nat) (ops : Array Oper) (st : St) : tL T h0 env inlP draw pl ops (List.range ops.size) st = fZ T h0 env inlP draw pl ops.toList ops.toList st := by
 rw [List.range_eq_range', ← Array.length_toList]
 exact l6 draw pl ops ops.toList 0 (fun j => by simp) st
end
end Go.Proofs.YtefddghdaimklaaGreatDoor.AI
