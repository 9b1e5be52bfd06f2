/- A part of the proof. -/
import Derived.Test.YtefddghdaimklaaGreatDoorAio
set_option linter.unusedVariables false
set_option linter.unusedSimpArgs false
namespace Go.Proofs.YtefddghdaimklaaGreatDoor.AI
open Go
section
variable {R : Type} {T : TypeId → Option TI} {h0 : Nat} {env : FuncId → Option Con} {inl : FuncId → List AV → List Ob → (AV → List Ob → Option R) → Option R} {inlP : FuncId → List AV → List Ob → (AV → List Ob → Option (AV × List Ob)) → Option (AV × List Ob)}
variable (T h0 env inlP) in
def gC (draw : Bool) (pl : List Nat) (all : List Oper) : List Oper → St → Option St
 | [], st => some st
 | o :: r, st => match yw T h0 env inlP draw pl all o st with
  | some s => gC draw pl all r s
  | none => none
theorem eV {all : List Oper} {g : G} {fr : List AV} (hR : RG g fr) {o : Oper} (h : uD all g o = some none) : xh all fr o = some false := by
 unfold uD at h
 unfold xh
 split at h
 ·cases h
 ·rename_i j want hg
  simp only [hg]
  split at h
  ·rename_i oj hj
   simp only [hj]
   split at h
   ·rename_i t ht
    simp only [ht]
    split at h
    ·cases h
    ·rename_i hs
     split at h
     ·rename_i hp
      have := hR.hold t (by rw [hp]; intro q hq; simp at hq)
      rw [this, hs]
     ·cases h
    ·cases h
   ·cases h
  ·cases h
theorem dF {all : List Oper} {g : G} {fr : List AV} (hR : RG g fr) {o : Oper} {q0 : uu} (h : uD all g o = some (some q0)) :
  (Holds fr q0 → xh all fr o = some true) ∧ (¬ Holds fr q0 → xh all fr o = some false) := by
 unfold uD at h
 unfold xh
 split at h
 ·rename_i hg
  cases h
  simp only [hg]
  exact ⟨fun _ => trivial, fun hn => absurd (fun q hq => by simp at hq) hn⟩
 ·rename_i j want hg
  simp only [hg]
  split at h
  ·rename_i oj hj
   simp only [hj]
   split at h
   ·rename_i t ht
    simp only [ht]
    split at h
    ·rename_i b hs
     cases h
     constructor
     ·intro hh
      have := hh (t, want) (by simp)
      simp only at this
      rw [this]
      simp [zJ]
     ·intro hn
      by_cases hp : Holds fr (ya g.gs t)
      ·have h1 := hR.hold t hp
       rw [h1, hs]
       have : b ≠ want := fun e => hn (by
        intro q hq
        rcases LJ.1 hq with hq | hq
        ·exact hp q hq
        ·rw [List.mem_singleton.1 hq]; rw [h1, hs, e]; rfl)
       simp [this]
      ·rw [hR.skip t hp]
    ·split at h <;> cases h
    ·cases h
   ·cases h
  ·cases h
theorem Ui {g : G} {fr : List AV} (hR : RG g fr) {op : Op} (hv : xn g [] op = true) : ∀ o ∈ op.operands.toList, evA fr o = evA g.fr o :=
 tW hR (fun q hq => by simp at hq) hv
theorem ko {pl : List Nat} {op : Op} {ev ev' : Operand → AV} (h : ∀ o ∈ op.operands.toList, ev' o = ev o) : sL pl op ev' = sL pl op ev := by
 unfold sL
 split
 ·rename_i c
  split
  ·rename_i s hcal
   rw [h (.tmp s) (by simp [Op.operands, Call.operands, hcal])]
  ·rfl
 ·rfl
theorem tv {f g : Operand → AV} {op : Op} (h : ∀ o ∈ op.operands.toList, f o = g o) (p : AV → Bool) : (op.operands.toList.all fun o => p (f o)) = op.operands.toList.all fun o => p (g o) := by
 rw [Bool.eq_iff_iff, Ll, Ll]
 exact ⟨fun k o ho => by rw [← h o ho]; exact k o ho, fun k o ho => by rw [h o ho]; exact k o ho⟩
theorem iC {f g : Operand → AV} {op : Op} (h : ∀ o ∈ op.operands.toList, f o = g o) (pl : List Nat) (d : Nat) : gh pl d op f = gh pl d op g := by
 unfold gh
 rw [tv h xB]
 congr 1
 cases xG (7500000 + d) pl with
 | false => rfl
 | true =>
  simp only [Lk]
  split
  ·rename_i N _; exact tv h (YW N)
  ·rfl
theorem ja {f g : Operand → AV} {op : Op} (h : ∀ o ∈ op.operands.toList, f o = g o) (pl : List Nat) : jp pl op f = jp pl op g := by
 unfold jp
 split
 ·rename_i t a x
  rw [h a (by simp [Op.operands])]
 ·rfl
theorem jI {f g : Operand → AV} {op : Op} (h : ∀ o ∈ op.operands.toList, f o = g o) (pl : List Nat) (d : Nat) : jU pl d op f = jU pl d op g := by
 unfold jU
 split
 ·rw [tv h z5]
 ·rfl
theorem nw {f g : Operand → AV} {op : Op} (h : ∀ o ∈ op.operands.toList, f o = g o) (pl : List Nat) (dst : Option Tmp) (v : AV) : o9 pl dst op f v = o9 pl dst op g v := by
 unfold o9
 split
 ·exact ja h pl
 ·rename_i d
  rw [jI h pl d]
  cases hm : xG d pl with
  | false => rfl
  | true =>
   simp only [Lk]
   split
   ·rfl
   ·rename_i hnp
    rw [iC h pl d, tv h z5, ko h]
theorem ZN {g : G} {fr : List AV} (hR : RG g fr) {q : uu} (hh : Holds fr q) {op : Op} {pl : List Nat} {dst : Option Tmp} {v : AV} (hv : (∃ c a b, op = .pick c a b) ∨ xn g q op = true) (h : o9 pl dst op (evA g.fr) v = true) : o9 pl dst op (evA fr) v = true := by
 rcases hv with ⟨c, a, b, rfl⟩ | hv
 ·unfold o9 at h ⊢
  split at h
  ·rfl
  ·rename_i d
   cases hm : xG d pl with
   | false =>
    rfl
   | true => rw [hm] at h; cases h
 ·rw [← h]
  exact nw (fun o ho => (tW hR hh hv o ho)) pl dst v
theorem iH {g : G} {q : uu} {op : Op} {H : List Ob} {v : AV} (hs : aJ T g q op H = some v) : (∃ c a b, op = .pick c a b) ∨ xn g q op = true := by
 unfold aJ at hs
 split at hs
 ·exact .inl ⟨_, _, _, rfl⟩
 ·right
  cases hv : xn g q op with
  | false => simp [hv] at hs
  | true => rfl
theorem pP (hb : s5 inl inlP) (draw : Bool) (pl : List Nat) (all : List Oper) : ∀ (l : List Oper) (g : G) (H : List Ob) (fr : List AV) (k : G → List Ob → Option R) (r : R),
  gm T h0 env inl draw pl all l g H k = some r → RG g fr → ∃ g' st', gC T h0 env inlP draw pl all l ⟨fr, H⟩ = some st' ∧ RG g' st'.fr ∧ k g' st'.H = some r
 | [], g, H, fr, k, r, h, hR => ⟨g, ⟨fr, H⟩, rfl, hR, h⟩
 | o :: rest, g, H, fr, k, r, h, hR => by
  have ih := pP hb draw pl all rest
  unfold gm at h
  cases hf : tC g o.dst with
  | false => simp [hf] at h
  | true =>
   simp only [hf, Lk] at h
   have skipStep : xh all fr o = some false → gm T h0 env inl draw pl all rest (jg g o.dst [] .skip) H k = some r →
     ∃ g' st', gC T h0 env inlP draw pl all (o :: rest) ⟨fr, H⟩ = some st' ∧ RG g' st'.fr ∧ k g' st'.H = some r := fun hg h => by
    have hR' : RG (jg g o.dst [] .skip) (wT fr o.dst .skip) := hR.put hf (by cases o.dst <;> rfl) (fun _ => rfl) (fun _ => rfl)
    obtain ⟨g', st', h1, h2, h3⟩ := ih _ _ _ _ _ h hR'
    exact ⟨g', st', by simp only [gC, yw, hg]; exact h1, h2, h3⟩
   split at h
   ·cases h
   ·rename_i hgp
    exact skipStep (eV hR hgp) h
   ·rename_i q0 hgp
    obtain ⟨hg1, hg2⟩ := dF hR hgp
    generalize hqd : (q0.filter fun p => !(ln p g.facts)) = q at h
    have hq : Holds fr q ↔ Holds fr q0 := by
     constructor
     ·intro hh p hp
      cases hm : ln p g.facts with
      | true => exact hR.facts p ((sF _ _).1 hm)
      | false => exact hh p (by rw [← hqd]; exact List.mem_filter.2 ⟨hp, by simp [hm]⟩)
     ·intro hh p hp
      rw [← hqd] at hp
      exact hh p (List.mem_filter.1 hp).1
    cases hc : q.any (fun p => ln (p.1, !p.2) g.facts) with
    | true =>
     simp only [hc, Lk] at h
     refine skipStep (hg2 (fun hh => ?_)) h
     obtain ⟨p, hp, hm⟩ := List.any_eq_true.1 hc
     have h1 := hR.facts _ ((sF _ _).1 hm)
     have h2 := hq.2 hh p hp
     simp only at h1
     rw [h2] at h1
     have := rP h1
     cases hp2 : p.2 <;> simp [hp2] at this
    | false =>
     simp only [hc, Lj] at h
     cases hfq : mh o.dst q with
     | false => simp [hfq] at h
     | true =>
      simp only [hfq, LA, Lj] at h
      cases hs : yu o.op with
      | true =>
       simp only [hs, Lk] at h
       split at h
       ·rename_i v hv
        cases hpl : o9 pl o.dst o.op (evA g.fr) v with
        | false => simp [hpl] at h
        | true =>
        simp only [hpl, Lk] at h
        by_cases hh : Holds fr q
        ·have hsd := ix hR hh hv
         have hpl2 := ZN hR hh (iH hv) hpl
         have hR' := hR.put (v1 := v) (v2 := v) hf hfq (fun _ => rfl) (fun hn => absurd hh hn)
         obtain ⟨g', st', h1, h2, h3⟩ := ih _ _ _ _ _ h hR'
         exact ⟨g', st', by simp only [gC, yw, hg1 (hq.1 hh), opD, hs, Lk, hsd, hpl2]; exact h1, h2, h3⟩
        ·have hR' := hR.put (v1 := .skip) (v2 := v) hf hfq (fun hn => absurd hn hh) (fun _ => rfl)
         obtain ⟨g', st', h1, h2, h3⟩ := ih _ _ _ _ _ h hR'
         exact ⟨g', st', by simp only [gC, yw, hg2 (fun hn => hh (hq.2 hn))]; exact h1, h2, h3⟩
       ·obtain ⟨g1, yes, h1, hR1, hf1, hy, hn⟩ := wK q g _ h hR hf hfq
        cases yes with
        | false =>
         simp only [Lj] at h1
         have hR' : RG (jg g1 o.dst [] .skip) (wT fr o.dst .skip) := hR1.put hf1 (by cases o.dst <;> rfl) (fun _ => rfl) (fun _ => rfl)
         obtain ⟨g', st', r1, r2, r3⟩ := ih _ _ _ _ _ h1 hR'
         exact ⟨g', st', by simp only [gC, yw, hg2 (fun hh => hn rfl (hq.2 hh))]; exact r1, r2, r3⟩
        | true => simp only [Lk] at h1; cases h1
      | false =>
       simp only [hs, Lj] at h
       obtain ⟨g1, yes, h1, hR1, hf1, hy, hn⟩ := wK q g _ h hR hf hfq
       cases yes with
       | false =>
        simp only [Lj] at h1
        have hR' : RG (jg g1 o.dst [] .skip) (wT fr o.dst .skip) := hR1.put hf1 (by cases o.dst <;> rfl) (fun _ => rfl) (fun _ => rfl)
        obtain ⟨g', st', r1, r2, r3⟩ := ih _ _ _ _ _ h1 hR'
        exact ⟨g', st', by simp only [gC, yw, hg2 (fun hh => hn rfl (hq.2 hh))]; exact r1, r2, r3⟩
       | true =>
        simp only [Lk] at h1
        cases hva : xn g1 [] o.op with
        | false => simp [hva] at h1
        | true =>
         simp only [hva, Lk] at h1
         have hev := Ui hR1 hva
         have hids := x8 (env := env) hev
         generalize hidv : yD env o.op (evA g1.fr) = ids at h1 hids
         cases hcc : (ids.all (Nat.ble h0)) && (!draw || Nat.beq (cls env o.op) 3 || ids.isEmpty) with
         | false => simp [hcc] at h1
         | true =>
          simp only [hcc, Lk] at h1
          obtain ⟨e1, e2⟩ := yc ids g1.fr H
          obtain ⟨e3, e4⟩ := yc ids fr H
          have hH : (Wb g1 H ids).2 = (St.seals ids ⟨fr, H⟩).H := e4 g1.fr
          have hG : (Wb g1 H ids).1 = ⟨g1.fr.map (up (x7 ids H)), g1.gs, g1.facts⟩ := by simp only [Wb, e1]
          rw [hG, hH] at h1
          have hR2 := hR1.map (og (x7 ids H))
          rw [← e3] at hR2
          generalize hS : St.seals ids ⟨fr, H⟩ = S at h1 hR2
          have hva2 : xn ⟨g1.fr.map (up (x7 ids H)), g1.gs, g1.facts⟩ [] o.op = true := hva
          have hev2 := Ui hR2 hva2
          rw [rX hb] at h1
          cases hk : z8 T h0 env inlP o.op (evA (g1.fr.map (up (x7 ids H)))) S.H (fun v h => some (v, h)) with
          | none => simp [hk] at h1
          | some p =>
           obtain ⟨v, H'⟩ := p
           simp only [hk, Lm] at h1
           cases hpl : o9 pl o.dst o.op (evA g1.fr) v with
           | false => simp [hpl] at h1
           | true =>
           simp only [hpl, Lk] at h1
           have hpl2 := ZN hR1 (q := []) (fun q hq => by simp at hq) (.inr hva) hpl
           rw [ft] at h1
           generalize hks : zN env o.op (evA (g1.fr.map (up (x7 ids H)))) S.H = ks at h1
           have hks' : zN env o.op (evA S.fr) S.H = ks := by rw [x5 hev2]; exact hks
           have hk' : z8 T h0 env inlP o.op (evA S.fr) S.H (fun v h => some (v, h)) = some (v, H') := by rw [vV T hev2]; exact hk
           have hR3 := hR2.map (k8 ks)
           have hfree : tC ⟨(g1.fr.map (up (x7 ids H))).map (yv ks), g1.gs, g1.facts⟩ o.dst = true := by
            cases hd : o.dst with
            | none => rfl
            | some d => rw [hd] at hf1; simpa [tC] using hf1
           simp only [rV] at h1
           have hR' := hR3.put (dst := o.dst) (p := []) (v1 := v) (v2 := v) hfree (by cases o.dst <;> rfl) (fun _ => rfl) (fun hn => absurd (fun q hq => by simp at hq) hn)
           obtain ⟨g', st', r1, r2, r3⟩ := ih _ _ _ _ _ h1 hR'
           refine ⟨g', st', ?_, r2, r3⟩
           have hhard : kK T h0 env inlP draw o.op ⟨fr, H⟩ = some (⟨ul S.fr ks, H'⟩, v) := by
            simp only [kK, hids, hcc, Lk, hS, hk', hks']
           simp only [gC, yw, hg1 (hq.1 (hy rfl)), opD, hs, Lj, hhard, hpl2, Lk]
           rw [rV]; exact r1
theorem jQ (draw : Bool) (pl : List Nat) (ops : Array Oper) : ∀ (l : List Oper) (k : Nat), (∀ j, l[j]? = ops[k + j]?) → ∀ st, t9 T h0 env inlP draw pl ops (List.range' k l.length) st = gC T h0 env inlP draw pl ops.toList l st
 | [], k, _, st => rfl
 | o :: r, k, h, st => by
  have h1 : ops[k]? = some o := by simpa using (h 0).symm
  have ih := jQ draw pl ops r (k + 1) (fun j => by have := h (j + 1); simpa [Nat.add_assoc, Nat.add_comm 1 j] using this)
  simp only [List.length_cons, List.range'_succ, t9, h1, gC]
  cases yw T h0 env inlP draw pl ops.toList o st with
  | none => rfl
  | some s => exact ih s
theorem dr (draw : Bool) (pl : List Nat) (ops : Array Oper) (st : St) : t9 T h0 env inlP draw pl ops (List.range ops.size) st = gC T h0 env inlP draw pl ops.toList ops.toList st := by
 rw [List.range_eq_range', ← Array.length_toList]
 exact jQ draw pl ops ops.toList 0 (fun j => by simp) st
end
end Go.Proofs.YtefddghdaimklaaGreatDoor.AI
