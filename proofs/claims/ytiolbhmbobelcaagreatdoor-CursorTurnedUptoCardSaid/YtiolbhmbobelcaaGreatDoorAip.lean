/- A region in the text's order comes to the steps' state. -/
import Derived.Test.YtiolbhmbobelcaaGreatDoorAio
set_option linter.unusedVariables false
set_option linter.unusedSimpArgs false
namespace Go.Proofs.YtiolbhmbobelcaaGreatDoor.AI
open Go
section
variable {R : Type} {T : TypeId → Option TI} {h0 : Nat} {env : FuncId → Option Con} {inl : FuncId → List AV → List Ob → (AV → List Ob → Option R) → Option R} {inlP : FuncId → List AV → List Ob → (AV → List Ob → Option (AV × List Ob)) → Option (AV × List Ob)}

variable (T h0 env inlP) in
def runL (draw : Bool) (pl : List Nat) (all : List Oper) : List Oper → St → Option St
  | [], st => some st
  | o :: r, st => match stepD T h0 env inlP draw pl all o st with
    | some s => runL draw pl all r s
    | none => none

theorem guard_skip {all : List Oper} {g : G} {fr : List AV} (hR : RG g fr) {o : Oper} (h : guardPath all g o = some none) : guardD all fr o = some false := by
  unfold guardPath at h
  unfold guardD
  split at h
  · cases h
  · rename_i j want hg
    simp only [hg]
    split at h
    · rename_i oj hj
      simp only [hj]
      split at h
      · rename_i t ht
        simp only [ht]
        split at h
        · cases h
        · rename_i hs
          split at h
          · rename_i hp
            have := hR.hold t (by rw [hp]; intro q hq; simp at hq)
            rw [this, hs]
          · cases h
        · cases h
      · cases h
    · cases h

theorem guard_path {all : List Oper} {g : G} {fr : List AV} (hR : RG g fr) {o : Oper} {q0 : Lits} (h : guardPath all g o = some (some q0)) :
    (Holds fr q0 → guardD all fr o = some true) ∧ (¬ Holds fr q0 → guardD all fr o = some false) := by
  unfold guardPath at h
  unfold guardD
  split at h
  · rename_i hg
    cases h
    simp only [hg]
    exact ⟨fun _ => trivial, fun hn => absurd (fun q hq => by simp at hq) hn⟩
  · rename_i j want hg
    simp only [hg]
    split at h
    · rename_i oj hj
      simp only [hj]
      split at h
      · rename_i t ht
        simp only [ht]
        split at h
        · rename_i b hs
          cases h
          constructor
          · intro hh
            have := hh (t, want) (by simp)
            simp only at this
            rw [this]
            simp [boolAV]
          · intro hn
            by_cases hp : Holds fr (pathOf g.gs t)
            · have h1 := hR.hold t hp
              rw [h1, hs]
              have : b ≠ want := fun e => hn (by
                intro q hq
                rcases List.mem_append.1 hq with hq | hq
                · exact hp q hq
                · rw [List.mem_singleton.1 hq]; rw [h1, hs, e]; rfl)
              simp [this]
            · rw [hR.skip t hp]
        · split at h <;> cases h
        · cases h
      · cases h
    · cases h

theorem evalRG {g : G} {fr : List AV} (hR : RG g fr) {op : Op} (hv : validAll g [] op = true) : ∀ o ∈ op.operands.toList, evA fr o = evA g.fr o :=
  validAll_eq hR (fun q hq => by simp at hq) hv

theorem slotOk_congr {pl : List Nat} {op : Op} {ev ev' : Operand → AV} (h : ∀ o ∈ op.operands.toList, ev' o = ev o) : slotOk pl op ev' = slotOk pl op ev := by
  unfold slotOk
  split
  · rename_i c
    split
    · rename_i s hcal
      rw [h (.tmp s) (by simp [Op.operands, Call.operands, hcal])]
    · rfl
  · rfl

theorem plOk_eq {g : G} {fr : List AV} (hR : RG g fr) {q : Lits} (hh : Holds fr q) {op : Op} {pl : List Nat} {dst : Option Tmp} {v : AV} (hv : (∃ c a b, op = .pick c a b) ∨ validAll g q op = true) (h : plOk pl dst op (evA g.fr) v = true) : plOk pl dst op (evA fr) v = true := by
  unfold plOk at h ⊢
  split at h
  · rfl
  · rename_i d
    cases hm : memN d pl with
    | false => simp only [cond_false]
    | true =>
      simp only [hm, cond_true] at h ⊢
      split at h
      · cases h
      · rename_i hnp
        rcases hv with ⟨c, a, b, rfl⟩ | hv
        · exact absurd rfl (hnp c a b)
        · have he := validAll_eq hR hh hv
          have : (op.operands.toList.all fun o => plainV (evA fr o)) = op.operands.toList.all fun o => plainV (evA g.fr o) := by
            rw [Bool.eq_iff_iff, List.all_eq_true, List.all_eq_true]
            exact ⟨fun k o ho => by rw [← he o ho]; exact k o ho, fun k o ho => by rw [he o ho]; exact k o ho⟩
          rw [this, slotOk_congr he]
          exact h

theorem softG_valid {g : G} {q : Lits} {op : Op} {H : List Ob} {v : AV} (hs : softG T g q op H = some v) : (∃ c a b, op = .pick c a b) ∨ validAll g q op = true := by
  unfold softG at hs
  split at hs
  · exact .inl ⟨_, _, _, rfl⟩
  · right
    cases hv : validAll g q op with
    | false => simp [hv] at hs
    | true => rfl

theorem reg_sound (hb : Binds inl inlP) (draw : Bool) (pl : List Nat) (all : List Oper) : ∀ (l : List Oper) (g : G) (H : List Ob) (fr : List AV) (k : G → List Ob → Option R) (r : R),
    regK T h0 env inl draw pl all l g H k = some r → RG g fr → ∃ g' st', runL T h0 env inlP draw pl all l ⟨fr, H⟩ = some st' ∧ RG g' st'.fr ∧ k g' st'.H = some r
  | [], g, H, fr, k, r, h, hR => ⟨g, ⟨fr, H⟩, rfl, hR, h⟩
  | o :: rest, g, H, fr, k, r, h, hR => by
    have ih := reg_sound hb draw pl all rest
    unfold regK at h
    cases hf : freeG g o.dst with
    | false => simp [hf] at h
    | true =>
      simp only [hf, cond_true] at h
      have skipStep : guardD all fr o = some false → regK T h0 env inl draw pl all rest (putG g o.dst [] .skip) H k = some r →
          ∃ g' st', runL T h0 env inlP draw pl all (o :: rest) ⟨fr, H⟩ = some st' ∧ RG g' st'.fr ∧ k g' st'.H = some r := fun hg h => by
        have hR' : RG (putG g o.dst [] .skip) (putA fr o.dst .skip) := hR.put hf (by cases o.dst <;> rfl) (fun _ => rfl) (fun _ => rfl)
        obtain ⟨g', st', h1, h2, h3⟩ := ih _ _ _ _ _ h hR'
        exact ⟨g', st', by simp only [runL, stepD, hg]; exact h1, h2, h3⟩
      split at h
      · cases h
      · rename_i hgp
        exact skipStep (guard_skip hR hgp) h
      · rename_i q0 hgp
        obtain ⟨hg1, hg2⟩ := guard_path hR hgp
        generalize hqd : (q0.filter fun p => !(memL p g.facts)) = q at h
        have hq : Holds fr q ↔ Holds fr q0 := by
          constructor
          · intro hh p hp
            cases hm : memL p g.facts with
            | true => exact hR.facts p ((memL_iff _ _).1 hm)
            | false => exact hh p (by rw [← hqd]; exact List.mem_filter.2 ⟨hp, by simp [hm]⟩)
          · intro hh p hp
            rw [← hqd] at hp
            exact hh p (List.mem_filter.1 hp).1
        cases hc : q.any (fun p => memL (p.1, !p.2) g.facts) with
        | true =>
          simp only [hc, cond_true] at h
          refine skipStep (hg2 (fun hh => ?_)) h
          obtain ⟨p, hp, hm⟩ := List.any_eq_true.1 hc
          have h1 := hR.facts _ ((memL_iff _ _).1 hm)
          have h2 := hq.2 hh p hp
          simp only at h1
          rw [h2] at h1
          have := boolAV_inj h1
          cases hp2 : p.2 <;> simp [hp2] at this
        | false =>
          simp only [hc, cond_false] at h
          cases hfq : freeQ o.dst q with
          | false => simp [hfq] at h
          | true =>
            simp only [hfq, Bool.not_true, cond_false] at h
            cases hs : isSoft o.op with
            | true =>
              simp only [hs, cond_true] at h
              split at h
              · rename_i v hv
                cases hpl : plOk pl o.dst o.op (evA g.fr) v with
                | false => simp [hpl] at h
                | true =>
                simp only [hpl, cond_true] at h
                by_cases hh : Holds fr q
                · have hsd := softG_sound hR hh hv
                  have hpl2 := plOk_eq hR hh (softG_valid hv) hpl
                  have hR' := hR.put (v1 := v) (v2 := v) hf hfq (fun _ => rfl) (fun hn => absurd hh hn)
                  obtain ⟨g', st', h1, h2, h3⟩ := ih _ _ _ _ _ h hR'
                  exact ⟨g', st', by simp only [runL, stepD, hg1 (hq.1 hh), opD, hs, cond_true, hsd, hpl2]; exact h1, h2, h3⟩
                · have hR' := hR.put (v1 := .skip) (v2 := v) hf hfq (fun hn => absurd hn hh) (fun _ => rfl)
                  obtain ⟨g', st', h1, h2, h3⟩ := ih _ _ _ _ _ h hR'
                  exact ⟨g', st', by simp only [runL, stepD, hg2 (fun hn => hh (hq.2 hn))]; exact h1, h2, h3⟩
              · obtain ⟨g1, yes, h1, hR1, hf1, hy, hn⟩ := splitK_sound q g _ h hR hf hfq
                cases yes with
                | false =>
                  simp only [cond_false] at h1
                  have hR' : RG (putG g1 o.dst [] .skip) (putA fr o.dst .skip) := hR1.put hf1 (by cases o.dst <;> rfl) (fun _ => rfl) (fun _ => rfl)
                  obtain ⟨g', st', r1, r2, r3⟩ := ih _ _ _ _ _ h1 hR'
                  exact ⟨g', st', by simp only [runL, stepD, hg2 (fun hh => hn rfl (hq.2 hh))]; exact r1, r2, r3⟩
                | true => simp only [cond_true] at h1; cases h1
            | false =>
              simp only [hs, cond_false] at h
              obtain ⟨g1, yes, h1, hR1, hf1, hy, hn⟩ := splitK_sound q g _ h hR hf hfq
              cases yes with
              | false =>
                simp only [cond_false] at h1
                have hR' : RG (putG g1 o.dst [] .skip) (putA fr o.dst .skip) := hR1.put hf1 (by cases o.dst <;> rfl) (fun _ => rfl) (fun _ => rfl)
                obtain ⟨g', st', r1, r2, r3⟩ := ih _ _ _ _ _ h1 hR'
                exact ⟨g', st', by simp only [runL, stepD, hg2 (fun hh => hn rfl (hq.2 hh))]; exact r1, r2, r3⟩
              | true =>
                simp only [cond_true] at h1
                cases hva : validAll g1 [] o.op with
                | false => simp [hva] at h1
                | true =>
                  simp only [hva, cond_true] at h1
                  have hev := evalRG hR1 hva
                  have hids := sealsOf_congr (env := env) hev
                  generalize hidv : sealsOf env o.op (evA g1.fr) = ids at h1 hids
                  cases hcc : (ids.all (Nat.ble h0)) && (!draw || Nat.beq (cls env o.op) 3 || ids.isEmpty) with
                  | false => simp [hcc] at h1
                  | true =>
                    simp only [hcc, cond_true] at h1
                    obtain ⟨e1, e2⟩ := seals_split ids g1.fr H
                    obtain ⟨e3, e4⟩ := seals_split ids fr H
                    have hH : (sealG g1 H ids).2 = (St.seals ids ⟨fr, H⟩).H := e4 g1.fr
                    have hG : (sealG g1 H ids).1 = ⟨g1.fr.map (subsV (sealV ids H)), g1.gs, g1.facts⟩ := by simp only [sealG, e1]
                    rw [hG, hH] at h1
                    have hR2 := hR1.map (subs_tame (sealV ids H))
                    rw [← e3] at hR2
                    generalize hS : St.seals ids ⟨fr, H⟩ = S at h1 hR2
                    have hva2 : validAll ⟨g1.fr.map (subsV (sealV ids H)), g1.gs, g1.facts⟩ [] o.op = true := hva
                    have hev2 := evalRG hR2 hva2
                    rw [hardK_bind hb] at h1
                    cases hk : hardK T h0 env inlP o.op (evA (g1.fr.map (subsV (sealV ids H)))) S.H (fun v h => some (v, h)) with
                    | none => simp [hk] at h1
                    | some p =>
                      obtain ⟨v, H'⟩ := p
                      simp only [hk, Option.bind_some] at h1
                      cases hpl : plOk pl o.dst o.op (evA g1.fr) v with
                      | false => simp [hpl] at h1
                      | true =>
                      simp only [hpl, cond_true] at h1
                      have hpl2 := plOk_eq hR1 (q := []) (fun q hq => by simp at hq) (.inr hva) hpl
                      rw [killG_eq] at h1
                      generalize hks : killsOf env o.op (evA (g1.fr.map (subsV (sealV ids H)))) S.H = ks at h1
                      have hks' : killsOf env o.op (evA S.fr) S.H = ks := by rw [killsOf_congr hev2]; exact hks
                      have hk' : hardK T h0 env inlP o.op (evA S.fr) S.H (fun v h => some (v, h)) = some (v, H') := by rw [hardK_congr T hev2]; exact hk
                      have hR3 := hR2.map (kill_tame ks)
                      have hfree : freeG ⟨(g1.fr.map (subsV (sealV ids H))).map (killV ks), g1.gs, g1.facts⟩ o.dst = true := by
                        cases hd : o.dst with
                        | none => rfl
                        | some d => rw [hd] at hf1; simpa [freeG] using hf1
                      simp only [killFr_map] at h1
                      have hR' := hR3.put (dst := o.dst) (p := []) (v1 := v) (v2 := v) hfree (by cases o.dst <;> rfl) (fun _ => rfl) (fun hn => absurd (fun q hq => by simp at hq) hn)
                      obtain ⟨g', st', r1, r2, r3⟩ := ih _ _ _ _ _ h1 hR'
                      refine ⟨g', st', ?_, r2, r3⟩
                      have hhard : hardD T h0 env inlP draw o.op ⟨fr, H⟩ = some (⟨killFr S.fr ks, H'⟩, v) := by
                        simp only [hardD, hids, hcc, cond_true, hS, hk', hks']
                      simp only [runL, stepD, hg1 (hq.1 (hy rfl)), opD, hs, cond_false, hhard, hpl2, cond_true]
                      rw [killFr_map]; exact r1

/-! ### By places -/
theorem runL_runD (draw : Bool) (pl : List Nat) (ops : Array Oper) : ∀ (l : List Oper) (k : Nat), (∀ j, l[j]? = ops[k + j]?) → ∀ st, runD T h0 env inlP draw pl ops (List.range' k l.length) st = runL T h0 env inlP draw pl ops.toList l st
  | [], k, _, st => rfl
  | o :: r, k, h, st => by
    have h1 : ops[k]? = some o := by simpa using (h 0).symm
    have ih := runL_runD draw pl ops r (k + 1) (fun j => by have := h (j + 1); simpa [Nat.add_assoc, Nat.add_comm 1 j] using this)
    simp only [List.length_cons, List.range'_succ, runD, h1, runL]
    cases stepD T h0 env inlP draw pl ops.toList o st with
    | none => rfl
    | some s => exact ih s

theorem runL_range (draw : Bool) (pl : List Nat) (ops : Array Oper) (st : St) : runD T h0 env inlP draw pl ops (List.range ops.size) st = runL T h0 env inlP draw pl ops.toList ops.toList st := by
  rw [List.range_eq_range', ← Array.length_toList]
  exact runL_runD draw pl ops ops.toList 0 (fun j => by simp) st

end
end Go.Proofs.YtiolbhmbobelcaaGreatDoor.AI
