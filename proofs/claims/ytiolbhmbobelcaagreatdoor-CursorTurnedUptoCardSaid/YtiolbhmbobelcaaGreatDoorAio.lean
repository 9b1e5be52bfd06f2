/- A region in the text's order: what we compute is what the steps come to. -/
import Derived.Test.YtiolbhmbobelcaaGreatDoorAin
set_option linter.unusedVariables false
set_option linter.unusedSimpArgs false
namespace Go.Proofs.YtiolbhmbobelcaaGreatDoor.AI
open Go

theorem nbeq {a b : Nat} : Nat.beq a b = true ↔ a = b := ⟨Nat.eq_of_beq_eq_true, fun h => by subst h; simp⟩

theorem memL_iff (p : Nat × Bool) : ∀ (l : Lits), memL p l = true ↔ p ∈ l
  | [] => by simp [memL]
  | q :: r => by
    simp only [memL, Bool.or_eq_true, Bool.and_eq_true, beq_iff_eq, List.mem_cons, memL_iff p r, nbeq]
    constructor
    · rintro (⟨h1, h2⟩ | h)
      · exact .inl (Prod.ext h1 h2)
      · exact .inr h
    · rintro (h | h)
      · exact .inl ⟨by rw [h], by rw [h]⟩
      · exact .inr h
theorem subL_iff (ps qs : Lits) : subL ps qs = true ↔ ∀ p ∈ ps, p ∈ qs := by
  simp only [subL, List.all_eq_true, memL_iff]
theorem namesL_false (t : Nat) (ps : Lits) : namesL t ps = false ↔ ∀ p ∈ ps, p.1 ≠ t := by
  simp only [namesL, List.any_eq_false, nbeq]

def Holds (fr : List AV) (p : Lits) : Prop := ∀ q ∈ p, fr.getD q.1 .undef = boolAV q.2

structure RG (g : G) (fr : List AV) : Prop where
  len : fr.length = g.fr.length
  facts : Holds fr g.facts
  hold : ∀ t, Holds fr (pathOf g.gs t) → fr.getD t .undef = g.fr.getD t .undef
  skip : ∀ t, ¬ Holds fr (pathOf g.gs t) → fr.getD t .undef = .skip

theorem boolAV_inj {a b : Bool} (h : boolAV a = boolAV b) : a = b := by simpa [boolAV] using h

theorem getD_set (l : List AV) (d t : Nat) (v : AV) (hne : t ≠ d) : (l.set d v).getD t .undef = l.getD t .undef := by
  simp [List.getD, List.getElem?_set_ne (Ne.symm hne)]
theorem getD_set_self (l : List AV) (d : Nat) (v : AV) (hd : d < l.length) : (l.set d v).getD d .undef = v := by
  simp [List.getD, hd]
theorem getD_out (l : List AV) (t : Nat) (h : l.length ≤ t) : l.getD t .undef = .undef := by
  simp [List.getD, List.getElem?_eq_none h]

theorem pathOf_drop (d t : Nat) (hne : t ≠ d) : ∀ (gs : List (Nat × Lits)), pathOf (dropG d gs) t = pathOf gs t
  | [] => rfl
  | (u, p) :: r => by
    have ih := pathOf_drop d t hne r
    simp only [dropG, List.filter_cons] at ih ⊢
    cases hu : Nat.beq u d with
    | true =>
      have : u = d := Nat.eq_of_beq_eq_true hu
      subst this
      have h2 : Nat.beq u t = false := by
        cases h3 : Nat.beq u t with
        | true => exact absurd (Nat.eq_of_beq_eq_true h3).symm hne
        | false => rfl
      simp only [Bool.not_true, Bool.false_eq_true, if_false, pathOf, h2, cond_false]
      exact ih
    | false =>
      simp only [Bool.not_false, if_true, pathOf]
      rw [ih]
theorem pathOf_drop_self (d : Nat) : ∀ (gs : List (Nat × Lits)), pathOf (dropG d gs) d = []
  | [] => rfl
  | (u, p) :: r => by
    have ih := pathOf_drop_self d r
    simp only [dropG, List.filter_cons] at ih ⊢
    cases hu : Nat.beq u d with
    | true => simp only [Bool.not_true, Bool.false_eq_true, if_false]; exact ih
    | false => simp only [Bool.not_false, if_true, pathOf, hu, cond_false]; exact ih
theorem pathOf_mem (t : Nat) : ∀ (gs : List (Nat × Lits)), pathOf gs t = [] ∨ ∃ p ∈ gs, p.2 = pathOf gs t
  | [] => .inl rfl
  | (u, p) :: r => by
    simp only [pathOf]
    cases Nat.beq u t with
    | true => exact .inr ⟨(u, p), by simp, rfl⟩
    | false =>
      rcases pathOf_mem t r with h | ⟨q, h1, h2⟩
      · exact .inl h
      · exact .inr ⟨q, by simp [h1], h2⟩

theorem freeG_facts {g : G} {d : Nat} (h : freeG g (some d) = true) : ∀ p ∈ g.facts, p.1 ≠ d := by
  simp only [freeG, Bool.and_eq_true, Bool.not_eq_true'] at h
  exact (namesL_false d g.facts).1 h.1.2
theorem freeG_lt {g : G} {d : Nat} (h : freeG g (some d) = true) : d < g.fr.length := by
  simp only [freeG, Bool.and_eq_true] at h
  have := h.1.1
  simp [Nat.blt] at this
  omega
theorem freeG_path {g : G} {d : Nat} (h : freeG g (some d) = true) (t : Nat) : ∀ p ∈ pathOf g.gs t, p.1 ≠ d := by
  simp only [freeG, Bool.and_eq_true, List.all_eq_true, Bool.not_eq_true'] at h
  rcases pathOf_mem t g.gs with h1 | ⟨q, h1, h2⟩
  · rw [h1]; simp
  · rw [← h2]; exact (namesL_false d q.2).1 (h.2 q h1)

theorem Holds.put {fr : List AV} {p : Lits} {d : Nat} {v : AV} (h : ∀ q ∈ p, q.1 ≠ d) : Holds (fr.set d v) p ↔ Holds fr p := by
  constructor <;> intro hh q hq
  · have := hh q hq; rwa [getD_set _ _ _ _ (h q hq)] at this
  · rw [getD_set _ _ _ _ (h q hq)]; exact hh q hq

theorem RG.put {g : G} {fr : List AV} (h : RG g fr) {dst : Option Tmp} (hf : freeG g dst = true) {p : Lits} (hp : freeQ dst p = true) {v1 v2 : AV} (h1 : Holds fr p → v1 = v2) (h2 : ¬ Holds fr p → v1 = .skip) :
    RG (putG g dst p v2) (putA fr dst v1) := by
  cases dst with
  | none => exact h
  | some d =>
    have hpd : ∀ q ∈ p, q.1 ≠ d := by
      simp only [freeQ, Bool.not_eq_true'] at hp
      exact (namesL_false d p).1 hp
    have hfa := freeG_facts hf
    have hpa := freeG_path hf
    have hpath : ∀ t, t ≠ d → pathOf (putG g (some d) p v2).gs t = pathOf g.gs t := fun t hne => by
      have hn : Nat.beq d t = false := by
        cases h3 : Nat.beq d t with
        | true => exact absurd (Nat.eq_of_beq_eq_true h3).symm hne
        | false => rfl
      cases p with
      | nil => exact pathOf_drop d t hne g.gs
      | cons q r => simp only [putG, pathOf, hn, cond_false]; exact pathOf_drop d t hne g.gs
    have hself : pathOf (putG g (some d) p v2).gs d = p := by
      cases p with
      | nil => exact pathOf_drop_self d g.gs
      | cons q r =>
        have : Nat.beq d d = true := by simp
        simp only [putG, pathOf, this, cond_true]
    refine ⟨by simp [putG, putA, h.len], ?_, fun t ht => ?_, fun t ht => ?_⟩
    · show Holds (fr.set d v1) g.facts
      exact (Holds.put hfa).2 h.facts
    · show (fr.set d v1).getD t .undef = (g.fr.set d v2).getD t .undef
      by_cases e : t = d
      · subst e
        rw [hself] at ht
        have := h1 ((Holds.put hpd).1 ht)
        subst this
        rcases Nat.lt_or_ge t fr.length with hl | hl
        · rw [getD_set_self _ _ _ hl, getD_set_self _ _ _ (by rw [← h.len]; exact hl)]
        · rw [getD_out _ _ (by simpa using hl), getD_out _ _ (by simp; rw [← h.len]; exact hl)]
      · rw [hpath t e] at ht
        rw [getD_set _ _ _ _ e, getD_set _ _ _ _ e]
        exact h.hold t ((Holds.put (hpa t)).1 ht)
    · show (fr.set d v1).getD t .undef = .skip
      by_cases e : t = d
      · subst e
        rw [hself] at ht
        have hn : ¬ Holds fr p := fun hh => ht ((Holds.put hpd).2 hh)
        have := h2 hn
        subst this
        rcases Nat.lt_or_ge t fr.length with hl | hl
        · exact getD_set_self _ _ _ hl
        · have := freeG_lt hf
          rw [← h.len] at this; omega
      · rw [hpath t e] at ht
        rw [getD_set _ _ _ _ e]
        exact h.skip t (fun hh => ht ((Holds.put (hpa t)).2 hh))


theorem evA_eq {g : G} {fr : List AV} (h : RG g fr) {q : Lits} (hq : Holds fr q) {o : Operand} (hv : validO g q o = true) : evA fr o = evA g.fr o := by
  cases o with
  | tmp t =>
    simp only [evA]
    refine h.hold t (fun p hp => ?_)
    have := (subL_iff _ _).1 hv p hp
    rcases List.mem_append.1 this with h1 | h1
    · exact hq p h1
    · exact h.facts p h1
  | _ => rfl

theorem validAll_eq {g : G} {fr : List AV} (h : RG g fr) {q : Lits} (hq : Holds fr q) {op : Op} (hv : validAll g q op = true) : ∀ o ∈ op.operands.toList, evA fr o = evA g.fr o :=
  fun o ho => evA_eq h hq (List.all_eq_true.1 hv o ho)

section
variable {T : TypeId → Option TI}

theorem softG_sound {g : G} {fr : List AV} (h : RG g fr) {q : Lits} (hq : Holds fr q) {op : Op} {H : List Ob} {v : AV} (hs : softG T g q op H = some v) : softD T op fr H = some v := by
  unfold softG at hs
  split at hs
  · rename_i c a b
    unfold pickG at hs
    split at hs
    · rename_i t
      cases hv : validO g q (.tmp t) with
      | false => simp [hv] at hs
      | true =>
        simp only [hv, cond_true] at hs
        have hc := evA_eq h hq hv
        split at hs
        · rename_i z hz
          simp only [softD, hc, hz]
          have hz1 : fr.getD t .undef = boolAV z := by rw [show fr.getD t .undef = evA fr (.tmp t) from rfl, hc, hz]; rfl
          have mem : ∀ w, memL (t, w) (q ++ g.facts) = true → z = w := fun w hm => by
            have hm' := (memL_iff _ _).1 hm
            have : fr.getD t .undef = boolAV w := by
              rcases List.mem_append.1 hm' with h1 | h1
              · exact hq _ h1
              · exact h.facts _ h1
            rw [hz1] at this
            exact boolAV_inj this
          cases hm1 : memL (t, true) (q ++ g.facts) with
          | true =>
            simp only [hm1, cond_true] at hs
            have := mem true hm1
            subst this
            cases hva : validO g q a with
            | false => simp [hva] at hs
            | true =>
              simp only [hva, cond_true, Option.some.injEq] at hs
              rw [← hs, ← evA_eq h hq hva]; rfl
          | false =>
            simp only [hm1, cond_false] at hs
            cases hm2 : memL (t, false) (q ++ g.facts) with
            | true =>
              simp only [hm2, cond_true] at hs
              have := mem false hm2
              subst this
              cases hva : validO g q b with
              | false => simp [hva] at hs
              | true =>
                simp only [hva, cond_true, Option.some.injEq] at hs
                rw [← hs, ← evA_eq h hq hva]; rfl
            | false =>
              simp only [hm2, cond_false] at hs
              cases hva : validO g ((t, true) :: q) a && validO g ((t, false) :: q) b with
              | false => simp [hva] at hs
              | true =>
                simp only [hva, cond_true] at hs
                rw [Bool.and_eq_true] at hva
                split at hs
                · rename_i x y hx hy
                  simp only [Option.some.injEq] at hs
                  subst hs
                  cases z with
                  | true =>
                    have : Holds fr ((t, true) :: q) := fun p hp => by
                      rcases List.mem_cons.1 hp with rfl | hp
                      · exact hz1
                      · exact hq p hp
                    rw [cond_true, cond_true, evA_eq h this hva.1, hx]; rfl
                  | false =>
                    have : Holds fr ((t, false) :: q) := fun p hp => by
                      rcases List.mem_cons.1 hp with rfl | hp
                      · exact hz1
                      · exact hq p hp
                    rw [cond_false, cond_false, evA_eq h this hva.2, hy]; rfl
                · cases hs
        · cases hs
    · cases hs
  · rename_i hnp
    cases hv : validAll g q op with
    | false => simp [hv] at hs
    | true =>
      simp only [hv, cond_true] at hs
      rw [← softA_congr T (validAll_eq h hq hv)] at hs
      unfold softD
      split
      · rename_i c a b; exact absurd rfl (hnp c a b)
      · exact hs
end

/-- Tests that are decided, one behind the other. -/
theorem splitK_sound {R : Type} {fr : List AV} {r : R} {dst : Option Tmp} : ∀ (q : Lits) (g : G) (k : G → Bool → Option R), splitK g q k = some r → RG g fr → freeG g dst = true → freeQ dst q = true →
    ∃ g' yes, k g' yes = some r ∧ RG g' fr ∧ freeG g' dst = true ∧ (yes = true → Holds fr q) ∧ (yes = false → ¬ Holds fr q)
  | [], g, k, h, hR, hf, _ => ⟨g, true, h, hR, hf, fun _ p hp => by simp at hp, fun h => by cases h⟩
  | (t, w) :: rest, g, k, h, hR, hf, hq => by
    unfold splitK at h
    split at h
    · rename_i b hb
      cases hs : subL (pathOf g.gs t) g.facts with
      | false => simp [hs] at h
      | true =>
        simp only [hs, cond_true] at h
        have hpath : Holds fr (pathOf g.gs t) := fun p hp => hR.facts p ((subL_iff _ _).1 hs p hp)
        have hft : fr.getD t .undef = boolAV b := by rw [hR.hold t hpath, hb]; rfl
        have htl : t < g.fr.length := by
          rcases Nat.lt_or_ge t g.fr.length with h1 | h1
          · exact h1
          · rw [getD_out _ _ h1] at hb; cases hb
        have hne : ∀ d, dst = some d → t ≠ d := fun d hd => by
          subst hd
          simp only [freeQ, Bool.not_eq_true'] at hq
          exact (namesL_false d _).1 hq (t, w) (by simp)
        have hqr : freeQ dst rest = true := by
          cases dst with
          | none => rfl
          | some d =>
            simp only [freeQ, Bool.not_eq_true'] at hq ⊢
            exact (namesL_false d _).2 (fun p hp => (namesL_false d _).1 hq p (by simp [hp]))
        have new : RG ⟨g.fr.set t (boolAV b), dropG t g.gs, (t, b) :: g.facts⟩ fr := by
          refine ⟨by simp [hR.len], ?_, fun s hs => ?_, fun s hs => ?_⟩
          · intro p hp
            rcases List.mem_cons.1 hp with rfl | hp
            · exact hft
            · exact hR.facts p hp
          · show fr.getD s .undef = (g.fr.set t (boolAV b)).getD s .undef
            by_cases e : s = t
            · subst e; rw [getD_set_self _ _ _ htl]; exact hft
            · rw [getD_set _ _ _ _ e]
              exact hR.hold s (by rw [← pathOf_drop t s e]; exact hs)
          · by_cases e : s = t
            · subst e
              exact absurd (by rw [show pathOf (dropG s g.gs) s = [] from pathOf_drop_self s g.gs]; intro p hp; simp at hp) hs
            · exact hR.skip s (by rw [← pathOf_drop t s e]; exact hs)
        have hf' : freeG ⟨g.fr.set t (boolAV b), dropG t g.gs, (t, b) :: g.facts⟩ dst = true := by
          cases dst with
          | none => rfl
          | some d =>
            have h1 := freeG_lt hf
            have h2 := freeG_facts hf
            have h3 := hne d rfl
            simp only [freeG, Bool.and_eq_true, List.all_eq_true, Bool.not_eq_true'] at hf ⊢
            refine ⟨⟨by simpa using hf.1.1, (namesL_false d _).2 (fun p hp => ?_)⟩, fun p hp => hf.2 p ?_⟩
            · rcases List.mem_cons.1 hp with rfl | hp
              · exact h3
              · exact h2 p hp
            · exact (List.mem_filter.1 hp).1
        have tru : ∀ {yes : Bool}, b = w → (yes = true → Holds fr rest) → (yes = false → ¬ Holds fr rest) → (yes = true → Holds fr ((t, w) :: rest)) ∧ (yes = false → ¬ Holds fr ((t, w) :: rest)) := by
          intro yes hbw h1 h2
          refine ⟨fun hy p hp => ?_, fun hy hh => h2 hy (fun p hp => hh p (by simp [hp]))⟩
          rcases List.mem_cons.1 hp with rfl | hp
          · rw [← hbw]; exact hft
          · exact h1 hy p hp
        have fls : b ≠ w → ¬ Holds fr ((t, w) :: rest) := fun hbw hh => by
          have := hh (t, w) (by simp)
          rw [hft] at this
          exact hbw (boolAV_inj this)
        cases b <;> cases w <;> simp only [cond_true, cond_false] at h
        · obtain ⟨g', yes, h1, h2, h3, h4, h5⟩ := splitK_sound rest _ k h new hf' hqr
          exact ⟨g', yes, h1, h2, h3, (tru rfl h4 h5).1, (tru rfl h4 h5).2⟩
        · exact ⟨_, false, h, new, hf', (fun h => by cases h), fun _ => fls (by simp)⟩
        · exact ⟨_, false, h, new, hf', (fun h => by cases h), fun _ => fls (by simp)⟩
        · obtain ⟨g', yes, h1, h2, h3, h4, h5⟩ := splitK_sound rest _ k h new hf' hqr
          exact ⟨g', yes, h1, h2, h3, (tru rfl h4 h5).1, (tru rfl h4 h5).2⟩
    · cases h

/-! ### What is given away, on two frames at once -/
def sealV : List Nat → List Ob → List Sub
  | [], _ => []
  | i :: r, H => match H[i]? with
    | some (.arr e t xs) => .give i t xs :: sealV r ((Sub.h (.give i t xs) H).set i .dead)
    | _ => sealV r H

def subsV : List Sub → AV → AV
  | [], v => v
  | s :: r, v => subsV r (s.v v)

theorem seals_split : ∀ (ids : List Nat) (fr : List AV) (H : List Ob), (St.seals ids ⟨fr, H⟩).fr = fr.map (subsV (sealV ids H)) ∧ ∀ fr' : List AV, (St.seals ids ⟨fr', H⟩).H = (St.seals ids ⟨fr, H⟩).H
  | [], fr, H => by
    refine ⟨?_, fun fr' => rfl⟩
    show fr = fr.map (fun v => v)
    simp
  | i :: r, fr, H => by
    have step : ∀ f : List AV, St.seals (i :: r) ⟨f, H⟩ = St.seals r (St.give i ⟨f, H⟩) := fun f => rfl
    cases hx : H[i]? with
    | none =>
      have hs : ∀ f : List AV, St.give i ⟨f, H⟩ = ⟨f, H⟩ := fun f => by simp [St.give, hx]
      obtain ⟨h1, h2⟩ := seals_split r fr H
      refine ⟨?_, fun fr' => ?_⟩
      · rw [step, hs]; simp only [sealV, hx]; exact h1
      · rw [step, step, hs, hs]; exact h2 fr'
    | some o =>
      cases o with
      | arr e t xs =>
        have hs : ∀ f : List AV, St.give i ⟨f, H⟩ = ⟨f.map (Sub.v (.give i t xs)), (Sub.h (.give i t xs) H).set i .dead⟩ := fun f => by simp [St.give, hx, St.sub]
        obtain ⟨h1, h2⟩ := seals_split r (fr.map (Sub.v (.give i t xs))) ((Sub.h (.give i t xs) H).set i .dead)
        refine ⟨?_, fun fr' => ?_⟩
        · rw [step, hs, h1]
          simp only [sealV, hx, List.map_map]
          rfl
        · rw [step, step, hs, hs]; exact h2 _
      | box cs =>
        have hs : ∀ f : List AV, St.give i ⟨f, H⟩ = ⟨f, H⟩ := fun f => by simp [St.give, hx]
        obtain ⟨h1, h2⟩ := seals_split r fr H
        refine ⟨?_, fun fr' => ?_⟩
        · rw [step, hs]; simp only [sealV, hx]; exact h1
        · rw [step, step, hs, hs]; exact h2 fr'
      | mp _ _ =>
        have hs : ∀ f : List AV, St.give i ⟨f, H⟩ = ⟨f, H⟩ := fun f => by simp [St.give, hx]
        obtain ⟨h1, h2⟩ := seals_split r fr H
        refine ⟨?_, fun fr' => ?_⟩
        · rw [step, hs]; simp only [sealV, hx]; exact h1
        · rw [step, step, hs, hs]; exact h2 fr'
      | tb _ =>
        have hs : ∀ f : List AV, St.give i ⟨f, H⟩ = ⟨f, H⟩ := fun f => by simp [St.give, hx]
        obtain ⟨h1, h2⟩ := seals_split r fr H
        refine ⟨?_, fun fr' => ?_⟩
        · rw [step, hs]; simp only [sealV, hx]; exact h1
        · rw [step, step, hs, hs]; exact h2 fr'
      | dead =>
        have hs : ∀ f : List AV, St.give i ⟨f, H⟩ = ⟨f, H⟩ := fun f => by simp [St.give, hx]
        obtain ⟨h1, h2⟩ := seals_split r fr H
        refine ⟨?_, fun fr' => ?_⟩
        · rw [step, hs]; simp only [sealV, hx]; exact h1
        · rw [step, step, hs, hs]; exact h2 fr'

/-- A map that leaves tests as they are. -/
structure Tame (φ : AV → AV) : Prop where
  bool : ∀ b, φ (boolAV b) = boolAV b
  skip : φ .skip = .skip
  undef : φ .undef = .undef
  inj : ∀ v b, φ v = boolAV b → v = boolAV b

theorem getD_map {φ : AV → AV} (h : φ .undef = .undef) (fr : List AV) (t : Nat) : (fr.map φ).getD t .undef = φ (fr.getD t .undef) := by
  simp only [List.getD, List.getElem?_map]
  cases fr[t]? <;> simp [h]

theorem RG.map {g : G} {fr : List AV} (h : RG g fr) {φ : AV → AV} (hφ : Tame φ) : RG ⟨g.fr.map φ, g.gs, g.facts⟩ (fr.map φ) := by
  have hh : ∀ p, Holds (fr.map φ) p ↔ Holds fr p := fun p => by
    constructor <;> intro k q hq
    · have := k q hq
      rw [getD_map hφ.undef] at this
      exact hφ.inj _ _ this
    · rw [getD_map hφ.undef, k q hq]; exact hφ.bool _
  refine ⟨by simp [h.len], (hh _).2 h.facts, fun t ht => ?_, fun t ht => ?_⟩
  · show (fr.map φ).getD t .undef = (g.fr.map φ).getD t .undef
    rw [getD_map hφ.undef, getD_map hφ.undef, h.hold t ((hh _).1 ht)]
  · rw [getD_map hφ.undef, h.skip t (fun k => ht ((hh _).2 k))]; exact hφ.skip

theorem bif_or {α : Type} {z : Bool} {x y w : α} (h : (bif z then x else y) = w) : x = w ∨ y = w := by
  cases z
  · exact .inr h
  · exact .inl h

theorem Sub.c_bool (s : Sub) (c : C) (b : Bool) (h : s.c c = .sc .bool b) : c = .sc .bool b := by
  cases c with
  | own id n => cases s <;> (rcases bif_or h with h | h <;> cases h)
  | ptr id off =>
    cases s with
    | above m => rcases bif_or h with h | h <;> cases h
    | kill i => cases h
    | give i t xs => cases h
  | elo id i off => cases s <;> (rcases bif_or h with h | h <;> cases h)
  | mp id =>
    cases s with
    | above m => rcases bif_or h with h | h <;> cases h
    | kill i => cases h
    | give i t xs => cases h
  | fnm f id off =>
    cases s with
    | above m => rcases bif_or h with h | h <;> cases h
    | kill i => cases h
    | give i t xs => cases h
  | fn f caps =>
    cases s with
    | above m => rcases bif_or h with h | h <;> cases h
    | kill i => cases h
    | give i t xs => cases h
  | _ => exact h

theorem Sub.tame (s : Sub) : Tame s.v := by
  refine ⟨fun b => rfl, rfl, rfl, fun v b h => ?_⟩
  cases v with
  | val g cs =>
    simp only [Sub.v, boolAV, AV.val.injEq] at h
    obtain ⟨rfl, h2⟩ := h
    cases cs with
    | nil => simp at h2
    | cons c r =>
      simp only [List.map_cons, List.cons.injEq, List.map_eq_nil_iff] at h2
      obtain ⟨h3, rfl⟩ := h2
      rw [s.c_bool c b h3]; rfl
  | tup l => simp [Sub.v, boolAV] at h
  | skip => simp [Sub.v, boolAV] at h
  | undef => simp [Sub.v, boolAV] at h

theorem subs_tame : ∀ (l : List Sub), Tame (subsV l)
  | [] => ⟨fun _ => rfl, rfl, rfl, fun _ _ h => h⟩
  | s :: r => by
    have h1 := s.tame
    have h2 := subs_tame r
    exact ⟨fun b => by simp only [subsV, h1.bool, h2.bool], by simp only [subsV, h1.skip, h2.skip], by simp only [subsV, h1.undef, h2.undef], fun v b h => h1.inj v b (h2.inj _ b h)⟩

theorem kill_tame (ks : List Nat) : Tame (killV ks) := by
  induction ks with
  | nil => exact ⟨fun _ => rfl, rfl, rfl, fun _ _ h => h⟩
  | cons id r ih =>
    have h1 := (Sub.kill id).tame
    exact ⟨fun b => by simp only [killV, h1.bool, ih.bool], by simp only [killV, h1.skip, ih.skip], by simp only [killV, h1.undef, ih.undef], fun v b h => h1.inj v b (ih.inj _ b h)⟩

theorem killFr_map (ks : List Nat) (fr : List AV) : killFr fr ks = fr.map (killV ks) := by
  apply List.ext_getElem?
  intro t
  rw [killFr_get, List.getElem?_map]

theorem killG_eq : ∀ (ks : List Nat) (g : G), killG g ks = ⟨killFr g.fr ks, g.gs, g.facts⟩
  | [], g => rfl
  | id :: r, g => by rw [killG, killG_eq r]; rfl

end Go.Proofs.YtiolbhmbobelcaaGreatDoor.AI
