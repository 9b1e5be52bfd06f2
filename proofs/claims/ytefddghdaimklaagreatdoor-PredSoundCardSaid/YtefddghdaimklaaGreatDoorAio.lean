/- A part of the proof. -/
import Derived.Test.YtefddghdaimklaaGreatDoorAin
set_option linter.unusedVariables false
set_option linter.unusedSimpArgs false
namespace Go.Proofs.YtefddghdaimklaaGreatDoor.AI
open Go
theorem Ux {a b : Nat} : Nat.beq a b = true ↔ a = b := ⟨Nz, fun h => by subst h; simp⟩
theorem sj (p : Nat × Bool) : ∀ (l : uo), lp p l = true ↔ p ∈ l
 | [] => by simp [lp]
 | q :: r => by
  simp only [lp, Bool.or_eq_true, Nt, beq_iff_eq, NM, sj p r, Ux]
  constructor
  ·rintro (⟨h1, h2⟩ | h)
   ·exact .inl (Prod.ext h1 h2)
   ·exact .inr h
  ·rintro (h | h)
   ·exact .inl ⟨by rw [h], by rw [h]⟩
   ·exact .inr h
theorem mL (ps qs : uo) : dS ps qs = true ↔ ∀ p ∈ ps, p ∈ qs := by
 simp only [dS, Nw, sj]
theorem yE (t : Nat) (ps : uo) : lB t ps = false ↔ ∀ p ∈ ps, p.1 ≠ t := by
 simp only [lB, List.any_eq_false, Ux]
def Holds (fr : List AV) (p : uo) : Prop := ∀ q ∈ p, fr.getD q.1 .undef = zH q.2
structure RG (g : G) (fr : List AV) : Prop where
 len : fr.length = g.fr.length
 facts : Holds fr g.facts
 hold : ∀ t, Holds fr (z3 g.gs t) → fr.getD t .undef = g.fr.getD t .undef
 skip : ∀ t, ¬ Holds fr (z3 g.gs t) → fr.getD t .undef = .skip
theorem rn {a b : Bool} (h : zH a = zH b) : a = b := by simpa [zH] using h
theorem ud (l : List AV) (d t : Nat) (v : AV) (hne : t ≠ d) : (l.set d v).getD t .undef = l.getD t .undef := by
 simp [List.getD, List.getElem?_set_ne (Ne.symm hne)]
theorem wd (l : List AV) (d : Nat) (v : AV) (hd : d < l.length) : (l.set d v).getD d .undef = v := by
 simp [List.getD, hd]
theorem lf (l : List AV) (t : Nat) (h : l.length ≤ t) : l.getD t .undef = .undef := by
 simp [List.getD, List.getElem?_eq_none h]
theorem wo (d t : Nat) (hne : t ≠ d) : ∀ (gs : List (Nat × uo)), z3 (rR d gs) t = z3 gs t
 | [] => rfl
 | (u, p) :: r => by
  have ih := wo d t hne r
  simp only [rR, List.filter_cons] at ih ⊢
  cases hu : Nat.beq u d with
  | true =>
   have : u = d := Nz hu
   subst this
   have h2 : Nat.beq u t = false := by
    cases h3 : Nat.beq u t with
    | true => exact absurd (Nz h3).symm hne
    | false => rfl
   simp only [NJ, Bool.false_eq_true, if_false, z3, h2, Nu]
   exact ih
  | false =>
   simp only [NW, if_true, z3]
   rw [ih]
theorem xS (d : Nat) : ∀ (gs : List (Nat × uo)), z3 (rR d gs) d = []
 | [] => rfl
 | (u, p) :: r => by
  have ih := xS d r
  simp only [rR, List.filter_cons] at ih ⊢
  cases hu : Nat.beq u d with
  | true => simp only [NJ, Bool.false_eq_true, if_false]; exact ih
  | false => simp only [NW, if_true, z3, hu, Nu]; exact ih
theorem n7 (t : Nat) : ∀ (gs : List (Nat × uo)), z3 gs t = [] ∨ ∃ p ∈ gs, p.2 = z3 gs t
 | [] => .inl rfl
 | (u, p) :: r => by
  simp only [z3]
  cases Nat.beq u t with
  | true => exact .inr ⟨(u, p), by simp, rfl⟩
  | false =>
   rcases n7 t r with h | ⟨q, h1, h2⟩
   ·exact .inl h
   ·exact .inr ⟨q, by simp [h1], h2⟩
theorem oS {g : G} {d : Nat} (h : tt g (some d) = true) : ∀ p ∈ g.facts, p.1 ≠ d := by
 simp only [tt, Nt, Bool.not_eq_true'] at h
 exact (yE d g.facts).1 h.1.2
theorem gC {g : G} {d : Nat} (h : tt g (some d) = true) : d < g.fr.length := by
 simp only [tt, Nt] at h
 have := h.1.1
 simp [Nat.blt] at this
 omega
theorem dP {g : G} {d : Nat} (h : tt g (some d) = true) (t : Nat) : ∀ p ∈ z3 g.gs t, p.1 ≠ d := by
 simp only [tt, Nt, Nw, Bool.not_eq_true'] at h
 rcases n7 t g.gs with h1 | ⟨q, h1, h2⟩
 ·rw [h1]; simp
 ·rw [← h2]; exact (yE d q.2).1 (h.2 q h1)
theorem Holds.put {fr : List AV} {p : uo} {d : Nat} {v : AV} (h : ∀ q ∈ p, q.1 ≠ d) : Holds (fr.set d v) p ↔ Holds fr p := by
 constructor <;> intro hh q hq
 ·have := hh q hq; rwa [ud _ _ _ _ (h q hq)] at this
 ·rw [ud _ _ _ _ (h q hq)]; exact hh q hq
theorem RG.put {g : G} {fr : List AV} (h : RG g fr) {dst : Option Tmp} (hf : tt g dst = true) {p : uo} (hp : mn dst p = true) {v1 v2 : AV} (h1 : Holds fr p → v1 = v2) (h2 : ¬ Holds fr p → v1 = .skip) :
  RG (kX g dst p v2) (wS fr dst v1) := by
 cases dst with
 | none => exact h
 | some d =>
  have hpd : ∀ q ∈ p, q.1 ≠ d := by
   simp only [mn, Bool.not_eq_true'] at hp
   exact (yE d p).1 hp
  have hfa := oS hf
  have hpa := dP hf
  have hpath : ∀ t, t ≠ d → z3 (kX g (some d) p v2).gs t = z3 g.gs t := fun t hne => by
   have hn : Nat.beq d t = false := by
    cases h3 : Nat.beq d t with
    | true => exact absurd (Nz h3).symm hne
    | false => rfl
   cases p with
   | nil => exact wo d t hne g.gs
   | cons q r => simp only [kX, z3, hn, Nu]; exact wo d t hne g.gs
  have hself : z3 (kX g (some d) p v2).gs d = p := by
   cases p with
   | nil => exact xS d g.gs
   | cons q r =>
    have : Nat.beq d d = true := by simp
    simp only [kX, z3, this, Nv]
  refine ⟨by simp [kX, wS, h.len], ?_, fun t ht => ?_, fun t ht => ?_⟩
  ·show Holds (fr.set d v1) g.facts
   exact (Holds.put hfa).2 h.facts
  ·show (fr.set d v1).getD t .undef = (g.fr.set d v2).getD t .undef
   by_cases e : t = d
   ·subst e
    rw [hself] at ht
    have := h1 ((Holds.put hpd).1 ht)
    subst this
    rcases Nat.lt_or_ge t fr.length with hl | hl
    ·rw [wd _ _ _ hl, wd _ _ _ (by rw [← h.len]; exact hl)]
    ·rw [lf _ _ (by simpa using hl), lf _ _ (by simp; rw [← h.len]; exact hl)]
   ·rw [hpath t e] at ht
    rw [ud _ _ _ _ e, ud _ _ _ _ e]
    exact h.hold t ((Holds.put (hpa t)).1 ht)
  ·show (fr.set d v1).getD t .undef = .skip
   by_cases e : t = d
   ·subst e
    rw [hself] at ht
    have hn : ¬ Holds fr p := fun hh => ht ((Holds.put hpd).2 hh)
    have := h2 hn
    subst this
    rcases Nat.lt_or_ge t fr.length with hl | hl
    ·exact wd _ _ _ hl
    ·have := gC hf
     rw [← h.len] at this; omega
   ·rw [hpath t e] at ht
    rw [ud _ _ _ _ e]
    exact h.skip t (fun hh => ht ((Holds.put (hpa t)).2 hh))
theorem nM {g : G} {fr : List AV} (h : RG g fr) {q : uo} (hq : Holds fr q) {o : Operand} (hv : uh g q o = true) : evA fr o = evA g.fr o := by
 cases o with
 | tmp t =>
  simp only [evA]
  refine h.hold t (fun p hp => ?_)
  have := (mL _ _).1 hv p hp
  rcases NS.1 this with h1 | h1
  ·exact hq p h1
  ·exact h.facts p h1
 | _ => rfl
theorem tQ {g : G} {fr : List AV} (h : RG g fr) {q : uo} (hq : Holds fr q) {op : Op} (hv : xh g q op = true) : ∀ o ∈ op.operands.toList, evA fr o = evA g.fr o :=
 fun o ho => nM h hq (Nw.1 hv o ho)
section
variable {T : TypeId → Option TI}
theorem gm {g : G} {fr : List AV} (h : RG g fr) {q : uo} (hq : Holds fr q) {op : Op} {H : List Ob} {v : AV} (hs : ZF T g q op H = some v) : vF T op fr H = some v := by
 unfold ZF at hs
 split at hs
 ·rename_i c a b
  unfold RR at hs
  split at hs
  ·rename_i t
   cases hv : uh g q (.tmp t) with
   | false => simp [hv] at hs
   | true =>
    simp only [hv, Nv] at hs
    have hc := nM h hq hv
    split at hs
    ·rename_i z hz
     simp only [vF, hc, hz]
     have hz1 : fr.getD t .undef = zH z := by rw [show fr.getD t .undef = evA fr (.tmp t) from rfl, hc, hz]; rfl
     have mem : ∀ w, lp (t, w) (q ++ g.facts) = true → z = w := fun w hm => by
      have hm' := (sj _ _).1 hm
      have : fr.getD t .undef = zH w := by
       rcases NS.1 hm' with h1 | h1
       ·exact hq _ h1
       ·exact h.facts _ h1
      rw [hz1] at this
      exact rn this
     cases hm1 : lp (t, true) (q ++ g.facts) with
     | true =>
      simp only [hm1, Nv] at hs
      have := mem true hm1
      subst this
      cases hva : uh g q a with
      | false => simp [hva] at hs
      | true =>
       simp only [hva, Nv, NA] at hs
       rw [← hs, ← nM h hq hva]; rfl
     | false =>
      simp only [hm1, Nu] at hs
      cases hm2 : lp (t, false) (q ++ g.facts) with
      | true =>
       simp only [hm2, Nv] at hs
       have := mem false hm2
       subst this
       cases hva : uh g q b with
       | false => simp [hva] at hs
       | true =>
        simp only [hva, Nv, NA] at hs
        rw [← hs, ← nM h hq hva]; rfl
      | false =>
       simp only [hm2, Nu] at hs
       cases hva : uh g ((t, true) :: q) a && uh g ((t, false) :: q) b with
       | false => simp [hva] at hs
       | true =>
        simp only [hva, Nv] at hs
        rw [Nt] at hva
        split at hs
        ·rename_i x y hx hy
         simp only [NA] at hs
         subst hs
         cases z with
         | true =>
          have : Holds fr ((t, true) :: q) := fun p hp => by
           rcases NM.1 hp with rfl | hp
           ·exact hz1
           ·exact hq p hp
          rw [Nv, Nv, nM h this hva.1, hx]; rfl
         | false =>
          have : Holds fr ((t, false) :: q) := fun p hp => by
           rcases NM.1 hp with rfl | hp
           ·exact hz1
           ·exact hq p hp
          rw [Nu, Nu, nM h this hva.2, hy]; rfl
        ·cases hs
    ·cases hs
  ·cases hs
 ·rename_i hnp
  cases hv : xh g q op with
  | false => simp [hv] at hs
  | true =>
   simp only [hv, Nv] at hs
   rw [← o4 T (tQ h hq hv)] at hs
   unfold vF
   split
   ·rename_i c a b; exact absurd rfl (hnp c a b)
   ·exact hs
end
theorem wG {R : Type} {fr : List AV} {r : R} {dst : Option Tmp} : ∀ (q : uo) (g : G) (k : G → Bool → Option R), sn g q k = some r → RG g fr → tt g dst = true → mn dst q = true →
  ∃ g' yes, k g' yes = some r ∧ RG g' fr ∧ tt g' dst = true ∧ (yes = true → Holds fr q) ∧ (yes = false → ¬ Holds fr q)
 | [], g, k, h, hR, hf, _ => ⟨g, true, h, hR, hf, fun _ p hp => by simp at hp, fun h => by cases h⟩
 | (t, w) :: rest, g, k, h, hR, hf, hq => by
  unfold sn at h
  split at h
  ·rename_i b hb
   cases hs : dS (z3 g.gs t) g.facts with
   | false => simp [hs] at h
   | true =>
    simp only [hs, Nv] at h
    have hpath : Holds fr (z3 g.gs t) := fun p hp => hR.facts p ((mL _ _).1 hs p hp)
    have hft : fr.getD t .undef = zH b := by rw [hR.hold t hpath, hb]; rfl
    have htl : t < g.fr.length := by
     rcases Nat.lt_or_ge t g.fr.length with h1 | h1
     ·exact h1
     ·rw [lf _ _ h1] at hb; cases hb
    have hne : ∀ d, dst = some d → t ≠ d := fun d hd => by
     subst hd
     simp only [mn, Bool.not_eq_true'] at hq
     exact (yE d _).1 hq (t, w) (by simp)
    have hqr : mn dst rest = true := by
     cases dst with
     | none => rfl
     | some d =>
      simp only [mn, Bool.not_eq_true'] at hq ⊢
      exact (yE d _).2 (fun p hp => (yE d _).1 hq p (by simp [hp]))
    have new : RG ⟨g.fr.set t (zH b), rR t g.gs, (t, b) :: g.facts⟩ fr := by
     refine ⟨by simp [hR.len], ?_, fun s hs => ?_, fun s hs => ?_⟩
     ·intro p hp
      rcases NM.1 hp with rfl | hp
      ·exact hft
      ·exact hR.facts p hp
     ·show fr.getD s .undef = (g.fr.set t (zH b)).getD s .undef
      by_cases e : s = t
      ·subst e; rw [wd _ _ _ htl]; exact hft
      ·rw [ud _ _ _ _ e]
       exact hR.hold s (by rw [← wo t s e]; exact hs)
     ·by_cases e : s = t
      ·subst e
       exact absurd (by rw [show z3 (rR s g.gs) s = [] from xS s g.gs]; intro p hp; simp at hp) hs
      ·exact hR.skip s (by rw [← wo t s e]; exact hs)
    have hf' : tt ⟨g.fr.set t (zH b), rR t g.gs, (t, b) :: g.facts⟩ dst = true := by
     cases dst with
     | none => rfl
     | some d =>
      have h1 := gC hf
      have h2 := oS hf
      have h3 := hne d rfl
      simp only [tt, Nt, Nw, Bool.not_eq_true'] at hf ⊢
      refine ⟨⟨by simpa using hf.1.1, (yE d _).2 (fun p hp => ?_)⟩, fun p hp => hf.2 p ?_⟩
      ·rcases NM.1 hp with rfl | hp
       ·exact h3
       ·exact h2 p hp
      ·exact (List.mem_filter.1 hp).1
    have tru : ∀ {yes : Bool}, b = w → (yes = true → Holds fr rest) → (yes = false → ¬ Holds fr rest) → (yes = true → Holds fr ((t, w) :: rest)) ∧ (yes = false → ¬ Holds fr ((t, w) :: rest)) := by
     intro yes hbw h1 h2
     refine ⟨fun hy p hp => ?_, fun hy hh => h2 hy (fun p hp => hh p (by simp [hp]))⟩
     rcases NM.1 hp with rfl | hp
     ·rw [← hbw]; exact hft
     ·exact h1 hy p hp
    have fls : b ≠ w → ¬ Holds fr ((t, w) :: rest) := fun hbw hh => by
     have := hh (t, w) (by simp)
     rw [hft] at this
     exact hbw (rn this)
    cases b <;> cases w <;> simp only [Nv, Nu] at h
    ·obtain ⟨g', yes, h1, h2, h3, h4, h5⟩ := wG rest _ k h new hf' hqr
     exact ⟨g', yes, h1, h2, h3, (tru rfl h4 h5).1, (tru rfl h4 h5).2⟩
    ·exact ⟨_, false, h, new, hf', (fun h => by cases h), fun _ => fls (by simp)⟩
    ·exact ⟨_, false, h, new, hf', (fun h => by cases h), fun _ => fls (by simp)⟩
    ·obtain ⟨g', yes, h1, h2, h3, h4, h5⟩ := wG rest _ k h new hf' hqr
     exact ⟨g', yes, h1, h2, h3, (tru rfl h4 h5).1, (tru rfl h4 h5).2⟩
  ·cases h
def x8 : List Nat → List Ob → List Sub
 | [], _ => []
 | i :: r, H => match H[i]? with
  | some (.arr e t xs) => .give i t xs :: x8 r ((Sub.h (.give i t xs) H).set i .dead)
  | _ => x8 r H
def um : List Sub → AV → AV
 | [], v => v
 | s :: r, v => um r (s.v v)
theorem z8 : ∀ (ids : List Nat) (fr : List AV) (H : List Ob), (St.seals ids ⟨fr, H⟩).fr = fr.map (um (x8 ids H)) ∧ ∀ fr' : List AV, (St.seals ids ⟨fr', H⟩).H = (St.seals ids ⟨fr, H⟩).H
 | [], fr, H => by
  refine ⟨?_, fun fr' => rfl⟩
  show fr = fr.map (fun v => v)
  simp
 | i :: r, fr, H => by
  have step : ∀ f : List AV, St.seals (i :: r) ⟨f, H⟩ = St.seals r (St.give i ⟨f, H⟩) := fun f => rfl
  cases hx : H[i]? with
  | none =>
   have hs : ∀ f : List AV, St.give i ⟨f, H⟩ = ⟨f, H⟩ := fun f => by simp [St.give, hx]
   obtain ⟨h1, h2⟩ := z8 r fr H
   refine ⟨?_, fun fr' => ?_⟩
   ·rw [step, hs]; simp only [x8, hx]; exact h1
   ·rw [step, step, hs, hs]; exact h2 fr'
  | some o =>
   cases o with
   | arr e t xs =>
    have hs : ∀ f : List AV, St.give i ⟨f, H⟩ = ⟨f.map (Sub.v (.give i t xs)), (Sub.h (.give i t xs) H).set i .dead⟩ := fun f => by simp [St.give, hx, St.sub]
    obtain ⟨h1, h2⟩ := z8 r (fr.map (Sub.v (.give i t xs))) ((Sub.h (.give i t xs) H).set i .dead)
    refine ⟨?_, fun fr' => ?_⟩
    ·rw [step, hs, h1]
     simp only [x8, hx, List.map_map]
     rfl
    ·rw [step, step, hs, hs]; exact h2 _
   | box cs =>
    have hs : ∀ f : List AV, St.give i ⟨f, H⟩ = ⟨f, H⟩ := fun f => by simp [St.give, hx]
    obtain ⟨h1, h2⟩ := z8 r fr H
    refine ⟨?_, fun fr' => ?_⟩
    ·rw [step, hs]; simp only [x8, hx]; exact h1
    ·rw [step, step, hs, hs]; exact h2 fr'
   | mp _ _ =>
    have hs : ∀ f : List AV, St.give i ⟨f, H⟩ = ⟨f, H⟩ := fun f => by simp [St.give, hx]
    obtain ⟨h1, h2⟩ := z8 r fr H
    refine ⟨?_, fun fr' => ?_⟩
    ·rw [step, hs]; simp only [x8, hx]; exact h1
    ·rw [step, step, hs, hs]; exact h2 fr'
   | tb _ =>
    have hs : ∀ f : List AV, St.give i ⟨f, H⟩ = ⟨f, H⟩ := fun f => by simp [St.give, hx]
    obtain ⟨h1, h2⟩ := z8 r fr H
    refine ⟨?_, fun fr' => ?_⟩
    ·rw [step, hs]; simp only [x8, hx]; exact h1
    ·rw [step, step, hs, hs]; exact h2 fr'
   | dead =>
    have hs : ∀ f : List AV, St.give i ⟨f, H⟩ = ⟨f, H⟩ := fun f => by simp [St.give, hx]
    obtain ⟨h1, h2⟩ := z8 r fr H
    refine ⟨?_, fun fr' => ?_⟩
    ·rw [step, hs]; simp only [x8, hx]; exact h1
    ·rw [step, step, hs, hs]; exact h2 fr'
structure Tame (φ : AV → AV) : Prop where
 bool : ∀ b, φ (zH b) = zH b
 skip : φ .skip = .skip
 undef : φ .undef = .undef
 inj : ∀ v b, φ v = zH b → v = zH b
theorem wh {φ : AV → AV} (h : φ .undef = .undef) (fr : List AV) (t : Nat) : (fr.map φ).getD t .undef = φ (fr.getD t .undef) := by
 simp only [List.getD, List.getElem?_map]
 cases fr[t]? <;> simp [h]
theorem RG.map {g : G} {fr : List AV} (h : RG g fr) {φ : AV → AV} (hφ : Tame φ) : RG ⟨g.fr.map φ, g.gs, g.facts⟩ (fr.map φ) := by
 have hh : ∀ p, Holds (fr.map φ) p ↔ Holds fr p := fun p => by
  constructor <;> intro k q hq
  ·have := k q hq
   rw [wh hφ.undef] at this
   exact hφ.inj _ _ this
  ·rw [wh hφ.undef, k q hq]; exact hφ.bool _
 refine ⟨by simp [h.len], (hh _).2 h.facts, fun t ht => ?_, fun t ht => ?_⟩
 ·show (fr.map φ).getD t .undef = (g.fr.map φ).getD t .undef
  rw [wh hφ.undef, wh hφ.undef, h.hold t ((hh _).1 ht)]
 ·rw [wh hφ.undef, h.skip t (fun k => ht ((hh _).2 k))]; exact hφ.skip
theorem nA {α : Type} {z : Bool} {x y w : α} (h : (bif z then x else y) = w) : x = w ∨ y = w := by
 cases z
 ·exact .inr h
 ·exact .inl h
theorem Sub.c_bool (s : Sub) (c : C) (b : Bool) (h : s.c c = .sc .bool b) : c = .sc .bool b := by
 cases c with
 | own id n => cases s <;> (rcases nA h with h | h <;> cases h)
 | ptr id off =>
  cases s with
  | above m => rcases nA h with h | h <;> cases h
  | kill i => cases h
  | give i t xs => cases h
 | elo id i off => cases s <;> (rcases nA h with h | h <;> cases h)
 | mp id =>
  cases s with
  | above m => rcases nA h with h | h <;> cases h
  | kill i => cases h
  | give i t xs => cases h
 | fnm f id off =>
  cases s with
  | above m => rcases nA h with h | h <;> cases h
  | kill i => cases h
  | give i t xs => cases h
 | fn f caps =>
  cases s with
  | above m => rcases nA h with h | h <;> cases h
  | kill i => cases h
  | give i t xs => cases h
 | _ => exact h
theorem Sub.tame (s : Sub) : Tame s.v := by
 refine ⟨fun b => rfl, rfl, rfl, fun v b h => ?_⟩
 cases v with
 | val g cs =>
  simp only [Sub.v, zH, AV.val.injEq] at h
  obtain ⟨rfl, h2⟩ := h
  cases cs with
  | nil => simp at h2
  | cons c r =>
   simp only [NN, List.cons.injEq, List.map_eq_nil_iff] at h2
   obtain ⟨h3, rfl⟩ := h2
   rw [s.c_bool c b h3]; rfl
 | tup l => simp [Sub.v, zH] at h
 | skip => simp [Sub.v, zH] at h
 | undef => simp [Sub.v, zH] at h
theorem p5 : ∀ (l : List Sub), Tame (um l)
 | [] => ⟨fun _ => rfl, rfl, rfl, fun _ _ h => h⟩
 | s :: r => by
  have h1 := s.tame
  have h2 := p5 r
  exact ⟨fun b => by simp only [um, h1.bool, h2.bool], by simp only [um, h1.skip, h2.skip], by simp only [um, h1.undef, h2.undef], fun v b h => h1.inj v b (h2.inj _ b h)⟩
theorem l8 (ks : List Nat) : Tame (ym ks) := by
 induction ks with
 | nil => exact ⟨fun _ => rfl, rfl, rfl, fun _ _ h => h⟩
 | cons id r ih =>
  have h1 := (Sub.kill id).tame
  exact ⟨fun b => by simp only [ym, h1.bool, ih.bool], by simp only [ym, h1.skip, ih.skip], by simp only [ym, h1.undef, ih.undef], fun v b h => h1.inj v b (ih.inj _ b h)⟩
theorem rF (ks : List Nat) (fr : List AV) : uf fr ks = fr.map (ym ks) := by
 apply List.ext_getElem?
 intro t
 rw [nO, List.getElem?_map]
theorem et : ∀ (ks : List Nat) (g : G), Vb g ks = ⟨uf g.fr ks, g.gs, g.facts⟩
 | [], g => rfl
 | id :: r, g => by rw [Vb, et r]; rfl
end Go.Proofs.YtefddghdaimklaaGreatDoor.AI
