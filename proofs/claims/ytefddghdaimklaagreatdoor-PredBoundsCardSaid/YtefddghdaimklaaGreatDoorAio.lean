/- A part of the proof. -/
import Derived.Test.YtefddghdaimklaaGreatDoorAin
set_option linter.unusedVariables false
set_option linter.unusedSimpArgs false
namespace Go.Proofs.YtefddghdaimklaaGreatDoor.AI
open Go
theorem SB {a b : Nat} : Nat.beq a b = true ↔ a = b := ⟨Lo, fun h => by subst h; simp⟩
theorem sF (p : Nat × Bool) : ∀ (l : uu), ln p l = true ↔ p ∈ l
 | [] => by simp [ln]
 | q :: r => by
  simp only [ln, Bool.or_eq_true, Li, beq_iff_eq, LD, sF p r, SB]
  constructor
  ·rintro (⟨h1, h2⟩ | h)
   ·exact .inl (Prod.ext h1 h2)
   ·exact .inr h
  ·rintro (h | h)
   ·exact .inl ⟨by rw [h], by rw [h]⟩
   ·exact .inr h
theorem mV (ps qs : uu) : dD ps qs = true ↔ ∀ p ∈ ps, p ∈ qs := by
 simp only [dD, Ll, sF]
theorem yI (t : Nat) (ps : uu) : ke t ps = false ↔ ∀ p ∈ ps, p.1 ≠ t := by
 simp only [ke, List.any_eq_false, SB]
def Holds (fr : List AV) (p : uu) : Prop := ∀ q ∈ p, fr.getD q.1 .undef = zJ q.2
structure RG (g : G) (fr : List AV) : Prop where
 len : fr.length = g.fr.length
 facts : Holds fr g.facts
 hold : ∀ t, Holds fr (ya g.gs t) → fr.getD t .undef = g.fr.getD t .undef
 skip : ∀ t, ¬ Holds fr (ya g.gs t) → fr.getD t .undef = .skip
theorem rP {a b : Bool} (h : zJ a = zJ b) : a = b := by simpa [zJ] using h
theorem v5 (l : List AV) (d t : Nat) (v : AV) (hne : t ≠ d) : (l.set d v).getD t .undef = l.getD t .undef := by
 simp [List.getD, List.getElem?_set_ne (Ne.symm hne)]
theorem xZ (l : List AV) (d : Nat) (v : AV) (hd : d < l.length) : (l.set d v).getD d .undef = v := by
 simp [List.getD, hd]
theorem n6 (l : List AV) (t : Nat) (h : l.length ≤ t) : l.getD t .undef = .undef := by
 simp [List.getD, List.getElem?_eq_none h]
theorem wr (d t : Nat) (hne : t ≠ d) : ∀ (gs : List (Nat × uu)), ya (rL d gs) t = ya gs t
 | [] => rfl
 | (u, p) :: r => by
  have ih := wr d t hne r
  simp only [rL, List.filter_cons] at ih ⊢
  cases hu : Nat.beq u d with
  | true =>
   have : u = d := Lo hu
   subst this
   have h2 : Nat.beq u t = false := by
    cases h3 : Nat.beq u t with
    | true => exact absurd (Lo h3).symm hne
    | false => rfl
   simp only [LA, Bool.false_eq_true, if_false, ya, h2, Lj]
   exact ih
  | false =>
   simp only [LN, if_true, ya]
   rw [ih]
theorem xX (d : Nat) : ∀ (gs : List (Nat × uu)), ya (rL d gs) d = []
 | [] => rfl
 | (u, p) :: r => by
  have ih := xX d r
  simp only [rL, List.filter_cons] at ih ⊢
  cases hu : Nat.beq u d with
  | true => simp only [LA, Bool.false_eq_true, if_false]; exact ih
  | false => simp only [LN, if_true, ya, hu, Lj]; exact ih
theorem ny (t : Nat) : ∀ (gs : List (Nat × uu)), ya gs t = [] ∨ ∃ p ∈ gs, p.2 = ya gs t
 | [] => .inl rfl
 | (u, p) :: r => by
  simp only [ya]
  cases Nat.beq u t with
  | true => exact .inr ⟨(u, p), by simp, rfl⟩
  | false =>
   rcases ny t r with h | ⟨q, h1, h2⟩
   ·exact .inl h
   ·exact .inr ⟨q, by simp [h1], h2⟩
theorem oK {g : G} {d : Nat} (h : tC g (some d) = true) : ∀ p ∈ g.facts, p.1 ≠ d := by
 simp only [tC, Li, Bool.not_eq_true'] at h
 exact (yI d g.facts).1 h.1.2
theorem gM {g : G} {d : Nat} (h : tC g (some d) = true) : d < g.fr.length := by
 simp only [tC, Li] at h
 have := h.1.1
 simp [Nat.blt] at this
 omega
theorem dE {g : G} {d : Nat} (h : tC g (some d) = true) (t : Nat) : ∀ p ∈ ya g.gs t, p.1 ≠ d := by
 simp only [tC, Li, Ll, Bool.not_eq_true'] at h
 rcases ny t g.gs with h1 | ⟨q, h1, h2⟩
 ·rw [h1]; simp
 ·rw [← h2]; exact (yI d q.2).1 (h.2 q h1)
theorem Holds.put {fr : List AV} {p : uu} {d : Nat} {v : AV} (h : ∀ q ∈ p, q.1 ≠ d) : Holds (fr.set d v) p ↔ Holds fr p := by
 constructor <;> intro hh q hq
 ·have := hh q hq; rwa [v5 _ _ _ _ (h q hq)] at this
 ·rw [v5 _ _ _ _ (h q hq)]; exact hh q hq
theorem RG.put {g : G} {fr : List AV} (h : RG g fr) {dst : Option Tmp} (hf : tC g dst = true) {p : uu} (hp : mh dst p = true) {v1 v2 : AV} (h1 : Holds fr p → v1 = v2) (h2 : ¬ Holds fr p → v1 = .skip) :
  RG (jg g dst p v2) (wT fr dst v1) := by
 cases dst with
 | none => exact h
 | some d =>
  have hpd : ∀ q ∈ p, q.1 ≠ d := by
   simp only [mh, Bool.not_eq_true'] at hp
   exact (yI d p).1 hp
  have hfa := oK hf
  have hpa := dE hf
  have hpath : ∀ t, t ≠ d → ya (jg g (some d) p v2).gs t = ya g.gs t := fun t hne => by
   have hn : Nat.beq d t = false := by
    cases h3 : Nat.beq d t with
    | true => exact absurd (Lo h3).symm hne
    | false => rfl
   cases p with
   | nil => exact wr d t hne g.gs
   | cons q r => simp only [jg, ya, hn, Lj]; exact wr d t hne g.gs
  have hself : ya (jg g (some d) p v2).gs d = p := by
   cases p with
   | nil => exact xX d g.gs
   | cons q r =>
    have : Nat.beq d d = true := by simp
    simp only [jg, ya, this, Lk]
  refine ⟨by simp [jg, wT, h.len], ?_, fun t ht => ?_, fun t ht => ?_⟩
  ·show Holds (fr.set d v1) g.facts
   exact (Holds.put hfa).2 h.facts
  ·show (fr.set d v1).getD t .undef = (g.fr.set d v2).getD t .undef
   by_cases e : t = d
   ·subst e
    rw [hself] at ht
    have := h1 ((Holds.put hpd).1 ht)
    subst this
    rcases Nat.lt_or_ge t fr.length with hl | hl
    ·rw [xZ _ _ _ hl, xZ _ _ _ (by rw [← h.len]; exact hl)]
    ·rw [n6 _ _ (by simpa using hl), n6 _ _ (by simp; rw [← h.len]; exact hl)]
   ·rw [hpath t e] at ht
    rw [v5 _ _ _ _ e, v5 _ _ _ _ e]
    exact h.hold t ((Holds.put (hpa t)).1 ht)
  ·show (fr.set d v1).getD t .undef = .skip
   by_cases e : t = d
   ·subst e
    rw [hself] at ht
    have hn : ¬ Holds fr p := fun hh => ht ((Holds.put hpd).2 hh)
    have := h2 hn
    subst this
    rcases Nat.lt_or_ge t fr.length with hl | hl
    ·exact xZ _ _ _ hl
    ·have := gM hf
     rw [← h.len] at this; omega
   ·rw [hpath t e] at ht
    rw [v5 _ _ _ _ e]
    exact h.skip t (fun hh => ht ((Holds.put (hpa t)).2 hh))
theorem nL {g : G} {fr : List AV} (h : RG g fr) {q : uu} (hq : Holds fr q) {o : Operand} (hv : um g q o = true) : evA fr o = evA g.fr o := by
 cases o with
 | tmp t =>
  simp only [evA]
  refine h.hold t (fun p hp => ?_)
  have := (mV _ _).1 hv p hp
  rcases LJ.1 this with h1 | h1
  ·exact hq p h1
  ·exact h.facts p h1
 | _ => rfl
theorem tW {g : G} {fr : List AV} (h : RG g fr) {q : uu} (hq : Holds fr q) {op : Op} (hv : xn g q op = true) : ∀ o ∈ op.operands.toList, evA fr o = evA g.fr o :=
 fun o ho => nL h hq (Ll.1 hv o ho)
section
variable {T : TypeId → Option TI}
theorem ix {g : G} {fr : List AV} (h : RG g fr) {q : uu} (hq : Holds fr q) {op : Op} {H : List Ob} {v : AV} (hs : aJ T g q op H = some v) : w8 T op fr H = some v := by
 unfold aJ at hs
 split at hs
 ·rename_i c a b
  unfold Px at hs
  split at hs
  ·rename_i t
   cases hv : um g q (.tmp t) with
   | false => simp [hv] at hs
   | true =>
    simp only [hv, Lk] at hs
    have hc := nL h hq hv
    split at hs
    ·rename_i z hz
     simp only [w8, hc, hz]
     have hz1 : fr.getD t .undef = zJ z := by rw [show fr.getD t .undef = evA fr (.tmp t) from rfl, hc, hz]; rfl
     have mem : ∀ w, ln (t, w) (q ++ g.facts) = true → z = w := fun w hm => by
      have hm' := (sF _ _).1 hm
      have : fr.getD t .undef = zJ w := by
       rcases LJ.1 hm' with h1 | h1
       ·exact hq _ h1
       ·exact h.facts _ h1
      rw [hz1] at this
      exact rP this
     cases hm1 : ln (t, true) (q ++ g.facts) with
     | true =>
      simp only [hm1, Lk] at hs
      have := mem true hm1
      subst this
      cases hva : um g q a with
      | false => simp [hva] at hs
      | true =>
       simp only [hva, Lk, Lp] at hs
       rw [← hs, ← nL h hq hva]; rfl
     | false =>
      simp only [hm1, Lj] at hs
      cases hm2 : ln (t, false) (q ++ g.facts) with
      | true =>
       simp only [hm2, Lk] at hs
       have := mem false hm2
       subst this
       cases hva : um g q b with
       | false => simp [hva] at hs
       | true =>
        simp only [hva, Lk, Lp] at hs
        rw [← hs, ← nL h hq hva]; rfl
      | false =>
       simp only [hm2, Lj] at hs
       cases hva : um g ((t, true) :: q) a && um g ((t, false) :: q) b with
       | false => simp [hva] at hs
       | true =>
        simp only [hva, Lk] at hs
        rw [Li] at hva
        split at hs
        ·rename_i x y hx hy
         simp only [Lp] at hs
         subst hs
         cases z with
         | true =>
          have : Holds fr ((t, true) :: q) := fun p hp => by
           rcases LD.1 hp with rfl | hp
           ·exact hz1
           ·exact hq p hp
          rw [Lk, Lk, nL h this hva.1, hx]; rfl
         | false =>
          have : Holds fr ((t, false) :: q) := fun p hp => by
           rcases LD.1 hp with rfl | hp
           ·exact hz1
           ·exact hq p hp
          rw [Lj, Lj, nL h this hva.2, hy]; rfl
        ·cases hs
    ·cases hs
  ·cases hs
 ·rename_i hnp
  cases hv : xn g q op with
  | false => simp [hv] at hs
  | true =>
   simp only [hv, Lk] at hs
   rw [← pV T (tW h hq hv)] at hs
   unfold w8
   split
   ·rename_i c a b; exact absurd rfl (hnp c a b)
   ·exact hs
end
theorem wK {R : Type} {fr : List AV} {r : R} {dst : Option Tmp} : ∀ (q : uu) (g : G) (k : G → Bool → Option R), s0 g q k = some r → RG g fr → tC g dst = true → mh dst q = true →
  ∃ g' yes, k g' yes = some r ∧ RG g' fr ∧ tC g' dst = true ∧ (yes = true → Holds fr q) ∧ (yes = false → ¬ Holds fr q)
 | [], g, k, h, hR, hf, _ => ⟨g, true, h, hR, hf, fun _ p hp => by simp at hp, fun h => by cases h⟩
 | (t, w) :: rest, g, k, h, hR, hf, hq => by
  unfold s0 at h
  split at h
  ·rename_i b hb
   cases hs : dD (ya g.gs t) g.facts with
   | false => simp [hs] at h
   | true =>
    simp only [hs, Lk] at h
    have hpath : Holds fr (ya g.gs t) := fun p hp => hR.facts p ((mV _ _).1 hs p hp)
    have hft : fr.getD t .undef = zJ b := by rw [hR.hold t hpath, hb]; rfl
    have htl : t < g.fr.length := by
     rcases Nat.lt_or_ge t g.fr.length with h1 | h1
     ·exact h1
     ·rw [n6 _ _ h1] at hb; cases hb
    have hne : ∀ d, dst = some d → t ≠ d := fun d hd => by
     subst hd
     simp only [mh, Bool.not_eq_true'] at hq
     exact (yI d _).1 hq (t, w) (by simp)
    have hqr : mh dst rest = true := by
     cases dst with
     | none => rfl
     | some d =>
      simp only [mh, Bool.not_eq_true'] at hq ⊢
      exact (yI d _).2 (fun p hp => (yI d _).1 hq p (by simp [hp]))
    have new : RG ⟨g.fr.set t (zJ b), rL t g.gs, (t, b) :: g.facts⟩ fr := by
     refine ⟨by simp [hR.len], ?_, fun s hs => ?_, fun s hs => ?_⟩
     ·intro p hp
      rcases LD.1 hp with rfl | hp
      ·exact hft
      ·exact hR.facts p hp
     ·show fr.getD s .undef = (g.fr.set t (zJ b)).getD s .undef
      by_cases e : s = t
      ·subst e; rw [xZ _ _ _ htl]; exact hft
      ·rw [v5 _ _ _ _ e]
       exact hR.hold s (by rw [← wr t s e]; exact hs)
     ·by_cases e : s = t
      ·subst e
       exact absurd (by rw [show ya (rL s g.gs) s = [] from xX s g.gs]; intro p hp; simp at hp) hs
      ·exact hR.skip s (by rw [← wr t s e]; exact hs)
    have hf' : tC ⟨g.fr.set t (zJ b), rL t g.gs, (t, b) :: g.facts⟩ dst = true := by
     cases dst with
     | none => rfl
     | some d =>
      have h1 := gM hf
      have h2 := oK hf
      have h3 := hne d rfl
      simp only [tC, Li, Ll, Bool.not_eq_true'] at hf ⊢
      refine ⟨⟨by simpa using hf.1.1, (yI d _).2 (fun p hp => ?_)⟩, fun p hp => hf.2 p ?_⟩
      ·rcases LD.1 hp with rfl | hp
       ·exact h3
       ·exact h2 p hp
      ·exact (List.mem_filter.1 hp).1
    have tru : ∀ {yes : Bool}, b = w → (yes = true → Holds fr rest) → (yes = false → ¬ Holds fr rest) → (yes = true → Holds fr ((t, w) :: rest)) ∧ (yes = false → ¬ Holds fr ((t, w) :: rest)) := by
     intro yes hbw h1 h2
     refine ⟨fun hy p hp => ?_, fun hy hh => h2 hy (fun p hp => hh p (by simp [hp]))⟩
     rcases LD.1 hp with rfl | hp
     ·rw [← hbw]; exact hft
     ·exact h1 hy p hp
    have fls : b ≠ w → ¬ Holds fr ((t, w) :: rest) := fun hbw hh => by
     have := hh (t, w) (by simp)
     rw [hft] at this
     exact hbw (rP this)
    cases b <;> cases w <;> simp only [Lk, Lj] at h
    ·obtain ⟨g', yes, h1, h2, h3, h4, h5⟩ := wK rest _ k h new hf' hqr
     exact ⟨g', yes, h1, h2, h3, (tru rfl h4 h5).1, (tru rfl h4 h5).2⟩
    ·exact ⟨_, false, h, new, hf', (fun h => by cases h), fun _ => fls (by simp)⟩
    ·exact ⟨_, false, h, new, hf', (fun h => by cases h), fun _ => fls (by simp)⟩
    ·obtain ⟨g', yes, h1, h2, h3, h4, h5⟩ := wK rest _ k h new hf' hqr
     exact ⟨g', yes, h1, h2, h3, (tru rfl h4 h5).1, (tru rfl h4 h5).2⟩
  ·cases h
def x7 : List Nat → List Ob → List Sub
 | [], _ => []
 | i :: r, H => match H[i]? with
  | some (.arr e t xs) => .give i t xs :: x7 r ((Sub.h (.give i t xs) H).set i .dead)
  | _ => x7 r H
def up : List Sub → AV → AV
 | [], v => v
 | s :: r, v => up r (s.v v)
theorem yc : ∀ (ids : List Nat) (fr : List AV) (H : List Ob), (St.seals ids ⟨fr, H⟩).fr = fr.map (up (x7 ids H)) ∧ ∀ fr' : List AV, (St.seals ids ⟨fr', H⟩).H = (St.seals ids ⟨fr, H⟩).H
 | [], fr, H => by
  refine ⟨?_, fun fr' => rfl⟩
  show fr = fr.map (fun v => v)
  simp
 | i :: r, fr, H => by
  have step : ∀ f : List AV, St.seals (i :: r) ⟨f, H⟩ = St.seals r (St.give i ⟨f, H⟩) := fun f => rfl
  cases hx : H[i]? with
  | none =>
   have hs : ∀ f : List AV, St.give i ⟨f, H⟩ = ⟨f, H⟩ := fun f => by simp [St.give, hx]
   obtain ⟨h1, h2⟩ := yc r fr H
   refine ⟨?_, fun fr' => ?_⟩
   ·rw [step, hs]; simp only [x7, hx]; exact h1
   ·rw [step, step, hs, hs]; exact h2 fr'
  | some o =>
   cases o with
   | arr e t xs =>
    have hs : ∀ f : List AV, St.give i ⟨f, H⟩ = ⟨f.map (Sub.v (.give i t xs)), (Sub.h (.give i t xs) H).set i .dead⟩ := fun f => by simp [St.give, hx, St.sub]
    obtain ⟨h1, h2⟩ := yc r (fr.map (Sub.v (.give i t xs))) ((Sub.h (.give i t xs) H).set i .dead)
    refine ⟨?_, fun fr' => ?_⟩
    ·rw [step, hs, h1]
     simp only [x7, hx, List.map_map]
     rfl
    ·rw [step, step, hs, hs]; exact h2 _
   | box cs =>
    have hs : ∀ f : List AV, St.give i ⟨f, H⟩ = ⟨f, H⟩ := fun f => by simp [St.give, hx]
    obtain ⟨h1, h2⟩ := yc r fr H
    refine ⟨?_, fun fr' => ?_⟩
    ·rw [step, hs]; simp only [x7, hx]; exact h1
    ·rw [step, step, hs, hs]; exact h2 fr'
   | mp _ _ =>
    have hs : ∀ f : List AV, St.give i ⟨f, H⟩ = ⟨f, H⟩ := fun f => by simp [St.give, hx]
    obtain ⟨h1, h2⟩ := yc r fr H
    refine ⟨?_, fun fr' => ?_⟩
    ·rw [step, hs]; simp only [x7, hx]; exact h1
    ·rw [step, step, hs, hs]; exact h2 fr'
   | tb _ =>
    have hs : ∀ f : List AV, St.give i ⟨f, H⟩ = ⟨f, H⟩ := fun f => by simp [St.give, hx]
    obtain ⟨h1, h2⟩ := yc r fr H
    refine ⟨?_, fun fr' => ?_⟩
    ·rw [step, hs]; simp only [x7, hx]; exact h1
    ·rw [step, step, hs, hs]; exact h2 fr'
   | dead =>
    have hs : ∀ f : List AV, St.give i ⟨f, H⟩ = ⟨f, H⟩ := fun f => by simp [St.give, hx]
    obtain ⟨h1, h2⟩ := yc r fr H
    refine ⟨?_, fun fr' => ?_⟩
    ·rw [step, hs]; simp only [x7, hx]; exact h1
    ·rw [step, step, hs, hs]; exact h2 fr'
structure Tame (φ : AV → AV) : Prop where
 bool : ∀ b, φ (zJ b) = zJ b
 skip : φ .skip = .skip
 undef : φ .undef = .undef
 inj : ∀ v b, φ v = zJ b → v = zJ b
theorem wa {φ : AV → AV} (h : φ .undef = .undef) (fr : List AV) (t : Nat) : (fr.map φ).getD t .undef = φ (fr.getD t .undef) := by
 simp only [List.getD, List.getElem?_map]
 cases fr[t]? <;> simp [h]
theorem RG.map {g : G} {fr : List AV} (h : RG g fr) {φ : AV → AV} (hφ : Tame φ) : RG ⟨g.fr.map φ, g.gs, g.facts⟩ (fr.map φ) := by
 have hh : ∀ p, Holds (fr.map φ) p ↔ Holds fr p := fun p => by
  constructor <;> intro k q hq
  ·have := k q hq
   rw [wa hφ.undef] at this
   exact hφ.inj _ _ this
  ·rw [wa hφ.undef, k q hq]; exact hφ.bool _
 refine ⟨by simp [h.len], (hh _).2 h.facts, fun t ht => ?_, fun t ht => ?_⟩
 ·show (fr.map φ).getD t .undef = (g.fr.map φ).getD t .undef
  rw [wa hφ.undef, wa hφ.undef, h.hold t ((hh _).1 ht)]
 ·rw [wa hφ.undef, h.skip t (fun k => ht ((hh _).2 k))]; exact hφ.skip
theorem nv {α : Type} {z : Bool} {x y w : α} (h : (bif z then x else y) = w) : x = w ∨ y = w := by
 cases z
 ·exact .inr h
 ·exact .inl h
theorem Sub.c_bool (s : Sub) (c : C) (b : Bool) (h : s.c c = .sc .bool b) : c = .sc .bool b := by
 cases c with
 | own id n => cases s <;> (rcases nv h with h | h <;> cases h)
 | ptr id off =>
  cases s with
  | above m => rcases nv h with h | h <;> cases h
  | kill i => cases h
  | give i t xs => cases h
 | elo id i off => cases s <;> (rcases nv h with h | h <;> cases h)
 | mp id =>
  cases s with
  | above m => rcases nv h with h | h <;> cases h
  | kill i => cases h
  | give i t xs => cases h
 | fnm f id off =>
  cases s with
  | above m => rcases nv h with h | h <;> cases h
  | kill i => cases h
  | give i t xs => cases h
 | fn f caps =>
  cases s with
  | above m => rcases nv h with h | h <;> cases h
  | kill i => cases h
  | give i t xs => cases h
 | _ => exact h
theorem Sub.tame (s : Sub) : Tame s.v := by
 refine ⟨fun b => rfl, rfl, rfl, fun v b h => ?_⟩
 cases v with
 | val g cs =>
  simp only [Sub.v, zJ, AV.val.injEq] at h
  obtain ⟨rfl, h2⟩ := h
  cases cs with
  | nil => simp at h2
  | cons c r =>
   simp only [LE, List.cons.injEq, List.map_eq_nil_iff] at h2
   obtain ⟨h3, rfl⟩ := h2
   rw [s.c_bool c b h3]; rfl
 | tup l => simp [Sub.v, zJ] at h
 | skip => simp [Sub.v, zJ] at h
 | undef => simp [Sub.v, zJ] at h
theorem og : ∀ (l : List Sub), Tame (up l)
 | [] => ⟨fun _ => rfl, rfl, rfl, fun _ _ h => h⟩
 | s :: r => by
  have h1 := s.tame
  have h2 := og r
  exact ⟨fun b => by simp only [up, h1.bool, h2.bool], by simp only [up, h1.skip, h2.skip], by simp only [up, h1.undef, h2.undef], fun v b h => h1.inj v b (h2.inj _ b h)⟩
theorem k8 (ks : List Nat) : Tame (yv ks) := by
 induction ks with
 | nil => exact ⟨fun _ => rfl, rfl, rfl, fun _ _ h => h⟩
 | cons id r ih =>
  have h1 := (Sub.kill id).tame
  exact ⟨fun b => by simp only [yv, h1.bool, ih.bool], by simp only [yv, h1.skip, ih.skip], by simp only [yv, h1.undef, ih.undef], fun v b h => h1.inj v b (ih.inj _ b h)⟩
theorem rV (ks : List Nat) (fr : List AV) : ul fr ks = fr.map (yv ks) := by
 apply List.ext_getElem?
 intro t
 rw [nR, List.getElem?_map]
theorem ft : ∀ (ks : List Nat) (g : G), Wf g ks = ⟨ul g.fr ks, g.gs, g.facts⟩
 | [], g => rfl
 | id :: r, g => by rw [Wf, ft r]; rfl
end Go.Proofs.YtefddghdaimklaaGreatDoor.AI
