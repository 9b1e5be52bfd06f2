/- The plain laws of the runs: the reference, and that it answers as the log does. -/
import Derived.Test.YtjedleoebjmkgaaBh
set_option linter.unusedVariables false
set_option linter.unusedSimpArgs false
namespace Go.Proofs.Ytjedleoebjmkgaa.AI
open Go

/-! ### The order of places -/
theorem bytes_anti : ∀ (a b : List UInt8), Lib.compareBytes b a = 0 - Lib.compareBytes a b
  | [], [] => rfl
  | [], _ :: _ => rfl
  | _ :: _, [] => rfl
  | a :: l, b :: m => by
    have ih := bytes_anti l m
    simp only [Lib.compareBytes]
    by_cases h1 : a < b
    · have h2 : ¬ b < a := by rw [UInt8.lt_iff_toNat_lt] at *; omega
      rw [if_pos h1, if_neg h2, if_pos h1]; rfl
    · by_cases h2 : b < a
      · rw [if_pos h2, if_neg h1, if_pos h2]; rfl
      · rw [if_neg h2, if_neg h1, if_neg h1, if_neg h2]; exact ih
theorem bytes_trans : ∀ {a b c : List UInt8}, Lib.compareBytes a b ≤ 0 → Lib.compareBytes b c ≤ 0 → Lib.compareBytes a c ≤ 0
  | [], _, [], _, _ => by simp [Lib.compareBytes]
  | [], _, _ :: _, _, _ => by simp [Lib.compareBytes]
  | _ :: _, [], _, h, _ => by simp [Lib.compareBytes] at h
  | _ :: _, _ :: _, [], _, h => by simp [Lib.compareBytes] at h
  | a :: l, b :: m, c :: n, h1, h2 => by
    simp only [Lib.compareBytes] at h1 h2 ⊢
    simp only [UInt8.lt_iff_toNat_lt] at h1 h2 ⊢
    have ih := @bytes_trans l m n
    by_cases q1 : a.toNat < b.toNat
    · by_cases q2 : b.toNat < c.toNat
      · rw [if_pos (by omega)]; omega
      · rw [if_neg q2] at h2
        by_cases q3 : c.toNat < b.toNat
        · rw [if_pos q3] at h2; omega
        · rw [if_pos (by omega)]; omega
    · rw [if_neg q1] at h1
      by_cases q2 : b.toNat < a.toNat
      · rw [if_pos q2] at h1; omega
      · rw [if_neg q2] at h1
        by_cases q3 : b.toNat < c.toNat
        · rw [if_pos (by omega)]; omega
        · rw [if_neg q3] at h2
          by_cases q4 : c.toNat < b.toNat
          · rw [if_pos q4] at h2; omega
          · rw [if_neg q4] at h2
            rw [if_neg (by omega), if_neg (by omega)]
            exact ih h1 h2

theorem str_anti (a b : ByteArray) : strS b a = 0 - strS a b := bytes_anti _ _
theorem str_trans {a b c : ByteArray} (h1 : strS a b ≤ 0) (h2 : strS b c ≤ 0) : strS a c ≤ 0 := bytes_trans h1 h2
theorem str_zero {a b : ByteArray} (h : strS a b = 0) : a = b := by
  have h1 := (less_cmp a.data.toList b.data.toList).2.2 h
  cases a with
  | mk a => cases b with
    | mk b => exact congrArg ByteArray.mk (Array.toList_inj.1 h1)

theorem cmpR_le {a b : dPoint} : cmpR a b ≤ 0 ↔ a.1 < b.1 ∨ (a.1 = b.1 ∧ (a.2.1 < b.2.1 ∨ (a.2.1 = b.2.1 ∧ strS a.2.2 b.2.2 ≤ 0))) := by
  unfold cmpR
  by_cases h1 : a.1 = b.1
  · have e1 : (a.1 != b.1) = false := by simp [h1]
    rw [e1, cond_false]
    by_cases h2 : a.2.1 = b.2.1
    · have e2 : (a.2.1 != b.2.1) = false := by simp [h2]
      rw [e2, cond_false]
      simp [h1, h2]
    · have e2 : (a.2.1 != b.2.1) = true := by simp [h2]
      rw [e2, cond_true]
      by_cases h3 : a.2.1 < b.2.1
      · rw [decide_eq_true h3]; simp [h1, h3]
      · rw [decide_eq_false h3]; simp [h1, h2, h3]
  · have e1 : (a.1 != b.1) = true := by simp [h1]
    rw [e1, cond_true]
    by_cases h3 : a.1 < b.1
    · rw [decide_eq_true h3]; simp [h3]
    · rw [decide_eq_false h3]; simp [h1, h3]
theorem cmpR_zero {a b : dPoint} : cmpR a b = 0 ↔ a = b := by
  unfold cmpR
  constructor
  · intro h
    cases h1 : a.1 != b.1 with
    | true =>
      rw [h1, cond_true] at h
      cases hd : decide (a.1 < b.1) <;> rw [hd] at h <;> simp at h
    | false =>
      rw [h1, cond_false] at h
      cases h2 : a.2.1 != b.2.1 with
      | true =>
        rw [h2, cond_true] at h
        cases hd : decide (a.2.1 < b.2.1) <;> rw [hd] at h <;> simp at h
      | false =>
        rw [h2, cond_false] at h
        obtain ⟨a1, a2, a3⟩ := a
        obtain ⟨b1, b2, b3⟩ := b
        simp at h1 h2
        have := str_zero h
        simp only at this
        rw [h1, h2, this]
  · rintro rfl
    have : strS a.2.2 a.2.2 = 0 := by have := str_anti a.2.2 a.2.2; omega
    simp [this]
theorem cmpR_anti (a b : dPoint) : cmpR b a = 0 - cmpR a b := by
  unfold cmpR
  by_cases h1 : a.1 = b.1
  · have e1 : (a.1 != b.1) = false := by simp [h1]
    have e1' : (b.1 != a.1) = false := by simp [h1]
    rw [e1, e1', cond_false, cond_false]
    by_cases h2 : a.2.1 = b.2.1
    · have e2 : (a.2.1 != b.2.1) = false := by simp [h2]
      have e2' : (b.2.1 != a.2.1) = false := by simp [h2]
      rw [e2, e2', cond_false, cond_false]
      exact str_anti _ _
    · have e2 : (a.2.1 != b.2.1) = true := by simp [h2]
      have e2' : (b.2.1 != a.2.1) = true := by simp; exact fun h => h2 h.symm
      rw [e2, e2', cond_true, cond_true]
      by_cases h3 : a.2.1 < b.2.1
      · rw [decide_eq_true h3, decide_eq_false (show ¬ b.2.1 < a.2.1 by omega)]; rfl
      · rw [decide_eq_false h3, decide_eq_true (show b.2.1 < a.2.1 by omega)]; rfl
  · have e1 : (a.1 != b.1) = true := by simp [h1]
    have e1' : (b.1 != a.1) = true := by simp; exact fun h => h1 h.symm
    rw [e1, e1', cond_true, cond_true]
    by_cases h3 : a.1 < b.1
    · rw [decide_eq_true h3, decide_eq_false (show ¬ b.1 < a.1 by omega)]; rfl
    · rw [decide_eq_false h3, decide_eq_true (show b.1 < a.1 by omega)]; rfl
theorem cmpR_trans {a b c : dPoint} (h1 : cmpR a b ≤ 0) (h2 : cmpR b c ≤ 0) : cmpR a c ≤ 0 := by
  rw [cmpR_le] at *
  rcases h1 with h1 | ⟨h1, h1' | ⟨h1', h1''⟩⟩ <;> rcases h2 with h2 | ⟨h2, h2' | ⟨h2', h2''⟩⟩
  all_goals first
    | exact .inl (by omega)
    | exact .inr ⟨by omega, .inl (by omega)⟩
    | exact .inr ⟨by omega, .inr ⟨by omega, str_trans h1'' h2''⟩⟩
theorem lt_trans' {a b c : dPoint} (h1 : cmpR a b < 0) (h2 : cmpR b c < 0) : cmpR a c < 0 := by
  have h3 := cmpR_trans (a := a) (b := b) (c := c) (by omega) (by omega)
  rcases Int.lt_or_eq_of_le h3 with h | h
  · exact h
  · have := cmpR_zero.1 h
    subst this
    have := cmpR_anti a b
    omega
theorem cmpP_eq (a b : dPoint) : cmpP a b = cmpR a b := by
  unfold cmpP cmpR
  simp only [orS]
  by_cases h1 : a.1 = b.1
  · have e1 : (a.1 != b.1) = false := by simp [h1]
    have e2 : cmpI a.1 b.1 = 0 := by simp [cmpI, h1]
    rw [e1, e2]
    simp only [bne_self_eq_false, cond_false]
    by_cases h2 : a.2.1 = b.2.1
    · have e1 : (a.2.1 != b.2.1) = false := by simp [h2]
      have e2 : cmpI a.2.1 b.2.1 = 0 := by simp [cmpI, h2]
      rw [e1, e2]
      simp only [bne_self_eq_false, cond_false]
      cases h : strS a.2.2 b.2.2 != 0 with
      | true => rfl
      | false => simp at h; rw [h]; rfl
    · have e1 : (a.2.1 != b.2.1) = true := by simp [h2]
      rw [e1, cond_true]
      unfold cmpI
      by_cases h3 : a.2.1 < b.2.1
      · rw [decide_eq_true h3]; rfl
      · rw [decide_eq_false h3, decide_eq_true (show a.2.1 > b.2.1 by omega)]; rfl
  · have e1 : (a.1 != b.1) = true := by simp [h1]
    rw [e1, cond_true]
    unfold cmpI
    by_cases h3 : a.1 < b.1
    · rw [decide_eq_true h3]; rfl
    · rw [decide_eq_false h3, decide_eq_true (show a.1 > b.1 by omega)]; rfl

/-! ### The least, in two ways -/
theorem least_filter (p : dPoint → Bool) : ∀ (r : List dPoint) (y : dPoint), leastL p true y r = (leastR y (r.filter p), true)
  | [], y => rfl
  | q :: r, y => by
    simp only [leastL, Bool.not_true, Bool.false_or, cmpP_eq, List.filter_cons]
    cases hp : p q with
    | true =>
      simp only [Bool.and_true, if_true, leastR]
      cases decide (cmpR q y < 0) with
      | true => exact least_filter p r q
      | false => exact least_filter p r y
    | false =>
      simp only [Bool.and_false, cond_false, Bool.false_eq_true, if_false]
      exact least_filter p r y
theorem least_same (p : dPoint → Bool) : ∀ (r : List dPoint), leastL p false noP r = leastS (r.filter p)
  | [] => rfl
  | q :: r => by
    simp only [leastL, Bool.not_false, Bool.true_or, Bool.true_and, List.filter_cons]
    cases hp : p q with
    | true => exact least_filter p r q
    | false => exact least_same p r
theorem reads_same (f : dFoot) (p : dPoint) : readsR f p = readsS f p := by
  unfold readsR readsS
  congr 2
  funext q
  exact sameP_comm q p
theorem clash_same (a b : dFoot) : clashR a b = clashS a b := by
  unfold clashR clashS
  rw [least_same]
  congr 2
  funext q
  rw [reads_same]; rfl

/-! ### What leastL finds -/
def Least (p : dPoint → Prop) (z : dPoint × Bool) : Prop := (z.2 = true ∧ p z.1 ∧ ∀ q, p q → cmpR z.1 q ≤ 0) ∨ (z = (noP, false) ∧ ∀ q, ¬ p q)
theorem Least.uniq {p : dPoint → Prop} {z w : dPoint × Bool} (h : Least p z) (h2 : Least p w) : z = w := by
  rcases h with ⟨a1, a2, a3⟩ | ⟨a1, a2⟩ <;> rcases h2 with ⟨b1, b2, b3⟩ | ⟨b1, b2⟩
  · have c1 := a3 _ b2
    have c2 := b3 _ a2
    have c3 := cmpR_anti z.1 w.1
    have : cmpR z.1 w.1 = 0 := by omega
    have h5 := cmpR_zero.1 this
    obtain ⟨z1, z2⟩ := z
    obtain ⟨w1, w2⟩ := w
    simp only at *
    rw [h5, a1, b1]
  · exact absurd a2 (b2 _)
  · exact absurd b2 (a2 _)
  · rw [a1, b1]
theorem Least.congr {p q : dPoint → Prop} (h : ∀ v, p v ↔ q v) {z : dPoint × Bool} (hz : Least p z) : Least q z := by
  have : p = q := funext fun v => propext (h v)
  rw [← this]; exact hz
theorem leastR_ok : ∀ (r : List dPoint) (y : dPoint), (leastR y r = y ∨ leastR y r ∈ r) ∧ cmpR (leastR y r) y ≤ 0 ∧ ∀ q ∈ r, cmpR (leastR y r) q ≤ 0
  | [], y => ⟨.inl rfl, by rw [show leastR y [] = y from rfl, cmpR_zero.2 rfl]; exact Int.le_refl _, fun q hq => by simp at hq⟩
  | v :: r, y => by
    simp only [leastR]
    cases hd : decide (cmpR v y < 0) with
    | true =>
      obtain ⟨h1, h2, h3⟩ := leastR_ok r v
      have hlt := of_decide_eq_true hd
      simp only [cond_true]
      refine ⟨.inr ?_, cmpR_trans h2 (by omega), fun q hq => ?_⟩
      · rcases h1 with h1 | h1
        · rw [h1]; exact List.mem_cons_self
        · exact List.mem_cons_of_mem _ h1
      · rcases List.mem_cons.1 hq with rfl | hq
        · exact h2
        · exact h3 q hq
    | false =>
      obtain ⟨h1, h2, h3⟩ := leastR_ok r y
      rw [decide_eq_false_iff_not] at hd
      simp only [cond_false]
      refine ⟨?_, h2, fun q hq => ?_⟩
      · rcases h1 with h1 | h1
        · exact .inl h1
        · exact .inr (List.mem_cons_of_mem _ h1)
      · rcases List.mem_cons.1 hq with rfl | hq
        · exact cmpR_trans h2 (by have := cmpR_anti q y; omega)
        · exact h3 q hq
theorem leastL_ok (p : dPoint → Bool) (l : List dPoint) : Least (fun q => q ∈ l ∧ p q = true) (leastL p false noP l) := by
  rw [least_same]
  have hm : ∀ q, q ∈ l.filter p ↔ (q ∈ l ∧ p q = true) := fun q => List.mem_filter
  generalize hf : l.filter p = r at hm ⊢
  cases r with
  | nil => exact .inr ⟨rfl, fun q hq => by have := (hm q).2 hq; simp at this⟩
  | cons v r =>
    obtain ⟨h1, h2, h3⟩ := leastR_ok r v
    refine .inl ⟨rfl, (hm _).1 ?_, fun q hq => ?_⟩
    · show leastR v r ∈ v :: r
      rcases h1 with h1 | h1
      · rw [h1]; exact List.mem_cons_self
      · exact List.mem_cons_of_mem _ h1
    · rcases List.mem_cons.1 ((hm q).2 hq) with rfl | hq
      · exact h2
      · exact h3 q hq

/-! ### Sorting -/
def Sorted (l : List dPoint) : Prop := l.Pairwise fun a b => cmpR a b < 0
theorem merge_ok : ∀ (a b : List dPoint), Sorted a → Sorted b → Sorted (mergeS a b) ∧ ∀ q, q ∈ mergeS a b ↔ q ∈ a ∨ q ∈ b
  | [], b, _, hb => by rw [mergeS]; exact ⟨hb, fun q => by simp⟩
  | p :: a, [], ha, _ => by rw [mergeS]; exact ⟨ha, fun q => by simp⟩
  | p :: a, q :: b, ha, hb => by
    rw [mergeS]
    obtain ⟨ha1, ha2⟩ := List.pairwise_cons.1 ha
    obtain ⟨hb1, hb2⟩ := List.pairwise_cons.1 hb
    cases h1 : decide (cmpR p q < 0) with
    | true =>
      have hlt := of_decide_eq_true h1
      obtain ⟨i1, i2⟩ := merge_ok a (q :: b) ha2 hb
      refine ⟨List.pairwise_cons.2 ⟨fun v hv => ?_, i1⟩, fun v => ?_⟩
      · rcases (i2 v).1 hv with hv | hv
        · exact ha1 v hv
        · rcases List.mem_cons.1 hv with rfl | hv
          · exact hlt
          · exact lt_trans' hlt (hb1 v hv)
      · rw [cond_true, List.mem_cons, i2 v, List.mem_cons, List.mem_cons, or_assoc]
    | false =>
      rw [decide_eq_false_iff_not] at h1
      cases h2 : cmpR p q == 0 with
      | true =>
        have he : p = q := cmpR_zero.1 (by simpa using h2)
        subst he
        obtain ⟨i1, i2⟩ := merge_ok a b ha2 hb2
        refine ⟨List.pairwise_cons.2 ⟨fun v hv => ?_, i1⟩, fun v => ?_⟩
        · rcases (i2 v).1 hv with hv | hv
          · exact ha1 v hv
          · exact hb1 v hv
        · rw [cond_false, cond_true, List.mem_cons, i2 v, List.mem_cons, List.mem_cons]
          constructor
          · rintro (h | h | h)
            · exact .inl (.inl h)
            · exact .inl (.inr h)
            · exact .inr (.inr h)
          · rintro ((h | h) | (h | h))
            · exact .inl h
            · exact .inr (.inl h)
            · exact .inl h
            · exact .inr (.inr h)
      | false =>
        have hne : cmpR p q ≠ 0 := by simpa using h2
        have hgt : cmpR q p < 0 := by have := cmpR_anti p q; omega
        obtain ⟨i1, i2⟩ := merge_ok (p :: a) b ha hb2
        refine ⟨List.pairwise_cons.2 ⟨fun v hv => ?_, i1⟩, fun v => ?_⟩
        · rcases (i2 v).1 hv with hv | hv
          · rcases List.mem_cons.1 hv with rfl | hv
            · exact hgt
            · exact lt_trans' hgt (ha1 v hv)
          · exact hb1 v hv
        · rw [cond_false, cond_false, List.mem_cons, i2 v, List.mem_cons, List.mem_cons]
          constructor
          · rintro (h | h | h)
            · exact .inr (.inl h)
            · exact .inl h
            · exact .inr (.inr h)
          · rintro (h | h | h)
            · exact .inr (.inl h)
            · exact .inl h
            · exact .inr (.inr h)
termination_by a b => a.length + b.length
theorem sort_ok (l : List dPoint) : Sorted (sortS l) ∧ ∀ q, q ∈ sortS l ↔ q ∈ l := by
  rw [sortS]
  by_cases h : l.length < 2
  · rw [dif_pos h]
    refine ⟨?_, fun q => Iff.rfl⟩
    match l, h with
    | [], _ => exact List.Pairwise.nil
    | [a], _ => exact List.pairwise_singleton _ _
    | a :: b :: r, h => simp at h; omega
  · rw [dif_neg h]
    obtain ⟨a1, a2⟩ := sort_ok (l.take (l.length / 2))
    obtain ⟨b1, b2⟩ := sort_ok (l.drop (l.length / 2))
    obtain ⟨c1, c2⟩ := merge_ok _ _ a1 b1
    refine ⟨c1, fun q => ?_⟩
    rw [c2, a2, b2, ← List.mem_append, List.take_append_drop]
termination_by l.length
decreasing_by
  · rw [List.length_take]; omega
  · rw [List.length_drop]; omega
theorem com_ok : ∀ (a b : List dPoint), Sorted a → Sorted b → Least (fun q => (q ∈ a ∧ q ∈ b) ∧ q.2.1 = -1) (comS a b)
  | [], b, _, _ => by rw [comS]; exact .inr ⟨rfl, fun q hq => by have := hq.1.1; simp at this⟩
  | p :: a, [], _, _ => by rw [comS]; exact .inr ⟨rfl, fun q hq => by have := hq.1.2; simp at this⟩
  | p :: a, q :: b, ha, hb => by
    rw [comS]
    obtain ⟨ha1, ha2⟩ := List.pairwise_cons.1 ha
    obtain ⟨hb1, hb2⟩ := List.pairwise_cons.1 hb
    have self : ∀ v, cmpR v v = 0 := fun v => cmpR_zero.2 rfl
    cases h1 : cmpR p q == 0 && p.2.1 == -1 with
    | true =>
      simp only [Bool.and_eq_true, beq_iff_eq] at h1
      have he := cmpR_zero.1 h1.1
      subst he
      refine .inl ⟨rfl, ⟨⟨List.mem_cons_self, List.mem_cons_self⟩, h1.2⟩, fun v hv => ?_⟩
      show cmpR p v ≤ 0
      rcases List.mem_cons.1 hv.1.1 with rfl | h
      · rw [self]; exact Int.le_refl _
      · have := ha1 v h; omega
    | false =>
      rw [cond_false]
      cases h2 : decide (cmpR p q ≤ 0) with
      | true =>
        have hle := of_decide_eq_true h2
        rw [cond_true]
        refine (com_ok a (q :: b) ha2 hb).congr (fun v => ⟨fun hv => ⟨⟨List.mem_cons_of_mem _ hv.1.1, hv.1.2⟩, hv.2⟩, fun hv => ?_⟩)
        rcases List.mem_cons.1 hv.1.1 with rfl | h
        · exfalso
          rcases List.mem_cons.1 hv.1.2 with rfl | h4
          · rw [self] at h1
            have := hv.2
            simp [this] at h1
          · have h5 := hb1 v h4
            have := cmpR_anti v q
            omega
        · exact ⟨⟨h, hv.1.2⟩, hv.2⟩
      | false =>
        rw [decide_eq_false_iff_not] at h2
        rw [cond_false]
        refine (com_ok (p :: a) b ha hb2).congr (fun v => ⟨fun hv => ⟨⟨hv.1.1, List.mem_cons_of_mem _ hv.1.2⟩, hv.2⟩, fun hv => ?_⟩)
        rcases List.mem_cons.1 hv.1.2 with rfl | h
        · exfalso
          rcases List.mem_cons.1 hv.1.1 with rfl | h4
          · rw [self] at h2; exact h2 (Int.le_refl _)
          · have h5 := ha1 v h4
            omega
        · exact ⟨⟨hv.1.1, h⟩, hv.2⟩
termination_by a b => a.length + b.length
theorem both_same (a b : dFoot) : bothR a b = bothS a b := by
  unfold bothR bothS
  refine Least.uniq ((com_ok _ _ (sort_ok _).1 (sort_ok _).1).congr (fun q => ?_)) (leastL_ok _ _)
  rw [(sort_ok a.2.2).2, (sort_ok b.2.2).2]
  have : b.2.2.any (fun v => sameP v q) = true ↔ q ∈ b.2.2 := by
    rw [List.any_eq_true]
    constructor
    · rintro ⟨v, hv, he⟩
      rw [← sameP_iff.1 he]; exact hv
    · intro hq
      exact ⟨q, hq, sameP_iff.2 rfl⟩
  simp only [Bool.and_eq_true, this, beq_iff_eq, and_assoc]

/-! ### The log and the reference's log are read alike -/
theorem first_same {g : dFoot → dFoot → dPoint × Bool} (hg : ∀ a b, g a ([], ([], b.2.2)) = g a b) (f : dFoot) (n : Int) : ∀ (l : List dCommit), firstR g f n (relS l) = firstS g f (l.filter fun c => decide (c.1 > n))
  | [] => rfl
  | c :: r => by
    show (bif decide (c.1 ≤ n) then firstR g f n (relS r) else bif (g f ([], ([], c.2.2.2))).2 then ((c.1, (g f ([], ([], c.2.2.2))).1), true) else firstR g f n (relS r)) = _
    rw [List.filter_cons, hg f c.2]
    by_cases h : c.1 > n
    · rw [decide_eq_false (show ¬ c.1 ≤ n by omega), decide_eq_true h]
      simp only [cond_false, if_true, firstS]
      rw [first_same hg f n r]
    · rw [decide_eq_true (show c.1 ≤ n by omega), decide_eq_false h]
      simp only [cond_true, Bool.false_eq_true, if_false]
      exact first_same hg f n r
theorem read_same {g h : dFoot → dFoot → dPoint × Bool} (hgh : ∀ a b, g a b = h a b) (hg : ∀ a b, h a ([], ([], b.2.2)) = h a b) {l : List dCommit} (hl : ascS l) (f : dFoot) (n : Int) : readR g (relS l) f n = readS h (true, l) f n := by
  have : g = h := funext fun a => funext fun b => hgh a b
  subst this
  unfold readR readS
  simp only [Bool.not_true, Bool.false_or]
  rw [behind_filter hl, first_same hg]
theorem readC_same {l : List dCommit} (hl : ascS l) (f : dFoot) (n : Int) : readR clashR (relS l) f n = readS clashS (true, l) f n := read_same clash_same clash_foot hl f n
theorem readB_same {l : List dCommit} (hl : ascS l) (f : dFoot) (n : Int) : readR bothR (relS l) f n = readS bothS (true, l) f n := read_same both_same both_foot hl f n
theorem try_same {l : List dCommit} (hl : ascS l) (t : dAttempt) : tryR (relS l) t = tryS (true, l) t := by
  unfold tryR tryS
  simp only [Bool.not_true, cond_false, readC_same hl, readB_same hl]
  cases checkS t.2.1 != 0 with
  | true => rfl
  | false =>
  simp only [cond_false]
  cases hb : decide (t.2.2 < 1) || decide (t.2.2 > 3) with
  | true => rfl
  | false =>
  simp only [Bool.or_eq_false_iff, decide_eq_false_iff_not] at hb
  have : decide (t.2.2 ≥ 2) = (t.2.2 != 1) := by
    rw [Bool.eq_iff_iff, decide_eq_true_iff, bne_iff_ne]; omega
  rw [this]

end Go.Proofs.Ytjedleoebjmkgaa.AI
