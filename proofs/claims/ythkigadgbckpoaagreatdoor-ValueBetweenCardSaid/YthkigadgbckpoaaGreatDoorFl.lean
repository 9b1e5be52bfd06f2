/- Doubles as numbers: whole parts, and what is written and read again. -/
import GoSem.Core.Float
set_option linter.unusedVariables false
set_option linter.unusedSimpArgs false
namespace Go.Proofs.YthkigadgbckpoaaGreatDoor.AI
open Go

theorem cut_zero (neg : Bool) (n drop : Nat) : Ieee.Toward.zero.cut neg n drop = n / 2 ^ drop := by
  simp only [Ieee.Toward.cut, Bool.toNat_false, Nat.add_zero, Nat.one_shiftLeft]
  rcases Nat.le_total drop (n.log2 + 2) with h | h
  · rw [Nat.min_eq_left h]
  · rw [Nat.min_eq_right h]
    have h1 : n < 2 ^ (n.log2 + 1) := Nat.lt_log2_self
    have h2 : n < 2 ^ (n.log2 + 2) := Nat.lt_of_lt_of_le h1 (Nat.pow_le_pow_right (by decide) (by omega))
    have h3 : n < 2 ^ drop := Nat.lt_of_lt_of_le h2 (Nat.pow_le_pow_right (by decide) h)
    rw [Nat.div_eq_of_lt h2, Nat.div_eq_of_lt h3]

/-- The whole part of 'm * 2 ^ i'. -/
def whole (m : Nat) (i : Int) : Nat := (m <<< i.toNat) / 2 ^ (-i).toNat

theorem integral_num (s : Bool) (m : Nat) (i : Int) : (Ieee.Datum.number s m i).integral .zero = .number s (whole m i) 0 := by
  simp only [Ieee.Datum.integral, cut_zero, whole]
theorem toInt_num (s : Bool) (m : Nat) (i : Int) : (Ieee.Datum.number s m i).toInt .zero = some (Ieee.signed s (whole m i) 0) := by
  simp only [Ieee.Datum.toInt, integral_num]

theorem signed_zero (s : Bool) (m : Nat) : Ieee.signed s m 0 = if s then -(m : Int) else (m : Int) := by
  unfold Ieee.signed
  simp

theorem read_shape {b : Nat} {s : Bool} {m : Nat} {i : Int} (h : Ieee.double.read b = .number s m i) : m < 2 ^ 53 ∧ -1074 ≤ i := by
  unfold Ieee.Format.read at h
  have e1 : Ieee.double.leastPlace = -1074 := by decide
  have e2 : Ieee.double.binade = 2 ^ 52 := by decide
  simp only [e1, e2] at h
  split at h
  · rename_i hr
    cases h
    exact ⟨by omega, Int.le_refl _⟩
  · split at h
    · cases h
      have := Nat.mod_lt (b % Ieee.double.signWeight) (show 2 ^ 52 > 0 by decide)
      refine ⟨by omega, by omega⟩
    · split at h <;> cases h

/-- Numbers of at most 53 digits are written as they are. -/
def Fits (w : Nat) : Prop := w.log2 ≤ 52 ∨ 2 ^ (w.log2 - 52) ∣ w

theorem log2_mul_pow {m : Nat} (hm : m ≠ 0) (k : Nat) : (m * 2 ^ k).log2 = m.log2 + k := by
  have hp : 0 < 2 ^ k := Nat.two_pow_pos k
  have h0 : m * 2 ^ k ≠ 0 := Nat.mul_ne_zero hm (by omega)
  apply Nat.le_antisymm
  · have : (m * 2 ^ k).log2 < m.log2 + k + 1 := by
      rw [Nat.log2_lt h0]
      have := @Nat.lt_log2_self m
      calc m * 2 ^ k < 2 ^ (m.log2 + 1) * 2 ^ k := Nat.mul_lt_mul_of_pos_right this hp
        _ = 2 ^ (m.log2 + k + 1) := by rw [← Nat.pow_add]; congr 1; omega
    omega
  · rw [Nat.le_log2 h0, Nat.pow_add]
    exact Nat.mul_le_mul_right _ (Nat.log2_self_le hm)

theorem fits_whole {m : Nat} {i : Int} (hm : m < 2 ^ 53) : Fits (whole m i) := by
  unfold whole Fits
  by_cases hi : 0 ≤ i
  · have e : (-i).toNat = 0 := by omega
    rw [e, Nat.pow_zero, Nat.div_one, Nat.shiftLeft_eq]
    by_cases h0 : m = 0
    · subst h0; left; simp
    · rw [log2_mul_pow h0]
      have hl : m.log2 < 53 := (Nat.log2_lt h0).2 hm
      by_cases hc : m.log2 + i.toNat ≤ 52
      · exact .inl hc
      · right
        refine Nat.dvd_trans (Nat.pow_dvd_pow 2 (show m.log2 + i.toNat - 52 ≤ i.toNat by omega)) (Nat.dvd_mul_left _ _)
  · have e : i.toNat = 0 := by omega
    rw [e, Nat.shiftLeft_zero]
    left
    by_cases h0 : m / 2 ^ (-i).toNat = 0
    · rw [h0]; decide
    · have h1 : m / 2 ^ (-i).toNat ≤ m := Nat.div_le_self _ _
      have : (m / 2 ^ (-i).toNat).log2 < 53 := (Nat.log2_lt h0).2 (Nat.lt_of_le_of_lt h1 hm)
      omega

theorem even_cut {neg : Bool} {n drop : Nat} (h : drop ≤ n.log2 + 2) (hd : 2 ^ drop ∣ n) : Ieee.Toward.even.cut neg n drop = n / 2 ^ drop := by
  simp only [Ieee.Toward.cut, Nat.one_shiftLeft, Nat.min_eq_left h, Nat.mod_eq_zero_of_dvd hd]
  have hp : 0 < 2 ^ drop := Nat.two_pow_pos drop
  have e1 : decide (2 ^ drop < 2 * 0) = false := by simp
  have e2 : (2 ^ drop == 2 * 0) = false := by simp
  simp only [e1, e2, Bool.false_and, Bool.or_self, Bool.toNat_false, Nat.add_zero]

theorem word_read {neg : Bool} {R k L : Nat} (hR : R = (L + 1022) * 4503599627370496 + k) (h1 : 4503599627370496 ≤ k) (h2 : k < 9007199254740992) (hL : L ≤ 64) :
    Ieee.double.read (Ieee.double.word neg (min R Ieee.double.infRung)) = .number neg k ((L : Int) - 52) := by
  have e0 : Ieee.double.infRung = 9218868437227405312 := by decide
  have e1 : Ieee.double.leastPlace = -1074 := by decide
  have e2 : Ieee.double.binade = 4503599627370496 := by decide
  have e3 : Ieee.double.signWeight = 9223372036854775808 := by decide
  have hm : min R Ieee.double.infRung = R := by rw [e0]; omega
  rw [hm]
  have hw : Ieee.double.word neg R = if neg then 9223372036854775808 + R else R := by unfold Ieee.Format.word; rw [e3]
  rw [hw]
  unfold Ieee.Format.read
  simp only [e0, e1, e2, e3]
  have hmod : (if neg = true then 9223372036854775808 + R else R) % 9223372036854775808 = R := by
    cases neg
    · simp only [Bool.false_eq_true, if_false]; omega
    · simp only [if_true]; omega
  have hdiv : ((if neg = true then 9223372036854775808 + R else R) / 9223372036854775808 % 2 == 1) = neg := by
    cases neg
    · simp only [Bool.false_eq_true, if_false]
      have : R / 9223372036854775808 = 0 := Nat.div_eq_of_lt (by omega)
      rw [this]; rfl
    · simp only [if_true]
      have : (9223372036854775808 + R) / 9223372036854775808 = 1 := by omega
      rw [this]; rfl
  rw [hmod, hdiv, if_neg (by omega), if_pos (by omega)]
  have h3 : R % 4503599627370496 = k - 4503599627370496 := by omega
  have h4 : R / 4503599627370496 = L + 1023 := by omega
  have h5 : 4503599627370496 + (k - 4503599627370496) = k := by omega
  have h6 : (-1074 : Int) + ((L + 1023 - 1 : Nat) : Int) = (L : Int) - 52 := by omega
  rw [h3, h4, h5, h6]

theorem read_nearest {neg : Bool} {w : Nat} (h0 : w ≠ 0) (hw : w < 2 ^ 64) (hf : Fits w) : ∃ k l, Ieee.double.read (Ieee.double.nearest neg w 0) = .number neg k l ∧ whole k l = w := by
  have hL : w.log2 < 64 := (Nat.log2_lt h0).2 hw
  have lo : 2 ^ w.log2 ≤ w := Nat.log2_self_le h0
  have hi : w < 2 ^ (w.log2 + 1) := Nat.lt_log2_self
  have e1 : Ieee.double.leastPlace = -1074 := by decide
  have e2 : Ieee.double.binade = 4503599627370496 := by decide
  have e4 : Ieee.double.fractionBits = 52 := rfl
  have hlast : max ((0 : Int) + (w.log2 : Int) - ((52 : Nat) : Int)) (-1074) = (w.log2 : Int) - 52 := by omega
  unfold Ieee.Format.nearest
  rw [if_neg h0]
  simp only [e1, e2, e4, hlast]
  have e5 : ((w.log2 : Int) - 52 - -1074).toNat = w.log2 + 1022 := by omega
  rw [e5]
  by_cases hc : w.log2 ≤ 52
  · have a1 : ((0 : Int) - ((w.log2 : Int) - 52)).toNat = 52 - w.log2 := by omega
    have a2 : ((w.log2 : Int) - 52 - 0).toNat = 0 := by omega
    rw [a1, a2, even_cut (Nat.zero_le _) (by simp), Nat.pow_zero, Nat.div_one, Nat.shiftLeft_eq]
    have hp : 2 ^ w.log2 * 2 ^ (52 - w.log2) = 4503599627370496 := by rw [← Nat.pow_add, show w.log2 + (52 - w.log2) = 52 by omega]
    have hp2 : 2 ^ (w.log2 + 1) * 2 ^ (52 - w.log2) = 9007199254740992 := by rw [← Nat.pow_add, show w.log2 + 1 + (52 - w.log2) = 53 by omega]
    have b1 : 4503599627370496 ≤ w * 2 ^ (52 - w.log2) := by rw [← hp]; exact Nat.mul_le_mul_right _ lo
    have b2 : w * 2 ^ (52 - w.log2) < 9007199254740992 := by rw [← hp2]; exact Nat.mul_lt_mul_of_pos_right hi (Nat.two_pow_pos _)
    refine ⟨w * 2 ^ (52 - w.log2), (w.log2 : Int) - 52, word_read rfl b1 b2 (by omega), ?_⟩
    unfold whole
    have c1 : ((w.log2 : Int) - 52).toNat = 0 := by omega
    have c2 : (-((w.log2 : Int) - 52)).toNat = 52 - w.log2 := by omega
    rw [c1, c2, Nat.shiftLeft_zero]
    exact Nat.mul_div_cancel _ (Nat.two_pow_pos _)
  · have hd : 2 ^ (w.log2 - 52) ∣ w := by
      rcases hf with h | h
      · exact absurd h hc
      · exact h
    have a1 : ((0 : Int) - ((w.log2 : Int) - 52)).toNat = 0 := by omega
    have a2 : ((w.log2 : Int) - 52 - 0).toNat = w.log2 - 52 := by omega
    rw [a1, a2, Nat.shiftLeft_zero, even_cut (by omega) hd]
    obtain ⟨q, hq⟩ := hd
    have hpos : 0 < 2 ^ (w.log2 - 52) := Nat.two_pow_pos _
    have hdq : w / 2 ^ (w.log2 - 52) = q := by
      conv => lhs; lhs; rw [hq]
      exact Nat.mul_div_cancel_left _ hpos
    rw [hdq]
    have hp : 2 ^ (w.log2 - 52) * 4503599627370496 = 2 ^ w.log2 := by
      rw [show (4503599627370496 : Nat) = 2 ^ 52 by decide, ← Nat.pow_add, show w.log2 - 52 + 52 = w.log2 by omega]
    have hp2 : 2 ^ (w.log2 - 52) * 9007199254740992 = 2 ^ (w.log2 + 1) := by
      rw [show (9007199254740992 : Nat) = 2 ^ 53 by decide, ← Nat.pow_add, show w.log2 - 52 + 53 = w.log2 + 1 by omega]
    have b1 : 4503599627370496 ≤ q := by
      refine Nat.le_of_mul_le_mul_left ?_ hpos
      rw [hp, ← hq]; exact lo
    have b2 : q < 9007199254740992 := by
      refine Nat.lt_of_mul_lt_mul_left (a := 2 ^ (w.log2 - 52)) ?_
      rw [hp2, ← hq]; exact hi
    refine ⟨q, (w.log2 : Int) - 52, word_read rfl b1 b2 (by omega), ?_⟩
    unfold whole
    have c1 : ((w.log2 : Int) - 52).toNat = w.log2 - 52 := by omega
    have c2 : (-((w.log2 : Int) - 52)).toNat = 0 := by omega
    rw [c1, c2, Nat.pow_zero, Nat.div_one, Nat.shiftLeft_eq, Nat.mul_comm]
    exact hq.symm

theorem read_zero (neg : Bool) : Ieee.double.read (Ieee.double.nearest neg 0 0) = .number neg 0 (-1074) := by
  cases neg <;> decide

/-! ### Whole parts between minus and plus two to the 63 -/
theorem whole_le {m : Nat} {i : Int} {Q : Nat} (h : (m : Nat) * 2 ^ (i - min i 11).toNat ≤ Q * 2 ^ ((11 : Int) - min i 11).toNat) : whole m i ≤ Q * 2048 := by
  unfold whole
  by_cases hi : 11 ≤ i
  · have a1 : (i - min i 11).toNat = (i - 11).toNat := by omega
    have a2 : ((11 : Int) - min i 11).toNat = 0 := by omega
    have a3 : (-i).toNat = 0 := by omega
    rw [a1, a2, Nat.pow_zero, Nat.mul_one] at h
    rw [a3, Nat.pow_zero, Nat.div_one, Nat.shiftLeft_eq]
    have : i.toNat = (i - 11).toNat + 11 := by omega
    rw [this, Nat.pow_add, ← Nat.mul_assoc]
    exact Nat.mul_le_mul_right 2048 h
  · have a1 : (i - min i 11).toNat = 0 := by omega
    have a2 : ((11 : Int) - min i 11).toNat = (11 - i).toNat := by omega
    rw [a1, a2, Nat.pow_zero, Nat.mul_one] at h
    by_cases h0 : 0 ≤ i
    · have a3 : (-i).toNat = 0 := by omega
      rw [a3, Nat.pow_zero, Nat.div_one, Nat.shiftLeft_eq]
      have e : 2 ^ (11 - i).toNat * 2 ^ i.toNat = 2048 := by rw [← Nat.pow_add, show (11 - i).toNat + i.toNat = 11 by omega]
      calc m * 2 ^ i.toNat ≤ Q * 2 ^ (11 - i).toNat * 2 ^ i.toNat := Nat.mul_le_mul_right _ h
        _ = Q * 2048 := by rw [Nat.mul_assoc, e]
    · have a3 : i.toNat = 0 := by omega
      rw [a3, Nat.shiftLeft_zero]
      have e : 2 ^ (11 - i).toNat = 2048 * 2 ^ (-i).toNat := by rw [show (2048 : Nat) = 2 ^ 11 by decide, ← Nat.pow_add, show 11 + (-i).toNat = (11 - i).toNat by omega]
      rw [e, ← Nat.mul_assoc] at h
      exact Nat.div_le_of_le_mul (by rw [Nat.mul_comm]; exact h)

theorem signed_eq (s : Bool) (m u : Nat) : Ieee.signed s m u = if s then -((m * 2 ^ u : Nat) : Int) else ((m * 2 ^ u : Nat) : Int) := by
  unfold Ieee.signed
  rw [Nat.shiftLeft_eq]

def D63 : Ieee.Datum := .number false 4503599627370496 11
def N63 : Ieee.Datum := .number true 4503599627370496 11

theorem cmp3 (x y : Int) : (x < y ∧ compare x y = .lt) ∨ (x = y ∧ compare x y = .eq) ∨ (y < x ∧ compare x y = .gt) := by
  show (x < y ∧ compareOfLessAndEq x y = .lt) ∨ (x = y ∧ compareOfLessAndEq x y = .eq) ∨ (y < x ∧ compareOfLessAndEq x y = .gt)
  unfold compareOfLessAndEq
  by_cases h1 : x < y
  · exact .inl ⟨h1, if_pos h1⟩
  · by_cases h2 : x = y
    · exact .inr (.inl ⟨h2, by rw [if_neg h1, if_pos h2]⟩)
    · exact .inr (.inr ⟨by omega, by rw [if_neg h1, if_neg h2]⟩)

/-- A double that is no NaN, below 2 to the 63, and not below minus that, is a number whose whole part an int64 holds. -/
theorem in_range {d : Ieee.Datum} (hn : (d.order d != some .eq) = false) (h1 : (d.order D63 == some .gt || d.order D63 == some .eq) = false) (h2 : (d.order N63 == some .lt) = false) :
    ∃ s m i, d = .number s m i ∧ whole m i < 2 ^ 64 ∧ -9223372036854775808 ≤ Ieee.signed s (whole m i) 0 ∧ Ieee.signed s (whole m i) 0 ≤ 9223372036854775807 := by
  cases d with
  | nan s t => cases hn
  | infinity s =>
    cases s
    · cases h1
    · cases h2
  | number s m i =>
    refine ⟨s, m, i, rfl, ?_⟩
    have q1 : Ieee.signed s m (i - min i 11).toNat < Ieee.signed false 4503599627370496 ((11 : Int) - min i 11).toNat := by
      simp only [D63, Ieee.Datum.order] at h1
      rcases cmp3 (Ieee.signed s m (i - min i 11).toNat) (Ieee.signed false 4503599627370496 ((11 : Int) - min i 11).toNat) with ⟨q, _⟩ | ⟨_, q⟩ | ⟨_, q⟩
      · exact q
      · rw [q] at h1; cases h1
      · rw [q] at h1; cases h1
    have q2 : Ieee.signed true 4503599627370496 ((11 : Int) - min i 11).toNat ≤ Ieee.signed s m (i - min i 11).toNat := by
      simp only [N63, Ieee.Datum.order] at h2
      rcases cmp3 (Ieee.signed s m (i - min i 11).toNat) (Ieee.signed true 4503599627370496 ((11 : Int) - min i 11).toNat) with ⟨_, q⟩ | ⟨q, _⟩ | ⟨q, _⟩
      · rw [q] at h2; cases h2
      · omega
      · omega
    rw [signed_eq, signed_eq] at q1 q2
    rw [signed_zero]
    cases s with
    | false =>
      simp only [Bool.false_eq_true, if_false] at q1 q2 ⊢
      have q3 : m * 2 ^ (i - min i 11).toNat < 4503599627370496 * 2 ^ ((11 : Int) - min i 11).toNat := by exact Int.ofNat_lt.1 q1
      have hlt : whole m i < 9223372036854775808 := by
        have hp : 0 < 2 ^ ((11 : Int) - min i 11).toNat := Nat.two_pow_pos _
        -- strictness by the same bound of one less, where it is whole; else by division
        unfold whole
        by_cases hi : 11 ≤ i
        · have a1 : (i - min i 11).toNat = (i - 11).toNat := by omega
          have a2 : ((11 : Int) - min i 11).toNat = 0 := by omega
          have a3 : (-i).toNat = 0 := by omega
          rw [a1, a2, Nat.pow_zero, Nat.mul_one] at q3
          rw [a3, Nat.pow_zero, Nat.div_one, Nat.shiftLeft_eq]
          have : i.toNat = (i - 11).toNat + 11 := by omega
          rw [this, Nat.pow_add, ← Nat.mul_assoc]
          exact Nat.mul_lt_mul_of_pos_right q3 (by decide : 0 < 2048)
        · have a1 : (i - min i 11).toNat = 0 := by omega
          have a2 : ((11 : Int) - min i 11).toNat = (11 - i).toNat := by omega
          rw [a1, a2, Nat.pow_zero, Nat.mul_one] at q3
          by_cases h0 : 0 ≤ i
          · have a3 : (-i).toNat = 0 := by omega
            rw [a3, Nat.pow_zero, Nat.div_one, Nat.shiftLeft_eq]
            have e : 2 ^ (11 - i).toNat * 2 ^ i.toNat = 2048 := by rw [← Nat.pow_add, show (11 - i).toNat + i.toNat = 11 by omega]
            calc m * 2 ^ i.toNat < 4503599627370496 * 2 ^ (11 - i).toNat * 2 ^ i.toNat := Nat.mul_lt_mul_of_pos_right q3 (Nat.two_pow_pos _)
              _ = 4503599627370496 * 2048 := by rw [Nat.mul_assoc, e]
          · have a3 : i.toNat = 0 := by omega
            rw [a3, Nat.shiftLeft_zero]
            have e : 2 ^ (11 - i).toNat = 2048 * 2 ^ (-i).toNat := by rw [show (2048 : Nat) = 2 ^ 11 by decide, ← Nat.pow_add, show 11 + (-i).toNat = (11 - i).toNat by omega]
            rw [e, ← Nat.mul_assoc] at q3
            exact Nat.div_lt_of_lt_mul (by rw [Nat.mul_comm]; exact q3)
      refine ⟨by omega, by omega, by omega⟩
    | true =>
      simp only [if_true] at q1 q2 ⊢
      have q3 : m * 2 ^ (i - min i 11).toNat ≤ 4503599627370496 * 2 ^ ((11 : Int) - min i 11).toNat := by
        have := Int.neg_le_neg_iff.1 q2
        exact Int.ofNat_le.1 this
      have hle := whole_le q3
      refine ⟨by omega, by omega, by omega⟩

/-! ### What is left behind the point -/
theorem not_nan_nearest (s : Bool) (m : Nat) (p : Int) : ((Ieee.double.read (Ieee.double.nearest s m p)).order (Ieee.double.read (Ieee.double.nearest s m p)) != some .eq) = false := by
  have key : ∀ (neg : Bool) (R : Nat), R ≤ Ieee.double.infRung → ((Ieee.double.read (Ieee.double.word neg R)).order (Ieee.double.read (Ieee.double.word neg R)) != some .eq) = false := by
    intro neg R hR
    have e0 : Ieee.double.infRung = 9218868437227405312 := by decide
    have e3 : Ieee.double.signWeight = 9223372036854775808 := by decide
    rw [e0] at hR
    have hw : Ieee.double.word neg R = if neg then 9223372036854775808 + R else R := by unfold Ieee.Format.word; rw [e3]
    have hmod : Ieee.double.word neg R % Ieee.double.signWeight = R := by
      rw [hw, e3]
      cases neg
      · simp only [Bool.false_eq_true, if_false]; omega
      · simp only [if_true]; omega
    unfold Ieee.Format.read
    simp only [hmod]
    split
    · rename_i hr
      simp only [Ieee.Datum.order]
      rcases cmp3 (Ieee.signed (Ieee.double.word neg R / Ieee.double.signWeight % 2 == 1) R (Ieee.double.leastPlace - min Ieee.double.leastPlace Ieee.double.leastPlace).toNat) (Ieee.signed (Ieee.double.word neg R / Ieee.double.signWeight % 2 == 1) R (Ieee.double.leastPlace - min Ieee.double.leastPlace Ieee.double.leastPlace).toNat) with h | h | h
      · omega
      · rw [h.2]; rfl
      · omega
    · split
      · generalize Ieee.double.binade + R % Ieee.double.binade = k
        generalize Ieee.double.leastPlace + ((R / Ieee.double.binade - 1 : Nat) : Int) = l
        generalize (Ieee.double.word neg R / Ieee.double.signWeight % 2 == 1) = sg
        simp only [Ieee.Datum.order]
        rcases cmp3 (Ieee.signed sg k (l - min l l).toNat) (Ieee.signed sg k (l - min l l).toNat) with h | h | h
        · omega
        · rw [h.2]; rfl
        · omega
      · split
        · generalize (Ieee.double.word neg R / Ieee.double.signWeight % 2 == 1) = sg
          cases sg <;> rfl
        · rename_i h1 h2 h3
          rw [e0] at h2 h3
          omega
  unfold Ieee.Format.nearest
  split
  · exact key s 0 (Nat.zero_le _)
  · exact key s _ (Nat.min_le_right _ _)

end Go.Proofs.YthkigadgbckpoaaGreatDoor.AI
