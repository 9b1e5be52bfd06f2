/- A part of the proof. -/
import Derived.Test.YtefddghdaimklaaGreatDoorSz
import Derived.Test.YtefddghdaimklaaGreatDoorPz
set_option linter.unusedVariables false
set_option linter.unusedSimpArgs false
/- Keys: their bytes stand as their values do. -/
namespace Go.Proofs.YtefddghdaimklaaGreatDoor.AI
open Go
def vQ : List Int → List Int → Bool
 | _, [] => false
 | [], _ :: _ => true
 | a :: l, b :: m => bif decide (a < b) then true else bif decide (b < a) then false else vQ l m
def Parts (a b : List Int) : Prop := ∃ p x y r s, a = p ++ x :: r ∧ b = p ++ y :: s ∧ x < y
theorem yB : ∀ (p a b : List Int), vQ (p ++ a) (p ++ b) = vQ a b
 | [], a, b => rfl
 | x :: p, a, b => by
  show (bif decide (x < x) then true else bif decide (x < x) then false else vQ (p ++ a) (p ++ b)) = _
  rw [NR (Int.lt_irrefl x)]
  exact yB p a b
theorem Parts.lt {a b : List Int} (h : Parts a b) (r s : List Int) : vQ (a ++ r) (b ++ s) = true ∧ vQ (b ++ s) (a ++ r) = false := by
 obtain ⟨p, x, y, r', s', rfl, rfl, hxy⟩ := h
 rw [NU, NU, yB, yB]
 constructor
 ·show (bif decide (x < y) then true else _) = true
  rw [Ny hxy]; rfl
 ·show (bif decide (y < x) then true else bif decide (x < y) then false else _) = false
  rw [NR (by omega), Ny hxy]; rfl
theorem Parts.cons {a b : List Int} (x : Int) (h : Parts a b) : Parts (x :: a) (x :: b) := by
 obtain ⟨p, u, v, r, s, rfl, rfl, huv⟩ := h
 exact ⟨x :: p, u, v, r, s, rfl, rfl, huv⟩
theorem Parts.head {x y : Int} (h : x < y) (a b : List Int) : Parts (x :: a) (y :: b) := ⟨[], x, y, a, b, rfl, rfl, h⟩
theorem Parts.append {a b : List Int} (h : Parts a b) (r s : List Int) : Parts (a ++ r) (b ++ s) := by
 obtain ⟨p, u, v, r', s', rfl, rfl, huv⟩ := h
 exact ⟨p, u, v, r' ++ r, s' ++ s, by simp, by simp, huv⟩
def Ahead (a b : List Int) : Prop := Parts a b ∨ ∃ r, b = a ++ 255 :: r
def cm (r : List Int) : Prop := r = [] ∨ ∃ x l, r = x :: l ∧ x < 255
theorem Ahead.cons {a b : List Int} (x : Int) (h : Ahead a b) : Ahead (x :: a) (x :: b) := by
 rcases h with h | ⟨r, rfl⟩
 ·exact .inl (h.cons x)
 ·exact .inr ⟨r, rfl⟩
theorem Ahead.lt {a b r : List Int} (h : Ahead a b) (hr : cm r) (s : List Int) : vQ (a ++ r) (b ++ s) = true := by
 rcases h with h | ⟨r', rfl⟩
 ·exact (h.lt r s).1
 ·rw [NU, yB]
  rcases hr with rfl | ⟨x, l, rfl, hx⟩
  ·rfl
  ·show (bif decide (x < 255) then true else _) = true
   rw [Ny hx]; rfl
theorem Ahead.ge {a b : List Int} (h : Ahead a b) (s : List Int) : vQ (b ++ s) (a ++ [255]) = false := by
 rcases h with h | ⟨r', rfl⟩
 ·exact (h.lt [255] s).2
 ·rw [NU, yB]
  show (bif decide ((255 : Int) < 255) then true else bif decide ((255 : Int) < 255) then false else vQ (r' ++ s) []) = false
  rw [NR (Int.lt_irrefl _)]
  cases r' ++ s <;> rfl
theorem ZB {r : List Int} (hr : cm r) (a s : List Int) : vQ (a ++ r) (a ++ 255 :: s) = true := by
 rw [yB]
 rcases hr with rfl | ⟨x, l, rfl, hx⟩
 ·rfl
 ·show (bif decide (x < 255) then true else _) = true
  rw [Ny hx]; rfl
theorem YA (a s : List Int) : vQ (a ++ s) a = false := by
 have := yB a s []
 rw [List.append_nil] at this
 rw [this]; cases s <;> rfl
theorem nw (n : Nat) : ∀ k, (beL n k).length = k
 | 0 => rfl
 | k + 1 => by simp [beL, nw n k]
theorem gY (n : Nat) : ∀ (k j : Nat), k ≤ j → beL (n % 256 ^ j) k = beL n k
 | 0, j, _ => rfl
 | k + 1, j, h => by
  simp only [beL, gY n k j (by omega)]
  congr 2
  obtain ⟨d, rfl⟩ : ∃ d, j = k + 1 + d := ⟨j - (k + 1), by omega⟩
  rw [show 256 ^ (k + 1 + d) = 256 ^ k * (256 * 256 ^ d) by rw [Nat.pow_add, Nat.pow_succ]; simp [Nat.mul_assoc], Nat.mod_mul_right_div_self, Nat.mod_mul_right_mod]
theorem pe : ∀ (k : Nat) {n m : Nat}, n < m → m < 256 ^ k → Parts (beL n k) (beL m k)
 | 0, n, m, h, hm => by simp at hm; omega
 | k + 1, n, m, h, hm => by
  have hp : 0 < 256 ^ k := Nat.pow_pos (by decide)
  have e : 256 ^ (k + 1) = 256 * 256 ^ k := by rw [Nat.pow_succ, Nat.mul_comm]
  rw [e] at hm
  have hn : n / 256 ^ k < 256 := Nat.div_lt_of_lt_mul (by rw [Nat.mul_comm]; omega)
  have hm' : m / 256 ^ k < 256 := Nat.div_lt_of_lt_mul (by rw [Nat.mul_comm]; omega)
  have hle : n / 256 ^ k ≤ m / 256 ^ k := Nat.div_le_div_right (by omega)
  simp only [beL, Nat.mod_eq_of_lt hn, Nat.mod_eq_of_lt hm']
  rcases Nat.lt_or_ge (n / 256 ^ k) (m / 256 ^ k) with h1 | h1
  ·exact Parts.head (by omega) _ _
  ·have h2 : n / 256 ^ k = m / 256 ^ k := by omega
   rw [h2]
   refine Parts.cons _ ?_
   rw [← gY n k k (NF _), ← gY m k k (NF _)]
   refine pe k ?_ (Nat.mod_lt _ hp)
   have e1 := Nat.div_add_mod n (256 ^ k)
   have e2 := Nat.div_add_mod m (256 ^ k)
   rw [h2] at e1
   omega
theorem ww : yb 0 = 0 := by unfold yb; simp
theorem tj {n : Nat} (h : n ≠ 0) : yb n = yb (n / 256) + 1 := by rw [yb]; simp [h]
theorem bc (n : Nat) : n < 256 ^ yb n := by
 induction n using Nat.strongRecOn with
 | _ n ih =>
  by_cases h : n = 0
  ·subst h; rw [ww]; decide
  ·rw [tj h, Nat.pow_succ]
   have := ih (n / 256) (by omega)
   omega
theorem kE {n m : Nat} (h : n ≤ m) : yb n ≤ yb m := by
 induction m using Nat.strongRecOn generalizing n with
 | _ m ih =>
  by_cases hn : n = 0
  ·subst hn; rw [ww]; omega
  ·rw [tj hn, tj (show m ≠ 0 by omega)]
   have := ih (m / 256) (by omega) (n := n / 256) (Nat.div_le_div_right h)
   omega
theorem p7 {n k : Nat} (h : n < 256 ^ k) : yb n ≤ k := by
 induction k generalizing n with
 | zero =>
  have : n = 0 := by simpa using h
  subst this; rw [ww]; omega
 | succ k ih =>
  by_cases hn : n = 0
  ·subst hn; rw [ww]; omega
  ·rw [tj hn]
   have := ih (n := n / 256) (by rw [Nat.pow_succ] at h; omega)
   omega
theorem V0 {m k : Nat} (hm : m < 256 ^ k) (hk : k ≤ 8) : beL (18446744073709551615 - m) k = beL (256 ^ k - 1 - m) k := by
 rw [← gY (18446744073709551615 - m) k k (NF _)]
 congr 1
 have h8 : (18446744073709551616 : Nat) = 256 ^ k * 256 ^ (8 - k) := by rw [← Nat.pow_add, show k + (8 - k) = 8 by omega]
 have hp : 0 < 256 ^ (8 - k) := Nat.pow_pos (by decide)
 obtain ⟨q, hq⟩ : ∃ q, 256 ^ (8 - k) = q + 1 := ⟨256 ^ (8 - k) - 1, by omega⟩
 rw [hq, Nat.mul_add, Nat.mul_one] at h8
 have : 18446744073709551615 - m = (256 ^ k - 1 - m) + 256 ^ k * q := by omega
 rw [this, Nat.add_mul_mod_self_left, Nat.mod_eq_of_lt (by omega)]
theorem ii {x y : Int} (h : x < y) (hx : -9223372036854775808 ≤ x) (hy : y ≤ 9223372036854775807) : Parts (tu x) (tu y) := by
 unfold tu
 by_cases h0 : 0 ≤ x
 ·rw [if_pos h0, if_pos (by omega)]
  have hm := kE (n := x.toNat) (m := y.toNat) (by omega)
  rcases Nat.lt_or_ge (yb x.toNat) (yb y.toNat) with h1 | h1
  ·exact Parts.head (by omega) _ _
  ·have e : yb x.toNat = yb y.toNat := by omega
   rw [e]
   exact Parts.cons _ (pe _ (by omega) (bc _))
 ·rw [if_neg h0]
  by_cases h1 : 0 ≤ y
  ·rw [if_pos h1]
   exact Parts.head (by omega) _ _
  ·rw [if_neg h1]
   generalize hmx : (-(x + 1)).toNat = mx
   generalize hmy : (-(y + 1)).toNat = my
   have hlt : my < mx := by omega
   have hb : mx < 256 ^ 8 := by
    have : (256 : Nat) ^ 8 = 18446744073709551616 := by decide
    omega
   have hm := kE (Nat.le_of_lt hlt)
   have hx8 := p7 hb
   have hy8 := p7 (show my < 256 ^ 8 by omega)
   rcases Nat.lt_or_ge (max (yb my) 1) (max (yb mx) 1) with h2 | h2
   ·exact Parts.head (by omega) _ _
   ·have e : max (yb my) 1 = max (yb mx) 1 := by omega
    rw [e]
    refine Parts.cons _ ?_
    have lx : mx < 256 ^ max (yb mx) 1 := Nat.lt_of_lt_of_le (bc mx) (Nat.pow_le_pow_right (by decide) (by omega))
    have ly : my < 256 ^ max (yb mx) 1 := by omega
    rw [V0 lx (by omega), V0 ly (by omega)]
    exact pe _ (by omega) (by omega)
theorem kR : ∀ {a b : List Int}, (∀ x ∈ a, 0 ≤ x ∧ x ≤ 255) → (∀ x ∈ b, 0 ≤ x ∧ x ≤ 255) → vQ a b = true → Ahead (rl a) (rl b)
 | a, [], _, _, h => by cases a <;> cases h
 | [], b :: m, _, hb, _ => by
  have h0 := (hb b (by simp)).1
  show Ahead [0] (bif b == 0 then 0 :: 255 :: rl m else b :: rl m)
  by_cases e : b = 0
  ·subst e; exact .inr ⟨rl m, rfl⟩
  ·have : (b == 0) = false := by simpa using e
   rw [this]
   exact .inl (Parts.head (by omega) _ _)
 | a :: l, b :: m, ha, hb, h => by
  have a0 := ha a (by simp)
  have b0 := hb b (by simp)
  have h' : (bif decide (a < b) then true else bif decide (b < a) then false else vQ l m) = true := h
  show Ahead (bif a == 0 then 0 :: 255 :: rl l else a :: rl l) (bif b == 0 then 0 :: 255 :: rl m else b :: rl m)
  by_cases hab : a < b
  ·have eb : (b == 0) = false := by simp; omega
   rw [eb]
   cases ea : a == 0 with
   | true =>
    have : a = 0 := by simpa using ea
    exact .inl (Parts.head (by omega) _ _)
   | false => exact .inl (Parts.head hab _ _)
  ·rw [NR hab, Nu] at h'
   by_cases hba : b < a
   ·rw [Ny hba] at h'; cases h'
   ·rw [NR hba, Nu] at h'
    have e : a = b := by omega
    subst e
    have ih := kR (fun x hx => ha x (by simp [hx])) (fun x hx => hb x (by simp [hx])) h'
    cases a == 0 with
    | true => exact (ih.cons 255).cons 0
    | false => exact ih.cons a
def gv (r : Nat) : Nat := if r < 4503599627370496 then r else (4503599627370496 + r % 4503599627370496) * 2 ^ (r / 4503599627370496 - 1)
theorem Tk {r s : Nat} (h : r < s) : gv r < gv s := by
 unfold gv
 by_cases h1 : s < 4503599627370496
 ·rw [if_pos h1, if_pos (by omega)]; exact h
 ·rw [if_neg h1]
  have hp : ∀ k, 0 < 2 ^ k := fun k => Nat.two_pow_pos k
  by_cases h2 : r < 4503599627370496
  ·rw [if_pos h2]
   have := Nat.mul_le_mul_left (4503599627370496 + s % 4503599627370496) (hp (s / 4503599627370496 - 1))
   omega
  ·rw [if_neg h2]
   have hle : r / 4503599627370496 ≤ s / 4503599627370496 := Nat.div_le_div_right (by omega)
   rcases Nat.lt_or_ge (r / 4503599627370496) (s / 4503599627370496) with hq | hq
   ·have e1 : (4503599627370496 + r % 4503599627370496) * 2 ^ (r / 4503599627370496 - 1) < 9007199254740992 * 2 ^ (r / 4503599627370496 - 1) :=
     Nat.mul_lt_mul_of_pos_right (by omega) (hp _)
    have e2 : 9007199254740992 * 2 ^ (r / 4503599627370496 - 1) = 4503599627370496 * 2 ^ (r / 4503599627370496) := by
     obtain ⟨q, hq'⟩ : ∃ q, r / 4503599627370496 = q + 1 := ⟨r / 4503599627370496 - 1, by omega⟩
     rw [hq', Nat.add_sub_cancel, Nat.pow_succ]; omega
    have e3 : 4503599627370496 * 2 ^ (r / 4503599627370496) ≤ 4503599627370496 * 2 ^ (s / 4503599627370496 - 1) :=
     Nat.mul_le_mul_left _ (Nat.pow_le_pow_right (by decide) (by omega))
    have e4 : 4503599627370496 * 2 ^ (s / 4503599627370496 - 1) ≤ (4503599627370496 + s % 4503599627370496) * 2 ^ (s / 4503599627370496 - 1) := NP _ (by omega)
    omega
   ·have hqe : r / 4503599627370496 = s / 4503599627370496 := by omega
    rw [hqe]
    exact Nat.mul_lt_mul_of_pos_right (by omega) (hp _)
theorem SH : gv 0 = 0 := rfl
theorem fc (u : Nat) : (yH u < 9218868437227405312 ∧ rk (dat u) = 0 ∧ kv (-1074) (dat u) = (if vW u then -(gv (yH u) : Int) else (gv (yH u) : Int)) ∧ -1074 ≤ YC (dat u)) ∨
  (yH u = 9218868437227405312 ∧ rk (dat u) = (if vW u then -1 else 1) ∧ kv (-1074) (dat u) = 0 ∧ -1074 ≤ YC (dat u)) ∨
  (9218868437227405312 < yH u ∧ rk (dat u) = 2 ∧ kv (-1074) (dat u) = 0 ∧ -1074 ≤ YC (dat u)) := by
 have e1 : Ieee.double.leastPlace = -1074 := by decide
 have e2 : Ieee.double.binade = 4503599627370496 := by decide
 have e3 : Ieee.double.signWeight = 9223372036854775808 := by decide
 have e4 : Ieee.double.infRung = 9218868437227405312 := by decide
 have ed : dat u = Ieee.double.read u := rfl
 rw [ed]
 unfold Ieee.Format.read yH vW
 simp only [e1, e2, e3, e4]
 generalize u % 9223372036854775808 = r
 generalize (u / 9223372036854775808 % 2 == 1) = s
 by_cases h1 : r < 4503599627370496
 ·left
  rw [if_pos h1]
  refine ⟨by omega, rfl, ?_, Int.le_refl _⟩
  show Ieee.signed s r ((-1074 : Int) - -1074).toNat = _
  unfold gv
  rw [if_pos h1, show ((-1074 : Int) - -1074).toNat = 0 by omega, tT]
 ·rw [if_neg h1]
  by_cases h2 : r < 9218868437227405312
  ·left
   rw [if_pos h2]
   refine ⟨h2, rfl, ?_, by show (-1074 : Int) ≤ -1074 + _; omega⟩
   show Ieee.signed s _ ((-1074 : Int) + ((r / 4503599627370496 - 1 : Nat) : Int) - -1074).toNat = _
   rw [show ((-1074 : Int) + ((r / 4503599627370496 - 1 : Nat) : Int) - -1074).toNat = r / 4503599627370496 - 1 by omega, sf]
   unfold gv
   rw [if_neg h1]
  ·right
   rw [if_neg h2]
   by_cases h3 : r = 9218868437227405312
   ·left
    rw [if_pos h3]
    exact ⟨h3, by cases s <;> rfl, rfl, by show (-1074 : Int) ≤ 0; omega⟩
   ·right
    rw [if_neg h3]
    exact ⟨by omega, rfl, rfl, by show (-1074 : Int) ≤ 0; omega⟩
theorem cV (sa sb : Bool) (ra rb : Nat) : ((if sa then -(gv ra : Int) else (gv ra : Int)) < (if sb then -(gv rb : Int) else (gv rb : Int))) ↔ ((if sa then -(ra : Int) else (ra : Int)) < (if sb then -(rb : Int) else (rb : Int))) := by
 have z : ∀ r, (r = 0 ∧ gv r = 0) ∨ (0 < r ∧ 0 < gv r) := fun r => by
  rcases Nat.eq_zero_or_pos r with h | h
  ·subst h; exact .inl ⟨rfl, rfl⟩
  ·exact .inr ⟨h, by have := Tk h; rw [SH] at this; exact this⟩
 have tri : (ra < rb ∧ gv ra < gv rb) ∨ (ra = rb ∧ gv ra = gv rb) ∨ (rb < ra ∧ gv rb < gv ra) := by
  rcases Nat.lt_trichotomy ra rb with h | h | h
  ·exact .inl ⟨h, Tk h⟩
  ·subst h; exact .inr (.inl ⟨rfl, rfl⟩)
  ·exact .inr (.inr ⟨h, Tk h⟩)
 have za := z ra
 have zb := z rb
 generalize gv ra = ga at *
 generalize gv rb = gb at *
 clear z
 cases sa <;> cases sb <;> simp only [if_true, Bool.false_eq_true, if_false] <;> rcases tri with h | h | h <;> omega
theorem fg {u : Nat} (h : ¬ 9218868437227405312 < yH u) : wv u = if vW u then -(yH u : Int) else (yH u : Int) := if_neg h
theorem nW {u : Nat} (h : 9218868437227405312 < yH u) : wv u = 9221120237041090560 := if_pos h
theorem nR {u : Nat} (h : yH u = 9218868437227405312) : wv u = if vW u then -9218868437227405312 else 9218868437227405312 := by
 rw [fg (by omega), h]; rfl
theorem qW {u : Nat} (h : yH u < 9218868437227405312) : -9218868437227405312 < wv u ∧ wv u < 9218868437227405312 := by
 rw [fg (by omega)]
 split <;> omega
theorem fQ (a b : Nat) : qY a b = if wv a < wv b then -1 else if wv b < wv a then 1 else 0 := by
 rcases fc a with ⟨a1, a2, a3, a4⟩ | ⟨a1, a2, a3, a4⟩ | ⟨a1, a2, a3, a4⟩ <;> rcases fc b with ⟨b1, b2, b3, b4⟩ | ⟨b1, b2, b3, b4⟩ | ⟨b1, b2, b3, b4⟩
 ·rw [xP, yT _ _ (-1074) a4 b4, a2, a3, b2, b3]
  have h1 := cV (vW a) (vW b) (yH a) (yH b)
  have h2 := cV (vW b) (vW a) (yH b) (yH a)
  rw [← fg (by omega), ← fg (by omega)] at h1 h2
  unfold o6
  by_cases q1 : wv a < wv b
  ·rw [if_pos q1, if_pos (.inr ⟨rfl, h1.2 q1⟩)]
  ·by_cases q2 : wv b < wv a
   ·rw [if_neg q1, if_pos q2, if_neg (fun h => by rcases h with h | h; exact absurd h (Int.lt_irrefl _); exact q1 (h1.1 h.2)), if_pos (.inr ⟨rfl, h2.2 q2⟩)]
   ·rw [if_neg q1, if_neg q2, if_neg (fun h => by rcases h with h | h; exact absurd h (Int.lt_irrefl _); exact q1 (h1.1 h.2)), if_neg (fun h => by rcases h with h | h; exact absurd h (Int.lt_irrefl _); exact q2 (h2.1 h.2))]
 ·rw [xP, yT _ _ (-1074) a4 b4, a2, b2, b3, nR b1]
  have := qW a1
  unfold o6
  cases vW b <;> simp only [if_true, Bool.false_eq_true, if_false]
  ·rw [if_pos (.inl (by omega)), if_pos (by omega)]
  ·rw [if_neg (by omega), if_pos (.inl (by omega)), if_neg (by omega), if_pos (by omega)]
 ·rw [xP, yT _ _ (-1074) a4 b4, a2, b2, b3, nW b1]
  have := qW a1
  unfold o6
  rw [if_pos (.inl (by omega)), if_pos (by omega)]
 ·rw [xP, yT _ _ (-1074) a4 b4, a2, a3, b2, nR a1]
  have := qW b1
  unfold o6
  cases vW a <;> simp only [if_true, Bool.false_eq_true, if_false]
  ·rw [if_neg (by omega), if_pos (.inl (by omega)), if_neg (by omega), if_pos (by omega)]
  ·rw [if_pos (.inl (by omega)), if_pos (by omega)]
 ·rw [xP, yT _ _ (-1074) a4 b4, a2, a3, b2, b3, nR a1, nR b1]
  unfold o6
  cases vW a <;> cases vW b <;> decide
 ·rw [xP, yT _ _ (-1074) a4 b4, a2, a3, b2, b3, nR a1, nW b1]
  unfold o6
  cases vW a <;> decide
 ·rw [xP, yT _ _ (-1074) a4 b4, a2, a3, b2, nW a1]
  have := qW b1
  unfold o6
  rw [if_neg (by omega), if_pos (.inl (by omega)), if_neg (by omega), if_pos (by omega)]
 ·rw [xP, yT _ _ (-1074) a4 b4, a2, a3, b2, b3, nW a1, nR b1]
  unfold o6
  cases vW b <;> decide
 ·rw [xP, yT _ _ (-1074) a4 b4, a2, a3, b2, b3, nW a1, nW b1]
  unfold o6
  decide
theorem dK (d e : Ieee.Datum) (h1 : rk d ≠ 2) (h2 : rk e ≠ 2) : d.order e ≠ none := by
 cases d with
 | nan s t => exact absurd rfl h1
 | infinity s => cases e with
  | nan s' t' => exact absurd rfl h2
  | infinity s' => cases s <;> cases s' <;> simp [Ieee.Datum.order]
  | number s' m' i' => cases s <;> simp [Ieee.Datum.order]
 | number s m i => cases e with
  | nan s' t' => exact absurd rfl h2
  | infinity s' => cases s' <;> simp [Ieee.Datum.order]
  | number s' m' i' => simp [Ieee.Datum.order]
theorem fl {u : Nat} (hu : u < 18446744073709551616) : (wV (3, (0, (u, noS)))).2.2.1 = x6 (wv u) := by
 have hz := fQ u 0
 have hs := fQ u u
 have w0 : wv 0 = 0 := rfl
 have hn : fo u u != some .eq ↔ 9218868437227405312 < yH u := by
  have e : (fo u u != some .eq) = decide (rk (dat u) = 2) := th (dat u)
  rw [e, NO]
  rcases fc u with ⟨a1, a2, _⟩ | ⟨a1, a2, _⟩ | ⟨a1, a2, _⟩
  ·rw [a2]; omega
  ·rw [a2]; split <;> omega
  ·rw [a2]; omega
 have h0 : fo u 0 == some .eq ↔ wv u = 0 := by
  have n0 : (fo 0 0 != some .eq) = false := by kernel_rfl
  by_cases hnan : 9218868437227405312 < yH u
  ·have h1 := hn.2 hnan
   have : fo u 0 = none := mq h1
   rw [this]
   have : wv u = 9221120237041090560 := by unfold wv; rw [if_pos hnan]
   rw [this]
   simp
  ·have h1 : (fo u u != some .eq) = false := by
    cases h : (fo u u != some .eq) with
    | true => exact absurd (hn.1 h) hnan
    | false => rfl
   have hf : qY u 0 = bif fo u 0 == some .lt then -1 else bif fo u 0 == some .gt then 1 else 0 := by
    unfold qY; rw [h1, n0]; rfl
   rw [w0] at hz
   rw [hf] at hz
   have hne : fo u 0 ≠ none := by
    intro hq
    refine dK (dat u) (dat 0) ?_ ?_ hq
    ·rcases fc u with ⟨a1, a2, _⟩ | ⟨a1, a2, _⟩ | ⟨a1, a2, _⟩
     ·rw [a2]; decide
     ·rw [a2]; split <;> decide
     ·exact absurd a1 hnan
    ·decide
   cases ho : fo u 0 with
   | none => exact absurd ho hne
   | some o =>
    rw [ho] at hz
    cases o with
    | lt => simp at hz ⊢; split at hz <;> omega
    | eq => simp at hz ⊢; split at hz <;> first | omega | (split at hz <;> omega)
    | gt => simp at hz ⊢; split at hz <;> first | omega | (split at hz <;> omega)
 unfold wV
 simp only [show ((3 : Int) != 3) = false from rfl, Nu]
 cases hq : fo u 0 == some .eq with
 | true =>
  have := h0.1 hq
  rw [this]; rfl
 | false =>
  have hw0 : wv u ≠ 0 := fun h => by rw [h0.2 h] at hq; cases hq
  rw [Nu]
  cases hq2 : fo u u != some .eq with
  | true =>
   have : wv u = 9221120237041090560 := by unfold wv; rw [if_pos (hn.1 hq2)]
   rw [this]; rfl
  | false =>
   rw [Nu]
   have hr : ¬ 9218868437227405312 < yH u := fun h => by rw [hn.2 h] at hq2; cases hq2
   unfold wv at hw0 ⊢
   rw [if_neg hr] at hw0 ⊢
   unfold x6
   have hb : vW u = true ↔ 9223372036854775808 ≤ u := by
    unfold vW
    rw [beq_iff_eq]
    omega
   have hrr : yH u = u % 9223372036854775808 := rfl
   cases hneg : vW u with
   | true =>
    have h1 := hb.1 hneg
    rw [hneg] at hw0
    simp only [if_true] at hw0 ⊢
    rw [if_neg (by omega)]
    show u = _
    omega
   | false =>
    have h1 : ¬ 9223372036854775808 ≤ u := fun h => by rw [hb.2 h] at hneg; cases hneg
    simp only [Bool.false_eq_true, if_false]
    rw [if_pos (by omega)]
    show u = _
    omega
theorem mQ (u : Nat) : -9218868437227405312 ≤ wv u ∧ wv u ≤ 9221120237041090560 := by
 unfold wv
 split
 ·omega
 ·split <;> omega
theorem Q4 {v w : Int} (hv : -9218868437227405312 ≤ v ∧ v ≤ 9221120237041090560) (hw : -9218868437227405312 ≤ w ∧ w ≤ 9221120237041090560) (h : v < w) : So (x6 v) < So (x6 w) ∧ So (x6 w) < 256 ^ 8 := by
 have e8 : (256 : Nat) ^ 8 = 18446744073709551616 := by decide
 rw [e8]
 unfold So x6
 split <;> split <;> split <;> split <;> omega
theorem iD {a b : Nat} (h : qY a b = -1) : Parts (tE (x6 (wv a))) (tE (x6 (wv b))) := by
 rw [fQ] at h
 have hlt : wv a < wv b := by
  split at h
  ·assumption
  ·split at h <;> omega
 obtain ⟨h1, h2⟩ := Q4 (mQ a) (mQ b) hlt
 exact pe 8 h1 h2
theorem Xd {a b : Nat} (h : qY a b = 0) : wv a = wv b := by
 rw [fQ] at h
 split at h
 ·omega
 ·split at h <;> omega
theorem fA : ∀ (l m : List UInt8), Op.bytesLess l m = vQ (l.map YX) (m.map YX)
 | [], [] => rfl
 | _ :: _, [] => rfl
 | [], _ :: _ => rfl
 | a :: l, b :: m => by
  have ih := fA l m
  show _ = (bif decide ((a.toNat : Int) < (b.toNat : Int)) then true else bif decide ((b.toNat : Int) < (a.toNat : Int)) then false else vQ (l.map YX) (m.map YX))
  rw [← ih]
  show (decide (a < b) || (a == b && Op.bytesLess l m)) = _
  rcases Nat.lt_trichotomy a.toNat b.toNat with h | h | h
  ·have h1 : a < b := UInt8.lt_iff_toNat_lt.2 h
   rw [Ny (show (a.toNat : Int) < (b.toNat : Int) by omega)]
   simp [h1]
  ·have h1 : a = b := UInt8.toNat_inj.1 h
   subst h1
   rw [NR (Int.lt_irrefl (a.toNat : Int))]
   simp [UInt8.lt_irrefl]
  ·have h1 : b < a := UInt8.lt_iff_toNat_lt.2 h
   have h2 : ¬ a < b := fun hq => by have := UInt8.lt_iff_toNat_lt.1 hq; omega
   have h3 : ¬ a = b := fun hq => by subst hq; omega
   rw [NR (show ¬ (a.toNat : Int) < (b.toNat : Int) by omega), Ny (show (b.toNat : Int) < (a.toNat : Int) by omega)]
   simp [h2, h3]
theorem gA (a b : ByteArray) : XH a b = -1 ↔ vQ (zJ a) (zJ b) = true := by
 have h := (qO a.data.toList b.data.toList).1
 rw [fA] at h
 exact h.symm
theorem oM (a b : ByteArray) : yA a b = vQ (zJ a) (zJ b) := by
 rw [(Sv a b).1]
 have := gA a b
 cases hq : vQ (zJ a) (zJ b) with
 | true => exact Ny (this.2 hq)
 | false => exact NR (fun h => by rw [this.1 h] at hq; cases hq)
theorem uL (s : ByteArray) : ∀ x ∈ zJ s, 0 ≤ x ∧ x ≤ 255 := by
 intro x hx
 obtain ⟨b, _, rfl⟩ := List.mem_map.1 hx
 have := b.toNat_lt
 omega
theorem vR {xs : List Int} (h : ∀ x ∈ xs, 0 ≤ x ∧ x ≤ 255) : zJ (zC xs) = xs := by
 show ((xs.map fun n => UInt8.ofNat n.toNat).toArray.toList.map fun b => (b.toNat : Int)) = xs
 rw [List.map_map]
 conv => rhs; rw [← List.map_id xs]
 refine List.map_congr_left fun x hx => ?_
 have := h x hx
 show ((UInt8.ofNat x.toNat).toNat : Int) = x
 rw [UInt8.toNat_ofNat_of_lt' (show x.toNat < UInt8.size by have : UInt8.size = 256 := rfl; omega)]
 omega
theorem ic {a b : Int} (h : pU a b = -1) : a < b := by
 unfold pU at h
 by_cases h1 : a < b
 ·exact h1
 ·rw [NR h1, Nu] at h
  by_cases h2 : a > b
  ·rw [Ny h2] at h; cases h
  ·rw [NR h2] at h; cases h
theorem pY {a b : Int} (h : pU a b = 0) : a = b := by
 unfold pU at h
 by_cases h1 : a < b
 ·rw [Ny h1] at h; cases h
 ·rw [NR h1, Nu] at h
  by_cases h2 : a > b
  ·rw [Ny h2] at h; cases h
  ·omega
theorem rM {n : Int} (h : okI n = true) : -9223372036854775808 ≤ n ∧ n ≤ 9223372036854775807 := by
 unfold okI at h
 rw [Nt] at h
 exact ⟨NK h.1, NK h.2⟩
theorem oR {x y : zc} (hx : okI x.2.1 = true) (hy : okI y.2.1 = true) (h : ul x y = -1) : Ahead (zS x) (zS y) := by
 have ix := rM hx
 have iy := rM hy
 unfold ul at h
 by_cases hk : x.1 = y.1
 ·have hk' : (x.1 != y.1) = false := by rw [hk]; simp
  rw [hk', Nu] at h
  unfold zS
  rw [← hk]
  cases h1 : x.1 == 1 with
  | true =>
   rw [h1, Bool.true_or, Nv] at h
   simp only [Nv]
   exact .inl (Parts.cons _ (Parts.head (ic h) _ _))
  | false =>
   rw [h1, Bool.false_or] at h
   simp only [Nu]
   cases h2 : x.1 == 2 with
   | true =>
    rw [h2, Nv] at h
    simp only [Nv]
    exact .inl (Parts.cons _ (ii (ic h) ix.1 iy.2))
   | false =>
    rw [h2, Nu] at h
    simp only [Nu]
    cases h3 : x.1 == 3 with
    | true =>
     rw [h3, Nv] at h
     simp only [Nv]
     exact .inl (Parts.cons _ (iD h))
    | false =>
     rw [h3, Nu] at h
     simp only [Nu]
     cases h4 : x.1 == 4 || x.1 == 5 with
     | true =>
      rw [h4, Nv] at h
      simp only [Nv]
      exact (kR (uL _) (uL _) ((gA _ _).1 h)).cons _
     | false => rw [h4] at h; cases h
 ·have hk' : (x.1 != y.1) = true := by simpa using hk
  rw [hk', Nv] at h
  have := ic h
  exact .inl (Parts.head (by omega) _ _)
theorem ml {x y : zc} (h : ul x y = 0) : zS x = zS y := by
 unfold ul at h
 by_cases hk : x.1 = y.1
 ·have hk' : (x.1 != y.1) = false := by rw [hk]; simp
  rw [hk', Nu] at h
  unfold zS
  rw [← hk]
  cases h1 : x.1 == 1 with
  | true =>
   rw [h1, Bool.true_or, Nv] at h
   simp only [Nv, pY h]
  | false =>
   rw [h1, Bool.false_or] at h
   simp only [Nu]
   cases h2 : x.1 == 2 with
   | true =>
    rw [h2, Nv] at h
    simp only [Nv, pY h]
   | false =>
    rw [h2, Nu] at h
    simp only [Nu]
    cases h3 : x.1 == 3 with
    | true =>
     rw [h3, Nv] at h
     simp only [Nv, Xd h]
    | false =>
     rw [h3, Nu] at h
     simp only [Nu]
     cases h4 : x.1 == 4 || x.1 == 5 with
     | true =>
      rw [h4, Nv] at h
      have := (qO x.2.2.2.data.toList y.2.2.2.data.toList).2.2 h
      simp only [Nv, zJ, this]
     | false => rfl
 ·have hk' : (x.1 != y.1) = true := by simpa using hk
  rw [hk', Nv] at h
  exact absurd (pY h) hk
end Go.Proofs.YtefddghdaimklaaGreatDoor.AI
/- Ranges of keys: what is in them. -/
namespace Go.Proofs.YtefddghdaimklaaGreatDoor.AI
open Go
theorem lZ : ∀ {a b c : List Int}, vQ a b = true → vQ c b = false → vQ a c = true
 | a, [], c, h, _ => by cases a <;> cases h
 | a, y :: b, [], _, h2 => by cases h2
 | [], y :: b, z :: c, _, _ => rfl
 | x :: a, y :: b, z :: c, h1, h2 => by
  have h1' : (bif decide (x < y) then true else bif decide (y < x) then false else vQ a b) = true := h1
  have h2' : (bif decide (z < y) then true else bif decide (y < z) then false else vQ c b) = false := h2
  show (bif decide (x < z) then true else bif decide (z < x) then false else vQ a c) = true
  by_cases hz : z < y
  ·rw [Ny hz] at h2'; cases h2'
  ·rw [NR hz, Nu] at h2'
   by_cases hxy : x < y
   ·rw [Ny (show x < z by omega)]; rfl
   ·rw [NR hxy, Nu] at h1'
    by_cases hyx : y < x
    ·rw [Ny hyx] at h1'; cases h1'
    ·rw [NR hyx, Nu] at h1'
     by_cases hyz : y < z
     ·rw [Ny (show x < z by omega)]; rfl
     ·rw [NR hyz, Nu] at h2'
      rw [NR (show ¬ x < z by omega), NR (show ¬ z < x by omega), Nu, Nu]
      exact lZ h1' h2'
theorem fj : ∀ {a b : List Int}, vQ a b = true → vQ b a = false
 | a, [], h => by cases a <;> cases h
 | [], y :: b, _ => rfl
 | x :: a, y :: b, h => by
  have h' : (bif decide (x < y) then true else bif decide (y < x) then false else vQ a b) = true := h
  show (bif decide (y < x) then true else bif decide (x < y) then false else vQ b a) = false
  by_cases h1 : x < y
  ·rw [NR (show ¬ y < x by omega), Ny h1]; rfl
  ·rw [NR h1, Nu] at h'
   by_cases h2 : y < x
   ·rw [Ny h2] at h'; cases h'
   ·rw [NR h2, Nu] at h'
    rw [NR h2, NR h1, Nu, Nu]
    exact fj h'
theorem nt (l m : List zc) : yF (l ++ m) = yF l ++ yF m := List.flatMap_append
theorem lk (v : zc) (l : List zc) : yF (v :: l) = zS v ++ yF l := List.flatMap_cons
theorem rr {v : zc} (h : zt v = 0) : 0 ≤ v.1 ∧ v.1 ≤ 5 := by
 unfold zt at h
 by_cases h1 : v.1 < 0
 ·rw [Ny h1] at h; cases h
 ·by_cases h2 : v.1 > 5
  ·rw [NR h1, Ny h2] at h; cases h
  ·omega
theorem fG {l : List zc} (h : ∀ v ∈ l, zt v = 0) {r : List Int} (hr : cm r) : cm (yF l ++ r) := by
 cases l with
 | nil => exact hr
 | cons v l =>
  have hk := rr (h v (by simp))
  exact .inr ⟨v.1 + 1, _, rfl, by omega⟩
theorem c6 : cm [3, 128] := .inr ⟨3, [128], rfl, by decide⟩
theorem bV {p r : List Int} (hr : cm r) : vQ (p ++ r) p = false ∧ vQ (p ++ r) (p ++ [255]) = true := ⟨YA p r, ZB hr p []⟩
theorem dz {p r : List Int} {x v : zc} (hx : okI x.2.1 = true) (hv : okI v.2.1 = true) (h : ul v x = -1) : vQ (p ++ (zS x ++ r)) (p ++ zS v ++ [255]) = false ∧ vQ (p ++ (zS x ++ r)) (p ++ zS v) = false := by
 have ha := oR hv hx h
 constructor
 ·rw [NU, yB]
  exact ha.ge r
 ·rw [yB]
  have := ha.lt (r := []) (.inl rfl) r
  rw [List.append_nil] at this
  exact fj this
theorem dB {p r : List Int} {x v : zc} (h : ul v x = 0) : vQ (p ++ (zS x ++ r)) (p ++ zS v) = false := by
 rw [yB, ml h]
 exact YA _ _
theorem kJ {p r : List Int} {x : zc} (h : 1 ≤ x.1) : vQ (p ++ (zS x ++ r)) (p ++ zS zeroV ++ [255]) = false := by
 rw [NU, yB]
 have : Parts (zS zeroV) (zS x) := Parts.head (by show (0 : Int) + 1 < x.1 + 1; omega) _ _
 exact (this.lt [255] r).2
theorem WH {p r : List Int} {x v : zc} (hx : okI x.2.1 = true) (hv : okI v.2.1 = true) (hr : cm r) (h : ul x v = -1) : vQ (p ++ (zS x ++ r)) (p ++ zS v) = true ∧ vQ (p ++ (zS x ++ r)) (p ++ zS v ++ [255]) = true := by
 have ha := oR hx hv h
 constructor
 ·rw [yB]
  have := ha.lt hr []
  rwa [List.append_nil] at this
 ·rw [NU, yB]
  exact ha.lt hr [255]
theorem WC {p r : List Int} {x v : zc} (hr : cm r) (h : ul x v = 0) : vQ (p ++ (zS x ++ r)) (p ++ zS v ++ [255]) = true := by
 rw [NU, yB, ml h]
 exact ZB hr _ []
theorem y7 {r : vM} {k : ByteArray} : nC r k = true ↔ yA k r.1 = false ∧ (r.2.2 = true ∨ yA k r.2.1 = true) := by
 unfold nC
 simp
theorem XO {a b : vM} {k : ByteArray} (ha : nC a k = true) (hb : nC b k = true) : nC (ZY a b) k = true := by
 obtain ⟨a1, a2⟩ := y7.1 ha
 obtain ⟨b1, b2⟩ := y7.1 hb
 have h1 : nC (iu a b) k = true := by
  refine y7.2 ⟨?_, ?_⟩
  ·show yA k (na true a.1 b.1) = false
   unfold na
   cases yA a.1 b.1 <;> assumption
  ·unfold iu
   simp only
   cases ha2 : a.2.2 with
   | true => cases hb2 : b.2.2 with
    | true => exact .inl rfl
    | false =>
     right
     rw [hb2] at b2
     simpa using b2
   | false =>
    rw [ha2] at a2
    have a2' : yA k a.2.1 = true := by simpa using a2
    cases hb2 : b.2.2 with
    | true => right; exact a2'
    | false =>
     rw [hb2] at b2
     have b2' : yA k b.2.1 = true := by simpa using b2
     right
     show yA k (na false a.2.1 b.2.1) = true
     unfold na
     cases yA a.2.1 b.2.1 || zd a.2.1 b.2.1 <;> assumption
 have h2 : Ys (iu a b) = false := by
  obtain ⟨c1, c2⟩ := y7.1 h1
  unfold Ys
  rcases c2 with c2 | c2
  ·rw [c2]; rfl
  ·cases hq : yA (iu a b).1 (iu a b).2.1 with
   | true => simp
   | false =>
    rw [oM] at c1 c2 hq
    rw [lZ c2 hq] at c1
    cases c1
 unfold ZY
 rw [h2]
 exact h1
theorem vX {a b : List Int} (ha : ∀ x ∈ a, 0 ≤ x ∧ x ≤ 255) (hb : ∀ x ∈ b, 0 ≤ x ∧ x ≤ 255) : yA (zC a) (zC b) = vQ a b := by
 rw [oM, vR ha, vR hb]
theorem qQ (n : Nat) : ∀ k, ∀ x ∈ beL n k, 0 ≤ x ∧ x ≤ 255
 | 0, x, hx => by cases hx
 | k + 1, x, hx => by
  rcases NM.1 hx with rfl | hx
  ·have := Nat.mod_lt (n / 256 ^ k) (show 256 > 0 by decide)
   omega
  ·exact qQ n k x hx
theorem lV : ∀ {l : List Int}, (∀ x ∈ l, 0 ≤ x ∧ x ≤ 255) → ∀ x ∈ rl l, 0 ≤ x ∧ x ≤ 255
 | [], _, x, hx => by
  have : x = 0 := by simpa [rl] using hx
  omega
 | b :: r, h, x, hx => by
  have ih := lV (l := r) (fun x hx => h x (by simp [hx]))
  have hb := h b (by simp)
  unfold rl at hx
  cases hc : b == 0 with
  | true =>
   rw [hc, Nv] at hx
   rcases NM.1 hx with rfl | hx
   ·omega
   ·rcases NM.1 hx with rfl | hx
    ·omega
    ·exact ih x hx
  | false =>
   rw [hc, Nu] at hx
   rcases NM.1 hx with rfl | hx
   ·exact hb
   ·exact ih x hx
theorem ir {n : Int} (h1 : -9223372036854775808 ≤ n) (h2 : n ≤ 9223372036854775807) : ∀ x ∈ tu n, 0 ≤ x ∧ x ≤ 255 := by
 intro x hx
 have h8 : (256 : Nat) ^ 8 = 18446744073709551616 := by decide
 unfold tu at hx
 split at hx
 ·have hs := p7 (n := n.toNat) (k := 8) (by omega)
  rcases NM.1 hx with rfl | hx
  ·omega
  ·exact qQ _ _ x hx
 ·have hs := p7 (n := (-(n + 1)).toNat) (k := 8) (by omega)
  rcases NM.1 hx with rfl | hx
  ·omega
  ·exact qQ _ _ x hx
theorem yU {v : zc} (hz : okI v.2.1 = true) (h : zt v = 0) : ∀ x ∈ zS v, 0 ≤ x ∧ x ≤ 255 := by
 have hk := rr h
 have hn := rM hz
 intro x hx
 unfold zS at hx
 rcases NM.1 hx with rfl | hx
 ·omega
 ·cases h1 : v.1 == 1 with
  | true =>
   rw [h1, Nv] at hx
   have hx' : x = v.2.1 := by simpa using hx
   unfold zt at h
   have e1 : v.1 = 1 := by simpa using h1
   rw [e1] at h
   by_cases n0 : v.2.1 = 0
   ·omega
   ·by_cases n1 : v.2.1 = 1
    ·omega
    ·have q0 : (v.2.1 != 0) = true := by simpa using n0
     have q1 : (v.2.1 != 1) = true := by simpa using n1
     rw [q0, q1] at h
     cases h
  | false =>
   rw [h1, Nu] at hx
   cases h2 : v.1 == 2 with
   | true => rw [h2, Nv] at hx; exact ir hn.1 hn.2 x hx
   | false =>
    rw [h2, Nu] at hx
    cases h3 : v.1 == 3 with
    | true => rw [h3, Nv] at hx; exact qQ _ _ x hx
    | false =>
     rw [h3, Nu] at hx
     cases h4 : v.1 == 4 || v.1 == 5 with
     | true => rw [h4, Nv] at hx; exact lV (uL _) x hx
     | false => rw [h4] at hx; cases hx
theorem ve {l : List zc} (h : ∀ v ∈ l, okI v.2.1 = true ∧ zt v = 0) : ∀ x ∈ yF l, 0 ≤ x ∧ x ≤ 255 := by
 intro x hx
 obtain ⟨v, hv, hx⟩ := List.mem_flatMap.1 hx
 exact yU (h v hv).1 (h v hv).2 x hx
end Go.Proofs.YtefddghdaimklaaGreatDoor.AI
/- Which comparisons of a condition count; each is true of a row that is taken. -/
namespace Go.Proofs.YtefddghdaimklaaGreatDoor.AI
open Go
def qm (cs : List Int) (row : List zc) (p : zI) : Prop :=
 0 ≤ p.1 ∧ p.1 < (cs.length : Int) ∧ (row.getD p.1.toNat zeroV).1 = p.2.2.1 ∧ 1 ≤ p.2.2.1 ∧ zt p.2.2 = 0 ∧ okZ p.2.2 = true ∧ vN p.2.1 (ul (row.getD p.1.toNat zeroV) p.2.2) = true
theorem gT {a b : zc} (h : a.1 = b.1) : c9 a b = ul a b := by
 unfold c9
 rcases Zf a b with ⟨h1, h2, h3⟩ | ⟨h1, h2, h3⟩ | ⟨h1, h2, h3⟩ | ⟨h1, h2, h3⟩ | ⟨h1, h2⟩
 ·rw [h3, Nv]
  unfold ul
  rw [h1, h2]; rfl
 ·rw [h3, Nv]
  unfold ul
  rw [h1, h2]; rfl
 ·omega
 ·omega
 ·rw [h2]; rfl
theorem aj {op : ByteArray} (h : op ∈ cpL) {a b : zc} : vN (je op) (ul b a) = vN op (ul a b) := by
 rw [gr a b]
 have hr := uW a b
 generalize ul a b = c at *
 have key : ∀ o ∈ cpL, ∀ c : Int, c = -1 ∨ c = 0 ∨ c = 1 → vN (je o) (0 - c) = vN o c := by
  have h0 : (cpL.all fun o => [(-1 : Int), 0, 1].all fun c => vN (je o) (0 - c) == vN o c) = true := by kernel_rfl
  intro o ho c hc
  have h1 := Nw.1 (Nw.1 h0 o ho) c (by rcases hc with rfl | rfl | rfl <;> simp)
  exact eq_of_beq h1
 exact key op h c hr
theorem fN {row : List zc} {e : zg} (h : e.lab.1 = 1) : zO row e = (e.lab.2.2.2, 0) := by
 rw [i8]
 unfold vT
 rw [h]; rfl
theorem g5 {row : List zc} {e : zg} (h : e.lab.1 = 2) : zO row e = (row.getD e.lab.2.2.1.toNat zeroV, 0) := by
 rw [i8]
 unfold vT
 rw [h]; rfl
theorem dM {op : ByteArray} {x y : zc × Int} (hop : inS cpL op = true) (h2 : (dC op x y).2 = 0) (ht : isT (dC op x y).1 = true) : x.2 = 0 ∧ y.2 = 0 ∧ x.1.1 ≠ 0 ∧ y.1.1 ≠ 0 ∧ vN op (c9 x.1 y.1) = true := by
 unfold dC at h2 ht
 cases q1 : x.2 != 0 with
 | true =>
  rw [q1, Nv] at h2
  have : x.2 = 0 := h2
  rw [this] at q1; cases q1
 | false =>
  rw [q1, Nu] at h2 ht
  cases q2 : y.2 != 0 with
  | true =>
   rw [q2, Nv] at h2
   have : y.2 = 0 := h2
   rw [this] at q2; cases q2
  | false =>
   rw [q2, Nu] at h2 ht
   cases q3 : x.1.1 == 0 || y.1.1 == 0 with
   | true => rw [q3] at ht; cases ht
   | false =>
    rw [q3, Nu, hop, Nv] at ht
    simp only [Bool.or_eq_false_iff, beq_eq_false_iff_ne] at q3
    refine ⟨by simpa using q1, by simpa using q2, q3.1, q3.2, ?_⟩
    cases hq : vN op (c9 x.1 y.1) with
    | true => rfl
    | false => rw [hq] at ht; cases ht
theorem gD {cs : List Int} {row : List zc} (hfit : xY cs row = true) {c v : zg} {op : ByteArray} (hc : xK cs.length c = true) (hv : xK cs.length v = true) (hz : okZ v.lab.2.2.2 = true)
  (h0 : c.lab.1 = 2 → v.lab.1 = 1 → (row.getD c.lab.2.2.1.toNat zeroV).1 ≠ 0 ∧ v.lab.2.2.2.1 ≠ 0 ∧ ((row.getD c.lab.2.2.1.toNat zeroV).1 = v.lab.2.2.2.1 → vN op (ul (row.getD c.lab.2.2.1.toNat zeroV) v.lab.2.2.2) = true)) : ∀ p ∈ rc cs c op v, qm cs row p := by
 intro p hp
 unfold rc at hp
 cases hq : c.lab.1 == 2 && (v.lab.1 == 1 && v.lab.2.2.2.1 == cs.getD c.lab.2.2.1.toNat 0) with
 | false => rw [hq] at hp; cases hp
 | true =>
  rw [hq] at hp
  have hp' : p = (c.lab.2.2.1, (op, v.lab.2.2.2)) := by simpa using hp
  subst hp'
  simp only [Nt, beq_iff_eq] at hq
  obtain ⟨q1, q2, q3⟩ := hq
  obtain ⟨n1, n2, n3⟩ := h0 q1 q2
  rw [oJ, Nt] at hc hv
  have hcl := hc.1
  have hvl := hv.1
  unfold vV at hcl hvl
  rw [q1] at hcl
  rw [q2] at hvl
  have hcl' : t8 cs.length c.lab c.kids.length = true := hcl
  have hvl' : t8 cs.length v.lab v.kids.length = true := hvl
  unfold t8 at hcl' hvl'
  rw [q1] at hcl'
  rw [q2] at hvl'
  simp only [show ((2 : Int) == 1) = false from rfl, show ((1 : Int) == 1) = true from rfl, Nv, Nu, Nt, beq_iff_eq, NE] at hcl' hvl'
  have hlt : c.lab.2.2.1.toNat < cs.length := by omega
  have hg := mo hfit c.lab.2.2.1.toNat hlt
  have hkind : (row.getD c.lab.2.2.1.toNat zeroV).1 = v.lab.2.2.2.1 := by
   rcases hg.1 with h | h
   ·rw [h, q3]
   ·exact absurd h n1
  have hck : zt v.lab.2.2.2 = 0 := hvl'.2.2.2
  have := rr hck
  exact ⟨hcl'.2.2.1, by omega, hkind, by show 1 ≤ v.lab.2.2.2.1; omega, hck, hz, n3 hkind⟩
theorem oW {cs : List Int} {row : List zc} (hfit : xY cs row = true) : ∀ e : zg, qG e = true → xK cs.length e = true → (xm cs e).2 = true → (zO row e).2 = 0 → isT (zO row e).1 = true → ∀ p ∈ yV cs e, qm cs row p
 | .node a ks, hb, hf, hk, he, ht, p, hp => by
  have hb' := hb
  simp only [qG, Nt] at hb'
  have hf' := hf
  simp only [xK, Nt] at hf'
  simp only [yV] at hp
  have hev : zO row (.node a ks) = vT row a (mc row ks) := rfl
  cases hl : xT cs ks with
  | none =>
   rw [show xm cs (.node a ks) = (match xT cs ks with | none => (0, false) | some l => wT cs a l) from rfl, hl] at hk
   cases hk
  | some l =>
   have hkids := p0 cs ks l hl
   cases hq : a.1 == 4 && zd a.2.1 xu with
   | true =>
    rw [hq, Nv] at hp
    rw [Nt] at hq
    have ha4 : a.1 = 4 := by simpa using hq.1
    have hop : a.2.1 = xu := (zw _ _).1 hq.2
    have hn : ks.length = 2 := by
     have hnb := hf'.1
     unfold vV at hnb
     rw [ha4] at hnb
     have : wz a ks.length = true := hnb
     unfold wz UU at this
     rw [ha4] at this
     simp only [show ((4 : Int) == 3) = false from rfl, show ((4 : Int) == 4) = true from rfl, Nv, Nu, Nt, beq_iff_eq] at this
     exact this.1.1
    match ks, hn with
    | [x, y], _ =>
     have e1 : vT row a (mc row [x, y]) = qF xu (zO row x) (zO row y) := by
      unfold vT
      rw [ha4, hop]
      simp only [show ((4 : Int) == 1) = false from rfl, show ((4 : Int) == 2) = false from rfl, show ((4 : Int) == 5) = false from rfl, Nu, show (zd xu xu || zd xu orS) = true by kernel_rfl, Nv]
      rfl
     rw [hev, e1] at he ht
     have hx := hkids x (by simp)
     have hy := hkids y (by simp)
     simp only [lq, Nt] at hb'
     simp only [tr, Nt] at hf'
     have hl2 : l.length = 2 := sL cs _ _ hl
     have hkn : (wT cs a l).2 = true := by
      rw [show xm cs (.node a [x, y]) = (match xT cs [x, y] with | none => (0, false) | some l => wT cs a l) from rfl, hl] at hk
      exact hk
     have hlog : qb (l.getD 0 0) = true ∧ qb (l.getD 1 0) = true := by
      have e2 : wT cs a l = wT cs (4, (xu, (a.2.2.1, a.2.2.2))) l := by
       rw [show a = (4, (xu, (a.2.2.1, a.2.2.2))) from Prod.ext ha4 (Prod.ext hop rfl)]
      rw [e2, fR hl2] at hkn
      exact (p6 (p := (zeroV, 1)) (q := (zeroV, 1)) (ND (i := 11) rfl) hkn (fun h => by cases h) (fun h => by cases h)).1 (by kernel_rfl)
     have hkl : xT cs [x, y] = some l := hl
     have hvl := qX hfit [x, y] l (by simp only [lq, Nt]; exact hb'.2.2.2) (by simp only [tr, Nt]; exact hf'.2) hkl
     have ox : (zO row x).2 = 0 → okA 1 (zO row x).1 := fun h => mM (ux hvl 0 (by omega) h) hlog.1
     have oy : (zO row y).2 = 0 → okA 1 (zO row y).1 := fun h => mM (ux hvl 1 (by omega) h) hlog.2
     have hboth : (zO row x).2 = 0 ∧ (zO row y).2 = 0 ∧ isT (zO row x).1 = true ∧ isT (zO row y).1 = true := by
      generalize zO row x = rx at *
      generalize zO row y = ry at *
      obtain ⟨vx, ex⟩ := rx
      obtain ⟨vy, ey⟩ := ry
      simp only at ox oy ⊢
      unfold qF at he ht
      simp only [show zd xu orS = false by kernel_rfl, Nu] at he ht
      by_cases hx0 : ex = 0
      ·subst hx0
       have hbx := ox rfl
       cases hfx : isF vx with
       | true =>
        rw [hfx] at ht
        simp only [bne_self_eq_false, Bool.false_or, Nv] at ht
        unfold isT isF at *
        simp only [Nt, beq_iff_eq] at ht hfx
        omega
       | false =>
        rw [hfx] at he ht
        simp only [bne_self_eq_false, Bool.false_or, Nu] at he ht
        by_cases hy0 : ey = 0
        ·subst hy0
         simp only [bne_self_eq_false, Bool.false_or] at he ht
         cases hc : isF vy || !(vx.1 == 0) with
         | false => rw [hc] at ht; cases ht
         | true =>
          rw [hc, Nv] at ht
          have hnfy : isF vy = false := by
           cases hq : isF vy with
           | false => rfl
           | true =>
            unfold isT isF at *
            simp only [Nt, beq_iff_eq] at ht hq
            omega
          rw [hnfy, Bool.false_or] at hc
          refine ⟨rfl, rfl, ?_, ht⟩
          have hnx : vx.1 ≠ 0 := by simpa using hc
          have := UW hbx
          have h3 := Sj hbx
          have hk1 : vx.1 = 1 := by
           rcases hbx.1 with h | h
           ·exact h
           ·exact absurd h hnx
          have hck := hbx.2.1
          unfold zt at hck
          rw [hk1] at hck
          unfold isT
          unfold isF at hfx
          rw [hk1] at hfx ⊢
          simp only [beq_self_eq_true, NT] at hfx ⊢
          have n0 : (vx.2.1 != 0) = true := by unfold bne; rw [hfx]; rfl
          cases n1 : vx.2.1 == 1 with
          | true => rfl
          | false =>
           have n1' : (vx.2.1 != 1) = true := by unfold bne; rw [n1]; rfl
           rw [n0, n1'] at hck
           cases hck
        ·exfalso
         have hy1 : (ey != 0) = true := by simpa using hy0
         rw [hy1] at he
         simp only [Bool.true_or, Nv] at he
         exact hy0 he
      ·exfalso
       have hx1 : (ex != 0) = true := by simpa using hx0
       rw [hx1] at he
       simp only [Bool.true_or, Nv] at he
       exact hx0 he
     have hp2 : p ∈ yV cs x ++ (yV cs y ++ []) := hp
     rw [List.append_nil] at hp2
     rcases NS.1 hp2 with h | h
     ·exact oW hfit x hb'.2.2.2.1 hf'.2.1 hx hboth.1 hboth.2.2.1 p h
     ·exact oW hfit y hb'.2.2.2.2.1 hf'.2.2.1 hy hboth.2.1 hboth.2.2.2 p h
   | false =>
    rw [hq, Nu] at hp
    unfold mj at hp
    cases hc : a.1 == 4 && (inS cpL a.2.1 && !(zd a.2.1 ⟨#[60, 62]⟩)) with
    | false => rw [hc] at hp; cases hp
    | true =>
     rw [hc, Nv] at hp
     simp only [Nt, beq_iff_eq] at hc
     obtain ⟨ha4, hcp, hne⟩ := hc
     have hn : ks.length = 2 := by
      have hnb := hf'.1
      unfold vV at hnb
      rw [ha4] at hnb
      have : wz a ks.length = true := hnb
      unfold wz UU at this
      rw [ha4] at this
      simp only [show ((4 : Int) == 3) = false from rfl, show ((4 : Int) == 4) = true from rfl, Nv, Nu, Nt, beq_iff_eq] at this
      exact this.1.1
     match ks, hn with
     | [x, y], _ =>
      have hno : (zd a.2.1 xu || zd a.2.1 orS) = false := by
       have h0 : (cpL.all fun o => !(zd o xu || zd o orS)) = true := by kernel_rfl
       have := Nw.1 h0 a.2.1 (tV hcp)
       simpa using this
      have e1 : vT row a (mc row [x, y]) = dC a.2.1 (zO row x) (zO row y) := by
       unfold vT
       rw [ha4]
       simp only [show ((4 : Int) == 1) = false from rfl, show ((4 : Int) == 2) = false from rfl, show ((4 : Int) == 5) = false from rfl, show ((4 : Int) == 3) = false from rfl, Nu, hno]
       rfl
      rw [hev, e1] at he ht
      obtain ⟨t1, t2, t3, t4, t5⟩ := dM hcp he ht
      simp only [lq, Nt] at hb'
      simp only [tr, Nt] at hf'
      have zx : okZ x.lab.2.2.2 = true := by
       have := hb'.2.2.2.1
       cases x with
       | node xa xk => simp only [qG, Nt] at this; exact this.2.1
      have zy : okZ y.lab.2.2.2 = true := by
       have := hb'.2.2.2.2.1
       cases y with
       | node ya yk => simp only [qG, Nt] at this; exact this.2.1
      have hp' : p ∈ (bif x.lab.1 == 1 then rc cs y (je a.2.1) x else rc cs x a.2.1 y) := hp
      cases hx1 : x.lab.1 == 1 with
      | true =>
       rw [hx1, Nv] at hp'
       refine gD hfit hf'.2.2.1 hf'.2.1 zx (fun c1 c2 => ?_) p hp'
       rw [fN c2] at t3 t5
       rw [g5 c1] at t4 t5
       refine ⟨t4, t3, fun hk => ?_⟩
       rw [gT hk.symm] at t5
       rw [aj (tV hcp)]
       exact t5
      | false =>
       rw [hx1, Nu] at hp'
       refine gD hfit hf'.2.1 hf'.2.2.1 zy (fun c1 c2 => ?_) p hp'
       rw [g5 c1] at t3 t5
       rw [fN c2] at t4 t5
       refine ⟨t3, t4, fun hk => ?_⟩
       rw [gT hk] at t5
       exact t5
end Go.Proofs.YtefddghdaimklaaGreatDoor.AI
/- The key of a row that is taken stands in the range. -/
namespace Go.Proofs.YtefddghdaimklaaGreatDoor.AI
open Go
theorem UL (c : Int) : vN eqS c = (c == 0) := by kernel_rfl
theorem Tx (c : Int) : vN gtS c = decide (c > 0) := by kernel_rfl
theorem TP (c : Int) : vN geS c = decide (c ≥ 0) := by kernel_rfl
theorem Su (c : Int) : vN ltS c = decide (c < 0) := by kernel_rfl
theorem Um (c : Int) : vN leS c = decide (c ≤ 0) := by kernel_rfl
theorem aT (ps : List zI) : ∀ cols, (vJ ps cols).length ≤ cols.length
 | [] => NF _
 | c :: r => by
  have := aT ps r
  unfold vJ
  split
  ·simp; exact this
  ·simp
theorem cA {cs : List Int} {row : List zc} {ps : List zI} (h : ∀ p ∈ ps, qm cs row p) : ∀ cols, yF ((cols.take (vJ ps cols).length).map (atR row)) = yF (vJ ps cols)
 | [] => rfl
 | c :: r => by
  have ih := cA h r
  unfold vJ
  split
  ·rename_i p hp
   have hm := List.mem_of_find?_eq_some hp
   have hc := List.find?_some hp
   simp only [Nt, beq_iff_eq] at hc
   obtain ⟨h1, h2, h3, h4, h5, h6, h7⟩ := h p hm
   have hop := (zw _ _).1 hc.2
   have hz : ul (row.getD p.1.toNat zeroV) p.2.2 = 0 := by
    rw [hop] at h7
    rw [UL] at h7
    exact eq_of_beq h7
   simp only [List.length_cons, List.take_succ_cons, NN, lk]
   rw [ih]
   congr 1
   have : atR row c = row.getD p.1.toNat zeroV := by unfold atR; rw [hc.1]
   rw [this]
   exact ml hz
  ·rfl
theorem VE {cs : List Int} {row : List zc} {ps : List zI} (h : ∀ p ∈ ps, qm cs row p) : ∀ cols, ∀ v ∈ vJ ps cols, okI v.2.1 = true ∧ zt v = 0
 | [], v, hv => by cases hv
 | c :: r, v, hv => by
  unfold vJ at hv
  split at hv
  ·rename_i p hp
   obtain ⟨h1, h2, h3, h4, h5, h6, h7⟩ := h p (List.mem_of_find?_eq_some hp)
   rcases NM.1 hv with rfl | hv
   ·refine ⟨?_, h5⟩
    unfold okZ at h6
    rw [Nt, Nt] at h6
    exact h6.2.1
   ·exact VE h r v hv
  ·cases hv
theorem sV {a : List Int} : zC a ++ YL = zC (a ++ [255]) := by
 unfold zC YL
 apply ByteArray.ext
 simp
def Yr (f : List zc) : vM := (zC (yF f), zC (yF f) ++ YL, false)
def TZ (l : List zc) (inn : Bool) : vM := (bif inn then zC (yF l) else zC (yF l) ++ YL, (⟨#[]⟩ : ByteArray), true)
def toS (l : List zc) (inn : Bool) : vM := ((⟨#[]⟩ : ByteArray), (bif inn then zC (yF l) ++ YL else zC (yF l)), false)
def Byts (l : List Int) : Prop := ∀ x ∈ l, 0 ≤ x ∧ x ≤ 255
theorem Byts.append {a b : List Int} (ha : Byts a) (hb : Byts b) : Byts (a ++ b) := fun x hx => by
 rcases NS.1 hx with h | h
 ·exact ha x h
 ·exact hb x h
theorem s9 : Byts [255] := fun x hx => by
 have : x = 255 := by simpa using hx
 omega
theorem dl {f : List zc} {t : List Int} (hf : ∀ v ∈ f, okI v.2.1 = true ∧ zt v = 0) (ht : Byts t) (hr : cm t) : nC (Yr f) (zC (yF f ++ t)) = true := by
 have hb : Byts (yF f) := ve hf
 obtain ⟨h1, h2⟩ := bV (p := yF f) hr
 refine y7.2 ⟨?_, .inr ?_⟩
 ·show yA _ (zC (yF f)) = false
  rw [vX (hb.append ht) hb]; exact h1
 ·show yA _ (zC (yF f) ++ YL) = true
  rw [sV, vX (hb.append ht) (hb.append s9)]; exact h2
def SD (x v : zc) (inn : Bool) : Prop := ul v x = -1 ∨ (inn = true ∧ ul v x = 0)
def bF (x v : zc) (inn : Bool) : Prop := ul x v = -1 ∨ (inn = true ∧ ul x v = 0)
theorem hJ (f : List zc) (v : zc) : yF (f ++ [v]) = yF f ++ zS v := by
 rw [nt, lk]
 show yF f ++ (zS v ++ []) = _
 rw [List.append_nil]
theorem Wv {f : List zc} {x v : zc} {inn : Bool} {t : List Int} (hf : ∀ v ∈ f, okI v.2.1 = true ∧ zt v = 0) (hx : okI x.2.1 = true ∧ zt x = 0) (hv : okI v.2.1 = true ∧ zt v = 0) (ht : Byts t) (h : SD x v inn) :
  nC (TZ (f ++ [v]) inn) (zC (yF f ++ (zS x ++ t))) = true := by
 have hb : Byts (yF f) := ve hf
 have bx : Byts (zS x) := yU hx.1 hx.2
 have bv : Byts (zS v) := yU hv.1 hv.2
 refine y7.2 ⟨?_, .inl rfl⟩
 show yA _ (bif inn then zC (yF (f ++ [v])) else zC (yF (f ++ [v])) ++ YL) = false
 rw [hJ]
 rcases h with h | ⟨rfl, h⟩
 ·obtain ⟨h1, h2⟩ := dz (p := yF f) (r := t) hx.1 hv.1 h
  cases inn with
  | true => rw [Nv, vX (hb.append (bx.append ht)) (hb.append bv)]; exact h2
  | false => rw [Nu, sV, vX (hb.append (bx.append ht)) ((hb.append bv).append s9)]; exact h1
 ·rw [Nv, vX (hb.append (bx.append ht)) (hb.append bv)]
  exact dB h
theorem mX {f : List zc} {x : zc} {t : List Int} (hf : ∀ v ∈ f, okI v.2.1 = true ∧ zt v = 0) (hx : okI x.2.1 = true ∧ zt x = 0) (hk : 1 ≤ x.1) (ht : Byts t) :
  nC (TZ (f ++ [zeroV]) false) (zC (yF f ++ (zS x ++ t))) = true := by
 have hb : Byts (yF f) := ve hf
 have bx : Byts (zS x) := yU hx.1 hx.2
 have bz : Byts (zS zeroV) := yU (by rfl) rQ
 refine y7.2 ⟨?_, .inl rfl⟩
 show yA _ (zC (yF (f ++ [zeroV])) ++ YL) = false
 rw [hJ, sV, vX (hb.append (bx.append ht)) ((hb.append bz).append s9)]
 exact kJ hk
theorem nE (k : ByteArray) : yA k (⟨#[]⟩ : ByteArray) = false := by
 rw [oM]
 show vQ (zJ k) [] = false
 cases zJ k <;> rfl
theorem R2 {f : List zc} {x v : zc} {inn : Bool} {t : List Int} (hf : ∀ v ∈ f, okI v.2.1 = true ∧ zt v = 0) (hx : okI x.2.1 = true ∧ zt x = 0) (hv : okI v.2.1 = true ∧ zt v = 0) (ht : Byts t) (hr : cm t) (h : bF x v inn) :
  nC (toS (f ++ [v]) inn) (zC (yF f ++ (zS x ++ t))) = true := by
 have hb : Byts (yF f) := ve hf
 have bx : Byts (zS x) := yU hx.1 hx.2
 have bv : Byts (zS v) := yU hv.1 hv.2
 refine y7.2 ⟨nE _, .inr ?_⟩
 show yA _ (bif inn then zC (yF (f ++ [v])) ++ YL else zC (yF (f ++ [v]))) = true
 rw [hJ]
 rcases h with h | ⟨rfl, h⟩
 ·obtain ⟨h1, h2⟩ := WH (p := yF f) (r := t) hx.1 hv.1 hr h
  cases inn with
  | true => rw [Nv, sV, vX (hb.append (bx.append ht)) ((hb.append bv).append s9)]; exact h2
  | false => rw [Nu, vX (hb.append (bx.append ht)) (hb.append bv)]; exact h1
 ·rw [Nv, sV, vX (hb.append (bx.append ht)) ((hb.append bv).append s9)]
  exact WC hr h
theorem W9 {cs : List Int} {row : List zc} {p : zI} (h : qm cs row p) (hop : p.2.1 = gtS ∨ p.2.1 = geS) : SD (atR row p.1) p.2.2 (zd p.2.1 geS) := by
 obtain ⟨_, _, _, _, _, _, h7⟩ := h
 have ha := gr (row.getD p.1.toNat zeroV) p.2.2
 have hr := uW (row.getD p.1.toNat zeroV) p.2.2
 unfold SD atR
 rcases hop with e | e
 ·rw [e] at h7
  rw [Tx, NO] at h7
  left; omega
 ·rw [e] at h7
  rw [TP, NO] at h7
  rcases hr with q | q | q
  ·omega
  ·right; exact ⟨by rw [e]; exact (zw _ _).2 rfl, by omega⟩
  ·left; omega
theorem ar {cs : List Int} {row : List zc} {p : zI} (h : qm cs row p) (hop : p.2.1 = ltS ∨ p.2.1 = leS) : bF (atR row p.1) p.2.2 (zd p.2.1 leS) := by
 obtain ⟨_, _, _, _, _, _, h7⟩ := h
 have hr := uW (row.getD p.1.toNat zeroV) p.2.2
 unfold bF atR
 rcases hop with e | e
 ·rw [e] at h7
  rw [Su, NO] at h7
  left; omega
 ·rw [e] at h7
  rw [Um, NO] at h7
  rcases hr with q | q | q
  ·left; omega
  ·right; exact ⟨by rw [e]; exact (zw _ _).2 rfl, by omega⟩
  ·omega
end Go.Proofs.YtefddghdaimklaaGreatDoor.AI
/- The range of a condition: what it is; the key of a row that is taken stands in it. -/
namespace Go.Proofs.YtefddghdaimklaaGreatDoor.AI
open Go
theorem R3 {l : List zc} (h : (qE l).2 = 0) : qE l = (zC (yF l), 0) ∧ ∀ v ∈ l, zt v = 0 := by
 unfold qE at h ⊢
 cases h1 : l.any (fun v => zt v != 0) with
 | true => rw [h1] at h; cases h
 | false =>
  rw [h1] at h
  rw [Nu] at h ⊢
  cases h2 : decide (1024 < (yF l).length) with
  | true => rw [h2] at h; cases h
  | false =>
   rw [Nu]
   refine ⟨rfl, fun v hv => ?_⟩
   rw [List.any_eq_false] at h1
   have := h1 v hv
   simpa using this
theorem ov {l : List zc} (h : (zP l).2 = 0) : zP l = (Yr l, 0) := by
 unfold zP at h ⊢
 cases h1 : (qE l).2 != 0 with
 | true =>
  rw [h1] at h
  have : (qE l).2 = 0 := h
  rw [this] at h1; cases h1
 | false =>
  rw [Nu, (R3 (by simpa using h1)).1]; rfl
theorem ZZ {l : List zc} {inn : Bool} (h : (oE l inn).2 = 0) : oE l inn = (TZ l inn, 0) := by
 unfold oE at h ⊢
 cases h1 : (zP l).2 != 0 with
 | true =>
  rw [h1] at h
  have : (zP l).2 = 0 := h
  rw [this] at h1; cases h1
 | false =>
  rw [Nu, ov (by simpa using h1)]; rfl
theorem Oh {l : List zc} {inn : Bool} (h : (toE l inn).2 = 0) : toE l inn = (toS l inn, 0) := by
 unfold toE at h ⊢
 cases h1 : (zP l).2 != 0 with
 | true =>
  rw [h1] at h
  have : (zP l).2 = 0 := h
  rw [this] at h1; cases h1
 | false =>
  rw [Nu, ov (by simpa using h1)]; rfl
theorem iZ (lo : Bool) (c : Int) : ∀ (ps : List zI) (o : Option zI) (p : zI), vP lo c ps o = some p → o = some p ∨ (p ∈ ps ∧ p.1 = c ∧ qK lo p.2.1 = true)
 | [], o, p, h => .inl h
 | q :: r, o, p, h => by
  unfold vP at h
  rcases iZ lo c r _ p h with h1 | ⟨h1, h2, h3⟩
  ·cases hq : q.1 == c && qK lo q.2.1 with
   | false => rw [hq] at h1; exact .inl h1
   | true =>
    rw [hq, Nv] at h1
    rw [Nt] at hq
    have hq1 : q.1 = c := by simpa using hq.1
    cases o with
    | none =>
     cases h1
     exact .inr ⟨by simp, hq1, hq.2⟩
    | some x =>
     simp only at h1
     cases ht : om lo q x with
     | true =>
      rw [ht, Nv] at h1
      cases h1
      exact .inr ⟨by simp, hq1, hq.2⟩
     | false =>
      rw [ht, Nu] at h1
      exact .inl h1
  ·exact .inr ⟨by simp [h1], h2, h3⟩
theorem ph {lo : Bool} {ps : List zI} {cols : List Int} {p : zI} (h : wI lo ps cols = some p) : (vJ ps cols).length < cols.length ∧ p ∈ ps ∧ p.1 = cols.getD (vJ ps cols).length 0 ∧ qK lo p.2.1 = true := by
 unfold wI at h
 cases hd : decide ((vJ ps cols).length < cols.length) with
 | false => rw [hd] at h; cases h
 | true =>
  rw [hd, Nv] at h
  rcases iZ _ _ _ _ _ h with h1 | h1
  ·cases h1
  ·exact ⟨NK hd, h1⟩
theorem aL {r : vM × Int} {w : Option (vM × Int)} (h : (Zo r w).2 = 0) : r.2 = 0 ∧ ∀ x, w = some x → x.2 = 0 := by
 cases w with
 | none => exact ⟨h, fun x hx => by cases hx⟩
 | some x =>
  unfold Zo at h
  simp only at h
  cases hx : x.2 != 0 with
  | true =>
   rw [hx, Nv] at h
   rw [h] at hx; cases hx
  | false =>
   rw [hx, Nu] at h
   exact ⟨h, fun y hy => by cases hy; simpa using hx⟩
theorem Yy {r : vM × Int} {w : Option (vM × Int)} {k : ByteArray} (hr : nC r.1 k = true) (hw : ∀ x, w = some x → nC x.1 k = true) : nC (Zo r w).1 k = true := by
 cases w with
 | none => exact hr
 | some x => exact XO hr (hw x rfl)
theorem UZ (k : ByteArray) : nC PQ k = true := y7.2 ⟨nE k, .inl rfl⟩
theorem kH {cs : List Int} {row : List zc} {ps : List zI} (hp : ∀ p ∈ ps, qm cs row p) {cols : List Int} (hv : ∀ v ∈ cols.map (atR row), okI v.2.1 = true ∧ zt v = 0)
  {t : List Int} (ht : Byts t) (hr : cm t) : nC (tA ps cols) (zC (yF (cols.map (atR row)) ++ t)) = true := by
 unfold tA
 cases he : (nP ps cols).2 != 0 with
 | true => exact UZ _
 | false =>
  rw [Nu]
  have he0 : (nP ps cols).2 = 0 := by simpa using he
  unfold nP at he0 ⊢
  obtain ⟨e1, e2⟩ := aL he0
  obtain ⟨e3, e4⟩ := aL e1
  have hf := VE hp cols
  have hk := cA hp cols
  have hlen := aT ps cols
  have hsplit : yF (cols.map (atR row)) = yF (vJ ps cols) ++ yF ((cols.drop (vJ ps cols).length).map (atR row)) := by
   rw [← hk, ← nt, ← List.map_append, List.take_append_drop]
  have hdrop : ∀ v ∈ (cols.drop (vJ ps cols).length).map (atR row), okI v.2.1 = true ∧ zt v = 0 := fun v h => by
   obtain ⟨c, hc, rfl⟩ := List.mem_map.1 h
   exact hv _ (List.mem_map.2 ⟨c, List.mem_of_mem_drop hc, rfl⟩)
  have hbegin : nC (zP (vJ ps cols)).1 (zC (yF (cols.map (atR row)) ++ t)) = true := by
   rw [ov e3, hsplit, NU]
   exact dl hf (Byts.append (ve hdrop) ht) (fG (fun v h => (hdrop v h).2) hr)
  have hcol : (vJ ps cols).length < cols.length → ∃ u, yF (cols.map (atR row)) ++ t = yF (vJ ps cols) ++ (zS (atR row (cols.getD (vJ ps cols).length 0)) ++ u) ∧ Byts u ∧ cm u ∧ okI (atR row (cols.getD (vJ ps cols).length 0)).2.1 = true ∧ zt (atR row (cols.getD (vJ ps cols).length 0)) = 0 := by
   intro hlt
   have hd : cols.drop (vJ ps cols).length = cols.getD (vJ ps cols).length 0 :: cols.drop ((vJ ps cols).length + 1) := by
    rw [List.drop_eq_getElem_cons hlt, List.getD_eq_getElem?_getD, NL hlt]; rfl
   rw [hd] at hdrop
   have hx := hdrop _ (by rw [NN]; exact List.mem_cons_self ..)
   have htail : ∀ v ∈ (cols.drop ((vJ ps cols).length + 1)).map (atR row), okI v.2.1 = true ∧ zt v = 0 := fun v h => hdrop v (by rw [NN]; exact List.mem_cons_of_mem _ h)
   refine ⟨yF ((cols.drop ((vJ ps cols).length + 1)).map (atR row)) ++ t, ?_, Byts.append (ve htail) ht, fG (fun v h => (htail v h).2) hr, hx⟩
   rw [hsplit, hd, NN, lk]
   simp only [NU]
  have okP : ∀ p : zI, qm cs row p → okI p.2.2.2.1 = true ∧ zt p.2.2 = 0 := fun p h => by
   obtain ⟨_, _, _, _, h5, h6, _⟩ := h
   refine ⟨?_, h5⟩
   unfold okZ at h6
   rw [Nt, Nt] at h6
   exact h6.2.1
  refine Yy (Yy hbegin fun x hx => ?_) fun x hx => ?_
  ·
   have hx0 := e4 x hx
   unfold Tl at hx
   split at hx
   ·rename_i p hl
    cases hx
    obtain ⟨h1, h2, h3, h4⟩ := ph hl
    obtain ⟨u, hu, bu, ru, ox⟩ := hcol h1
    rw [ZZ hx0, hu]
    have hpo := hp p h2
    have hlow := W9 hpo (by
     unfold qK at h4
     rw [Nv, Bool.or_eq_true] at h4
     exact h4.imp (zw _ _).1 (zw _ _).1)
    rw [h3] at hlow
    exact Wv hf ox (okP p hpo) bu hlow
   ·rename_i p hn hl
    cases hx
    obtain ⟨h1, h2, h3, h4⟩ := ph hl
    obtain ⟨u, hu, bu, ru, ox⟩ := hcol h1
    rw [ZZ hx0, hu]
    obtain ⟨_, _, p3, p4, _⟩ := hp p h2
    exact mX hf ox (by
     show 1 ≤ (atR row (cols.getD (vJ ps cols).length 0)).1
     rw [← h3]
     show 1 ≤ (row.getD p.1.toNat zeroV).1
     rw [p3]; exact p4) bu
   ·cases hx
  ·
   have hx0 := e2 x hx
   unfold iG at hx
   split at hx
   ·rename_i p hl
    cases hx
    obtain ⟨h1, h2, h3, h4⟩ := ph hl
    obtain ⟨u, hu, bu, ru, ox⟩ := hcol h1
    rw [Oh hx0, hu]
    have hpo := hp p h2
    have hhi := ar hpo (by
     unfold qK at h4
     rw [Nu, Bool.or_eq_true] at h4
     exact h4.imp (zw _ _).1 (zw _ _).1)
    rw [h3] at hhi
    exact R2 hf ox (okP p hpo) bu ru hhi
   ·cases hx
end Go.Proofs.YtefddghdaimklaaGreatDoor.AI
