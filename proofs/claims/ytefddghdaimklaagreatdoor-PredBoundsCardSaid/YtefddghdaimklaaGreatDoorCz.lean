/- A part of the proof. -/
import Derived.Test.YtefddghdaimklaaGreatDoorSz
import Derived.Test.YtefddghdaimklaaGreatDoorPz
set_option linter.unusedVariables false
set_option linter.unusedSimpArgs false
/- Keys: their bytes stand as their values do. -/
namespace Go.Proofs.YtefddghdaimklaaGreatDoor.AI
open Go
def Ts : List Int → List Int → Bool
 | _, [] => false
 | [], _ :: _ => true
 | a :: l, b :: m => bif decide (a < b) then true else bif decide (b < a) then false else Ts l m
def Parts (a b : List Int) : Prop := ∃ p x y r s, a = p ++ x :: r ∧ b = p ++ y :: s ∧ x < y
theorem pb : ∀ (p a b : List Int), Ts (p ++ a) (p ++ b) = Ts a b
 | [], a, b => rfl
 | x :: p, a, b => by
  show (bif decide (x < x) then true else bif decide (x < x) then false else Ts (p ++ a) (p ++ b)) = _
  rw [LI (Int.lt_irrefl x)]
  exact pb p a b
theorem Parts.lt {a b : List Int} (h : Parts a b) (r s : List Int) : Ts (a ++ r) (b ++ s) = true ∧ Ts (b ++ s) (a ++ r) = false := by
 obtain ⟨p, x, y, r', s', rfl, rfl, hxy⟩ := h
 rw [LL, LL, pb, pb]
 constructor
 ·show (bif decide (x < y) then true else _) = true
  rw [Ln hxy]; rfl
 ·show (bif decide (y < x) then true else bif decide (x < y) then false else _) = false
  rw [LI (by omega), Ln hxy]; rfl
theorem Parts.cons {a b : List Int} (x : Int) (h : Parts a b) : Parts (x :: a) (x :: b) := by
 obtain ⟨p, u, v, r, s, rfl, rfl, huv⟩ := h
 exact ⟨x :: p, u, v, r, s, rfl, rfl, huv⟩
theorem Parts.head {x y : Int} (h : x < y) (a b : List Int) : Parts (x :: a) (y :: b) := ⟨[], x, y, a, b, rfl, rfl, h⟩
theorem Parts.append {a b : List Int} (h : Parts a b) (r s : List Int) : Parts (a ++ r) (b ++ s) := by
 obtain ⟨p, u, v, r', s', rfl, rfl, huv⟩ := h
 exact ⟨p, u, v, r' ++ r, s' ++ s, by simp, by simp, huv⟩
def Ahead (a b : List Int) : Prop := Parts a b ∨ ∃ r, b = a ++ 255 :: r
def Lb (r : List Int) : Prop := r = [] ∨ ∃ x l, r = x :: l ∧ x < 255
theorem Ahead.cons {a b : List Int} (x : Int) (h : Ahead a b) : Ahead (x :: a) (x :: b) := by
 rcases h with h | ⟨r, rfl⟩
 ·exact .inl (h.cons x)
 ·exact .inr ⟨r, rfl⟩
theorem Ahead.lt {a b r : List Int} (h : Ahead a b) (hr : Lb r) (s : List Int) : Ts (a ++ r) (b ++ s) = true := by
 rcases h with h | ⟨r', rfl⟩
 ·exact (h.lt r s).1
 ·rw [LL, pb]
  rcases hr with rfl | ⟨x, l, rfl, hx⟩
  ·rfl
  ·show (bif decide (x < 255) then true else _) = true
   rw [Ln hx]; rfl
theorem nP (n : Nat) : ∀ k, (beL n k).length = k
 | 0 => rfl
 | k + 1 => by simp [beL, nP n k]
theorem uw : yX 0 = 0 := by unfold yX; simp
theorem mB {n : Nat} (h : n ≠ 0) : yX n = yX (n / 256) + 1 := by rw [yX]; simp [h]
theorem Rd {n k : Nat} (h : n < 256 ^ k) : yX n ≤ k := by
 induction k generalizing n with
 | zero =>
  have : n = 0 := by simpa using h
  subst this; rw [uw]; omega
 | succ k ih =>
  by_cases hn : n = 0
  ·subst hn; rw [uw]; omega
  ·rw [mB hn]
   have := ih (n := n / 256) (by rw [Nat.pow_succ] at h; omega)
   omega
def gv (r : Nat) : Nat := if r < 4503599627370496 then r else (4503599627370496 + r % 4503599627370496) * 2 ^ (r / 4503599627370496 - 1)
theorem Tm {r s : Nat} (h : r < s) : gv r < gv s := by
 unfold gv
 by_cases h1 : s < 4503599627370496
 ·rw [if_pos h1, if_pos (by omega)]; exact h
 ·rw [if_neg h1]
  have hp : ∀ k, 0 < 2 ^ k := fun k => Nat.two_pow_pos k
  by_cases h2 : r < 4503599627370496
  ·rw [if_pos h2]
   have := Nat.mul_le_mul_left (4503599627370496 + s % 4503599627370496) (hp (s / 4503599627370496 - 1))
   omega
  ·rw [if_neg h2]
   have hle : r / 4503599627370496 ≤ s / 4503599627370496 := Nat.div_le_div_right (by omega)
   rcases Nat.lt_or_ge (r / 4503599627370496) (s / 4503599627370496) with hq | hq
   ·have e1 : (4503599627370496 + r % 4503599627370496) * 2 ^ (r / 4503599627370496 - 1) < 9007199254740992 * 2 ^ (r / 4503599627370496 - 1) :=
     Nat.mul_lt_mul_of_pos_right (by omega) (hp _)
    have e2 : 9007199254740992 * 2 ^ (r / 4503599627370496 - 1) = 4503599627370496 * 2 ^ (r / 4503599627370496) := by
     obtain ⟨q, hq'⟩ : ∃ q, r / 4503599627370496 = q + 1 := ⟨r / 4503599627370496 - 1, by omega⟩
     rw [hq', Nat.add_sub_cancel, Nat.pow_succ]; omega
    have e3 : 4503599627370496 * 2 ^ (r / 4503599627370496) ≤ 4503599627370496 * 2 ^ (s / 4503599627370496 - 1) :=
     Nat.mul_le_mul_left _ (Nat.pow_le_pow_right (by decide) (by omega))
    have e4 : 4503599627370496 * 2 ^ (s / 4503599627370496 - 1) ≤ (4503599627370496 + s % 4503599627370496) * 2 ^ (s / 4503599627370496 - 1) := LG _ (by omega)
    omega
   ·have hqe : r / 4503599627370496 = s / 4503599627370496 := by omega
    rw [hqe]
    exact Nat.mul_lt_mul_of_pos_right (by omega) (hp _)
theorem Rh : gv 0 = 0 := rfl
theorem fY (u : Nat) : (yL u < 9218868437227405312 ∧ rk (dat u) = 0 ∧ kv (-1074) (dat u) = (if v8 u then -(gv (yL u) : Int) else (gv (yL u) : Int)) ∧ -1074 ≤ UH (dat u)) ∨
  (yL u = 9218868437227405312 ∧ rk (dat u) = (if v8 u then -1 else 1) ∧ kv (-1074) (dat u) = 0 ∧ -1074 ≤ UH (dat u)) ∨
  (9218868437227405312 < yL u ∧ rk (dat u) = 2 ∧ kv (-1074) (dat u) = 0 ∧ -1074 ≤ UH (dat u)) := by
 have e1 : Ieee.double.leastPlace = -1074 := by decide
 have e2 : Ieee.double.binade = 4503599627370496 := by decide
 have e3 : Ieee.double.signWeight = 9223372036854775808 := by decide
 have e4 : Ieee.double.infRung = 9218868437227405312 := by decide
 have ed : dat u = Ieee.double.read u := rfl
 rw [ed]
 unfold Ieee.Format.read yL v8
 simp only [e1, e2, e3, e4]
 generalize u % 9223372036854775808 = r
 generalize (u / 9223372036854775808 % 2 == 1) = s
 by_cases h1 : r < 4503599627370496
 ·left
  rw [if_pos h1]
  refine ⟨by omega, rfl, ?_, Int.le_refl _⟩
  show Ieee.signed s r ((-1074 : Int) - -1074).toNat = _
  unfold gv
  rw [if_pos h1, show ((-1074 : Int) - -1074).toNat = 0 by omega, sd]
 ·rw [if_neg h1]
  by_cases h2 : r < 9218868437227405312
  ·left
   rw [if_pos h2]
   refine ⟨h2, rfl, ?_, by show (-1074 : Int) ≤ -1074 + _; omega⟩
   show Ieee.signed s _ ((-1074 : Int) + ((r / 4503599627370496 - 1 : Nat) : Int) - -1074).toNat = _
   rw [show ((-1074 : Int) + ((r / 4503599627370496 - 1 : Nat) : Int) - -1074).toNat = r / 4503599627370496 - 1 by omega, sj]
   unfold gv
   rw [if_neg h1]
  ·right
   rw [if_neg h2]
   by_cases h3 : r = 9218868437227405312
   ·left
    rw [if_pos h3]
    exact ⟨h3, by cases s <;> rfl, rfl, by show (-1074 : Int) ≤ 0; omega⟩
   ·right
    rw [if_neg h3]
    exact ⟨by omega, rfl, rfl, by show (-1074 : Int) ≤ 0; omega⟩
theorem Zm (sa sb : Bool) (ra rb : Nat) : ((if sa then -(gv ra : Int) else (gv ra : Int)) < (if sb then -(gv rb : Int) else (gv rb : Int))) ↔ ((if sa then -(ra : Int) else (ra : Int)) < (if sb then -(rb : Int) else (rb : Int))) := by
 have z : ∀ r, (r = 0 ∧ gv r = 0) ∨ (0 < r ∧ 0 < gv r) := fun r => by
  rcases Nat.eq_zero_or_pos r with h | h
  ·subst h; exact .inl ⟨rfl, rfl⟩
  ·exact .inr ⟨h, by have := Tm h; rw [Rh] at this; exact this⟩
 have tri : (ra < rb ∧ gv ra < gv rb) ∨ (ra = rb ∧ gv ra = gv rb) ∨ (rb < ra ∧ gv rb < gv ra) := by
  rcases Nat.lt_trichotomy ra rb with h | h | h
  ·exact .inl ⟨h, Tm h⟩
  ·subst h; exact .inr (.inl ⟨rfl, rfl⟩)
  ·exact .inr (.inr ⟨h, Tm h⟩)
 have za := z ra
 have zb := z rb
 generalize gv ra = ga at *
 generalize gv rb = gb at *
 clear z
 cases sa <;> cases sb <;> simp only [if_true, Bool.false_eq_true, if_false] <;> rcases tri with h | h | h <;> omega
theorem gE {u : Nat} (h : ¬ 9218868437227405312 < yL u) : wv u = if v8 u then -(yL u : Int) else (yL u : Int) := if_neg h
theorem nJ {u : Nat} (h : 9218868437227405312 < yL u) : wv u = 9221120237041090560 := if_pos h
theorem np {u : Nat} (h : yL u = 9218868437227405312) : wv u = if v8 u then -9218868437227405312 else 9218868437227405312 := by
 rw [gE (by omega), h]; rfl
theorem pc {u : Nat} (h : yL u < 9218868437227405312) : -9218868437227405312 < wv u ∧ wv u < 9218868437227405312 := by
 rw [gE (by omega)]
 split <;> omega
theorem V2 (a b : Nat) : oU a b = if wv a < wv b then -1 else if wv b < wv a then 1 else 0 := by
 rcases fY a with ⟨a1, a2, a3, a4⟩ | ⟨a1, a2, a3, a4⟩ | ⟨a1, a2, a3, a4⟩ <;> rcases fY b with ⟨b1, b2, b3, b4⟩ | ⟨b1, b2, b3, b4⟩ | ⟨b1, b2, b3, b4⟩
 ·rw [wS, xK _ _ (-1074) a4 b4, a2, a3, b2, b3]
  have h1 := Zm (v8 a) (v8 b) (yL a) (yL b)
  have h2 := Zm (v8 b) (v8 a) (yL b) (yL a)
  rw [← gE (by omega), ← gE (by omega)] at h1 h2
  unfold lk
  by_cases q1 : wv a < wv b
  ·rw [if_pos q1, if_pos (.inr ⟨rfl, h1.2 q1⟩)]
  ·by_cases q2 : wv b < wv a
   ·rw [if_neg q1, if_pos q2, if_neg (fun h => by rcases h with h | h; exact absurd h (Int.lt_irrefl _); exact q1 (h1.1 h.2)), if_pos (.inr ⟨rfl, h2.2 q2⟩)]
   ·rw [if_neg q1, if_neg q2, if_neg (fun h => by rcases h with h | h; exact absurd h (Int.lt_irrefl _); exact q1 (h1.1 h.2)), if_neg (fun h => by rcases h with h | h; exact absurd h (Int.lt_irrefl _); exact q2 (h2.1 h.2))]
 ·rw [wS, xK _ _ (-1074) a4 b4, a2, b2, b3, np b1]
  have := pc a1
  unfold lk
  cases v8 b <;> simp only [if_true, Bool.false_eq_true, if_false]
  ·rw [if_pos (.inl (by omega)), if_pos (by omega)]
  ·rw [if_neg (by omega), if_pos (.inl (by omega)), if_neg (by omega), if_pos (by omega)]
 ·rw [wS, xK _ _ (-1074) a4 b4, a2, b2, b3, nJ b1]
  have := pc a1
  unfold lk
  rw [if_pos (.inl (by omega)), if_pos (by omega)]
 ·rw [wS, xK _ _ (-1074) a4 b4, a2, a3, b2, np a1]
  have := pc b1
  unfold lk
  cases v8 a <;> simp only [if_true, Bool.false_eq_true, if_false]
  ·rw [if_neg (by omega), if_pos (.inl (by omega)), if_neg (by omega), if_pos (by omega)]
  ·rw [if_pos (.inl (by omega)), if_pos (by omega)]
 ·rw [wS, xK _ _ (-1074) a4 b4, a2, a3, b2, b3, np a1, np b1]
  unfold lk
  cases v8 a <;> cases v8 b <;> decide
 ·rw [wS, xK _ _ (-1074) a4 b4, a2, a3, b2, b3, np a1, nJ b1]
  unfold lk
  cases v8 a <;> decide
 ·rw [wS, xK _ _ (-1074) a4 b4, a2, a3, b2, nJ a1]
  have := pc b1
  unfold lk
  rw [if_neg (by omega), if_pos (.inl (by omega)), if_neg (by omega), if_pos (by omega)]
 ·rw [wS, xK _ _ (-1074) a4 b4, a2, a3, b2, b3, nJ a1, np b1]
  unfold lk
  cases v8 b <;> decide
 ·rw [wS, xK _ _ (-1074) a4 b4, a2, a3, b2, b3, nJ a1, nJ b1]
  unfold lk
  decide
theorem dW (d e : Ieee.Datum) (h1 : rk d ≠ 2) (h2 : rk e ≠ 2) : d.order e ≠ none := by
 cases d with
 | nan s t => exact absurd rfl h1
 | infinity s => cases e with
  | nan s' t' => exact absurd rfl h2
  | infinity s' => cases s <;> cases s' <;> simp [Ieee.Datum.order]
  | number s' m' i' => cases s <;> simp [Ieee.Datum.order]
 | number s m i => cases e with
  | nan s' t' => exact absurd rfl h2
  | infinity s' => cases s' <;> simp [Ieee.Datum.order]
  | number s' m' i' => simp [Ieee.Datum.order]
theorem fk {u : Nat} (hu : u < 18446744073709551616) : (wX (3, (0, (u, noS)))).2.2.1 = tI (wv u) := by
 have hz := V2 u 0
 have hs := V2 u u
 have w0 : wv 0 = 0 := rfl
 have hn : fo u u != some .eq ↔ 9218868437227405312 < yL u := by
  have e : (fo u u != some .eq) = decide (rk (dat u) = 2) := tA (dat u)
  rw [e, LF]
  rcases fY u with ⟨a1, a2, _⟩ | ⟨a1, a2, _⟩ | ⟨a1, a2, _⟩
  ·rw [a2]; omega
  ·rw [a2]; split <;> omega
  ·rw [a2]; omega
 have h0 : fo u 0 == some .eq ↔ wv u = 0 := by
  have n0 : (fo 0 0 != some .eq) = false := by kernel_rfl
  by_cases hnan : 9218868437227405312 < yL u
  ·have h1 := hn.2 hnan
   have : fo u 0 = none := mU h1
   rw [this]
   have : wv u = 9221120237041090560 := by unfold wv; rw [if_pos hnan]
   rw [this]
   simp
  ·have h1 : (fo u u != some .eq) = false := by
    cases h : (fo u u != some .eq) with
    | true => exact absurd (hn.1 h) hnan
    | false => rfl
   have hf : oU u 0 = bif fo u 0 == some .lt then -1 else bif fo u 0 == some .gt then 1 else 0 := by
    unfold oU; rw [h1, n0]; rfl
   rw [w0] at hz
   rw [hf] at hz
   have hne : fo u 0 ≠ none := by
    intro hq
    refine dW (dat u) (dat 0) ?_ ?_ hq
    ·rcases fY u with ⟨a1, a2, _⟩ | ⟨a1, a2, _⟩ | ⟨a1, a2, _⟩
     ·rw [a2]; decide
     ·rw [a2]; split <;> decide
     ·exact absurd a1 hnan
    ·decide
   cases ho : fo u 0 with
   | none => exact absurd ho hne
   | some o =>
    rw [ho] at hz
    cases o with
    | lt => simp at hz ⊢; split at hz <;> omega
    | eq => simp at hz ⊢; split at hz <;> first | omega | (split at hz <;> omega)
    | gt => simp at hz ⊢; split at hz <;> first | omega | (split at hz <;> omega)
 unfold wX
 simp only [show ((3 : Int) != 3) = false from rfl, Lj]
 cases hq : fo u 0 == some .eq with
 | true =>
  have := h0.1 hq
  rw [this]; rfl
 | false =>
  have hw0 : wv u ≠ 0 := fun h => by rw [h0.2 h] at hq; cases hq
  rw [Lj]
  cases hq2 : fo u u != some .eq with
  | true =>
   have : wv u = 9221120237041090560 := by unfold wv; rw [if_pos (hn.1 hq2)]
   rw [this]; rfl
  | false =>
   rw [Lj]
   have hr : ¬ 9218868437227405312 < yL u := fun h => by rw [hn.2 h] at hq2; cases hq2
   unfold wv at hw0 ⊢
   rw [if_neg hr] at hw0 ⊢
   unfold tI
   have hb : v8 u = true ↔ 9223372036854775808 ≤ u := by
    unfold v8
    rw [beq_iff_eq]
    omega
   have hrr : yL u = u % 9223372036854775808 := rfl
   cases hneg : v8 u with
   | true =>
    have h1 := hb.1 hneg
    rw [hneg] at hw0
    simp only [if_true] at hw0 ⊢
    rw [if_neg (by omega)]
    show u = _
    omega
   | false =>
    have h1 : ¬ 9223372036854775808 ≤ u := fun h => by rw [hb.2 h] at hneg; cases hneg
    simp only [Bool.false_eq_true, if_false]
    rw [if_pos (by omega)]
    show u = _
    omega
theorem Wx (u : Nat) : -9218868437227405312 ≤ wv u ∧ wv u ≤ 9221120237041090560 := by
 unfold wv
 split
 ·omega
 ·split <;> omega
theorem n8 {xs : List Int} (h : ∀ x ∈ xs, 0 ≤ x ∧ x ≤ 255) : zR (yF xs) = xs := by
 show ((xs.map fun n => UInt8.ofNat n.toNat).toArray.toList.map fun b => (b.toNat : Int)) = xs
 rw [List.map_map]
 conv => rhs; rw [← List.map_id xs]
 refine List.map_congr_left fun x hx => ?_
 have := h x hx
 show ((UInt8.ofNat x.toNat).toNat : Int) = x
 rw [UInt8.toNat_ofNat_of_lt' (show x.toNat < UInt8.size by have : UInt8.size = 256 := rfl; omega)]
 omega
end Go.Proofs.YtefddghdaimklaaGreatDoor.AI
/- Ranges of keys: what is in them. -/
namespace Go.Proofs.YtefddghdaimklaaGreatDoor.AI
open Go
end Go.Proofs.YtefddghdaimklaaGreatDoor.AI
/- Which comparisons of a condition count; each is true of a row that is taken. -/
namespace Go.Proofs.YtefddghdaimklaaGreatDoor.AI
open Go
end Go.Proofs.YtefddghdaimklaaGreatDoor.AI
/- The key of a row that is taken stands in the range. -/
namespace Go.Proofs.YtefddghdaimklaaGreatDoor.AI
open Go
def Byts (l : List Int) : Prop := ∀ x ∈ l, 0 ≤ x ∧ x ≤ 255
theorem Byts.append {a b : List Int} (ha : Byts a) (hb : Byts b) : Byts (a ++ b) := fun x hx => by
 rcases LJ.1 hx with h | h
 ·exact ha x h
 ·exact hb x h
end Go.Proofs.YtefddghdaimklaaGreatDoor.AI
/- The range of a condition: what it is; the key of a row that is taken stands in it. -/
namespace Go.Proofs.YtefddghdaimklaaGreatDoor.AI
open Go
theorem bw (lo : Bool) (c : Int) : ∀ (ps : List zD) (o : Option zD) (p : zD), yE lo c ps o = some p → o = some p ∨ (p ∈ ps ∧ p.1 = c ∧ rz lo p.2.1 = true)
 | [], o, p, h => .inl h
 | q :: r, o, p, h => by
  unfold yE at h
  rcases bw lo c r _ p h with h1 | ⟨h1, h2, h3⟩
  ·cases hq : q.1 == c && rz lo q.2.1 with
   | false => rw [hq] at h1; exact .inl h1
   | true =>
    rw [hq, Lk] at h1
    rw [Li] at hq
    have hq1 : q.1 = c := by simpa using hq.1
    cases o with
    | none =>
     cases h1
     exact .inr ⟨by simp, hq1, hq.2⟩
    | some x =>
     simp only at h1
     cases ht : sR lo q x with
     | true =>
      rw [ht, Lk] at h1
      cases h1
      exact .inr ⟨by simp, hq1, hq.2⟩
     | false =>
      rw [ht, Lj] at h1
      exact .inl h1
  ·exact .inr ⟨by simp [h1], h2, h3⟩
end Go.Proofs.YtefddghdaimklaaGreatDoor.AI
