/- The plain laws of doubles: their order; an int beside a double. -/
import Derived.Test.YthkigadgbckpoaaGreatDoorBm
import Derived.Test.YthkigadgbckpoaaGreatDoorFl
set_option linter.unusedVariables false
set_option linter.unusedSimpArgs false
namespace Go.Proofs.YthkigadgbckpoaaGreatDoor.AI
open Go

/-! ### Floats -/
def rk : Ieee.Datum → Int
  | .infinity s => if s then -1 else 1
  | .number _ _ _ => 0
  | .nan _ _ => 2
def kv (B : Int) : Ieee.Datum → Int
  | .number s m i => Ieee.signed s m (i - B).toNat
  | _ => 0
def lowD : Ieee.Datum → Int
  | .number _ _ i => i
  | _ => 0

theorem signed_more (s : Bool) (m u v : Nat) : Ieee.signed s m (u + v) = Ieee.signed s m u * (2 : Int) ^ v := by
  unfold Ieee.signed
  have h : ((m <<< (u + v) : Nat) : Int) = ((m <<< u : Nat) : Int) * (2 : Int) ^ v := by
    rw [Nat.shiftLeft_eq, Nat.shiftLeft_eq, Nat.pow_add, ← Nat.mul_assoc]
    simp
  cases s with
  | true => simp only [if_true]; rw [h, Int.neg_mul]
  | false => simp only [Bool.false_eq_true, if_false]; rw [h]

theorem cmp_cases (x y : Int) : (x < y ∧ compare x y = .lt) ∨ (x = y ∧ compare x y = .eq) ∨ (y < x ∧ compare x y = .gt) := by
  show (x < y ∧ compareOfLessAndEq x y = .lt) ∨ (x = y ∧ compareOfLessAndEq x y = .eq) ∨ (y < x ∧ compareOfLessAndEq x y = .gt)
  unfold compareOfLessAndEq
  by_cases h1 : x < y
  · exact .inl ⟨h1, if_pos h1⟩
  · by_cases h2 : x = y
    · exact .inr (.inl ⟨h2, by rw [if_neg h1, if_pos h2]⟩)
    · exact .inr (.inr ⟨by omega, by rw [if_neg h1, if_neg h2]⟩)

def lexI (r k r' k' : Int) : Int := if r < r' ∨ (r = r' ∧ k < k') then -1 else if r' < r ∨ (r = r' ∧ k' < k) then 1 else 0

theorem lex_anti (r k r' k' : Int) : lexI r' k' r k = 0 - lexI r k r' k' := by
  unfold lexI
  repeat' split
  all_goals omega
theorem lex_range (r k r' k' : Int) : lexI r k r' k' = -1 ∨ lexI r k r' k' = 0 ∨ lexI r k r' k' = 1 := by
  unfold lexI
  repeat' split
  all_goals simp
theorem lex_le {r k r' k' : Int} : lexI r k r' k' ≤ 0 ↔ ¬ (r' < r ∨ (r = r' ∧ k' < k)) := by
  unfold lexI
  repeat' split
  all_goals omega

theorem order_self (d : Ieee.Datum) : (d.order d != some .eq) = decide (rk d = 2) := by
  cases d with
  | number s m i =>
    have : (Ieee.Datum.number s m i).order (.number s m i) = some .eq := by
      simp only [Ieee.Datum.order]
      rcases cmp_cases (Ieee.signed s m (i - min i i).toNat) (Ieee.signed s m (i - min i i).toNat) with h | h | h
      · omega
      · rw [h.2]
      · omega
    rw [this]; rfl
  | infinity s => cases s <;> rfl
  | nan s t => rfl

theorem num_scale {s : Bool} {m : Nat} {i b B : Int} (h1 : b ≤ i) (h2 : B ≤ b) : Ieee.signed s m (i - B).toNat = Ieee.signed s m (i - b).toNat * (2 : Int) ^ (b - B).toNat := by
  rw [← signed_more]
  congr 1
  omega

theorem pow_pos' (v : Nat) : (0 : Int) < (2 : Int) ^ v := Int.pow_pos (by decide)

def fltD (d e : Ieee.Datum) : Int :=
  bif d.order d != some .eq then (bif e.order e != some .eq then 0 else 1)
  else bif e.order e != some .eq then -1 else bif d.order e == some .lt then -1 else bif d.order e == some .gt then 1 else 0

theorem fltD_key (d e : Ieee.Datum) (B : Int) (h1 : B ≤ lowD d) (h2 : B ≤ lowD e) : fltD d e = lexI (rk d) (kv B d) (rk e) (kv B e) := by
  unfold fltD
  rw [order_self, order_self]
  cases d with
  | nan s t => cases e with
    | nan s' t' => rfl
    | infinity s' => cases s' <;> rfl
    | number s' m' i' => rfl
  | infinity s => cases e with
    | nan s' t' => cases s <;> rfl
    | infinity s' => cases s <;> cases s' <;> rfl
    | number s' m' i' => cases s <;> rfl
  | number s m i => cases e with
    | nan s' t' => rfl
    | infinity s' => cases s' <;> rfl
    | number t n j =>
      have h1' : B ≤ i := h1
      have h2' : B ≤ j := h2
      have e1 := num_scale (s := s) (m := m) (i := i) (b := min i j) (B := B) (Int.min_le_left i j) (by omega)
      have e2 := num_scale (s := t) (m := n) (i := j) (b := min i j) (B := B) (Int.min_le_right i j) (by omega)
      have hp := pow_pos' (min i j - B).toNat
      simp only [rk, kv, e1, e2, Ieee.Datum.order]
      generalize Ieee.signed s m (i - min i j).toNat = x
      generalize Ieee.signed t n (j - min i j).toNat = y
      generalize (2 : Int) ^ (min i j - B).toNat = p at hp
      rcases cmp_cases x y with ⟨q1, q2⟩ | ⟨q1, q2⟩ | ⟨q1, q2⟩
      · rw [q2]
        have : x * p < y * p := Int.mul_lt_mul_of_pos_right q1 hp
        unfold lexI
        rw [if_pos (.inr ⟨rfl, this⟩)]; rfl
      · rw [q2, q1]
        unfold lexI
        rw [if_neg (by omega), if_neg (by omega)]; rfl
      · rw [q2]
        have : y * p < x * p := Int.mul_lt_mul_of_pos_right q1 hp
        unfold lexI
        rw [if_neg (by omega), if_pos (.inr ⟨rfl, this⟩)]; rfl

def dat (a : Nat) : Ieee.Datum := FloatKind.f64.format.read a
theorem fltS_eq (a b : Nat) : fltS a b = fltD (dat a) (dat b) := rfl

theorem flt_anti (a b : Nat) : fltS b a = 0 - fltS a b := by
  rw [fltS_eq, fltS_eq, fltD_key _ _ (min (lowD (dat a)) (lowD (dat b))) (by omega) (by omega), fltD_key _ _ (min (lowD (dat a)) (lowD (dat b))) (by omega) (by omega)]
  exact lex_anti _ _ _ _
theorem flt_range (a b : Nat) : fltS a b = -1 ∨ fltS a b = 0 ∨ fltS a b = 1 := by
  rw [fltS_eq, fltD_key _ _ (min (lowD (dat a)) (lowD (dat b))) (by omega) (by omega)]
  exact lex_range _ _ _ _
theorem flt_trans {a b c : Nat} (h1 : fltS a b ≤ 0) (h2 : fltS b c ≤ 0) : fltS a c ≤ 0 := by
  have B : ∃ B, B ≤ lowD (dat a) ∧ B ≤ lowD (dat b) ∧ B ≤ lowD (dat c) := ⟨min (lowD (dat a)) (min (lowD (dat b)) (lowD (dat c))), by omega, by omega, by omega⟩
  obtain ⟨B, b1, b2, b3⟩ := B
  rw [fltS_eq, fltD_key _ _ B (by assumption) (by assumption), lex_le] at h1 h2 ⊢
  omega


/-! ### An int beside a double -/
theorem zero_zero : (FloatKind.f64.format.order 0 0 != some .eq) = false := by kernel_rfl
theorem flt_z0 : fltS 0 (Ieee.double.word false 0) = 0 := by kernel_rfl
theorem flt_z1 : fltS 0 (Ieee.double.word true 0) = 0 := by kernel_rfl
theorem flt_zeros (b : Bool) (p : Int) : fltS 0 (Ieee.double.nearest b 0 p) = 0 := by
  have e : Ieee.double.nearest b 0 p = Ieee.double.word b 0 := by unfold Ieee.Format.nearest; rw [if_pos rfl]
  rw [e]
  cases b
  · exact flt_z0
  · exact flt_z1

theorem dat63 : dat 4890909195324358656 = D63 := by kernel_rfl
theorem datN63 : dat 14114281232179134464 = N63 := by kernel_rfl

theorem nearest_int (s : Bool) (W : Nat) (h : W ≠ 0) : FloatKind.f64.nearest (Ieee.signed s W 0) = Ieee.double.nearest s W 0 := by
  rw [signed_zero]
  show Ieee.double.nearest (decide ((if s then -(W : Int) else (W : Int)) < 0)) (if s then -(W : Int) else (W : Int)).natAbs 0 = _
  cases s with
  | true =>
    simp only [if_true]
    rw [decide_eq_true (show -(W : Int) < 0 by omega), Int.natAbs_neg, Int.natAbs_natCast]
  | false =>
    simp only [Bool.false_eq_true, if_false]
    rw [decide_eq_false (show ¬ (W : Int) < 0 by omega), Int.natAbs_natCast]

theorem signed_nil (s : Bool) (u : Nat) : Ieee.signed s 0 u = 0 := by
  rw [signed_eq]; simp

/-- A number less a zero. -/
theorem sum_zero (s x : Bool) (m : Nat) (i : Int) (hi : -1074 ≤ i) : (Ieee.Datum.number s m i).sum (.number x 0 (-1074)) =
    some (.number (if Ieee.signed s m (i - -1074).toNat = 0 then s && x else decide (Ieee.signed s m (i - -1074).toNat < 0)) (Ieee.signed s m (i - -1074).toNat).natAbs (-1074)) := by
  have e : min i (-1074) = -1074 := by omega
  simp only [Ieee.Datum.sum, e, signed_nil, Int.add_zero]

theorem order_refl_write (s : Bool) (m : Nat) (p : Int) : (fo (Ieee.double.nearest s m p) (Ieee.double.nearest s m p) != some .eq) = false := not_nan_nearest s m p

structure MixOk (f : Nat) (s : Bool) (m : Nat) (i : Int) : Prop where
  d : dat f = .number s m i
  fits : whole m i < 2 ^ 64
  lo : -9223372036854775808 ≤ Ieee.signed s (whole m i) 0
  hi : Ieee.signed s (whole m i) 0 ≤ 9223372036854775807

theorem whole_nil (l : Int) : whole 0 l = 0 := by unfold whole; simp

theorem mix_whole {f : Nat} {s : Bool} {m : Nat} {i : Int} (h : MixOk f s m i) : wholeI f = Ieee.signed s (whole m i) 0 := by
  unfold wholeI
  have : FloatKind.f64.decode f = .number s m i := h.d
  rw [this, toInt_num]

theorem mix_toI {f : Nat} {s : Bool} {m : Nat} {i : Int} (h : MixOk f s m i) : fToI .f64 .i64 f = some (wholeI f) := by
  rw [mix_whole h]
  unfold fToI
  have : FloatKind.f64.decode f = .number s m i := h.d
  rw [this, toInt_num]
  simp only
  rw [decide_eq_true (show IntKind.min .i64 ≤ Ieee.signed s (whole m i) 0 from h.lo), decide_eq_true (show Ieee.signed s (whole m i) 0 ≤ IntKind.max .i64 from h.hi)]
  rfl

theorem mix_trunc {f : Nat} {s : Bool} {m : Nat} {i : Int} (h : MixOk f s m i) : F39 f = some (Ieee.double.nearest s (whole m i) 0) ∧ fToI .f64 .i64 (Ieee.double.nearest s (whole m i) 0) = some (wholeI f) := by
  constructor
  · unfold F39
    have : FloatKind.f64.decode f = .number s m i := h.d
    rw [this]
    simp only [integral_num]
    rfl
  · rw [mix_whole h]
    unfold fToI
    have key : (FloatKind.f64.decode (Ieee.double.nearest s (whole m i) 0)).toInt .zero = some (Ieee.signed s (whole m i) 0) := by
      show (Ieee.double.read (Ieee.double.nearest s (whole m i) 0)).toInt .zero = _
      by_cases h0 : whole m i = 0
      · rw [h0, read_zero, toInt_num, whole_nil]
      · obtain ⟨k, l, e1, e2⟩ := read_nearest (neg := s) h0 h.fits (fits_whole (read_shape (b := f) h.d).1)
        rw [e1, toInt_num, e2]
    rw [key]
    simp only
    rw [decide_eq_true (show IntKind.min .i64 ≤ Ieee.signed s (whole m i) 0 from h.lo), decide_eq_true (show Ieee.signed s (whole m i) 0 ≤ IntKind.max .i64 from h.hi)]
    rfl

theorem mix_rest {f : Nat} {s : Bool} {m : Nat} {i : Int} (h : MixOk f s m i) : ∃ r r', FloatKind.f64.format.sub f (Ieee.double.nearest s (whole m i) 0) = some r ∧ FloatKind.f64.format.sub f (FloatKind.f64.nearest (wholeI f)) = some r' ∧
    (fo r r != some .eq) = false ∧ (fo r' r' != some .eq) = false ∧ fltS 0 r = fltS 0 r' := by
  rw [mix_whole h]
  have hd : Ieee.double.read f = .number s m i := h.d
  by_cases h0 : whole m i = 0
  · rw [h0]
    have en : FloatKind.f64.nearest (Ieee.signed s 0 0) = Ieee.double.nearest false 0 0 := by
      rw [signed_nil]
      rfl
    rw [en]
    have sub0 : ∀ x : Bool, FloatKind.f64.format.sub f (Ieee.double.nearest x 0 0) = some (Ieee.double.nearest (if Ieee.signed s m (i - -1074).toNat = 0 then s && !x else decide (Ieee.signed s m (i - -1074).toNat < 0)) (Ieee.signed s m (i - -1074).toNat).natAbs (-1074)) := by
      intro x
      show ((Ieee.double.read f).sum (Ieee.double.read (Ieee.double.nearest x 0 0)).opposite).map Ieee.double.write = _
      rw [hd, read_zero]
      show ((Ieee.Datum.number s m i).sum (.number (!x) 0 (-1074))).map Ieee.double.write = _
      rw [sum_zero s (!x) m i (read_shape (b := f) hd).2]
      rfl
    refine ⟨_, _, sub0 s, sub0 false, order_refl_write _ _ _, order_refl_write _ _ _, ?_⟩
    by_cases hT : Ieee.signed s m (i - -1074).toNat = 0
    · rw [hT]
      simp only [Int.natAbs_zero, flt_zeros]
    · rw [if_neg hT, if_neg hT]
  · rw [nearest_int s _ h0]
    obtain ⟨k, l, e1, e2⟩ := read_nearest (neg := s) h0 h.fits (fits_whole (read_shape (b := f) h.d).1)
    have sub1 : ∃ b M p, FloatKind.f64.format.sub f (Ieee.double.nearest s (whole m i) 0) = some (Ieee.double.nearest b M p) := by
      show ∃ b M p, ((Ieee.double.read f).sum (Ieee.double.read (Ieee.double.nearest s (whole m i) 0)).opposite).map Ieee.double.write = some (Ieee.double.nearest b M p)
      rw [hd, e1]
      exact ⟨_, _, _, rfl⟩
    obtain ⟨b, M, p, e⟩ := sub1
    exact ⟨_, _, e, e, order_refl_write _ _ _, order_refl_write _ _ _, rfl⟩

theorem mix_ok {f : Nat} (h1 : (fo f f != some .eq) = false) (h2 : (fo f 4890909195324358656 == some .gt || fo f 4890909195324358656 == some .eq) = false) (h3 : (fo f 14114281232179134464 == some .lt) = false) : ∃ s m i, MixOk f s m i := by
  have g1 : ((dat f).order (dat f) != some .eq) = false := h1
  have g2 : ((dat f).order D63 == some .gt || (dat f).order D63 == some .eq) = false := by rw [← dat63]; exact h2
  have g3 : ((dat f).order N63 == some .lt) = false := by rw [← datN63]; exact h3
  obtain ⟨s, m, i, q1, q2, q3, q4⟩ := in_range g1 g2 g3
  exact ⟨s, m, i, q1, q2, q3, q4⟩

theorem spec15 (x : Int × Nat) : f15.g 0 x = some (mixS x.1 x.2) := by
  unfold f15.g mixS
  show (bif bif fo x.2 x.2 != some .eq then true else (fo x.2 4890909195324358656 == some .gt || fo x.2 4890909195324358656 == some .eq) then _ else _) = _
  cases h1 : fo x.2 x.2 != some .eq with
  | true => rfl
  | false =>
    simp only [cond_false, Bool.false_or]
    cases h2 : (fo x.2 4890909195324358656 == some .gt || fo x.2 4890909195324358656 == some .eq) with
    | true => rfl
    | false =>
      simp only [cond_false]
      show (bif fo x.2 14114281232179134464 == some .lt then _ else _) = _
      cases h3 : fo x.2 14114281232179134464 == some .lt with
      | true => rfl
      | false =>
        obtain ⟨s, m, i, h⟩ := mix_ok h1 h2 h3
        obtain ⟨t1, t2⟩ := mix_trunc h
        obtain ⟨r, r', q1, q2, q3, q4, q5⟩ := mix_rest h
        simp only [cond_false, t1, t2, Option.bind_some, F13, intS_ne, q2]
        cases x.1 != wholeI x.2 with
        | true => rfl
        | false =>
          simp only [cond_false, q1, Option.bind_some, zero_zero]
          rw [← q5]
          show (bif fo r r != some .eq then _ else _) = _
          rw [q3]
          unfold fltS
          have e0 : (fo 0 0 != some .eq) = false := zero_zero
          rw [e0, q3]
          show (bif fo 0 r == some .lt then some (-1 : Int) else bif fo 0 r == some .gt then some (1 : Int) else some 0) = some (bif fo 0 r == some .lt then -1 else bif fo 0 r == some .gt then 1 else 0)
          cases fo 0 r == some .lt <;> cases fo 0 r == some .gt <;> rfl
theorem con15_ok : ConOk Tryz.prog 15 con15 := f15.ok (fun x y h => ⟨0, by cases h; exact spec15 x⟩) con13_ok con39_ok

theorem mix_range (n : Int) (f : Nat) : mixS n f = -1 ∨ mixS n f = 0 ∨ mixS n f = 1 := by
  unfold mixS
  cases (fo f f != some .eq || (fo f 4890909195324358656 == some .gt || fo f 4890909195324358656 == some .eq)) with
  | true => exact .inl rfl
  | false =>
    cases fo f 14114281232179134464 == some .lt with
    | true => exact .inr (.inr rfl)
    | false =>
      cases n != wholeI f with
      | true =>
        show intS _ _ = -1 ∨ intS _ _ = 0 ∨ intS _ _ = 1
        unfold intS
        cases decide (n < wholeI f) <;> cases decide (n > wholeI f) <;> simp
      | false =>
        simp only [cond_false]
        split
        · exact flt_range _ _
        · exact .inr (.inl rfl)
theorem wrap_neg {n : Int} (h : n = -1 ∨ n = 0 ∨ n = 1) : IntKind.wrap .i64 (0 - n) = 0 - n := by
  rcases h with rfl | rfl | rfl <;> rfl

theorem spec6 (x : dValue × dValue) : f6.g 0 x = some (numS x.1 x.2) := by
  simp only [f6.g, F13, F14, F15, Option.bind_some, wrap_neg (mix_range _ _), numS]
  cases x.1.1 == 2 <;> cases x.2.1 == 2 <;> cases x.1.1 == 3 <;> cases x.2.1 == 3 <;> rfl
theorem con6_ok : ConOk Tryz.prog 6 con6 := f6.ok (fun x y h => ⟨0, by cases h; exact spec6 x⟩) con13_ok con14_ok con15_ok

theorem con7_ok : ConOk Tryz.prog 7 con7 := f7.ok (fun x y h => ⟨0, by
  cases h
  kernel_rfl⟩) con6_ok con16_ok con18_ok

end Go.Proofs.YthkigadgbckpoaaGreatDoor.AI
