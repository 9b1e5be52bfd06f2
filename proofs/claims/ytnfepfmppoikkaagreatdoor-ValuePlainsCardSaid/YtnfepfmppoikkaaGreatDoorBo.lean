/- The plain laws of values: one order of all of them. -/
import Derived.Test.YtnfepfmppoikkaaGreatDoorBn
set_option linter.unusedVariables false
set_option linter.unusedSimpArgs false
namespace Go.Proofs.YtnfepfmppoikkaaGreatDoor.AI
open Go

/-! ### Whole numbers, texts -/
theorem intS_eq (a b : Int) : intS a b = lexI 0 a 0 b := by
  unfold intS lexI
  by_cases h1 : a < b
  · rw [decide_eq_true h1, if_pos (.inr ⟨rfl, h1⟩)]; rfl
  · rw [decide_eq_false h1, if_neg (by omega)]
    by_cases h2 : a > b
    · rw [decide_eq_true h2, if_pos (.inr ⟨rfl, h2⟩)]; rfl
    · rw [decide_eq_false h2, if_neg (by omega)]; rfl

theorem bytes_anti : ∀ (a b : List UInt8), Lib.compareBytes b a = 0 - Lib.compareBytes a b
  | [], [] => rfl
  | [], _ :: _ => rfl
  | _ :: _, [] => rfl
  | a :: l, b :: m => by
    have ih := bytes_anti l m
    simp only [Lib.compareBytes]
    by_cases h1 : a < b
    · have h2 : ¬ b < a := by rw [UInt8.lt_iff_toNat_lt] at *; omega
      rw [if_pos h1, if_neg h2, if_pos h1]; rfl
    · by_cases h2 : b < a
      · rw [if_pos h2, if_neg h1, if_pos h2]; rfl
      · rw [if_neg h2, if_neg h1, if_neg h1, if_neg h2]; exact ih
theorem bytes_trans : ∀ {a b c : List UInt8}, Lib.compareBytes a b ≤ 0 → Lib.compareBytes b c ≤ 0 → Lib.compareBytes a c ≤ 0
  | [], _, [], _, _ => by simp [Lib.compareBytes]
  | [], _, _ :: _, _, _ => by simp [Lib.compareBytes]
  | _ :: _, [], _, h, _ => by simp [Lib.compareBytes] at h
  | _ :: _, _ :: _, [], _, h => by simp [Lib.compareBytes] at h
  | a :: l, b :: m, c :: n, h1, h2 => by
    simp only [Lib.compareBytes] at h1 h2 ⊢
    simp only [UInt8.lt_iff_toNat_lt] at h1 h2 ⊢
    have ih := @bytes_trans l m n
    by_cases q1 : a.toNat < b.toNat
    · by_cases q2 : b.toNat < c.toNat
      · rw [if_pos (by omega)]; omega
      · rw [if_neg q2] at h2
        by_cases q3 : c.toNat < b.toNat
        · rw [if_pos q3] at h2; omega
        · rw [if_pos (by omega)]; omega
    · rw [if_neg q1] at h1
      by_cases q2 : b.toNat < a.toNat
      · rw [if_pos q2] at h1; omega
      · rw [if_neg q2] at h1
        by_cases q3 : b.toNat < c.toNat
        · rw [if_pos (by omega)]; omega
        · rw [if_neg q3] at h2
          by_cases q4 : c.toNat < b.toNat
          · rw [if_pos q4] at h2; omega
          · rw [if_neg q4] at h2
            rw [if_neg (by omega), if_neg (by omega)]
            exact ih h1 h2

/-! ### Values -/
def subV (a b : dValue) : Int :=
  bif a.1 == 1 || a.1 == 2 then intS a.2.1 b.2.1
  else bif a.1 == 3 then fltS a.2.2.1 b.2.2.1
  else bif a.1 == 4 || a.1 == 5 then strS a.2.2.2 b.2.2.2 else 0

theorem cmp_ne {a b : dValue} (h : a.1 ≠ b.1) : cmpV a b = intS a.1 b.1 := by
  unfold cmpV
  rw [show (a.1 != b.1) = true by simp; exact h]; rfl
theorem cmp_eq {a b : dValue} (h : a.1 = b.1) : cmpV a b = subV a b := by
  unfold cmpV subV
  rw [show (a.1 != b.1) = false by simp; exact h]; rfl

theorem str_anti (a b : ByteArray) : strS b a = 0 - strS a b := bytes_anti _ _
theorem sub_anti {a b : dValue} (h : a.1 = b.1) : subV b a = 0 - subV a b := by
  unfold subV
  rw [← h]
  cases (a.1 == 1 || a.1 == 2) with
  | true => simp only [cond_true, intS_eq]; exact lex_anti _ _ _ _
  | false =>
    cases a.1 == 3 with
    | true => exact flt_anti _ _
    | false =>
      cases (a.1 == 4 || a.1 == 5) with
      | true => exact str_anti _ _
      | false => rfl
theorem cmp_anti (a b : dValue) : cmpV b a = 0 - cmpV a b := by
  by_cases h : a.1 = b.1
  · rw [cmp_eq h, cmp_eq h.symm]; exact sub_anti h
  · rw [cmp_ne h, cmp_ne (Ne.symm h), intS_eq, intS_eq]; exact lex_anti _ _ _ _
theorem cmp_range' (a b : dValue) : cmpV a b = -1 ∨ cmpV a b = 0 ∨ cmpV a b = 1 := by
  by_cases h : a.1 = b.1
  · rw [cmp_eq h]
    unfold subV
    cases (a.1 == 1 || a.1 == 2) with
    | true => simp only [cond_true, intS_eq]; exact lex_range _ _ _ _
    | false =>
      cases a.1 == 3 with
      | true => exact flt_range _ _
      | false =>
        cases (a.1 == 4 || a.1 == 5) with
        | true => exact cmp_range _ _
        | false => exact .inr (.inl rfl)
  · rw [cmp_ne h, intS_eq]; exact lex_range _ _ _ _
theorem cmp_self (a : dValue) : cmpV a a = 0 := by
  have := cmp_anti a a
  omega
theorem sub_trans {a b c : dValue} (h1 : a.1 = b.1) (h2 : b.1 = c.1) (q1 : subV a b ≤ 0) (q2 : subV b c ≤ 0) : subV a c ≤ 0 := by
  unfold subV at *
  rw [← h1] at q2
  cases hk : (a.1 == 1 || a.1 == 2) with
  | true =>
    simp only [hk, cond_true, intS_eq] at q1 q2 ⊢
    have r1 := lex_le.1 q1
    have r2 := lex_le.1 q2
    refine lex_le.2 ?_
    omega
  | false =>
    cases hf : a.1 == 3 with
    | true =>
      simp only [hk, hf, cond_true, cond_false] at q1 q2 ⊢
      exact flt_trans q1 q2
    | false =>
      cases ht : (a.1 == 4 || a.1 == 5) with
      | true =>
        simp only [hk, hf, ht, cond_true, cond_false] at q1 q2 ⊢
        exact bytes_trans q1 q2
      | false => simp only [cond_false]; omega
theorem cmp_trans {a b c : dValue} (q1 : cmpV a b ≤ 0) (q2 : cmpV b c ≤ 0) : cmpV a c ≤ 0 := by
  by_cases h1 : a.1 = b.1
  · by_cases h2 : b.1 = c.1
    · rw [cmp_eq h1] at q1
      rw [cmp_eq h2] at q2
      rw [cmp_eq (h1.trans h2)]
      exact sub_trans h1 h2 q1 q2
    · have h3 : a.1 ≠ c.1 := by rw [h1]; exact h2
      rw [cmp_ne h2] at q2
      rw [cmp_ne h3, h1]; exact q2
  · rw [cmp_ne h1, intS_eq, lex_le] at q1
    by_cases h2 : b.1 = c.1
    · have h3 : a.1 ≠ c.1 := by rw [← h2]; exact h1
      rw [cmp_ne h3, intS_eq, lex_le]; omega
    · rw [cmp_ne h2, intS_eq, lex_le] at q2
      have h3 : a.1 ≠ c.1 := by omega
      rw [cmp_ne h3, intS_eq, lex_le]; omega

theorem same_eq {a b : dValue} (h : sameV a b = true) : a = b := by
  unfold sameV at h
  simp only [Bool.and_eq_true] at h
  obtain ⟨⟨⟨h1, h2⟩, h3⟩, h4⟩ := h
  exact Prod.ext (eq_of_beq h1) (Prod.ext (eq_of_beq h2) (Prod.ext (eq_of_beq h3) ((strEq_iff _ _).1 h4)))

/-! ### The laws -/
theorem spec4 : ∀ (X : dValue × dValue) (Y : Bool), FL [(true, tValue), (true, tValue)] X = some Y → ∃ n, f4.g n X = some Y := by
  intro x y h
  obtain ⟨hw, rfl⟩ := FL_some h
  refine ⟨0, ?_⟩
  have e : cmpV x.2 x.1 = 0 - cmpV x.1 x.2 := cmp_anti x.1 x.2
  simp only [f4.g, F12, F13, F11, Option.bind_some, beq_self_eq_true, cond_true, e, wrap_neg (cmp_range' x.1 x.2), cmp_self]
theorem con4_ok : ConOk Tryz.prog 4 con4 := f4.ok spec4 con11_ok con12_ok con13_ok

theorem spec6 : ∀ (X : dValue × dValue × dValue) (Y : Bool), FL [(true, tValue), (true, tValue), (true, tValue)] X = some Y → ∃ n, f6.g n X = some Y := by
  intro x y h
  obtain ⟨hw, rfl⟩ := FL_some h
  refine ⟨0, ?_⟩
  simp only [f6.g, F12, F16, F11, Option.bind_some]
  have rest : (bif sameV x.1 x.2.1 then (bif cmpV x.1 x.2.2 != cmpV x.2.1 x.2.2 then some false else some true) else some true) = some true := by
    cases hs : sameV x.1 x.2.1 with
    | false => rfl
    | true =>
      have := same_eq hs
      rw [this]
      simp
  by_cases h1 : cmpV x.1 x.2.1 ≤ 0
  · rw [decide_eq_true h1]
    by_cases h2 : cmpV x.2.1 x.2.2 ≤ 0
    · have h3 := cmp_trans h1 h2
      rw [decide_eq_true h2, decide_eq_false (show ¬ cmpV x.1 x.2.2 > 0 by omega)]
      exact rest
    · rw [decide_eq_false h2]
      exact rest
  · rw [decide_eq_false h1]
    exact rest
theorem con6_ok : ConOk Tryz.prog 6 con6 := f6.ok spec6 con11_ok con12_ok con16_ok

/-! ### Plain -/
theorem nan_zero0 : (FloatKind.f64.format.order nanN 0 == some .eq) = false := by kernel_rfl
theorem nan_nan : (FloatKind.f64.format.order nanN nanN != some .eq) = true := by kernel_rfl
theorem zero_eq : (FloatKind.f64.format.order 0 0 == some .eq) = true := by kernel_rfl
theorem nan_not {a b : Nat} (h : (fo a a != some .eq) = true) : fo a b = none := by
  have h1 : ((dat a).order (dat a) != some .eq) = true := h
  rw [order_self] at h1
  have h2 := of_decide_eq_true h1
  show (dat a).order (dat b) = none
  cases hd : dat a with
  | number s m i => rw [hd] at h2; cases h2
  | infinity s => rw [hd] at h2; cases s <;> cases h2
  | nan s t => cases dat b <;> rfl

theorem spec18 (x : dValue) : f18.g 0 x = some (plainD x) := by
  have e : F35 9221120237041090560 = some nanN := rfl
  simp only [f18.g, plainD, fo, zero_zero, e, Option.bind_some, cond_false]
  cases x.1 != 3 <;> cases FloatKind.f64.format.order x.2.2.1 0 == some .eq <;> cases FloatKind.f64.format.order x.2.2.1 x.2.2.1 != some .eq <;> rfl
theorem con18_ok : ConOk Tryz.prog 18 con18 := f18.ok (fun x y h => ⟨0, by cases h; exact spec18 x⟩) con35_ok

theorem spec19 (x : dValue) : f19.g 0 x = some (plainD x) := by
  have e : F35 9221120237041090560 = some nanN := rfl
  have hn : (fo x.2.2.1 x.2.2.1 != some .eq) = true → (FloatKind.f64.format.order x.2.2.1 0 == some .eq) = false := fun h => by
    have := nan_not (b := 0) h
    show (fo x.2.2.1 0 == some .eq) = false
    rw [this]; rfl
  have hb : (x.1 != 3) = !(x.1 == 3) := rfl
  simp only [f19.g, plainD, e, Option.bind_some, nan_zero0, hb]
  show _ = some (bif !(x.1 == 3) then x else bif FloatKind.f64.format.order x.2.2.1 0 == some .eq then (x.1, x.2.1, 0, x.2.2.2) else bif FloatKind.f64.format.order x.2.2.1 x.2.2.1 != some .eq then (x.1, x.2.1, nanN, x.2.2.2) else x)
  cases hq : FloatKind.f64.format.order x.2.2.1 x.2.2.1 != some .eq with
  | true =>
    rw [hn hq]
    cases x.1 == 3 <;> rfl
  | false => cases x.1 == 3 <;> cases FloatKind.f64.format.order x.2.2.1 0 == some .eq <;> rfl
theorem con19_ok : ConOk Tryz.prog 19 con19 := f19.ok (fun x y h => ⟨0, by cases h; exact spec19 x⟩) con35_ok

theorem plain_cases (x : dValue) : (plainD x = x) ∨ (x.1 = 3 ∧ fo x.2.2.1 0 = some .eq ∧ plainD x = (x.1, x.2.1, 0, x.2.2.2)) ∨ (x.1 = 3 ∧ (fo x.2.2.1 x.2.2.1 != some .eq) = true ∧ plainD x = (x.1, x.2.1, nanN, x.2.2.2)) := by
  unfold plainD
  by_cases h : x.1 = 3
  · rw [show (x.1 != 3) = false by simp; exact h]
    cases h1 : fo x.2.2.1 0 == some .eq with
    | true => exact .inr (.inl ⟨h, eq_of_beq h1, rfl⟩)
    | false =>
      cases h2 : fo x.2.2.1 x.2.2.1 != some .eq with
      | true => exact .inr (.inr ⟨h, rfl, rfl⟩)
      | false => exact .inl rfl
  · rw [show (x.1 != 3) = true by simp; exact h]
    exact .inl rfl

theorem plain_twice (x : dValue) : plainD (plainD x) = plainD x := by
  rcases plain_cases x with h | ⟨h1, h2, h3⟩ | ⟨h1, h2, h3⟩
  · rw [h]; exact h
  · rw [h3]
    unfold plainD
    have e : (fo 0 0 == some .eq) = true := zero_eq
    simp only [e, cond_true]
    cases x.1 != 3 <;> rfl
  · rw [h3]
    unfold plainD
    have e1 : (fo nanN 0 == some .eq) = false := nan_zero0
    have e2 : (fo nanN nanN != some .eq) = true := nan_nan
    simp only [e1, e2, cond_true, cond_false]
    cases x.1 != 3 <;> rfl

theorem cmp_plain (x : dValue) : cmpV x (plainD x) = 0 := by
  rcases plain_cases x with h | ⟨h1, h2, h3⟩ | ⟨h1, h2, h3⟩
  · rw [h]; exact cmp_self x
  · rw [h3, cmp_eq (a := x) (b := (x.1, x.2.1, (0 : Nat), x.2.2.2)) rfl]
    unfold subV
    rw [h1]
    show fltS x.2.2.1 0 = 0
    unfold fltS
    have e0 : (fo 0 0 != some .eq) = false := zero_zero
    have e1 : (fo x.2.2.1 x.2.2.1 != some .eq) = false := by
      cases hq : fo x.2.2.1 x.2.2.1 != some .eq with
      | false => rfl
      | true =>
        have := nan_not (b := 0) hq
        rw [h2] at this; cases this
    rw [e0, e1, h2]; rfl
  · rw [h3, cmp_eq (a := x) (b := (x.1, x.2.1, nanN, x.2.2.2)) rfl]
    unfold subV
    rw [h1]
    show fltS x.2.2.1 nanN = 0
    unfold fltS
    have e2 : (fo nanN nanN != some .eq) = true := nan_nan
    rw [h2, e2]; rfl

theorem spec8 : ∀ (X : dValue) (Y : Bool), FL [(true, tValue)] X = some Y → ∃ n, f8.g n X = some Y := by
  intro x y h
  obtain ⟨hw, rfl⟩ := FL_some h
  refine ⟨0, ?_⟩
  simp only [f8.g, F18, F19, F17, F12, F16, F11, Option.bind_some, same_refl, cond_true, cmp_plain, plain_twice, beq_self_eq_true]
theorem con8_ok : ConOk Tryz.prog 8 con8 := f8.ok spec8 con11_ok con12_ok con16_ok con17_ok con18_ok con19_ok

/-! ### Values as numbers -/
theorem k_true {a k : Int} (h : a = k) : (a == k) = true := by rw [h]; simp
theorem k_false {a k : Int} (h : a ≠ k) : (a == k) = false := by simp; exact h

theorem num_kinds (a b : dValue) : (a.1 = 2 ∧ b.1 = 2 ∧ numS a b = (intS a.2.1 b.2.1, true)) ∨ (a.1 = 3 ∧ b.1 = 3 ∧ numS a b = (fltS a.2.2.1 b.2.2.1, true)) ∨ (a.1 = 2 ∧ b.1 = 3 ∧ numS a b = (mixS a.2.1 b.2.2.1, true)) ∨
    (a.1 = 3 ∧ b.1 = 2 ∧ numS a b = (0 - mixS b.2.1 a.2.2.1, true)) ∨ (¬ ((a.1 = 2 ∨ a.1 = 3) ∧ (b.1 = 2 ∨ b.1 = 3)) ∧ numS a b = (0, false)) := by
  unfold numS
  by_cases a2 : a.1 = 2
  · by_cases b2 : b.1 = 2
    · exact .inl ⟨a2, b2, by rw [k_true a2, k_true b2]; rfl⟩
    · by_cases b3 : b.1 = 3
      · exact .inr (.inr (.inl ⟨a2, b3, by rw [k_true a2, k_false b2, k_false (show a.1 ≠ 3 by omega), k_true b3]; rfl⟩))
      · exact .inr (.inr (.inr (.inr ⟨by omega, by rw [k_true a2, k_false b2, k_false (show a.1 ≠ 3 by omega), k_false b3]; rfl⟩)))
  · by_cases a3 : a.1 = 3
    · by_cases b2 : b.1 = 2
      · exact .inr (.inr (.inr (.inl ⟨a3, b2, by rw [k_false a2, k_true a3, k_true b2, k_false (show b.1 ≠ 3 by omega)]; rfl⟩)))
      · by_cases b3 : b.1 = 3
        · exact .inr (.inl ⟨a3, b3, by rw [k_false a2, k_true a3, k_false b2, k_true b3]; rfl⟩)
        · exact .inr (.inr (.inr (.inr ⟨by omega, by rw [k_false a2, k_true a3, k_false b2, k_false b3]; rfl⟩)))
    · exact .inr (.inr (.inr (.inr ⟨by omega, by rw [k_false a2, k_false a3]; rfl⟩)))

theorem num_range (a b : dValue) : (numS a b).1 = -1 ∨ (numS a b).1 = 0 ∨ (numS a b).1 = 1 := by
  rcases num_kinds a b with ⟨_, _, h⟩ | ⟨_, _, h⟩ | ⟨_, _, h⟩ | ⟨_, _, h⟩ | ⟨_, h⟩ <;> rw [h]
  · show intS _ _ = -1 ∨ intS _ _ = 0 ∨ intS _ _ = 1
    rw [intS_eq]; exact lex_range _ _ _ _
  · exact flt_range _ _
  · exact mix_range _ _
  · have := mix_range b.2.1 a.2.2.1
    show 0 - mixS b.2.1 a.2.2.1 = -1 ∨ 0 - mixS b.2.1 a.2.2.1 = 0 ∨ 0 - mixS b.2.1 a.2.2.1 = 1
    omega
  · exact .inr (.inl rfl)

theorem num_anti (a b : dValue) : numS b a = (0 - (numS a b).1, (numS a b).2) := by
  rcases num_kinds a b with ⟨p, q, h⟩ | ⟨p, q, h⟩ | ⟨p, q, h⟩ | ⟨p, q, h⟩ | ⟨p, h⟩ <;> rcases num_kinds b a with ⟨p', q', h'⟩ | ⟨p', q', h'⟩ | ⟨p', q', h'⟩ | ⟨p', q', h'⟩ | ⟨p', h'⟩ <;> first
    | (exfalso; omega)
    | (rw [h, h']; simp only [intS_eq]; rw [lex_anti]; done)
    | (rw [h, h']; simp only []; rw [flt_anti]; done)
    | (rw [h, h']; refine Prod.ext ?_ rfl; show _ = _; simp only []; omega)
    | (rw [h, h']; done)
    | (rw [h, h']; rfl)

theorem spec15 (x : dValue × dValue) : f15.g 0 x = some (numS x.1 x.2) := by
  unfold f15.g
  rcases num_kinds x.1 x.2 with ⟨p, q, h⟩ | ⟨p, q, h⟩ | ⟨p, q, h⟩ | ⟨p, q, h⟩ | ⟨p, h⟩
  · rw [h, k_true p, k_true q, show (x.1.1 == x.2.1) = true by rw [p, q]; rfl]
    have e : F13 x = some (intS x.1.2.1 x.2.2.1) := by
      show some (cmpV x.1 x.2) = _
      rw [cmp_eq (p.trans q.symm)]; unfold subV; rw [k_true p]; simp
    rw [e]; rfl
  · rw [h, k_true p, k_true q, show (x.1.1 == x.2.1) = true by rw [p, q]; rfl, k_false (show x.1.1 ≠ 2 by omega), k_false (show x.2.1 ≠ 2 by omega)]
    have e : F13 x = some (fltS x.1.2.2.1 x.2.2.2.1) := by
      show some (cmpV x.1 x.2) = _
      rw [cmp_eq (p.trans q.symm)]; unfold subV; rw [p]; rfl
    rw [e]; rfl
  · rw [h, k_true p, k_true q, show (x.1.1 == x.2.1) = false by rw [p, q]; rfl]
    simp only [F33]
    cases (x.2.1 == 2) <;> cases (x.1.1 == 3) <;> rfl
  · rw [h, k_true p, k_true q, show (x.1.1 == x.2.1) = false by rw [p, q]; rfl, k_false (show x.1.1 ≠ 2 by omega)]
    simp only [F33, Option.bind_some, wrap_neg (mix_range _ _)]
    cases (x.2.1 == 3) <;> rfl
  · rw [h]
    have : (bif (!(bif (x.1.1 == (2 : Int)) then true else (x.1.1 == (3 : Int)))) then true else (!(bif (x.2.1 == (2 : Int)) then true else (x.2.1 == (3 : Int))))) = true := by
      by_cases a2 : x.1.1 = 2
      · rw [k_true a2, k_false (show x.2.1 ≠ 2 by omega), k_false (show x.2.1 ≠ 3 by omega)]; rfl
      · by_cases a3 : x.1.1 = 3
        · rw [k_false a2, k_true a3, k_false (show x.2.1 ≠ 2 by omega), k_false (show x.2.1 ≠ 3 by omega)]; rfl
        · rw [k_false a2, k_false a3]; rfl
    rw [this]; rfl
theorem con15_ok : ConOk Tryz.prog 15 con15 := f15.ok (fun x y h => ⟨0, by cases h; exact spec15 x⟩) con13_ok con33_ok

theorem spec5 : ∀ (X : dValue × dValue) (Y : Bool), FL [(true, tValue), (true, tValue)] X = some Y → ∃ n, f5.g n X = some Y := by
  intro x y h
  obtain ⟨hw, rfl⟩ := FL_some h
  refine ⟨0, ?_⟩
  have e : numS x.2 x.1 = (0 - (numS x.1 x.2).1, (numS x.1 x.2).2) := num_anti x.1 x.2
  simp only [f5.g, F14, F15, F11, F12, Option.bind_some, e, wrap_neg (num_range x.1 x.2), bne_self_eq_false, beq_self_eq_true, Bool.not_true, cond_false]
  cases hs : (numS x.1 x.2).2 with
  | false => rfl
  | true =>
    simp only [Bool.not_true, cond_false]
    by_cases hk : x.1.1 = x.2.1
    · rw [show (x.1.1 != x.2.1) = false by simp; exact hk]
      have ec : (numS x.1 x.2).1 = cmpV x.1 x.2 := by
        rw [cmp_eq hk]
        rcases num_kinds x.1 x.2 with ⟨p, q, h'⟩ | ⟨p, q, h'⟩ | ⟨p, q, h'⟩ | ⟨p, q, h'⟩ | ⟨p, h'⟩
        · rw [h']; unfold subV; rw [p]; rfl
        · rw [h']; unfold subV; rw [p]; rfl
        · omega
        · omega
        · rw [h'] at hs; cases hs
      rw [ec]
      simp
    · rw [show (x.1.1 != x.2.1) = true by simp; exact hk]; rfl
theorem con5_ok : ConOk Tryz.prog 5 con5 := f5.ok spec5 con11_ok con12_ok con14_ok con15_ok

end Go.Proofs.YtnfepfmppoikkaaGreatDoor.AI
