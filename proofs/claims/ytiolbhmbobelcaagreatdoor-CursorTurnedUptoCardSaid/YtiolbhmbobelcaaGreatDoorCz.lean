import Derived.Test.YtiolbhmbobelcaaGreatDoorSz
/- Least and greatest of some values, sums of ints, in whatever order. -/
set_option linter.unusedVariables false
set_option linter.unusedSimpArgs false
namespace Go.Proofs.YtiolbhmbobelcaaGreatDoor.AI
open Go

/-! ### The least and the greatest -/
def leB (mx : Bool) (a b : dValue) : Prop := if mx = true then cmpV b a ≤ 0 else cmpV a b ≤ 0
theorem leB_refl (mx : Bool) (a : dValue) : leB mx a a := by unfold leB; rw [cmp_self]; split <;> exact Int.le_refl _
theorem leB_trans {mx : Bool} {a b c : dValue} (h1 : leB mx a b) (h2 : leB mx b c) : leB mx a c := by
  unfold leB at *
  cases mx with
  | true => rw [if_pos rfl] at *; exact cmp_trans h2 h1
  | false => rw [if_neg (by simp)] at *; exact cmp_trans h1 h2
theorem better_le {mx : Bool} {v b : dValue} : leB mx (bif betterB mx v b then v else b) v ∧ leB mx (bif betterB mx v b then v else b) b := by
  have ha := cmp_anti v b
  cases h : betterB mx v b with
  | true =>
    rw [cond_true]
    refine ⟨leB_refl _ _, ?_⟩
    unfold betterB at h
    unfold leB
    cases mx with
    | true => simp only [cond_true, decide_eq_true_eq] at h; rw [if_pos rfl]; omega
    | false => simp only [cond_false, decide_eq_true_eq] at h; rw [if_neg (by simp)]; omega
  | false =>
    rw [cond_false]
    refine ⟨?_, leB_refl _ _⟩
    unfold betterB at h
    unfold leB
    cases mx with
    | true => simp only [cond_true, decide_eq_false_iff_not] at h; rw [if_pos rfl]; omega
    | false => simp only [cond_false, decide_eq_false_iff_not] at h; rw [if_neg (by simp)]; omega
theorem best_spec (mx : Bool) : ∀ (l : List dValue) (b : dValue), bestV mx b l ∈ b :: l ∧ ∀ x ∈ b :: l, leB mx (bestV mx b l) x
  | [], b => ⟨by simp [bestV], fun x hx => by simp at hx; rw [hx]; exact leB_refl _ _⟩
  | v :: r, b => by
    obtain ⟨h1, h2⟩ := best_spec mx r (bif betterB mx v b then v else b)
    have hb := better_le (mx := mx) (v := v) (b := b)
    have h3 := h2 _ (List.mem_cons_self ..)
    refine ⟨?_, fun x hx => ?_⟩
    · show bestV mx (bif betterB mx v b then v else b) r ∈ _
      rcases List.mem_cons.1 h1 with h | h
      · rw [h]
        cases betterB mx v b <;> simp
      · simp [h]
    · show leB mx (bestV mx (bif betterB mx v b then v else b) r) x
      rcases List.mem_cons.1 hx with rfl | hx
      · exact leB_trans h3 hb.2
      · rcases List.mem_cons.1 hx with rfl | hx
        · exact leB_trans h3 hb.1
        · exact h2 x (by simp [hx])
theorem best_perm (mx : Bool) {a b : dValue} {l m : List dValue} (h : (a :: l).Perm (b :: m)) : cmpV (bestV mx a l) (bestV mx b m) = 0 := by
  obtain ⟨h1, h2⟩ := best_spec mx l a
  obtain ⟨h3, h4⟩ := best_spec mx m b
  have q1 := h2 _ (h.symm.subset h3)
  have q2 := h4 _ (h.subset h1)
  have ha := cmp_anti (bestV mx a l) (bestV mx b m)
  unfold leB at q1 q2
  cases mx with
  | true => rw [if_pos rfl] at q1 q2; omega
  | false => rw [if_neg (by simp)] at q1 q2; omega

/-! ### Sums -/
theorem sumZ_perm {l m : List dValue} (h : l.Perm m) : sumZ l = sumZ m := by
  induction h with
  | nil => rfl
  | cons x _ ih => simp only [sumZ, ih]
  | swap x y l => simp only [sumZ]; omega
  | trans _ _ h1 h2 => exact h1.trans h2
/-- Two words, the high one first, of a sum. -/
def wordsOf (s : Int) : Int × Int := (s / 18446744073709551616 % 18446744073709551616, s % 18446744073709551616)

/-! ### Other orders -/
theorem turn_perm {α : Type} (l : List α) (k : Nat) : (l.drop k ++ l.take k).Perm l := by
  have := List.perm_append_comm (l₁ := l.drop k) (l₂ := l.take k)
  rwa [List.take_append_drop] at this
theorem turn_get {α : Type} {l : List α} {k i : Nat} (hk : k < l.length) (hi : i < l.length) : (l.drop k ++ l.take k)[i]? = l[(i + k) % l.length]? := by
  rcases Nat.lt_or_ge (i + k) l.length with h | h
  · rw [Nat.mod_eq_of_lt h, List.getElem?_append_left (by simp; omega), List.getElem?_drop, Nat.add_comm]
  · rw [Nat.mod_eq_sub_mod h, Nat.mod_eq_of_lt (by omega), List.getElem?_append_right (by simp; omega), List.getElem?_take]
    simp only [List.length_drop]
    rw [if_pos (by omega)]
    congr 1
    omega

/-! ### Sums of two words -/
theorem bit63 (x : Nat) (h : x < 2 ^ 64) : x.testBit 63 = decide (2 ^ 63 ≤ x) := by
  rw [Nat.testBit_eq_decide_div_mod_eq]
  congr 1
  apply propext
  constructor <;> intro h2 <;> omega
/-- The carry of a sum of two words, as it is told by their bits. -/
theorem carry_bits (x y : BitVec 64) (c : Nat) (hc : c ≤ 1) :
    (((x &&& y) ||| ((x ||| y) &&& ~~~(x + y + BitVec.ofNat 64 c))) >>> 63).toNat = (x.toNat + y.toNat + c) / 2 ^ 64 := by
  have hx := x.isLt
  have hy := y.isLt
  generalize hz : x + y + BitVec.ofNat 64 c = z
  have hzn : z.toNat = (x.toNat + y.toNat + c) % 2 ^ 64 := by
    rw [← hz]; simp [BitVec.toNat_add]
  have hzl := z.isLt
  generalize hw : ((x &&& y) ||| ((x ||| y) &&& ~~~z)) = w
  have hwl := w.isLt
  have hb : w.getLsbD 63 = ((x.getLsbD 63 && y.getLsbD 63) || ((x.getLsbD 63 || y.getLsbD 63) && !z.getLsbD 63)) := by
    rw [← hw]; simp
  simp only [BitVec.getLsbD] at hb
  rw [bit63 _ hx, bit63 _ hy, bit63 _ hzl, bit63 _ hwl] at hb
  rw [BitVec.toNat_ushiftRight, Nat.shiftRight_eq_div_pow]
  have key : w.toNat / 2 ^ 63 = if 2 ^ 63 ≤ w.toNat then 1 else 0 := by
    split <;> omega
  rw [key]
  have hb' : (2 ^ 63 ≤ w.toNat) ↔ ((2 ^ 63 ≤ x.toNat ∧ 2 ^ 63 ≤ y.toNat) ∨ ((2 ^ 63 ≤ x.toNat ∨ 2 ^ 63 ≤ y.toNat) ∧ ¬ 2 ^ 63 ≤ z.toNat)) := by
    rw [← decide_eq_true_iff (p := 2 ^ 63 ≤ w.toNat), hb]
    simp
  by_cases hq : 2 ^ 63 ≤ w.toNat
  · rw [if_pos hq]
    have := hb'.1 hq
    omega
  · rw [if_neg hq]
    have : ¬ _ := fun h => hq (hb'.2 h)
    omega
theorem words_step (s n : Int) (h1 : -9223372036854775808 ≤ n) (h2 : n ≤ 9223372036854775807) :
    wordsOf (s + n) = (((wordsOf s).1 + (if n < 0 then 18446744073709551615 else 0) + ((wordsOf s).2 + n % 18446744073709551616) / 18446744073709551616) % 18446744073709551616, ((wordsOf s).2 + n % 18446744073709551616) % 18446744073709551616) := by
  unfold wordsOf
  simp only
  refine Prod.ext ?_ ?_
  · simp only
    split <;> omega
  · simp only
    omega
end Go.Proofs.YtiolbhmbobelcaaGreatDoor.AI
/- What is made of some values, and in whatever order: a plain law. -/
set_option linter.unusedVariables false
set_option linter.unusedSimpArgs false
namespace Go.Proofs.YtiolbhmbobelcaaGreatDoor.AI
open Go

theorem all_perm {α : Type} {p : α → Bool} {l m : List α} (h : l.Perm m) : l.all p = m.all p := by
  rw [Bool.eq_iff_iff, List.all_eq_true, List.all_eq_true]
  exact ⟨fun a x hx => a x (h.symm.subset hx), fun a x hx => a x (h.subset hx)⟩
theorem find_none {l : List dValue} (hc : ∀ v ∈ l, checkV v = 0) : l.find? (fun v => checkV v != 0) = none := by
  rw [List.find?_eq_none]
  intro v hv
  simp [hc v hv]
theorem sum_turn (av : Bool) {l m : List dValue} (h : l.Perm m) : (sumS av l).2 = (sumS av m).2 ∧ (allInt l = true → sumS av l = sumS av m) := by
  unfold sumS
  have h1 : allNum l = allNum m := all_perm h
  have h2 : allInt l = allInt m := all_perm h
  rw [h1, h2, sumZ_perm h, h.length_eq]
  cases allNum m <;> cases allInt m <;> cases okI (sumZ m) <;> cases av <;> simp
theorem live_int {l : List dValue} (h : ∀ v ∈ l, v.1 = 2 ∨ v.1 = 0) : allInt (liveL l) = true := by
  unfold allInt liveL
  rw [List.all_eq_true]
  intro v hv
  rw [List.mem_filter] at hv
  rcases h v hv.1 with e | e
  · simp [e]
  · simp [e] at hv
theorem head_turn {what : Int} {l m : List dValue} (h : l.Perm m) : (headS what l).2 = (headS what m).2 ∧ (allInt l = true ∨ what = 3 ∨ what = 4 → cmpV (headS what l).1 (headS what m).1 = 0) := by
  cases l with
  | nil => rw [h.nil_eq]; exact ⟨rfl, fun _ => cmp_self _⟩
  | cons a l =>
    cases m with
    | nil => exact absurd h.length_eq (by simp)
    | cons b m =>
      unfold headS
      cases hw : (what == 2 || what == 5) with
      | true =>
        simp only [cond_true]
        refine ⟨(sum_turn _ h).1, fun q => ?_⟩
        rcases q with q | q | q
        · rw [(sum_turn _ h).2 q]; exact cmp_self _
        · rw [q] at hw; cases hw
        · rw [q] at hw; cases hw
      | false =>
        simp only [cond_false]
        exact ⟨trivial, fun _ => best_perm _ h⟩
theorem fold_turn {what : Int} {l m : List dValue} (h : l.Perm m) (hc : ∀ v ∈ l, checkV v = 0) :
    (foldS what l).2 = (foldS what m).2 ∧ ((∀ v ∈ l, v.1 = 2 ∨ v.1 = 0) ∨ what = 1 ∨ what = 3 ∨ what = 4 → cmpV (foldS what l).1 (foldS what m).1 = 0) := by
  have hl : (liveL l).Perm (liveL m) := h.filter _
  unfold foldS
  rw [find_none hc, find_none (fun v hv => hc v (h.symm.subset hv)), hl.length_eq]
  cases (decide (what < 1) || decide (what > 5)) with
  | true => exact ⟨rfl, fun _ => cmp_self _⟩
  | false =>
    rw [cond_false, cond_false]
    cases h1 : what == 1 with
    | true => exact ⟨rfl, fun _ => cmp_self _⟩
    | false =>
      show (headS what (liveL l)).2 = (headS what (liveL m)).2 ∧ _
      refine ⟨(head_turn hl).1, fun q => (head_turn hl).2 ?_⟩
      rcases q with q | q | q
      · exact .inl (live_int q)
      · simp [q] at h1
      · exact .inr q
end Go.Proofs.YtiolbhmbobelcaaGreatDoor.AI
/- Lists that are turned and swapped; sums of two words as ints: plain laws. -/
set_option linter.unusedVariables false
set_option linter.unusedSimpArgs false
namespace Go.Proofs.YtiolbhmbobelcaaGreatDoor.AI
open Go

/-! ### The law's other order -/
def turnL {α : Type} (l : List α) (b : Nat) : List α := l.drop (b % l.length) ++ l.take (b % l.length)
theorem turnL_perm {α : Type} (l : List α) (b : Nat) : (turnL l b).Perm l := turn_perm l _
theorem turnL_len {α : Type} (l : List α) (b : Nat) : (turnL l b).length = l.length := (turnL_perm l b).length_eq
theorem turn_step {α : Type} {l : List α} {b i : Nat} (hi : i < l.length) (d : α) : (turnL l b).take (i + 1) = (turnL l b).take i ++ [l.getD ((i + b) % l.length) d] := by
  have hk : b % l.length < l.length := Nat.mod_lt _ (by omega)
  have hg := turn_get (l := l) hk hi
  have hm : (i + b % l.length) % l.length = (i + b) % l.length := by rw [Nat.add_mod_mod]
  rw [hm] at hg
  have hj : (i + b) % l.length < l.length := Nat.mod_lt _ (by omega)
  rw [List.take_add_one]
  show _ ++ ((turnL l b)[i]?).toList = _
  rw [show (turnL l b)[i]? = l[(i + b) % l.length]? from hg, List.getElem?_eq_getElem hj, List.getD_eq_getElem?_getD, List.getElem?_eq_getElem hj]
  rfl
theorem tmod_at (i b n : Nat) : Int.tmod ((i : Int) + (b : Int)) (n : Int) = (((i + b) % n : Nat) : Int) := by
  rw [← Int.natCast_add, ← Int.ofNat_tmod]
theorem swap_perm {α : Type} {m : List α} {i j : Nat} (hi : i < m.length) (hj : j < m.length) (d : α) : ((m.set i (m.getD j d)).set j (m.getD i d)).Perm m := by
  rw [List.getD_eq_getElem?_getD, List.getD_eq_getElem?_getD, List.getElem?_eq_getElem hi, List.getElem?_eq_getElem hj]
  exact List.set_set_perm hi hj

/-! ### The sum as an int -/
theorem sum_bound : ∀ l : List dValue, (∀ v ∈ l, okI v.2.1 = true) → -((l.length : Int) * 9223372036854775808) ≤ sumZ l ∧ sumZ l ≤ (l.length : Int) * 9223372036854775807
  | [], _ => by simp [sumZ]
  | v :: r, h => by
    have ih := sum_bound r (fun x hx => h x (by simp [hx]))
    have hv := h v (by simp)
    unfold okI at hv
    rw [Bool.and_eq_true, decide_eq_true_eq, decide_eq_true_eq] at hv
    simp only [sumZ, List.length_cons, Int.natCast_add, Int.natCast_one]
    omega
theorem wrap_lo {s : Int} : IntKind.wrap .i64 (wordsOf s).2 = if s % 18446744073709551616 < 9223372036854775808 then s % 18446744073709551616 else s % 18446744073709551616 - 18446744073709551616 := by
  unfold wordsOf
  rw [IntKind.wrap_i64]
  simp only
  split <;> omega
/-- Whether the words are those of an int, and of which. -/
theorem words_int {s : Int} (h1 : -170141183460469231731687303715884105728 ≤ s) (h2 : s < 170141183460469231731687303715884105728) :
    ((wordsOf s).1 == (if IntKind.wrap .i64 (wordsOf s).2 < 0 then 18446744073709551615 else 0)) = okI s ∧ (okI s = true → IntKind.wrap .i64 (wordsOf s).2 = s) := by
  rw [wrap_lo]
  unfold wordsOf okI
  simp only
  refine ⟨?_, fun h => ?_⟩
  · rw [Bool.eq_iff_iff, beq_iff_eq, Bool.and_eq_true, decide_eq_true_eq, decide_eq_true_eq]
    have e1 := Int.emod_add_mul_ediv s 18446744073709551616
    have e2 := Int.emod_nonneg s (show (18446744073709551616 : Int) ≠ 0 by decide)
    have e3 := Int.emod_lt_of_pos s (show (0 : Int) < 18446744073709551616 by decide)
    generalize s % 18446744073709551616 = lo at *
    generalize hq : s / 18446744073709551616 = q at *
    have e4 : -9223372036854775808 ≤ q ∧ q < 9223372036854775808 := by omega
    have e5 : q % 18446744073709551616 = if q < 0 then q + 18446744073709551616 else q := by split <;> omega
    rw [e5]
    by_cases hl : lo < 9223372036854775808
    · rw [if_pos hl, if_neg (show ¬ lo < 0 by omega)]
      split <;> omega
    · rw [if_neg hl, if_pos (show lo - 18446744073709551616 < 0 by omega)]
      split <;> omega
  · rw [Bool.and_eq_true, decide_eq_true_eq, decide_eq_true_eq] at h
    split <;> omega
end Go.Proofs.YtiolbhmbobelcaaGreatDoor.AI
/- The walks of cursor.Fold and of its sums; of the reference's Fold at nothing; of the two laws. -/
set_option linter.unusedVariables false
set_option linter.unusedSimpArgs false
namespace Go.Proofs.YtiolbhmbobelcaaGreatDoor.AI
open Go

theorem bifG_some {α : Type} {c : Bool} {x y : α} (h : bifG c x = some y) : c = true ∧ x = y := by
  cases c with
  | true => exact ⟨rfl, Option.some.inj h⟩
  | false => cases h
theorem bifG_true {α : Type} {c : Bool} {x : α} (h : c = true) : bifG c x = some x := by rw [h]; rfl
theorem okZ_V {v : dValue} (h : okZ v = true) : okV v = true := by
  unfold okZ at h
  rw [Bool.and_eq_true] at h
  exact h.1
theorem okZ_I {v : dValue} (h : okZ v = true) : okI v.2.1 = true := by
  unfold okZ at h
  rw [Bool.and_eq_true, Bool.and_eq_true] at h
  exact h.2.1

/-! ### A number as a float -/
theorem spec31 : ∀ X Y, F31 X = some Y → ∃ n, f31.g n X = some Y := by
  intro x y h
  obtain ⟨hc, rfl⟩ := bifG_some h
  rw [Bool.and_eq_true, Bool.and_eq_true] at hc
  obtain ⟨hk, hz, ho⟩ := hc
  have hz' : checkV x = 0 := by simpa using hz
  refine ⟨0, ?_⟩
  simp only [f31.g, F15_some (okZ_V ho), Option.bind_some, hz']
  unfold numK at hk
  unfold asF
  rw [Bool.or_eq_true, beq_iff_eq, beq_iff_eq] at hk
  rcases hk with e | e
  · simp [e]
  · simp [e]
theorem con31_ok : ConOk Tryz.prog 31 con31 := f31.ok spec31 con15_ok con52_ok con85_ok
theorem F31_some {x : dValue} (h1 : numK x.1 = true) (h2 : checkV x = 0) (h3 : okZ x = true) : F31 x = some (asF x) := by
  unfold F31
  rw [h1, h2, h3]; rfl

/-! ### The sum of some numbers -/
theorem nanF : F66 (9221120237041090560 : Int) = some nanN := rfl
theorem zero_ne : (FloatKind.f64.format.order 0 0 != some .eq) = false := zero_zero
/-- A float as a value: a number, or what is none. -/
theorem flt_out (o : Option Nat) :
    (fltB o (fun r => bif FloatKind.f64.format.order r r != some .eq then
        (bif FloatKind.f64.format.order r 0 == some .eq then
          (bif FloatKind.f64.format.order 0 0 != some .eq then
            ((F66 (9221120237041090560 : Int)).bind fun r5 => some (((3 : Int), ((0 : Int), (r5, (⟨#[]⟩ : ByteArray)))), (0 : Int)))
          else
            (some (((3 : Int), ((0 : Int), (0, (⟨#[]⟩ : ByteArray)))), (0 : Int))))
        else
          (bif FloatKind.f64.format.order r r != some .eq then
            ((F66 (9221120237041090560 : Int)).bind fun r6 => some (((3 : Int), ((0 : Int), (r6, (⟨#[]⟩ : ByteArray)))), (0 : Int)))
          else
            (some (((3 : Int), ((0 : Int), (r, (⟨#[]⟩ : ByteArray)))), (0 : Int)))))
      else
        (some (((3 : Int), ((0 : Int), (r, (⟨#[]⟩ : ByteArray)))), (0 : Int))))
      ((F66 (9221120237041090560 : Int)).bind fun r7 => some (((3 : Int), ((0 : Int), (r7, (⟨#[]⟩ : ByteArray)))), (0 : Int)))) = some (fltV' o, (0 : Int)) := by
  cases o with
  | none => rw [nanF]; rfl
  | some r =>
    rw [nanF, zero_ne]
    show (bif FloatKind.f64.format.order r r != some .eq then _ else _) = some (bif fo r r != some .eq then plainD _ else _, 0)
    cases h1 : (FloatKind.f64.format.order r r != some .eq) with
    | false =>
      have h1' : (fo r r != some .eq) = false := h1
      rw [h1']; rfl
    | true =>
      have h1' : (fo r r != some .eq) = true := h1
      unfold plainD
      simp only [h1']
      cases h2 : (FloatKind.f64.format.order r 0 == some .eq) with
      | false =>
        have h2' : (fo r 0 == some .eq) = false := h2
        rw [h2']; rfl
      | true =>
        have h2' : (fo r 0 == some .eq) = true := h2
        rw [h2']; rfl
theorem flt_one (r : Nat) :
    (bif FloatKind.f64.format.order r r != some .eq then
        (bif FloatKind.f64.format.order r 0 == some .eq then
          (bif FloatKind.f64.format.order 0 0 != some .eq then
            ((F66 (9221120237041090560 : Int)).bind fun r5 => some (((3 : Int), ((0 : Int), (r5, (⟨#[]⟩ : ByteArray)))), (0 : Int)))
          else
            (some (((3 : Int), ((0 : Int), (0, (⟨#[]⟩ : ByteArray)))), (0 : Int))))
        else
          (bif FloatKind.f64.format.order r r != some .eq then
            ((F66 (9221120237041090560 : Int)).bind fun r6 => some (((3 : Int), ((0 : Int), (r6, (⟨#[]⟩ : ByteArray)))), (0 : Int)))
          else
            (some (((3 : Int), ((0 : Int), (r, (⟨#[]⟩ : ByteArray)))), (0 : Int)))))
      else
        (some (((3 : Int), ((0 : Int), (r, (⟨#[]⟩ : ByteArray)))), (0 : Int)))) = some (fltV' (some r), (0 : Int)) := flt_out (some r)
theorem nan_out : ((F66 (9221120237041090560 : Int)).bind fun r7 => some (((3 : Int), ((0 : Int), (r7, (⟨#[]⟩ : ByteArray)))), (0 : Int))) = some (fltV' none, (0 : Int)) := flt_out none

/-- The floats, one behind the other. -/
theorem real_loop {x : List dValue × Bool} {y1 : Bool × Int × Int × Int} {r10 : Nat} {n m : Nat} (ho : okB 40 x.1 = true) (hn : ∀ v ∈ x.1, numK v.1 = true ∧ checkV v = 0 ∧ okZ v = true) (hm : x.1.length < m) :
    iter (f16.s1 n x y1 r10) m (some r10, (0 : Int)) = some (avgV x.2 (totO (some r10) (x.1.drop 1)) x.1.length, 0) := by
  have hl := okB_len (by decide) ho
  have hd : (x.1.drop 1).length ≤ x.1.length := by simp
  exact iter_all (step := f16.s1 n x y1 r10) (x.1.drop 1) (fun i (o : Option Nat) => (o, (i : Int))) (fun _ _ => True) (fun i o r => some (avgV x.2 (totO o r) x.1.length, 0))
    (fun S o _ => by
      unfold f16.s1
      simp only [at_end, cond_false, totO, avgV]
      cases o with
      | none =>
        simp only [fltB, nan_out]
        cases x.2 <;> rfl
      | some r =>
        simp only [fltB]
        cases x.2 with
        | false => simp only [cond_false]; exact flt_one r
        | true => simp only [cond_true]; exact flt_out _)
    (fun S i o v r hi hv hr _ ih => by
      unfold f16.s1
      have hmem : v ∈ x.1 := List.mem_of_mem_drop (List.mem_of_getElem? hv)
      obtain ⟨q1, q2, q3⟩ := hn v hmem
      simp only [at_lt hi, at_ge, Bool.and_true, cond_true, at_get hv, F31_some q1 q2 q3, Option.bind_some, nx (i := i) (by omega), totO, addO]
      cases o with
      | none => simp only [fltB]; exact ih none trivial
      | some a =>
        simp only [fltB]
        cases FloatKind.f64.format.add a (asF v) with
        | none => exact ih none trivial
        | some b => exact ih (some b) trivial)
    m (by omega) (some r10) trivial

theorem shr63 {v : Int} (h1 : -9223372036854775808 ≤ v) (h2 : v ≤ 9223372036854775807) : IntKind.wrap .u64 (shiftI .shr .i64 v (63 : Int)) = if v < 0 then 18446744073709551615 else 0 := by
  have e : shiftI .shr .i64 v (63 : Int) = v.fdiv 9223372036854775808 := rfl
  rw [e]
  have h3 : v.fdiv 9223372036854775808 = if v < 0 then -1 else 0 := by
    rw [Int.fdiv_eq_ediv_of_nonneg _ (by decide)]
    split <;> omega
  rw [h3]
  split <;> rfl
theorem wrap_u64 (v : Int) : IntKind.wrap .u64 v = v % 18446744073709551616 := by
  simp [IntKind.wrap, IntKind.min, IntKind.max, IntKind.signed, IntKind.bits]
theorem words_range (s : Int) : 0 ≤ (wordsOf s).1 ∧ (wordsOf s).1 < 18446744073709551616 ∧ 0 ≤ (wordsOf s).2 ∧ (wordsOf s).2 < 18446744073709551616 := by
  unfold wordsOf
  simp only
  omega
theorem add_some {a b c : Int} (h1 : 0 ≤ a) (h2 : 0 ≤ b) (h3 : 0 ≤ c) (h4 : c ≤ 1) : F49 (a, (b, c)) = some ((a + b + c) % 18446744073709551616, (a + b + c) / 18446744073709551616) := by
  unfold F49 addB addW
  rw [decide_eq_true h1, decide_eq_true h2, decide_eq_true h3, decide_eq_true h4]; rfl
theorem wrap64_range (v : Int) : -9223372036854775808 ≤ IntKind.wrap .i64 v ∧ IntKind.wrap .i64 v ≤ 9223372036854775807 := by
  rw [IntKind.wrap_i64]
  omega

/-- What stands behind the loop. -/
def sumE (x : List dValue × Bool) (ints : Bool) : dValue × Int :=
  bif ints then (bif !okI (sumZ x.1) then (zeroV, 152) else bif x.2 then (avgV true (some (FloatKind.f64.nearest (sumZ x.1))) x.1.length, 0) else (intV (sumZ x.1), 0))
  else (avgV x.2 (totF x.1) x.1.length, 0)
def SumI (l : List dValue) (i : Nat) (a : Bool × Int × Int) : Prop :=
  (l.take i).all (fun v => numK v.1) = true ∧ ∃ s : Int, a.2 = wordsOf s ∧ (a.1 = true → s = sumZ (l.take i))
theorem sumZ_append : ∀ (l m : List dValue), sumZ (l ++ m) = sumZ l + sumZ m
  | [], m => by simp [sumZ]
  | v :: l, m => by simp only [List.cons_append, sumZ, sumZ_append l m]; omega

theorem sum_loop {x : List dValue × Bool} {n : Nat} (ho : okL' x.1 = true) (hc : ∀ v ∈ x.1, checkV v = 0) (he : x.1.isEmpty = false) (hn : x.1.length < n) :
    f16.g n x = some (sumS x.2 x.1) := by
  unfold okL' at ho
  rw [Bool.and_eq_true, List.all_eq_true] at ho
  obtain ⟨hb, hz⟩ := ho
  have hl := okB_len (by decide) hb
  have hpos : 0 < x.1.length := by
    cases hx : x.1 with
    | nil => rw [hx] at he; cases he
    | cons a r => simp
  unfold f16.g
  have key := iter_all (step := f16.s2 n x) x.1 (fun i (a : Bool × Int × Int) => (a.1, ((i : Int), (a.2.1, a.2.2)))) (SumI x.1)
    (fun i a r => some (bif r.all (fun v => numK v.1) then sumE x (a.1 && r.all (fun v => v.1 == 2)) else (zeroV, 151)))
    (fun S a hI => by
      obtain ⟨hnum, s, hs, hsum⟩ := hI
      rw [List.take_length] at hnum hsum
      unfold f16.s2
      simp only [at_end, cond_false, List.all_nil, cond_true, Bool.and_true]
      obtain ⟨b, w⟩ := a
      simp only at hs hsum
      subst hs
      cases b with
      | true =>
        have hs : s = sumZ x.1 := hsum rfl
        subst hs
        obtain ⟨s1, s2⟩ := sum_bound x.1 (fun v hv => okZ_I (hz v hv))
        have w1 := wrap64_range (wordsOf (sumZ x.1)).2
        obtain ⟨g1, g2⟩ := words_int (s := sumZ x.1) (by omega) (by omega)
        simp only [cond_true, shr63 w1.1 w1.2, g1, sumE]
        cases hk : okI (sumZ x.1) with
        | false => rfl
        | true =>
          simp only [Bool.not_true, cond_false, g2 hk]
          cases x.2 with
          | false => rfl
          | true =>
            simp only [Bool.not_true, cond_false, cond_true]
            exact flt_out _
      | false =>
        have hh : x.1 = x.1.getD 0 tValue.dflt :: x.1.drop 1 := by
          cases hx : x.1 with
          | nil => rw [hx] at hpos; exact absurd hpos (by simp)
          | cons v r => rfl
        have h0 : x.1.getD 0 tValue.dflt ∈ x.1 := by rw [hh]; simp
        have hnm := List.all_eq_true.1 hnum
        have ht : totF x.1 = totO (some (asF (x.1.getD 0 tValue.dflt))) (x.1.drop 1) := by
          rw [hh]; rfl
        simp only [cond_false, sumE]
        rw [decide_eq_true (show (0 : Int) < (x.1.length : Int) by omega), decide_eq_true (show (1 : Int) ≤ (x.1.length : Int) by omega), F31_some (hnm _ h0) (hc _ h0) (hz _ h0), ht]
        exact real_loop hb (fun v hv => ⟨hnm v hv, hc v hv, hz v hv⟩) hn)
    (fun S i a v r hi hv hr hI ih => by
      obtain ⟨hnum, s, hs, hsum⟩ := hI
      have hmem : v ∈ x.1 := List.mem_of_getElem? hv
      have hvi := okZ_I (hz v hmem)
      unfold okI at hvi
      rw [Bool.and_eq_true, decide_eq_true_eq, decide_eq_true_eq] at hvi
      unfold f16.s2
      simp only [at_lt hi, at_ge, Bool.and_true, cond_true, at_get hv, nx (i := i) (by omega)]
      obtain ⟨b, w⟩ := a
      simp only at hs hsum
      subst hs
      obtain ⟨r1, r2, r3, r4⟩ := words_range s
      have ht : x.1.take (i + 1) = x.1.take i ++ [v] := (take_next hv).symm
      cases h2 : v.1 == 2 with
      | true =>
        have hnv : numK v.1 = true := by unfold numK; rw [h2]; rfl
        have hw : 0 ≤ v.2.1 % 18446744073709551616 := by omega
        rw [wrap_u64, shr63 hvi.1 hvi.2, add_some r3 hw (by decide) (by decide)]
        simp only [cond_true, Option.bind_some]
        rw [add_some r1 (by split <;> decide) (by omega) (by omega)]
        simp only [Option.bind_some]
        have hst := words_step s v.2.1 hvi.1 hvi.2
        have hgo := ih (b, wordsOf (s + v.2.1)) ⟨by rw [ht, List.all_append, hnum]; simp [hnv], s + v.2.1, rfl, fun hb => by rw [ht, sumZ_append, hsum hb]; simp [sumZ]⟩
        simp only [List.all_cons, hnv, h2, Bool.true_and]
        rw [← hgo, hst]
        simp only [Int.add_zero]
      | false =>
        simp only [cond_false]
        cases h3 : v.1 == 3 with
        | true =>
          have hnv : numK v.1 = true := by unfold numK; rw [h3]; simp
          simp only [cond_true, List.all_cons, hnv, h2, Bool.true_and, Bool.false_and, Bool.and_false]
          have hgo := ih (false, wordsOf s) ⟨by rw [ht, List.all_append, hnum]; simp [hnv], s, rfl, fun hb => by cases hb⟩
          simp only [Bool.false_and] at hgo
          exact hgo
        | false =>
          have hnv : numK v.1 = false := by unfold numK; rw [h2, h3]; rfl
          simp only [cond_false, List.all_cons, hnv, Bool.false_and]
          rfl)
    n hn (true, (0, 0)) ⟨rfl, 0, by decide, fun _ => rfl⟩
  refine key.trans ?_
  unfold sumS sumE allNum allInt
  cases x.1.all (fun v => numK v.1) with
  | false => rfl
  | true => simp only [cond_true, Bool.not_true, cond_false, Bool.true_and]
theorem spec16 : ∀ X Y, F16 X = some Y → ∃ n, f16.g n X = some Y := by
  intro x y h
  obtain ⟨hc, rfl⟩ := bifG_some h
  rw [Bool.and_eq_true, Bool.and_eq_true] at hc
  obtain ⟨h1, h2, h3⟩ := hc
  exact ⟨x.1.length + 1, sum_loop h1 (fun v hv => by simpa using List.all_eq_true.1 h2 v hv) (by simpa using h3) (by omega)⟩
theorem con16_ok : ConOk Tryz.prog 16 con16 := f16.ok spec16 con31_ok con49_ok con66_ok
theorem F16_some {l : List dValue} {av : Bool} (h1 : okL' l = true) (h2 : ∀ v ∈ l, checkV v = 0) (h3 : l.isEmpty = false) : F16 (l, av) = some (sumS av l) := by
  unfold F16
  exact bifG_true (by rw [h1, h3, List.all_eq_true.2 (fun v hv => by rw [h2 v hv]; rfl)]; rfl)

/-! ### Fold -/
theorem best_loop {x : Int × List dValue} {y1 : Nat × Int × List dValue} {n m : Nat} {l : List dValue} {b0 : dValue} (hx : x.1 = 3 ∨ x.1 = 4) (hl : List.drop 1 (List.take y1.1 y1.2.2) = l) (hlen : l.length ≤ 140737488355328) (hm : l.length < m) :
    iter (f7.s1 n x y1) m ((0 : Int), b0) = some (bestV (x.1 == 4) b0 l, 0) :=
  iter_all (step := f7.s1 n x y1) l (fun i (b : dValue) => ((i : Int), b)) (fun _ _ => True) (fun i b r => some (bestV (x.1 == 4) b r, 0))
    (fun S b _ => by
      unfold f7.s1
      simp only [hl, at_end, cond_false, bestV])
    (fun S i b v r hi hv hr _ ih => by
      unfold f7.s1
      simp only [hl, at_lt hi, at_ge, Bool.and_true, cond_true, at_get hv, F17, Option.bind_some, nx (i := i) (by omega), bestV, betterB]
      rcases hx with e | e
      · rw [e]
        simp only [show ((3 : Int) == 3) = true from rfl, show ((3 : Int) == 4) = false from rfl, cond_true, cond_false]
        cases decide (cmpV v b < 0) with
        | true => exact (ih v trivial).trans (by rw [e]; rfl)
        | false => exact (ih b trivial).trans (by rw [e]; rfl)
      · rw [e]
        simp only [show ((4 : Int) == 3) = false from rfl, show ((4 : Int) == 4) = true from rfl, cond_true, cond_false]
        cases decide (cmpV v b > 0) with
        | true => exact (ih v trivial).trans (by rw [e]; rfl)
        | false => exact (ih b trivial).trans (by rw [e]; rfl))
    m hm b0 trivial
def foldE (what : Int) (m : List dValue) : dValue × Int := bif what == 1 then (intV m.length, 0) else headS what m
theorem okB_filter {l : List dValue} (h : okB 40 l = true) (p : dValue → Bool) : okB 40 (l.filter p) = true := by
  have := List.length_filter_le p l
  have h1 := okB_iff.1 h
  refine okB_iff.2 (Nat.le_trans (Nat.mul_le_mul_right _ this) h1)
theorem live_take {l : List dValue} {i : Nat} {v : dValue} (hv : l[i]? = some v) : liveL (l.take (i + 1)) = liveL (l.take i) ++ (bif v.1 != 0 then [v] else []) := by
  rw [← take_next hv]
  unfold liveL
  rw [List.filter_append]
  congr 1
theorem fold_loop {x : Int × List dValue} {n : Nat} (ho : okL' x.2 = true) (hn : x.2.length < n) : f7.g n x = some (foldS x.1 x.2) := by
  unfold okL' at ho
  rw [Bool.and_eq_true, List.all_eq_true] at ho
  obtain ⟨hb, hz⟩ := ho
  have hl := okB_len (by decide) hb
  unfold f7.g foldS
  have hbif : (bif decide (x.1 < (1 : Int)) then true else decide (x.1 > (5 : Int))) = (decide (x.1 < 1) || decide (x.1 > 5)) := by cases decide (x.1 < (1 : Int)) <;> rfl
  rw [hbif]
  cases hw : decide (x.1 < 1) || decide (x.1 > 5) with
  | true => rfl
  | false =>
    rw [Bool.or_eq_false_iff, decide_eq_false_iff_not, decide_eq_false_iff_not] at hw
    simp only [cond_false]
    have key := iter_all (step := f7.s2 n x) x.2 (fun i (a : List dValue) => (a.length, ((i : Int), a))) (fun i a => a = liveL (x.2.take i) ∧ ∀ v ∈ x.2.take i, checkV v = 0)
      (fun i a r => some (match r.find? (fun v => checkV v != 0) with
        | some v => (zeroV, checkV v)
        | none => foldE x.1 (a ++ liveL r)))
      (fun S a hI => by
        obtain ⟨ha, hck⟩ := hI
        rw [List.take_length] at ha hck
        have hlen : a.length ≤ x.2.length := by rw [ha]; exact List.length_filter_le _ _
        have hza : ∀ v ∈ a, okZ v = true := fun v hv => hz v (by rw [ha] at hv; exact (List.mem_filter.1 hv).1)
        have hca : ∀ v ∈ a, checkV v = 0 := fun v hv => hck v (by rw [ha] at hv; exact (List.mem_filter.1 hv).1)
        have hba : okB 40 a = true := by rw [ha]; exact okB_filter hb _
        unfold f7.s2
        simp only [at_end, cond_false, List.find?_nil, foldE]
        have hnil : a ++ liveL [] = a := by unfold liveL; simp
        rw [hnil]
        cases h1 : x.1 == 1 with
        | true => rfl
        | false =>
          simp only [cond_false]
          cases a with
          | nil => rfl
          | cons b r =>
            have e0 : ((((b :: r).length : Nat) : Int) == (0 : Int)) = false := by simp; omega
            have hE : (bif (x.1 == (2 : Int)) then true else (x.1 == (5 : Int))) = (x.1 == 2 || x.1 == 5) := by cases x.1 == 2 <;> rfl
            rw [e0, hE]
            simp only [cond_false, headS, List.take_length]
            cases h2 : (x.1 == 2 || x.1 == 5) with
            | true =>
              simp only [cond_true]
              rw [F16_some (by unfold okL'; rw [hba, List.all_eq_true.2 hza]; rfl) hca rfl]
              rfl
            | false =>
              have h34 : x.1 = 3 ∨ x.1 = 4 := by
                rw [Bool.or_eq_false_iff] at h2
                simp at h1 h2
                omega
              simp only [cond_false]
              rw [decide_eq_true (show (0 : Int) < (((b :: r).length : Nat) : Int) by simp only [List.length_cons]; omega), decide_eq_true (show (1 : Int) ≤ (((b :: r).length : Nat) : Int) by simp only [List.length_cons]; omega)]
              simp only [List.length_cons] at hlen
              exact best_loop (n := n) (l := r) (b0 := b) h34 (by simp) (by omega) (by omega))
      (fun S i a v r hi hv hr hI ih => by
        obtain ⟨ha, hck⟩ := hI
        have hmem : v ∈ x.2 := List.mem_of_getElem? hv
        have hlen : a.length ≤ i := by
          rw [ha]
          exact Nat.le_trans (List.length_filter_le _ _) (by simp; omega)
        unfold f7.s2
        simp only [at_lt hi, at_ge, Bool.and_true, cond_true, at_get hv, F15_some (okZ_V (hz v hmem)), Option.bind_some, nx (i := i) (by omega), List.find?_cons]
        cases hcv : checkV v != 0 with
        | true => rfl
        | false =>
          have hcv0 : checkV v = 0 := by simpa using hcv
          have hck' : ∀ u ∈ x.2.take (i + 1), checkV u = 0 := fun u hu => by
            rw [← take_next hv, List.mem_append, List.mem_singleton] at hu
            rcases hu with h | h
            · exact hck u h
            · rw [h]; exact hcv0
          simp only [cond_false]
          cases hk : v.1 != 0 with
          | true =>
            have hbd : (a.length + 1) * 40 ≤ boundN := by
              have h1 := okB_iff.1 hb
              have h2 : (a.length + 1) * 40 ≤ x.2.length * 40 := Nat.mul_le_mul_right _ (by omega)
              exact Nat.le_trans h2 h1
            have hgo := ih (a ++ [v]) ⟨by rw [live_take hv, hk, ha]; rfl, hck'⟩
            simp only [cond_true, decide_eq_true hbd, List.take_length]
            simp only [List.length_append, List.length_singleton] at hgo
            refine hgo.trans ?_
            have : liveL (v :: r) = v :: liveL r := by unfold liveL; rw [List.filter_cons]; simp only [hk, if_true]
            rw [this, List.append_assoc]; rfl
          | false =>
            have hgo := ih a ⟨by rw [live_take hv, hk, ha]; simp, hck'⟩
            simp only [cond_false]
            refine hgo.trans ?_
            have : liveL (v :: r) = liveL r := by unfold liveL; rw [List.filter_cons]; simp only [hk]; rfl
            rw [this])
      n hn [] ⟨rfl, by simp⟩
    refine key.trans ?_
    rw [List.nil_append]
    rfl
theorem F7_some {x : Int × List dValue} (h : okL' x.2 = true) : F7 x = some (foldS x.1 x.2) := bifG_true h
theorem con7_ok : ConOk Tryz.prog 7 con7 := f7.ok (fun x y h => by
  obtain ⟨h1, rfl⟩ := bifG_some h
  exact ⟨x.2.length + 1, fold_loop h1 (by omega)⟩) con15_ok con16_ok con17_ok
theorem con6_ok : ConOk Tryz.prog 6 con6 := f6.ok (fun x y h => by
  cases h
  refine ⟨0, ?_⟩
  unfold f6.g
  rw [F7_some (by kernel_rfl)]
  kernel_rfl) con7_ok
end Go.Proofs.YtiolbhmbobelcaaGreatDoor.AI
