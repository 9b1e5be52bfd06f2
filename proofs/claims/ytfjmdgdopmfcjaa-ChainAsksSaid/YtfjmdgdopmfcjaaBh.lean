/- The plain laws of the runs: intents. -/
import Derived.Test.YtfjmdgdopmfcjaaBg
set_option linter.unusedVariables false
set_option linter.unusedSimpArgs false
namespace Go.Proofs.Ytfjmdgdopmfcjaa.AI
open Go

theorem spec56a : ∀ X Y, F56a X = some Y → ∃ n, f56a.g n X = some Y := by
  intro x y h
  obtain ⟨ho, rfl⟩ := some_bif h
  refine ⟨x.1.length + 1, idx_loop _ (fun S => ?_) (fun S i v hi hv => ?_)⟩
  · simp only [f56a.s1, at_end, cond_false]
  · simp only [f56a.s1, at_lt hi, at_ge, at_get hv, at_next ho hi, Bool.and_self, cond_true]
theorem spec56b : ∀ X Y, F56b X = some Y → ∃ n, f56b.g n X = some Y := by
  intro x y h
  obtain ⟨ho, rfl⟩ := some_bif h
  refine ⟨x.1.length + 1, idx_loop _ (fun S => ?_) (fun S i v hi hv => ?_)⟩
  · simp only [f56b.s1, at_end, cond_false]
  · simp only [f56b.s1, at_lt hi, at_ge, at_get hv, at_next ho hi, Bool.and_self, cond_true]
theorem con56_ok : ConOk Try.prog 56 con56 := orCon_ok (f56a.ok spec56a) (f56b.ok spec56b)

theorem spec51 : ∀ X Y, F51 X = some Y → ∃ n, f51.g n X = some Y := by
  intro x y h
  obtain ⟨ho, rfl⟩ := some_bif h
  refine ⟨0, ?_⟩
  have : F56b x = some (idxI (fun o => decide (o.1 > x.2.1)) x.1) := by show (bif okL x.1 then _ else _) = _; rw [ho]; rfl
  simp only [f51.g, this, Option.bind_some, idx_any]
theorem con51_ok : ConOk Try.prog 51 con51 := f51.ok spec51 con56_ok

theorem okWs_at {l : List dWrite} (h : okWs l = true) {i : Nat} {v : dWrite} (hv : l[i]? = some v) : okL v.2.2 = true := by
  simp only [okWs, Bool.and_eq_true, List.all_eq_true] at h
  exact h.2 v (List.mem_of_getElem? hv)

theorem spec53 : ∀ X Y, F53 X = some Y → ∃ n, f53.g n X = some Y := by
  intro x y h
  obtain ⟨hv, rfl⟩ := some_bif h
  have ho := okWs_okL hv
  have hl := okL_iff.1 ho
  refine ⟨x.2.length + 1, ?_⟩
  unfold f53.g
  have := iter_all (step := f53.s1 (x.2.length + 1) x) x.2 (fun i (acc : List dWrite) => ((i : Int), (acc.length, acc))) (fun i acc => acc.length = i)
    (fun i acc r => some ((x.1, (acc ++ r, ())), ()))
    (fun S acc ha => by
      simp only [f53.s1, at_end, cond_false, List.take_length, List.append_nil]) (fun S i acc v r hi hw hr ha ih => by
      simp only [f53.s1, at_lt hi, at_ge, at_get hw, at_next ho hi, Bool.and_self, cond_true, F44_some (okWs_at hv hw), Option.bind_some, List.take_length, room (show acc.length + 1 ≤ x.2.length by omega) hl]
      have := ih (acc ++ [v]) (by simp; omega)
      simp only [List.length_append, List.length_cons, List.length_nil, Nat.zero_add, List.append_assoc, List.cons_append, List.nil_append] at this ⊢
      exact this) [] rfl
  exact this
theorem con53_ok : ConOk Try.prog 53 con53 := f53.ok spec53 con44_ok

theorem F56a_some {x : List dWrite × Int} (ho : okL x.1 = true) : F56a x = some (idxI (fun w => decide (w.1 ≥ x.2)) x.1) := by
  show (bif okL x.1 then _ else _) = _
  rw [ho]; rfl
theorem F51_some {x : List dWrite × dWrite} (ho : okL x.1 = true) : F51 x = some (x.1.any fun o => decide (o.1 > x.2.1)) := by
  show (bif okL x.1 then _ else _) = _
  rw [ho]; rfl
theorem F53_some {x : dIntent} (ho : okWs x.2 = true) : F53 x = some ((x.1, x.2, ()), ()) := by
  show (bif okWs x.2 then _ else _) = _
  rw [ho]; rfl
theorem F54_some {x : dIntent × Int} (ho : okL x.1.2 = true) : F54 x = some (belowS x.1.2 x.2 : Int) := by
  show (bif okL x.1.2 then _ else _) = _
  rw [ho]; rfl

theorem spec54 : ∀ X Y, F54 X = some Y → ∃ n, f54.g n X = some Y := by
  intro x y h
  obtain ⟨ho, rfl⟩ := some_bif h
  refine ⟨0, ?_⟩
  unfold f54.g belowS
  rw [F56a_some (x := (x.1.2, x.2)) ho, Option.bind_some]
  unfold idxI
  cases List.findIdx? (fun w : dWrite => decide (w.1 ≥ x.2)) x.1.2 with
  | none => rfl
  | some i =>
    have : decide (((i : Nat) : Int) < 0) = false := by simp
    simp only [this, cond_false]
theorem con54_ok : ConOk Try.prog 54 con54 := f54.ok spec54 con56_ok

theorem below_le (l : List dWrite) (s : Int) : belowS l s ≤ l.length := by
  unfold belowS
  cases h : List.findIdx? (fun w : dWrite => decide (w.1 ≥ s)) l with
  | none => exact Nat.le_refl _
  | some i =>
    have := (List.findIdx?_eq_some_iff_getElem.1 h).1
    simp only; omega

theorem bad_eq (x : dIntent) (w : dWrite) (a : Bool) : (bif (bif (bif (decide (w.1 < (0 : Int))) then true else a) then true else (bif w.2.1 then (decide ((w.2.2.length : Int) > (0 : Int))) else false)) then true else (decide (x.1 < (1 : Int)))) = (badW x w || a) := by
  unfold badW
  cases decide (w.1 < 0) <;> cases a <;> cases w.2.1 <;> cases decide ((w.2.2.length : Int) > (0 : Int)) <;> cases decide (x.1 < (1 : Int)) <;> rfl

theorem spec32 : ∀ X Y, F32 X = some Y → ∃ n, f32.g n X = some Y := by
  intro x y h
  obtain ⟨h0, rfl⟩ := some_bif h
  rw [Bool.and_eq_true, Bool.and_eq_true] at h0
  obtain ⟨⟨hv, hr⟩, hb⟩ := h0
  have ho := okWs_okL hv
  have hl := okL_iff.1 ho
  refine ⟨0, ?_⟩
  unfold f32.g put1
  rw [F51_some (x := (x.1.2, x.2)) ho, Option.bind_some, bad_eq x.1 x.2]
  cases (badW x.1 x.2 || x.1.2.any fun o => decide (o.1 > x.2.1)) with
  | true => rfl
  | false =>
    simp only [cond_false, F53_some hv, F44_some hr, Option.bind_some, hb, cond_true, List.take_length]
    have e1 : List.take (x.1.2.length + 1) (x.1.2 ++ [(x.2.1, (x.2.2.1, x.2.2.2))]) = x.1.2 ++ [x.2] := List.take_of_length_le (by simp)
    simp only [e1]
    unfold putL
    by_cases hp : 0 < x.1.2.length
    · have e2 : decide (((x.1.2.length : Nat) : Int) > 0) = true := by simp; omega
      have e3 : decide (x.1.2.length > 0) = true := by simp; omega
      have e4 : IntKind.wrap .i64 ((x.1.2.length : Int) - 1) = ((x.1.2.length - 1 : Nat) : Int) := at_prev hp (by omega)
      have e5 : (((x.1.2.length - 1 : Nat) : Int)).toNat = x.1.2.length - 1 := by simp
      simp only [e2, e3, e4, e5, at_ge, at_lt (show x.1.2.length - 1 < x.1.2.length by omega), Bool.and_self, cond_true, Bool.true_and]
      show (bif (lastW x.1.2).1 == x.2.1 then _ else _) = _
      cases (lastW x.1.2).1 == x.2.1 with
      | true =>
        simp only [cond_true]
        rw [List.take_of_length_le (by simp)]
      | false => rfl
    · have e2 : decide (((x.1.2.length : Nat) : Int) > 0) = false := decide_eq_false (by omega)
      have e3 : decide (x.1.2.length > 0) = false := decide_eq_false (by omega)
      simp only [e2, e3, cond_false, Bool.false_and]
theorem con32_ok : ConOk Try.prog 32 con32 := f32.ok spec32 con44_ok con51_ok con53_ok

theorem spec33 : ∀ X Y, F33 X = some Y → ∃ n, f33.g n X = some Y := by
  intro x y h
  obtain ⟨h0, rfl⟩ := some_bif h
  rw [Bool.and_eq_true] at h0
  obtain ⟨ho, hb⟩ := h0
  have hl := okL_iff.1 ho
  have hb' : (x.1.2.length + 1) * 40 ≤ 140737488355328 := of_decide_eq_true hb
  refine ⟨x.1.2.length + 1, ?_⟩
  unfold f33.g put2
  have e0 : (bif bif (bif (decide (x.2.1 < (0 : Int))) then true else (bif x.2.2.1 then (decide ((x.2.2.2.length : Int) > (0 : Int))) else false)) then true else (decide (x.1.1 < (1 : Int))) then true else false) = badW x.1 x.2 := by
    unfold badW
    cases decide (x.2.1 < 0) <;> cases x.2.2.1 <;> cases decide ((x.2.2.2.length : Int) > (0 : Int)) <;> cases decide (x.1.1 < (1 : Int)) <;> rfl
  have e1 : (bif (bif (decide (x.2.1 < (0 : Int))) then true else (bif x.2.2.1 then (decide ((x.2.2.2.length : Int) > (0 : Int))) else false)) then true else (decide (x.1.1 < (1 : Int)))) = badW x.1 x.2 := by
    rw [← e0]
    cases (bif (bif (decide (x.2.1 < (0 : Int))) then true else (bif x.2.2.1 then (decide ((x.2.2.2.length : Int) > (0 : Int))) else false)) then true else (decide (x.1.1 < (1 : Int)))) <;> rfl
  rw [e1]
  cases badW x.1 x.2 with
  | true => rfl
  | false =>
    simp only [cond_false, Bool.false_or]
    have := iter_all (step := f33.s1 (x.1.2.length + 1) x) x.1.2 (fun i (acc : List dWrite) => ((i : Int), (acc.length, acc))) (fun i acc => acc.length ≤ i)
      (fun i acc r => some (bif r.any (fun o => decide (o.1 > x.2.1)) then ((0, []), 1) else ((x.1.1, acc ++ r.filter (fun o => decide (o.1 < x.2.1)) ++ [x.2]), 0)))
      (fun S acc ha => by
        simp only [f33.s1, at_end, cond_false, List.take_length, List.append_nil, List.any_nil, List.filter_nil, room (show acc.length + 1 ≤ x.1.2.length + 1 by omega) hb', cond_true]
        rw [List.take_of_length_le (by simp)]) (fun S i acc v r hi hw hr ha ih => by
        simp only [f33.s1, at_lt hi, at_ge, at_get hw, at_next ho hi, Bool.and_self, cond_true, List.take_length, room (show acc.length + 1 ≤ x.1.2.length by omega) hl, List.any_cons, List.filter_cons]
        have yes := ih (acc ++ [v]) (by simp; omega)
        have no := ih acc (by omega)
        simp only [List.length_append, List.length_cons, List.length_nil, Nat.zero_add, List.append_assoc, List.cons_append, List.nil_append] at yes no ⊢
        cases hg : decide (v.1 > x.2.1) with
        | true => rfl
        | false =>
          simp only [cond_false, Bool.false_or]
          cases decide (v.1 < x.2.1) with
          | true => simpa using yes
          | false => simpa using no) [] (Nat.zero_le _)
    exact this
theorem con33_ok : ConOk Try.prog 33 con33 := f33.ok spec33

theorem spec34 : ∀ X Y, F34 X = some Y → ∃ n, f34.g n X = some Y := by
  intro x y h
  obtain ⟨hv, rfl⟩ := some_bif h
  have ho := okWs_okL hv
  refine ⟨x.1.2.length + 1, ?_⟩
  unfold f34.g
  by_cases ht : x.1.1 = x.2.1
  · have h0 : (x.1.1 != x.2.1) = false := by rw [ht]; simp
    simp only [h0, cond_false]
    by_cases hlen : x.1.2.length = x.2.2.length
    · have h1 : ((x.1.2.length : Int) != (x.2.2.length : Int)) = false := by rw [hlen]; simp
      simp only [h1, cond_false]
      have := iter_all (step := f34.s1 (x.1.2.length + 1) x) x.1.2 (fun i (_ : Unit) => (i : Int)) (fun _ _ => True) (fun i _ r => some (decide (r = x.2.2.drop i)))
        (fun S a _ => by simp only [f34.s1, at_end, cond_false, hlen, List.drop_length]; rfl) (fun S i a w r hi hw hr _ ih => by
          obtain ⟨u, hu⟩ : ∃ u, x.2.2[i]? = some u := ⟨x.2.2[i], List.getElem?_eq_getElem (by omega)⟩
          have hd := drop_eq hu
          have hi2 : i < x.2.2.length := by omega
          simp only [f34.s1, at_lt hi, at_lt hi2, at_ge, at_get hw, at_get hu, at_next ho hi, Bool.and_self, cond_true, F45_some (okWs_at hv hw), Option.bind_some, ih () trivial, hd]
          obtain ⟨w1, w2, w3⟩ := w
          obtain ⟨u1, u2, u3⟩ := u
          have e0 : (w1 != u1) = !(decide (w1 = u1)) := by rw [← int_beq]; rfl
          simp only [List.cons.injEq, Prod.mk.injEq, e0]
          by_cases e1 : w1 = u1 <;> cases w2 <;> cases u2 <;> by_cases e3 : w3 = u3 <;> simp [e1, e3]) () trivial
      simp only [List.drop_zero] at this
      have e : decide (x.1 = x.2) = decide (x.1.2 = x.2.2) := by
        rw [decide_eq_decide]
        exact ⟨fun h => by rw [h], fun h => Prod.ext ht h⟩
      rw [e]
      exact this
    · have h1 : ((x.1.2.length : Int) != (x.2.2.length : Int)) = true := by simp; omega
      simp only [h1, cond_true]
      have : x.1 ≠ x.2 := fun e => hlen (by rw [e])
      simp [this]
  · have h0 : (x.1.1 != x.2.1) = true := by simp; exact ht
    simp only [h0, cond_true]
    have : x.1 ≠ x.2 := fun e => ht (by rw [e])
    simp [this]
theorem con34_ok : ConOk Try.prog 34 con34 := f34.ok spec34 con45_ok

theorem spec37 : ∀ X Y, F37 X = some Y → ∃ n, f37.g n X = some Y := by
  intro x y h
  obtain ⟨hv, rfl⟩ := some_bif h
  have ho := okWs_okL hv
  refine ⟨0, ?_⟩
  unfold f37.g back1
  rw [F53_some hv, F54_some ho]
  simp only [Option.bind_some]
  have hb := below_le x.1.2 x.2
  by_cases h0 : belowS x.1.2 x.2 = 0
  · simp [h0]
  · have e1 : (((belowS x.1.2 x.2 : Nat) : Int) == 0) = false := by simp; omega
    have e2 : (belowS x.1.2 x.2 == 0) = false := by simp; exact h0
    have e3 : decide (((belowS x.1.2 x.2 : Nat) : Int) ≤ ((x.1.2.length : Nat) : Int)) = true := by simp; exact hb
    simp only [e1, e2, e3, cond_false, at_ge, Bool.and_self, cond_true, decide_true, Int.toNat_natCast]
theorem con37_ok : ConOk Try.prog 37 con37 := f37.ok spec37 con53_ok con54_ok

theorem spec38 : ∀ X Y, F38 X = some Y → ∃ n, f38.g n X = some Y := by
  intro x y h
  obtain ⟨ho, rfl⟩ := some_bif h
  have hl := okL_iff.1 ho
  refine ⟨x.1.2.length + 1, ?_⟩
  unfold f38.g back2
  have := iter_all (step := f38.s1 (x.1.2.length + 1) x) x.1.2 (fun i (acc : List dWrite) => ((i : Int), (acc.length, acc))) (fun i acc => acc.length ≤ i)
    (fun i acc r => some (bif (acc ++ r.filter (fun o => decide (o.1 < x.2))).length == 0 then (((0 : Int), ([], ())), ()) else ((x.1.1, (acc ++ r.filter (fun o => decide (o.1 < x.2)), ())), ())))
    (fun S acc ha => by
      have e : (((acc.length : Nat) : Int) == 0) = (acc.length == 0) := by
        rw [Bool.eq_iff_iff, beq_iff_eq, beq_iff_eq]; omega
      simp only [f38.s1, at_end, cond_false, List.take_length, List.append_nil, List.filter_nil, e]
      cases acc.length == 0 <;> rfl) (fun S i acc v r hi hw hr ha ih => by
      simp only [f38.s1, at_lt hi, at_ge, at_get hw, at_next ho hi, Bool.and_self, cond_true, List.take_length, room (show acc.length + 1 ≤ x.1.2.length by omega) hl, List.filter_cons]
      have yes := ih (acc ++ [v]) (by simp; omega)
      have no := ih acc (by omega)
      simp only [List.length_append, List.length_cons, List.length_nil, Nat.zero_add, List.append_assoc, List.cons_append, List.nil_append] at yes no ⊢
      cases decide (v.1 < x.2) with
      | true => simpa using yes
      | false => simpa using no) [] (Nat.zero_le _)
  refine Eq.trans this ?_
  simp only [List.nil_append]
  cases (x.1.2.filter fun o => decide (o.1 < x.2)).length == 0 <;> rfl
theorem con38_ok : ConOk Try.prog 38 con38 := f38.ok spec38

theorem spec35 : ∀ X Y, F35 X = some Y → ∃ n, f35.g n X = some Y := by
  intro x y h
  obtain ⟨h0, rfl⟩ := some_bif h
  rw [Bool.and_eq_true, Bool.and_eq_true, Bool.and_eq_true] at h0
  obtain ⟨⟨hv, hb⟩, h1, h2⟩ := h0
  have hb' : (x.1.2.length + 1) * 40 ≤ 140737488355328 := of_decide_eq_true hb
  have ho := okWs_okL hv
  have hlow := of_decide_eq_true h1
  have hhigh := of_decide_eq_true h2
  refine ⟨0, ?_⟩
  unfold f35.g fold1
  cases hc : decide (x.2 < 1) with
  | true => rfl
  | false =>
    have hx : 1 ≤ x.2 := by rw [decide_eq_false_iff_not] at hc; omega
    rw [F53_some hv, F54_some ho]
    simp only [cond_false, Option.bind_some]
    have hn := below_le x.1.2 x.2
    by_cases he : belowS x.1.2 x.2 = x.1.2.length
    · have e1 : (((belowS x.1.2 x.2 : Nat) : Int) == ((x.1.2.length : Nat) : Int)) = true := by rw [he]; simp
      have e2 : (belowS x.1.2 x.2 == x.1.2.length) = true := by simp; exact he
      simp only [e1, e2, cond_true, List.take_length]
    · have e1 : (((belowS x.1.2 x.2 : Nat) : Int) == ((x.1.2.length : Nat) : Int)) = false := by simp; omega
      have e2 : (belowS x.1.2 x.2 == x.1.2.length) = false := by simp; exact he
      have hp : 0 < x.1.2.length := by omega
      have e4 : IntKind.wrap .i64 ((x.1.2.length : Int) - 1) = ((x.1.2.length - 1 : Nat) : Int) := at_prev hp (by omega)
      have e5 : IntKind.wrap .i64 (x.2 - 1) = x.2 - 1 := wrap_ok (by omega) (by omega)
      simp only [e1, e2, e4, e5, cond_false, at_ge, at_lt (show x.1.2.length - 1 < x.1.2.length by omega), Bool.and_self, cond_true, decide_true, Int.toNat_natCast]
      by_cases hz : 0 < belowS x.1.2 x.2
      · have f1 : decide (((belowS x.1.2 x.2 : Nat) : Int) > 0) = true := by simp; omega
        have f2 : decide (belowS x.1.2 x.2 > 0) = true := by simp; omega
        have f3 : IntKind.wrap .i64 (((belowS x.1.2 x.2 : Nat) : Int) - 1) = ((belowS x.1.2 x.2 - 1 : Nat) : Int) := at_prev hz (by omega)
        have f4 : decide (((belowS x.1.2 x.2 : Nat) : Int) ≤ ((x.1.2.length : Nat) : Int)) = true := by simp; omega
        have f5 : decide (((belowS x.1.2 x.2 - 1 : Nat) : Int) ≤ ((x.1.2.length : Nat) : Int)) = true := by simp; omega
        have f6 : decide ((belowS x.1.2 x.2 + 1) * 40 ≤ boundN) = true := room (by omega) hb'
        have f7 : decide ((belowS x.1.2 x.2 - 1 + 1) * 40 ≤ boundN) = true := room (m := x.1.2.length + 1) (by omega) hb'
        simp only [f1, f2, f3, f4, f5, f6, f7, at_ge, at_lt (show belowS x.1.2 x.2 - 1 < x.1.2.length by omega), Bool.and_self, cond_true, Bool.true_and, Int.toNat_natCast]
        cases (x.1.2.getD (belowS x.1.2 x.2 - 1) tWrite.dflt).1 == x.2 - 1 with
        | true =>
          simp only [cond_true]
          rw [List.take_of_length_le (by simp; omega)]; rfl
        | false =>
          simp only [cond_false]
          rw [List.take_of_length_le (by simp; omega)]; rfl
      · have hz0 : belowS x.1.2 x.2 = 0 := by omega
        have f6 : decide ((0 + 1) * 40 ≤ boundN) = true := room (m := x.1.2.length + 1) (by omega) hb'
        have f7 : decide (0 ≤ (x.1.2.length : Int)) = true := at_ge _
        simp [hz0, f6, f7, lastW]
theorem con35_ok : ConOk Try.prog 35 con35 := f35.ok spec35 con53_ok con54_ok

theorem back2_2 (x : dIntent) (s : Int) : (back2 x s).2 = x.2.filter fun o => decide (o.1 < s) := by
  unfold back2
  cases h : (x.2.filter fun o => decide (o.1 < s)).length == 0 with
  | true =>
    have h2 : (x.2.filter fun o => decide (o.1 < s)).length = 0 := by simpa using h
    exact (List.length_eq_zero_iff.1 h2).symm
  | false => rfl

theorem F38_some {x : dIntent × Int} (ho : okL x.1.2 = true) : F38 x = some (((back2 x.1 x.2).1, (back2 x.1 x.2).2, ()), ()) := by
  show (bif okL x.1.2 then _ else _) = _
  rw [ho]; rfl

theorem spec36 : ∀ X Y, F36 X = some Y → ∃ n, f36.g n X = some Y := by
  intro x y h
  obtain ⟨h0, rfl⟩ := some_bif h
  rw [Bool.and_eq_true, Bool.and_eq_true, Bool.and_eq_true] at h0
  obtain ⟨⟨ho, hb⟩, h1, h2⟩ := h0
  have hb' : (x.1.2.length + 1) * 40 ≤ 140737488355328 := of_decide_eq_true hb
  have hlow := of_decide_eq_true h1
  have hhigh := of_decide_eq_true h2
  refine ⟨0, ?_⟩
  unfold f36.g fold2
  cases hc : decide (x.2 < 1) with
  | true => rfl
  | false =>
    have hx : 1 ≤ x.2 := by rw [decide_eq_false_iff_not] at hc; omega
    simp only [cond_false]
    by_cases hp : 0 < x.1.2.length
    · have e1 : ((x.1.2.length : Int) == 0) = false := by simp; intro h; rw [h] at hp; simp at hp
      have e2 : (x.1.2.length == 0) = false := by simp; intro h; rw [h] at hp; simp at hp
      have e4 : IntKind.wrap .i64 ((x.1.2.length : Int) - 1) = ((x.1.2.length - 1 : Nat) : Int) := at_prev hp (by omega)
      have e5 : IntKind.wrap .i64 (x.2 - 1) = x.2 - 1 := wrap_ok (by omega) (by omega)
      simp only [e1, e2, e4, e5, cond_false, at_ge, at_lt (show x.1.2.length - 1 < x.1.2.length by omega), Bool.and_self, cond_true, Bool.false_or, Int.toNat_natCast]
      show (bif decide ((lastW x.1.2).1 < x.2) then _ else _) = _
      cases decide ((lastW x.1.2).1 < x.2) with
      | true => rfl
      | false =>
        have e6 : (back2 x.1 (x.2 - 1)).2.length ≤ x.1.2.length := by rw [back2_2]; exact List.length_filter_le _ _
        rw [F38_some (x := (x.1, x.2 - 1)) ho]
        simp only [cond_false, Option.bind_some, room (show (back2 x.1 (x.2 - 1)).2.length + 1 ≤ x.1.2.length + 1 by omega) hb', cond_true, List.take_length]
        rw [List.take_of_length_le (by simp)]; rfl
    · have e0 : x.1.2.length = 0 := by omega
      have e1 : ((x.1.2.length : Int) == 0) = true := by simp; exact List.length_eq_zero_iff.1 e0
      have e2 : (x.1.2.length == 0) = true := by simp; exact List.length_eq_zero_iff.1 e0
      rw [e1, e2]; rfl
theorem con36_ok : ConOk Try.prog 36 con36 := f36.ok spec36 con38_ok

end Go.Proofs.Ytfjmdgdopmfcjaa.AI
