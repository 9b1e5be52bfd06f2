/- The plain laws of the runs: the reference's functions, and the laws of what is asked, tried and scheduled. -/
import Derived.Test.YtjedleoebjmkgaaBi
set_option linter.unusedVariables false
set_option linter.unusedSimpArgs false
namespace Go.Proofs.Ytjedleoebjmkgaa.AI
open Go

theorem con63_ok : ConOk Try.prog 63 con63 := f63.ok (fun x y h => ⟨0, by
  cases h
  obtain ⟨h1, h2⟩ := str_cmp x.1 x.2
  simp only [f63.g, h1, h2]
  have := cmp_range x.1.data.toList x.2.data.toList
  change strS x.1 x.2 = -1 ∨ strS x.1 x.2 = 0 ∨ strS x.1 x.2 = 1 at this
  rcases this with e | e | e <;> rw [e] <;> rfl⟩)
theorem con70_ok : ConOk Try.prog 70 con70 := f70.ok (fun x y h => ⟨0, by cases h; simp only [f70.g, hasR, cond_and', cond_or']⟩)
theorem spec49 : ∀ X Y, F49 X = some Y → ∃ n, f49.g n X = some Y := by
  intro x y h
  cases h
  refine ⟨0, ?_⟩
  simp only [f49.g, cmpR, F63, Option.bind_some]
  cases x.1.1 != x.2.1 with
  | true => cases decide (x.1.1 < x.2.1) <;> rfl
  | false =>
    simp only [cond_false]
    cases x.1.2.1 != x.2.2.1 with
    | true => cases decide (x.1.2.1 < x.2.2.1) <;> rfl
    | false => rfl
theorem con49_ok : ConOk Try.prog 49 con49 := f49.ok spec49 con63_ok
theorem spec62 : ∀ X Y, F62 X = some Y → ∃ n, f62.g n X = some Y := by
  intro x y h
  obtain ⟨ho, rfl⟩ := some_bif h
  have hl := okB_len (by omega) ho
  refine ⟨x.1.length + 1, any_loop _ (Nat.lt_succ_self _) (fun S => ?_) (fun S i v hi hv => ?_)⟩
  · simp only [f62.s1, at_end, cond_false]
  · simp only [f62.s1, at_lt hi, at_ge, at_get hv, nx (show i ≤ _ by omega), Bool.and_self, cond_true, F70, Option.bind_some, spanHas]
    cases v.1 == x.2.1
    · rfl
    · cases v.2.1 == x.2.2.1 <;> rfl
theorem con62_ok : ConOk Try.prog 62 con62 := f62.ok spec62 con70_ok
theorem F62_some {l : List dSpan} (h : okB 56 l = true) (p : dPoint) : F62 (l, p) = some (l.any fun s => spanHas s p) := by
  show (bif okB 56 l then _ else _) = _
  rw [h]; rfl
theorem or_loop {α : Type} {l : List α} (p : α → Bool) {K : Bool} {step : (Int → Option Bool) → Int → Option Bool} {m : Nat} (hm : l.length < m)
    (hend : ∀ S, step S (l.length : Int) = some K)
    (hstep : ∀ S i v, i < l.length → l[i]? = some v → step S (i : Int) = bif p v then some true else S ((i + 1 : Nat) : Int)) :
    iter step m 0 = some (l.any p || K) :=
  iter_all (step := step) l (fun i (_ : Unit) => (i : Int)) (fun _ _ => True) (fun i _ r => some (r.any p || K))
    (fun S a _ => by simp [hend]) (fun S i a v r hi hv hr _ ih => by
      rw [hstep S i v hi hv, List.any_cons, ih () trivial]
      cases p v <;> rfl) m hm () trivial
theorem F46_some {f : dFoot} (h : okF f = true) (p : dPoint) : F46 (f, p) = some (readsR f p) := by
  show (bif okF f then _ else _) = _
  rw [h]; rfl
theorem spec46 : ∀ X Y, F46 X = some Y → ∃ n, f46.g n X = some Y := by
  intro x y h
  obtain ⟨ho, rfl⟩ := some_bif h
  obtain ⟨h1, h2, h3⟩ := okF_iff ho
  have hl := okB_len (by omega) h1
  refine ⟨x.1.1.length + 1, or_loop _ (Nat.lt_succ_self _) (fun S => ?_) (fun S i v hi hv => ?_)⟩
  · simp only [f46.s1, at_end, cond_false, F62_some h2, Option.bind_some]
  · simp only [f46.s1, at_lt hi, at_ge, at_get hv, nx (show i ≤ _ by omega), Bool.and_self, cond_true, sameP_def]
theorem con46_ok : ConOk Try.prog 46 con46 := f46.ok spec46 con62_ok
theorem F47_some {l : List dPoint} (h : okB 32 l = true) : F47 l = some (leastS l) := by
  show (bif okB 32 l then _ else _) = _
  rw [h]; rfl
theorem spec47 : ∀ X Y, F47 X = some Y → ∃ n, f47.g n X = some Y := by
  intro x y h
  obtain ⟨ho, rfl⟩ := some_bif h
  have hl := okB_len (by omega) ho
  refine ⟨x.length + 1, ?_⟩
  cases x with
  | nil => rfl
  | cons p r =>
    have e1 : ((((p :: r).length : Nat) : Int) == 0) = false := by first | (simp; done) | (simp; omega)
    have e2 : (decide (0 ≤ (0 : Int)) && decide ((0 : Int) < (((p :: r).length : Nat) : Int))) = true := by first | (simp; done) | (simp; omega)
    simp only [f47.g, e1, cond_false, e2, cond_true]
    have := iter_list (step := f47.s1 ((p :: r).length + 1) (p :: r)) (p :: r) (fun i (a : dPoint) => ((i : Int), a)) (fun _ _ => True) (fun _ a s => some (leastR a s, true))
      (fun S a _ => by simp only [f47.s1, at_end, cond_false, leastR]) (fun S i a v s hi hv hr _ ih => by
        simp only [f47.s1, at_lt hi, at_ge, at_get hv, nx (show i ≤ _ by omega), Bool.and_self, cond_true, F49, Option.bind_some, leastR]
        cases decide (cmpR v a < 0)
        · exact ih a trivial
        · exact ih v trivial) r 1 rfl (by simp) ((p :: r).length + 1) p trivial (by first | (simp; done) | (simp; omega))
    exact this
theorem con47_ok : ConOk Try.prog 47 con47 := f47.ok spec47 con49_ok
theorem okB_filter {α : Type} {b : Nat} {l : List α} (h : okB b l = true) (p : α → Bool) : okB b (l.filter p) = true := by
  have h1 := okB_iff.1 h
  refine okB_iff.2 ?_
  have : (l.filter p).length * b ≤ l.length * b := Nat.mul_le_mul_right _ (List.length_filter_le _ _)
  omega
theorem F33_some {a b : dFoot} (h1 : okF a = true) (h2 : okB 32 b.2.2 = true) : F33 (a, b) = some (clashR a b) := by
  show (bif okF a && okB 32 b.2.2 then _ else _) = _
  rw [h1, h2]; rfl
theorem spec33 : ∀ X Y, F33 X = some Y → ∃ n, f33.g n X = some Y := by
  rintro ⟨a, b⟩ y h
  obtain ⟨ho, rfl⟩ := some_bif h
  obtain ⟨h1, h2⟩ := Bool.and_eq_true _ _ ▸ ho
  simp only at h1 h2
  have hl := okB_len (by omega) h2
  refine ⟨b.2.2.length + 1, ?_⟩
  refine keep_loop (l := b.2.2) (step := f33.s1 (b.2.2.length + 1) (a, b)) (readsR a) (fun i acc => (acc.length, ((i : Int), acc))) (K := fun acc => (F47 acc).bind fun r => some r) (Nat.lt_succ_self _) (fun S acc => ?_) (fun S i acc v hi hv ha => ?_) |>.trans ?_
  · simp only [f33.s1, at_end, cond_false, List.take_length]
  · simp only [f33.s1, at_lt hi, at_ge, at_get hv, nx (show i ≤ _ by omega), Bool.and_self, cond_true, roomAcc h2 hi ha, List.take_length, snoc_len, F46_some h1, Option.bind_some]
  · rw [F47_some (okB_filter h2 _)]; rfl
theorem con33_ok : ConOk Try.prog 33 con33 := f33.ok spec33 con46_ok con47_ok
theorem okR_iff {l : List dRcommit} (h : okR l = true) : okB 32 l = true ∧ ∀ c ∈ l, okB 32 c.2 = true := by
  unfold okR at h
  simp only [Bool.and_eq_true, List.all_eq_true] at h
  exact h
theorem firstR_loop {l : List dRcommit} {f : dFoot} {n : Int} (g : dFoot → dFoot → dPoint × Bool) {step : (Int → Option (dClash × Bool)) → Int → Option (dClash × Bool)} {m : Nat} (hm : l.length < m)
    (hend : ∀ S, step S (l.length : Int) = some (noC, false))
    (hstep : ∀ S i v, i < l.length → l[i]? = some v → step S (i : Int) = bif decide (v.1 ≤ n) then S ((i + 1 : Nat) : Int) else bif (g f ([], ([], v.2))).2 then some ((v.1, (g f ([], ([], v.2))).1), true) else S ((i + 1 : Nat) : Int)) : iter step m 0 = some (firstR g f n l) :=
  iter_all (step := step) l (fun i (_ : Unit) => (i : Int)) (fun _ _ => True) (fun _ _ r => some (firstR g f n r))
    (fun S _ _ => hend S) (fun S i _ v r hi hv hr _ ih => by
      rw [hstep S i v hi hv, ih () trivial, firstR]
      cases decide (v.1 ≤ n) <;> cases (g f ([], ([], v.2))).2 <;> rfl) m hm () trivial
theorem F13_some {l : List dRcommit} {f : dFoot} (h1 : okR l = true) (h2 : okF f = true) (n : Int) : F13 (l, f, n) = some (readR clashR l f n) := by
  show (bif okR l && okF f then _ else _) = _
  rw [h1, h2]; rfl
theorem F15_some {l : List dRcommit} {f : dFoot} (h1 : okR l = true) (h2 : okF f = true) (n : Int) : F15 (l, f, n) = some (readR bothR l f n) := by
  show (bif okR l && okF f then _ else _) = _
  rw [h1, h2]; rfl
theorem spec13 : ∀ X Y, F13 X = some Y → ∃ n, f13.g n X = some Y := by
  rintro ⟨l, f, at_⟩ y h
  obtain ⟨ho, rfl⟩ := some_bif h
  obtain ⟨h1, h2⟩ := Bool.and_eq_true _ _ ▸ ho
  obtain ⟨h3, h4⟩ := okR_iff h1
  simp only at h2
  have hl : l.length ≤ 140737488355328 := okB_len (by omega) h3
  refine ⟨l.length + 1, ?_⟩
  simp only [f13.g, F32_some h2, Option.bind_some, readR]
  cases checkS f != 0 with
  | true => rfl
  | false =>
  simp only [cond_false]
  refine firstR_loop clashR (l := l) (Nat.lt_succ_self _) (fun S => ?_) (fun S i v hi hv => ?_)
  · simp only [f13.s1, at_end, cond_false]; rfl
  · have hv2 : okB 32 (([], ([], v.2)) : dFoot).2.2 = true := h4 v (List.mem_of_getElem? hv)
    simp only [f13.s1, at_lt hi, at_ge, at_get hv, nx (show i ≤ _ by omega), Bool.and_self, cond_true, F33_some h2 hv2, Option.bind_some]
theorem con13_ok : ConOk Try.prog 13 con13 := f13.ok spec13 con32_ok con33_ok

/-! ### Sorting, which calls itself -/
theorem wrap_half (n : Nat) (h : n ≤ 140737488355328) : IntKind.wrap .i64 (Int.tdiv (n : Int) (2 : Int)) = ((n / 2 : Nat) : Int) := by
  have : Int.tdiv (n : Int) (2 : Int) = ((n / 2 : Nat) : Int) := rfl
  rw [this, wrap_ok (by omega) (by omega)]
theorem F48n_room {α : Type} {b : Nat} {l : List α} (h : okB b l = true) {n : Nat} (hn : n < l.length) : decide ((n + 1) * b ≤ boundN) = true := room h hn
theorem merge_loop [Rec48] (n : Nat) (x r1 r2 : List dPoint) (hx : okB 32 x = true) : ∀ (m : Nat) (a b acc : List dPoint), a.length + b.length < m → acc.length + a.length + b.length ≤ x.length →
    iter (f48.s1 n x r1 r2) m (a, (b, (acc.length, acc))) = some (acc ++ mergeS a b)
  | 0, a, b, acc, h, _ => by omega
  | m + 1, a, b, acc, h, hr => by
    have p0 : ∀ {α : Type} (v : α) (r : List α), decide ((((v :: r).length : Nat) : Int) > 0) = true := fun v r => by first | (simp; done) | (simp; omega)
    have z0 : ∀ {α : Type} (v : α) (r : List α), ((((v :: r).length : Nat) : Int) == 0) = false := fun v r => by first | (simp; done) | (simp; omega)
    have l0 : ∀ {α : Type} (v : α) (r : List α), (decide (0 ≤ (0 : Int)) && decide ((0 : Int) < (((v :: r).length : Nat) : Int))) = true := fun v r => by first | (simp; done) | (simp; omega)
    have l1 : ∀ {α : Type} (v : α) (r : List α), (decide (0 ≤ (1 : Int)) && decide ((1 : Int) ≤ (((v :: r).length : Nat) : Int))) = true := fun v r => by first | (simp; done) | (simp; omega)
    have z00 : decide ((0 : Int) ≤ 0) = true := rfl
    have n0 : decide (((([] : List dPoint).length : Nat) : Int) > 0) = false := rfl
    have nz : (((([] : List dPoint).length : Nat) : Int) == 0) = true := rfl
    have g0 : ∀ (v : dPoint) (r : List dPoint) (d : dPoint), (v :: r).getD 0 d = v := fun _ _ _ => rfl
    have d1 : ∀ (v : dPoint) (r : List dPoint), List.drop 1 (v :: r) = r := fun _ _ => rfl
    have rm : 0 < a.length + b.length → decide ((acc.length + 1) * 32 ≤ boundN) = true := fun hp => room hx (by omega)
    show f48.s1 n x r1 r2 (iter (f48.s1 n x r1 r2) m) (a, (b, (acc.length, acc))) = _
    have ih : ∀ (a b : List dPoint) (v : dPoint), a.length + b.length < m → acc.length + 1 + a.length + b.length ≤ x.length → iter (f48.s1 n x r1 r2) m (a, (b, (acc.length + 1, acc ++ [v]))) = some (acc ++ v :: mergeS a b) := fun a b v h1 h2 => by
      have := merge_loop n x r1 r2 hx m a b (acc ++ [v]) h1 (by rw [snoc_len]; exact h2)
      rw [snoc_len, List.append_assoc] at this
      exact this
    match a, b with
    | [], [] =>
      simp only [f48.s1, n0, cond_false, List.take_length]
      rw [mergeS, List.append_nil]
    | p :: a, [] =>
      simp only [List.length_cons, List.length_nil] at h hr
      have e : mergeS a [] = a := by cases a <;> rw [mergeS]
      simp only [f48.s1, p0, z00, Bool.and_self, cond_true, nz, l0, rm (by first | (simp; done) | (simp; omega)), l1, d1, g0, List.take_length]
      rw [ih a [] p (by first | (simp; done) | (simp; omega)) (by first | (simp; done) | (simp; omega)), e, mergeS]
    | [], q :: b =>
      simp only [List.length_cons, List.length_nil] at h hr
      have e : mergeS [] b = b := by rw [mergeS]
      simp only [f48.s1, n0, p0, z00, Bool.and_self, cond_false, cond_true, z0, l0, rm (by first | (simp; done) | (simp; omega)), l1, d1, g0, List.take_length]
      rw [ih [] b q (by first | (simp; done) | (simp; omega)) (by first | (simp; done) | (simp; omega)), e, mergeS]
    | p :: a, q :: b =>
      simp only [List.length_cons] at h hr
      simp only [f48.s1, p0, z00, Bool.and_self, cond_true, z0, cond_false, l0, rm (by first | (simp; done) | (simp; omega)), l1, d1, g0, List.take_length, F49, Option.bind_some]
      rw [mergeS]
      cases decide (cmpR p q < 0) with
      | true =>
        simp only [cond_true]
        exact ih a (q :: b) p (by first | (simp; done) | (simp; omega)) (by first | (simp; done) | (simp; omega))
      | false =>
        simp only [cond_false]
        cases cmpR p q == 0 with
        | true =>
          simp only [cond_true]
          exact ih a b q (by omega) (by omega)
        | false =>
          simp only [cond_false]
          exact ih (p :: a) b q (by first | (simp; done) | (simp; omega)) (by first | (simp; done) | (simp; omega))
theorem merge_len : ∀ (a b : List dPoint), (mergeS a b).length ≤ a.length + b.length
  | [], b => by rw [mergeS]; simp
  | p :: a, [] => by rw [mergeS]; simp
  | p :: a, q :: b => by
    rw [mergeS]
    cases decide (cmpR p q < 0) with
    | true => have := merge_len a (q :: b); simp only [cond_true, List.length_cons] at *; omega
    | false =>
      cases cmpR p q == 0 with
      | true => have := merge_len a b; simp only [cond_true, cond_false, List.length_cons] at *; omega
      | false => have := merge_len (p :: a) b; simp only [cond_false, List.length_cons] at *; omega
termination_by a b => a.length + b.length
theorem sort_len (l : List dPoint) : (sortS l).length ≤ l.length := by
  rw [sortS]
  by_cases h : l.length < 2
  · rw [dif_pos h]; exact Nat.le_refl _
  · rw [dif_neg h]
    have h1 := sort_len (l.take (l.length / 2))
    have h2 := sort_len (l.drop (l.length / 2))
    have h3 := merge_len (sortS (l.take (l.length / 2))) (sortS (l.drop (l.length / 2)))
    rw [List.length_take] at h1
    rw [List.length_drop] at h2
    omega
termination_by l.length
decreasing_by
  · rw [List.length_take]; omega
  · rw [List.length_drop]; omega
def F48n (k : Nat) (l : List dPoint) : Option (List dPoint) := bif okB 32 l && decide (l.length < k) then some (sortS l) else none
theorem F48n_some {k : Nat} {l : List dPoint} (h1 : okB 32 l = true) (h2 : l.length < k) : F48n k l = some (sortS l) := by
  unfold F48n
  rw [h1, decide_eq_true h2]; rfl
theorem spec48 (k : Nat) : ∀ X Y, F48n (k + 1) X = some Y → ∃ n, @f48.g ⟨F48n k⟩ n X = some Y := by
  intro x y h
  obtain ⟨ho, rfl⟩ := some_bif h
  obtain ⟨h1, h2⟩ := Bool.and_eq_true _ _ ▸ ho
  have hk : x.length < k + 1 := of_decide_eq_true h2
  have hl := okB_len (by omega) h1
  refine ⟨x.length + 1, ?_⟩
  letI : Rec48 := ⟨F48n k⟩
  show f48.g (x.length + 1) x = some (sortS x)
  have e0 : decide ((x.length : Int) < (2 : Int)) = decide (x.length < 2) := by
    rw [Bool.eq_iff_iff, decide_eq_true_iff, decide_eq_true_iff]; omega
  simp only [f48.g, e0, wrap_half _ hl, nat_toNat]
  rw [sortS]
  by_cases hs : x.length < 2
  · rw [decide_eq_true hs, dif_pos hs]; rfl
  · rw [decide_eq_false hs, dif_neg hs]
    have e1 : decide ((0 : Int) ≤ ((x.length / 2 : Nat) : Int)) = true := at_ge _
    have e2 : decide (((x.length / 2 : Nat) : Int) ≤ (x.length : Int)) = true := by rw [decide_eq_true_iff]; omega
    have g1 : (Rec48.F (x.take (x.length / 2)) : Option (List dPoint)) = some (sortS (x.take (x.length / 2))) := F48n_some (okB_take h1 _) (by rw [List.length_take]; omega)
    have g2 : (Rec48.F (x.drop (x.length / 2)) : Option (List dPoint)) = some (sortS (x.drop (x.length / 2))) := F48n_some (okB_drop h1 _) (by rw [List.length_drop]; omega)
    simp only [cond_false, e1, e2, Bool.and_self, cond_true, g1, g2, Option.bind_some]
    have q1 := sort_len (x.take (x.length / 2))
    have q2 := sort_len (x.drop (x.length / 2))
    rw [List.length_take] at q1
    rw [List.length_drop] at q2
    exact merge_loop (x.length + 1) x _ _ h1 (x.length + 1) _ _ [] (by omega) (by first | (simp; done) | (simp; omega))
theorem con48n_ok : ∀ k, ConOk Try.prog 48 (mkCon [(false, .sl tPoint)] [(false, .sl tPoint)] false (F48n k))
  | 0 => ⟨fun x args vals X Y hI hv hl hF => by
      have hF' : F48n 0 X = some Y := hF
      unfold F48n at hF'
      simp at hF', fun _ => ⟨fun _ _ _ => rfl, fun _ _ => rfl, fun _ _ _ => rfl⟩, fun h => by cases h⟩
  | k + 1 => @f48.ok ⟨F48n k⟩ (F48n (k + 1)) (spec48 k) (con48n_ok k) con49_ok
theorem con48_ok : ConOk Try.prog 48 con48 := by
  refine ⟨fun x args vals X Y hI hv hl hF => ?_, (con48n_ok 0).2, (con48n_ok 0).3⟩
  have hF' : F48 X = some Y := hF
  obtain ⟨ho, rfl⟩ := some_bif hF'
  exact (con48n_ok (X.length + 1)).1 x args vals X _ hI hv hl (F48n_some ho (Nat.lt_succ_self _))
theorem F48_some {l : List dPoint} (h : okB 32 l = true) : F48 l = some (sortS l) := by
  show (bif okB 32 l then _ else _) = _
  rw [h]; rfl
theorem com_loop (n : Nat) (x : dFoot × dFoot) (r1 r2 : List dPoint) : ∀ (m : Nat) (a b : List dPoint), a.length + b.length < m → iter (f34.s1 n x r1 r2) m (a, b) = some (comS a b)
  | 0, a, b, h => by omega
  | m + 1, a, b, h => by
    have p0 : ∀ {α : Type} (v : α) (r : List α), decide ((((v :: r).length : Nat) : Int) > 0) = true := fun v r => by first | (simp; done) | (simp; omega)
    have l0 : ∀ {α : Type} (v : α) (r : List α), (decide (0 ≤ (0 : Int)) && decide ((0 : Int) < (((v :: r).length : Nat) : Int))) = true := fun v r => by first | (simp; done) | (simp; omega)
    have l1 : ∀ {α : Type} (v : α) (r : List α), (decide (0 ≤ (1 : Int)) && decide ((1 : Int) ≤ (((v :: r).length : Nat) : Int))) = true := fun v r => by first | (simp; done) | (simp; omega)
    have z00 : decide ((0 : Int) ≤ 0) = true := rfl
    have n0 : decide (((([] : List dPoint).length : Nat) : Int) > 0) = false := rfl
    have g0 : ∀ (v : dPoint) (r : List dPoint) (d : dPoint), (v :: r).getD 0 d = v := fun _ _ _ => rfl
    have d1 : ∀ (v : dPoint) (r : List dPoint), List.drop 1 (v :: r) = r := fun _ _ => rfl
    show f34.s1 n x r1 r2 (iter (f34.s1 n x r1 r2) m) (a, b) = _
    match a, b with
    | [], b =>
      simp only [f34.s1, n0, cond_false]
      rw [comS]; rfl
    | p :: a, [] =>
      simp only [f34.s1, n0, p0, cond_true, cond_false]
      rw [comS]; rfl
    | p :: a, q :: b =>
      simp only [List.length_cons] at h
      have i1 := com_loop n x r1 r2 m a (q :: b) (by first | (simp; done) | (simp; omega))
      have i2 := com_loop n x r1 r2 m (p :: a) b (by first | (simp; done) | (simp; omega))
      simp only [f34.s1, p0, z00, Bool.and_self, cond_true, l0, l1, d1, g0, F49, Option.bind_some, i1, i2]
      rw [comS]
      cases cmpR p q == 0 with
      | true =>
        simp only [cond_true, Bool.true_and]
        cases p.2.1 == -1 with
        | true => rfl
        | false => cases decide (cmpR p q ≤ 0) <;> rfl
      | false =>
        simp only [cond_false, Bool.false_and]
        cases decide (cmpR p q ≤ 0) <;> rfl
theorem F34_some {a b : dFoot} (h1 : okB 32 a.2.2 = true) (h2 : okB 32 b.2.2 = true) : F34 (a, b) = some (bothR a b) := by
  show (bif okB 32 a.2.2 && okB 32 b.2.2 then _ else _) = _
  rw [h1, h2]; rfl
theorem spec34 : ∀ X Y, F34 X = some Y → ∃ n, f34.g n X = some Y := by
  rintro ⟨a, b⟩ y h
  obtain ⟨ho, rfl⟩ := some_bif h
  obtain ⟨h1, h2⟩ := Bool.and_eq_true _ _ ▸ ho
  simp only at h1 h2
  refine ⟨(sortS a.2.2).length + (sortS b.2.2).length + 1, ?_⟩
  simp only [f34.g, F48_some h1, F48_some h2, Option.bind_some]
  exact com_loop _ _ _ _ _ _ _ (Nat.lt_succ_self _)
theorem con34_ok : ConOk Try.prog 34 con34 := f34.ok spec34 con48_ok con49_ok
theorem spec15 : ∀ X Y, F15 X = some Y → ∃ n, f15.g n X = some Y := by
  rintro ⟨l, f, at_⟩ y h
  obtain ⟨ho, rfl⟩ := some_bif h
  obtain ⟨h1, h2⟩ := Bool.and_eq_true _ _ ▸ ho
  obtain ⟨h3, h4⟩ := okR_iff h1
  simp only at h2
  have hl : l.length ≤ 140737488355328 := okB_len (by omega) h3
  refine ⟨l.length + 1, ?_⟩
  simp only [f15.g, F32_some h2, Option.bind_some, readR]
  cases checkS f != 0 with
  | true => rfl
  | false =>
  simp only [cond_false]
  refine firstR_loop bothR (l := l) (Nat.lt_succ_self _) (fun S => ?_) (fun S i v hi hv => ?_)
  · simp only [f15.s1, at_end, cond_false]; rfl
  · have hv2 : okB 32 (([], ([], v.2)) : dFoot).2.2 = true := h4 v (List.mem_of_getElem? hv)
    simp only [f15.s1, at_lt hi, at_ge, at_get hv, nx (show i ≤ _ by omega), Bool.and_self, cond_true, F34_some (okF_iff h2).2.2 hv2, Option.bind_some]
theorem con15_ok : ConOk Try.prog 15 con15 := f15.ok spec15 con32_ok con34_ok
theorem spec22 : ∀ X Y, F22 X = some Y → ∃ n, f22.g n X = some Y := by
  rintro ⟨l, from_, f, lev⟩ y h
  obtain ⟨ho, rfl⟩ := some_bif h
  obtain ⟨h1, h2⟩ := Bool.and_eq_true _ _ ▸ ho
  simp only at h1 h2
  refine ⟨0, ?_⟩
  simp only [f22.g, tryR, F32_some h2, Option.bind_some, cond_or', F15_some h1 h2, F13_some h1 h2]
  cases checkS f != 0 with
  | true => rfl
  | false =>
  simp only [cond_false]
  cases decide (lev < 1) || decide (lev > 3) with
  | true => rfl
  | false =>
  simp only [cond_false]
  cases decide (lev ≥ 2) with
  | true =>
    simp only [cond_true, Bool.true_and]
    cases (readR bothR l f from_).2 with
    | true => rfl
    | false =>
      simp only [cond_false]
      cases lev == 3 with
      | true =>
        simp only [cond_true, Bool.true_and]
        cases (readR clashR l f from_).2 <;> rfl
      | false => rfl
  | false =>
    simp only [cond_false, Bool.false_and]
    cases lev == 3 with
    | true =>
      simp only [cond_true, Bool.true_and]
      cases (readR clashR l f from_).2 <;> rfl
    | false => rfl
theorem con22_ok : ConOk Try.prog 22 con22 := f22.ok spec22 con13_ok con15_ok con32_ok
theorem F22_some {l : List dRcommit} {t : dAttempt} (h1 : okR l = true) (h2 : okF t.2.1 = true) : F22 (l, t) = some (tryR l t) := by
  show (bif okR l && okF t.2.1 then _ else _) = _
  rw [h1, h2]; rfl
theorem LogOk.rok {l : List dCommit} (h : LogOk l) : okR (relS l) = true := by
  unfold okR
  rw [h.r32, List.all_eq_true.2]; rfl
  intro c hc
  obtain ⟨d, hd, rfl⟩ := List.mem_map.1 hc
  exact (okF_iff (h.foot d hd)).2.2

/-! ### The laws -/
theorem note_runs {l : List dCommit} {v : dCommit} {l' : List dCommit} {e : Int} (hl : LogOk l) (e1 : noteS (true, l) v.1 v.2 = ((true, l'), e)) (e2 : noteR (relS l) v.1 v.2 = (relS l', e)) (hv : okF v.2 = true) : F23 ((true, l), v) = some ((true, l'), e) ∧ F30 (relS l, v) = some (relS l', e) := by
  have g1 := F23_some (l := (true, l)) hl.b80 hv v.1
  have g2 := F30_some (l := relS l) hl.r32 hv v.1
  rw [e1] at g1
  rw [e2] at g2
  exact ⟨g1, g2⟩
theorem spec3 : ∀ (X : List dCommit × dFoot × Int) (Y : Bool), FL [(false, .sl tCommit), (true, tFoot), (false, .int .u64)] X = some Y → ∃ n, f3.g n X = some Y := by
  intro x y h
  obtain ⟨hw, rfl⟩ := FL_some h
  have hx := wf_okC hw.1
  have hf : okF x.2.1 = true := wf_okF hw.2.1
  have hl := okB_len (by omega) hx.1
  refine ⟨x.1.length + 1, ?_⟩
  refine noted_loop2 hx (step := f3.s1 (x.1.length + 1) x) (Nat.lt_succ_self _) (fun S hl => ?_) (fun S i l v l' e hi hv hl e1 e2 hf => ?_)
  · have g1 := F12_some (l := (true, logOf x.1)) hl.lg hf x.2.2
    have g2 := F13_some hl.rok hf x.2.2
    have g3 := F14_some (l := (true, logOf x.1)) hl.lg hf x.2.2
    have g4 := F15_some hl.rok hf x.2.2
    rw [readC_same hl.asc] at g2
    rw [readB_same hl.asc] at g4
    simp only [f3.s1, at_end, cond_false, List.take_length, g1, g2, g3, g4, Option.bind_some, beq_self_eq_true, cond_true, F16, sameC_self, F17]
  · obtain ⟨g1, g2⟩ := note_runs hl e1 e2 hf
    simp only [f3.s1, at_lt hi, at_ge, at_get hv, Bool.and_self, cond_true, List.take_length, g1, g2, Option.bind_some, bne_self_eq_false, cond_false, nx (show i ≤ _ by omega)]
theorem con3_ok : ConOk Try.prog 3 con3 := f3.ok spec3 con12_ok con13_ok con14_ok con15_ok con16_ok con17_ok con23_ok con30_ok
theorem spec7 : ∀ (X : List dCommit × dAttempt) (Y : Bool), FL [(false, .sl tCommit), (true, tAttempt)] X = some Y → ∃ n, f7.g n X = some Y := by
  intro x y h
  obtain ⟨hw, rfl⟩ := FL_some h
  have hx := wf_okC hw.1
  have hf : okF x.2.2.1 = true := wf_okF hw.2.2.1
  have hl := okB_len (by omega) hx.1
  refine ⟨x.1.length + 3, ?_⟩
  refine noted_loop2 hx (step := f7.s2 (x.1.length + 3) x) (by omega) (fun S hl => ?_) (fun S i l v l' e hi hv hl e1 e2 hf => ?_)
  · have g1 := F22_some hl.rok hf
    have g2 := F21_some (l := (true, logOf x.1)) (t := x.2) hl.lg hf
    rw [try_same hl.asc] at g1
    have t0 : decide ((0 : Int) < 2) = true := rfl
    have t1 : decide ((1 : Int) < 2) = true := rfl
    have t2 : decide ((2 : Int) < 2) = false := rfl
    have w0 : IntKind.wrap .i64 ((0 : Int) + 1) = 1 := rfl
    have w1 : IntKind.wrap .i64 ((1 : Int) + 1) = 2 := rfl
    have step : ∀ (k : Nat) (y5 : Int), f7.s1 (x.1.length + 3) x (relS (logOf x.1), (x.1.length : Int), true, (logOf x.1).length, logOf x.1) (tryS (true, logOf x.1) x.2) (iter (f7.s1 (x.1.length + 3) x (relS (logOf x.1), (x.1.length : Int), true, (logOf x.1).length, logOf x.1) (tryS (true, logOf x.1) x.2)) k) y5 =
        bif decide (y5 < 2) then iter (f7.s1 (x.1.length + 3) x (relS (logOf x.1), (x.1.length : Int), true, (logOf x.1).length, logOf x.1) (tryS (true, logOf x.1) x.2)) k (IntKind.wrap .i64 (y5 + 1)) else some true := fun k y5 => by
      simp only [f7.s1, List.take_length, g2, Option.bind_some, bne_self_eq_false, cond_false, F16, sameC_self, Bool.not_true, F18_some (l := (true, logOf x.1)) hl.b80 hl.r32, stamps_same, cond_true, F17]
    simp only [f7.s2, at_end, cond_false, g1, Option.bind_some]
    show f7.s1 (x.1.length + 3) x _ _ (iter _ (x.1.length + 2)) 0 = some true
    rw [step, t0, cond_true, w0]
    show f7.s1 (x.1.length + 3) x _ _ (iter _ (x.1.length + 1)) 1 = some true
    rw [step, t1, cond_true, w1]
    show f7.s1 (x.1.length + 3) x _ _ (iter _ (x.1.length)) 2 = some true
    rw [step, t2]
    rfl
  · obtain ⟨g1, g2⟩ := note_runs hl e1 e2 hf
    simp only [f7.s2, at_lt hi, at_ge, at_get hv, Bool.and_self, cond_true, List.take_length, g1, g2, Option.bind_some, bne_self_eq_false, cond_false, nx (show i ≤ _ by omega)]
theorem con7_ok : ConOk Try.prog 7 con7 := f7.ok spec7 con16_ok con17_ok con18_ok con21_ok con22_ok con23_ok con30_ok

theorem spec26 : ∀ X Y, F26 X = some Y → ∃ n, f26.g n X = some Y := by
  rintro ⟨s0, x⟩ y h
  obtain ⟨ho, rfl⟩ := some_bif h
  obtain ⟨ha, hs⟩ := Bool.and_eq_true _ _ ▸ ho
  obtain ⟨hx, hf⟩ := okA_iff ha
  have hs0 : 0 ≤ s0 := of_decide_eq_true hs
  refine ⟨x.length + 1, ?_⟩
  simp only [f26.g, schedS, gt_4096]
  cases hd : decide (s0 > 4611686018427387904) with
  | true => rfl
  | false =>
  have hs1 : s0 ≤ 4611686018427387904 := by rw [decide_eq_false_iff_not] at hd; omega
  simp only [cond_false]
  cases hn : decide (x.length > 4096) with
  | true => rfl
  | false =>
  rw [decide_eq_false_iff_not] at hn
  simp only [cond_false]
  have := iter_all (step := f26.s1 (x.length + 1) (s0, x)) x (fun i (a : Int × List dCommit × List dFate) => (a.1, (relS a.2.1, (a.2.2.length, ((i : Int), a.2.2)))))
    (fun i a => 0 ≤ a.1 ∧ a.1 ≤ 4611686018427387904 ∧ LogOk a.2.1 ∧ a.2.2.length = i) (fun i a r => some (a.2.2 ++ schedL a.1 a.2.1 r, 0))
    (fun S a _ => by simp only [f26.s1, at_end, cond_false, List.take_length, schedL, List.append_nil]) (fun S i a v r hi hv hr hI ih => by
      obtain ⟨i1, i2, i3, i4⟩ := hI
      obtain ⟨s, l, fs⟩ := a
      simp only at i1 i2 i3 i4
      have hv2 : okF v.2.1 = true := hf v (List.mem_of_getElem? hv)
      have hr56 : decide ((fs.length + 1) * 56 ≤ boundN) = true := room56 (by omega)
      have g0 := F22_some i3.rok hv2
      rw [try_same i3.asc] at g0
      simp only [f26.s1, at_lt hi, at_ge, at_get hv, nx (show i ≤ _ by omega), Bool.and_self, cond_true, List.take_length, g0, Option.bind_some, hr56, schedL]
      cases h1 : (tryS (true, l) v).2 == 0 with
      | false =>
        have h1' : ((tryS (true, l) v).2 != 0) = true := by simpa using h1
        simp only [cond_false, h1', cond_true]
        have := ih (s, l, fs ++ [(0, ((tryS (true, l) v).2, (tryS (true, l) v).1))]) ⟨i1, i2, i3, by simp; omega⟩
        simp only [snoc_len] at this
        rw [this, List.append_assoc]; rfl
      | true =>
      have h1' : ((tryS (true, l) v).2 != 0) = false := by simpa using h1
      simp only [cond_true, h1', cond_false]
      cases h2 : s == 4611686018427387904 with
      | true =>
        simp only [cond_true]
        have := ih (s, l, fs ++ [(0, (4, (tryS (true, l) v).1))]) ⟨i1, i2, i3, by simp; omega⟩
        simp only [snoc_len] at this
        rw [this, List.append_assoc]; rfl
      | false =>
        have h2' : s ≠ 4611686018427387904 := by simpa using h2
        obtain ⟨l', e, e1, e2, e3⟩ := note_same i3 (s + 1) (by omega) hv2
        have g1 := F30_some (l := relS l) i3.r32 hv2 (s + 1)
        rw [e2] at g1
        simp only [cond_false, wrap_u i1 i2, g1, Option.bind_some, e1]
        have := ih (s + 1, l', fs ++ [(s + 1, ((tryS (true, l) v).2, (tryS (true, l) v).1))]) ⟨by simp only; omega, by simp only; omega, e3, by simp; omega⟩
        simp only [snoc_len] at this
        rw [this, List.append_assoc]; rfl) (x.length + 1) (Nat.lt_succ_self _) (s0, [], []) ⟨hs0, hs1, LogOk.nil, rfl⟩
  simpa [relS] using this
theorem con26_ok : ConOk Try.prog 26 con26 := f26.ok spec26 con22_ok con30_ok
theorem F26_some {s : Int} {l : List dAttempt} (h1 : okA l = true) (h2 : 0 ≤ s) : F26 (s, l) = some (schedS s l) := by
  show (bif okA l && decide (0 ≤ s) then _ else _) = _
  rw [h1, decide_eq_true h2]; rfl
theorem spec9 : ∀ (X : Int × List dAttempt) (Y : Bool), FL [(false, .int .u64), (false, .sl tAttempt)] X = some Y → ∃ n, f9.g n X = some Y := by
  rintro ⟨s, x⟩ y h
  obtain ⟨hw, rfl⟩ := FL_some h
  have hs : 0 ≤ s := hw.1.1
  have ha : okA x = true := wf_okA hw.2
  obtain ⟨hx, hf⟩ := okA_iff ha
  have hxl := okB_len (by omega) hx
  have hfl : (schedS s x).1.length ≤ 140737488355328 := by
    unfold schedS
    cases decide (s > 4611686018427387904) <;> cases decide (x.length > 4096) <;> simp [sched_len] <;> omega
  refine ⟨(schedS s x).1.length + 1, ?_⟩
  simp only [f9.g, F25_some ha hs, F26_some ha hs, Option.bind_some, bne_self_eq_false, cond_false]
  refine iter_all (step := f9.s1 ((schedS s x).1.length + 1) (s, x) (schedS s x) (schedS s x)) (schedS s x).1 (fun i (_ : Unit) => (i : Int)) (fun _ _ => True) (fun _ _ _ => some true) (fun S _ _ => ?_) (fun S i _ v r hi hv hr _ ih => ?_) _ (Nat.lt_succ_self _) () trivial
  · simp only [f9.s1, at_end, cond_false]; rfl
  · simp only [f9.s1, at_lt hi, at_ge, at_get hv, nx (show i ≤ _ by omega), Bool.and_self, cond_true, bne_self_eq_false, cond_false, F16, sameC_self, Option.bind_some, Bool.not_true]
    exact ih () trivial
theorem con9_ok : ConOk Try.prog 9 con9 := f9.ok spec9 con16_ok con17_ok con25_ok con26_ok

end Go.Proofs.Ytjedleoebjmkgaa.AI
