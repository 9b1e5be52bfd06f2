/- The plain laws of the runs: places, footprints, what clashes. -/
import Derived.Test.YtjedleoebjmkgaaBl
set_option linter.unusedVariables false
set_option linter.unusedSimpArgs false
namespace Go.Proofs.Ytjedleoebjmkgaa.AI
open Go

/-- What is kept of a list. -/
theorem keep_loop {α β R : Type} {l : List α} (p : α → Bool) (enc : Nat → List α → β) {K : List α → Option R} {step : (β → Option R) → β → Option R} {m : Nat} (hm : l.length < m)
    (hend : ∀ S acc, step S (enc l.length acc) = K acc)
    (hstep : ∀ S i acc v, i < l.length → l[i]? = some v → acc.length ≤ i → step S (enc i acc) = bif p v then S (enc (i + 1) (acc ++ [v])) else S (enc (i + 1) acc)) : iter step m (enc 0 []) = K (l.filter p) := by
  have := iter_all (step := step) l enc (fun i acc => acc.length ≤ i) (fun _ acc r => K (acc ++ r.filter p))
    (fun S acc _ => by rw [hend]; simp) (fun S i acc v r hi hv hr hI ih => by
      rw [hstep S i acc v hi hv hI, List.filter_cons]
      cases hp : p v with
      | true => rw [cond_true, ih _ (by simp; omega)]; simp
      | false => rw [cond_false, ih _ (by omega)]; simp) m hm [] (Nat.le_refl _)
  simpa using this

theorem leastL_congr {p q : dPoint → Bool} (h : ∀ v, p v = q v) (b : Bool) (y : dPoint) (l : List dPoint) : leastL p b y l = leastL q b y l := by
  have : p = q := funext h
  rw [this]
theorem sameP_iff {a b : dPoint} : sameP a b = true ↔ a = b := eqB_iff tPoint a b rfl
theorem sameP_comm (a b : dPoint) : sameP a b = sameP b a := by
  rw [Bool.eq_iff_iff, sameP_iff, sameP_iff]; exact eq_comm
theorem sameP_def (a b : dPoint) : tPoint.eqB a b = sameP a b := rfl

theorem okF_iff {f : dFoot} (h : okF f = true) : okB 32 f.1 = true ∧ okB 56 f.2.1 = true ∧ okB 32 f.2.2 = true := by
  unfold okF at h
  simp only [Bool.and_eq_true] at h
  exact h
theorem okLg_iff {l : List dCommit} (h : okLg l = true) : okB 80 l = true ∧ ∀ c ∈ l, okF c.2 = true := by
  unfold okLg at h
  simp only [Bool.and_eq_true, List.all_eq_true] at h
  exact h
theorem okB_drop {α : Type} {b : Nat} {l : List α} (h : okB b l = true) (i : Nat) : okB b (l.drop i) = true := by
  have h1 := okB_iff.1 h
  refine okB_iff.2 ?_
  have : (l.drop i).length * b ≤ l.length * b := Nat.mul_le_mul_right _ (by rw [List.length_drop]; omega)
  omega
theorem okB_nil {α : Type} {b : Nat} : okB b ([] : List α) = true := okB_iff.2 (by simp)
theorem size_wrap {f : dFoot} (h : okF f = true) : IntKind.wrap .i64 (IntKind.wrap .i64 ((f.1.length : Int) + (f.2.1.length : Int)) + (f.2.2.length : Int)) = sizeS f := by
  obtain ⟨h1, h2, h3⟩ := okF_iff h
  have l1 := okB_len (by omega) h1
  have l2 := okB_len (by omega) h2
  have l3 := okB_len (by omega) h3
  rw [wrap_ok (n := (f.1.length : Int) + (f.2.1.length : Int)) (by omega) (by omega), wrap_ok (by omega) (by omega)]
  rfl

/-! ### The order of places -/
theorem spec67 : ∀ X Y, F67 X = some Y → ∃ n, f67.g n X = some Y := by
  intro x y h
  cases h
  refine ⟨0, ?_⟩
  simp only [f67.g, cmpI, bne_self_eq_false, cond_false]
  cases decide (x.1 < x.2) <;> cases decide (x.1 > x.2) <;> rfl
theorem con67_ok : ConOk Try.prog 67 con67 := f67.ok spec67
theorem spec66 : ∀ X Y, F66 X = some Y → ∃ n, f66.g n X = some Y := by
  intro x y h
  obtain ⟨ho, rfl⟩ := some_bif h
  have hl := okB_len (by omega) ho
  refine ⟨x.length + 1, ?_⟩
  exact iter_all (step := f66.s1 (x.length + 1) x) x (fun i (_ : Unit) => (i : Int)) (fun _ _ => True) (fun _ _ r => some (orS r))
    (fun S _ _ => by simp only [f66.s1, at_end, cond_false, orS]) (fun S i _ v r hi hv hr _ ih => by
      simp only [f66.s1, at_lt hi, at_ge, at_get hv, nx (show i ≤ _ by omega), Bool.and_self, cond_true, ih () trivial, orS]
      cases v != 0 <;> rfl) _ (Nat.lt_succ_self _) () trivial
theorem con66_ok : ConOk Try.prog 66 con66 := f66.ok spec66
theorem spec58 : ∀ X Y, F58 X = some Y → ∃ n, f58.g n X = some Y := by
  intro x y h
  cases h
  exact ⟨0, by simp only [f58.g, F67, F68, Option.bind_some]; rfl⟩
theorem con58_ok : ConOk Try.prog 58 con58 := f58.ok spec58 con66_ok con67_ok con68_ok
theorem spec61 : ∀ X Y, F61 X = some Y → ∃ n, f61.g n X = some Y := by
  intro x y h
  cases h
  exact ⟨0, by simp only [f61.g, hasR, cond_and', cond_or']⟩
theorem con61_ok : ConOk Try.prog 61 con61 := f61.ok spec61

/-! ### Places, searched for -/
theorem spec64 : ∀ X Y, F64 X = some Y → ∃ n, f64.g n X = some Y := by
  intro x y h
  obtain ⟨ho, rfl⟩ := some_bif h
  have hl := okB_len (by omega) ho
  refine ⟨x.1.length + 1, idx_loop _ (Nat.lt_succ_self _) (fun S => ?_) (fun S i v hi hv => ?_)⟩
  · simp only [f64.s1, at_end, cond_false]
  · simp only [f64.s1, at_lt hi, at_ge, at_get hv, nx (show i ≤ _ by omega), Bool.and_self, cond_true, cond_and', mayI]
theorem con64_ok : ConOk Try.prog 64 con64 := f64.ok spec64
theorem F55_some {l : List dPoint} (h : okB 32 l = true) : F55 (l, ()) = some (l.any fun p => !mayI p.1 p.2.1) := by
  show (bif okB 32 l then _ else _) = _
  rw [h]; rfl
theorem spec55 : ∀ X Y, F55 X = some Y → ∃ n, f55.g n X = some Y := by
  intro x y h
  obtain ⟨ho, rfl⟩ := some_bif h
  have e : F64 (x.1, ()) = some (idxI (fun p => !mayI p.1 p.2.1) x.1) := by show (bif okB 32 x.1 then _ else _) = _; rw [ho]; rfl
  exact ⟨0, by simp only [f55.g, e, Option.bind_some, idx_any]⟩
theorem con55_ok : ConOk Try.prog 55 con55 := f55.ok spec55 con64_ok
theorem spec65a : ∀ X Y, F65a X = some Y → ∃ n, f65a.g n X = some Y := by
  intro x y h
  obtain ⟨ho, rfl⟩ := some_bif h
  have hl := okB_len (by omega) ho
  refine ⟨x.1.length + 1, idx_loop _ (Nat.lt_succ_self _) (fun S => ?_) (fun S i v hi hv => ?_)⟩
  · simp only [f65a.s1, at_end, cond_false]
  · simp only [f65a.s1, at_lt hi, at_ge, at_get hv, nx (show i ≤ _ by omega), Bool.and_self, cond_true, cond_and', mayI]
theorem spec65b : ∀ X Y, F65b X = some Y → ∃ n, f65b.g n X = some Y := by
  intro x y h
  obtain ⟨ho, rfl⟩ := some_bif h
  have hl := okB_len (by omega) ho
  refine ⟨x.1.length + 1, idx_loop _ (Nat.lt_succ_self _) (fun S => ?_) (fun S i v hi hv => ?_)⟩
  · simp only [f65b.s1, at_end, cond_false]
  · simp only [f65b.s1, at_lt hi, at_ge, at_get hv, nx (show i ≤ _ by omega), Bool.and_self, cond_true, cond_and', F61, Option.bind_some, spanHas]
    cases (v.1 == x.2.1 && v.2.1 == x.2.2.1) <;> rfl
theorem con65_ok : ConOk Try.prog 65 con65 := orCon_ok (f65a.ok spec65a) (f65b.ok spec65b con61_ok)
theorem F56a_some {l : List dSpan} (h : okB 56 l = true) : F56a (l, ()) = some (l.any fun s => !mayI s.1 s.2.1) := by
  show (bif okB 56 l then _ else _) = _
  rw [h]; rfl
theorem F56b_some {l : List dSpan} (h : okB 56 l = true) (p : dPoint) : F56b (l, p) = some (l.any fun s => spanHas s p) := by
  show (bif okB 56 l then _ else _) = _
  rw [h]; rfl
theorem spec56a : ∀ X Y, F56a X = some Y → ∃ n, f56a.g n X = some Y := by
  intro x y h
  obtain ⟨ho, rfl⟩ := some_bif h
  have e : F65a (x.1, ()) = some (idxI (fun s => !mayI s.1 s.2.1) x.1) := by show (bif okB 56 x.1 then _ else _) = _; rw [ho]; rfl
  exact ⟨0, by simp only [f56a.g, e, Option.bind_some, idx_any]⟩
theorem spec56b : ∀ X Y, F56b X = some Y → ∃ n, f56b.g n X = some Y := by
  intro x y h
  obtain ⟨ho, rfl⟩ := some_bif h
  have e : F65b x = some (idxI (fun s => spanHas s x.2) x.1) := by show (bif okB 56 x.1 then _ else _) = _; rw [ho]; rfl
  exact ⟨0, by simp only [f56b.g, e, Option.bind_some, idx_any]⟩
theorem con56_ok : ConOk Try.prog 56 con56 := orCon_ok (f56a.ok spec56a con65_ok) (f56b.ok spec56b con61_ok con65_ok)
theorem F38_some {f : dFoot} (h : okF f = true) : F38 f = some (checkS f) := by
  show (bif okF f then _ else _) = _
  rw [h]; rfl
theorem spec38 : ∀ X Y, F38 X = some Y → ∃ n, f38.g n X = some Y := by
  intro x y h
  obtain ⟨ho, rfl⟩ := some_bif h
  obtain ⟨h1, h2, h3⟩ := okF_iff ho
  refine ⟨0, ?_⟩
  simp only [f38.g, size_wrap ho, F55_some h1, F55_some h3, F56a_some h2, Option.bind_some, checkS]
  cases decide (sizeS x > 65536)
  · simp only [cond_false]
    cases x.1.any (fun p => !mayI p.1 p.2.1)
    · cases x.2.2.any (fun p => !mayI p.1 p.2.1)
      · cases x.2.1.any (fun s => !mayI s.1 s.2.1) <;> rfl
      · rfl
    · rfl
  · rfl
theorem con38_ok : ConOk Try.prog 38 con38 := f38.ok spec38 con55_ok con56_ok
theorem spec69 : ∀ X Y, F69 X = some Y → ∃ n, f69.g n X = some Y := by
  intro x y h
  obtain ⟨ho, rfl⟩ := some_bif h
  have hl := okB_len (by omega) ho
  refine ⟨x.1.length + 1, idx_loop _ (Nat.lt_succ_self _) (fun S => ?_) (fun S i v hi hv => ?_)⟩
  · simp only [f69.s1, at_end, cond_false]
  · simp only [f69.s1, at_lt hi, at_ge, at_get hv, nx (show i ≤ _ by omega), Bool.and_self, cond_true, sameP_def]
theorem con69_ok : ConOk Try.prog 69 con69 := f69.ok spec69
theorem spec59 : ∀ X Y, F59 X = some Y → ∃ n, f59.g n X = some Y := by
  intro x y h
  obtain ⟨ho, rfl⟩ := some_bif h
  have e : F69 x = some (idxI (fun q => sameP x.2 q) x.1) := by show (bif okB 32 x.1 then _ else _) = _; rw [ho]; rfl
  exact ⟨0, by simp only [f59.g, e, Option.bind_some, idx_any]⟩
theorem con59_ok : ConOk Try.prog 59 con59 := f59.ok spec59 con69_ok
theorem F59_some {l : List dPoint} (h : okB 32 l = true) (p : dPoint) : F59 (l, p) = some (l.any fun q => sameP p q) := by
  show (bif okB 32 l then _ else _) = _
  rw [h]; rfl
theorem F42_some {f : dFoot} (h : okF f = true) (p : dPoint) : F42 (f, p) = some (readsS f p) := by
  show (bif okF f then _ else _) = _
  rw [h]; rfl
theorem spec42 : ∀ X Y, F42 X = some Y → ∃ n, f42.g n X = some Y := by
  intro x y h
  obtain ⟨ho, rfl⟩ := some_bif h
  obtain ⟨h1, h2, h3⟩ := okF_iff ho
  refine ⟨0, ?_⟩
  simp only [f42.g, F59_some h1, F56b_some h2, Option.bind_some, readsS]
  cases x.1.1.any (fun q => sameP x.2 q) <;> rfl
theorem con42_ok : ConOk Try.prog 42 con42 := f42.ok spec42 con56_ok con59_ok

/-! ### The least -/
theorem spec40a : ∀ X Y, F40a X = some Y → ∃ n, f40a.g n X = some Y := by
  intro x y h
  obtain ⟨ho, rfl⟩ := some_bif h
  obtain ⟨h1, h2⟩ := Bool.and_eq_true _ _ ▸ ho
  have hl := okB_len (by omega) h1
  refine ⟨x.1.length + 1, ?_⟩
  exact iter_all (step := f40a.s1 (x.1.length + 1) x) x.1 (fun i (a : Bool × dPoint) => (a.1, ((i : Int), a.2))) (fun _ _ => True)
    (fun _ a r => some (leastL (fun q => x.2.1.any (fun v => sameP v q) || readsS x.2.2 q) a.1 a.2 r))
    (fun S a _ => by simp only [f40a.s1, at_end, cond_false, leastL]) (fun S i a v r hi hv hr _ ih => by
      simp only [f40a.s1, at_lt hi, at_ge, at_get hv, nx (show i ≤ _ by omega), Bool.and_self, cond_true, F42_some h2, F58, Option.bind_some, sameP_def, leastL]
      have i1 := ih (true, v) trivial
      have i2 := ih a trivial
      simp only at i1 i2
      simp only [i1, i2]
      cases a.1
      · cases x.2.1.any (fun w => sameP w v)
        · cases readsS x.2.2 v <;> rfl
        · rfl
      · cases decide (cmpP v a.2 < 0)
        · rfl
        · cases x.2.1.any (fun w => sameP w v)
          · cases readsS x.2.2 v <;> rfl
          · rfl) _ (Nat.lt_succ_self _) (false, noP) trivial
theorem spec40b : ∀ X Y, F40b X = some Y → ∃ n, f40b.g n X = some Y := by
  intro x y h
  obtain ⟨h1, rfl⟩ := some_bif h
  have hl := okB_len (by omega) h1
  refine ⟨x.1.length + 1, ?_⟩
  exact iter_all (step := f40b.s1 (x.1.length + 1) x) x.1 (fun i (a : Bool × dPoint) => (a.1, ((i : Int), a.2))) (fun _ _ => True)
    (fun _ a r => some (leastL (fun q => x.2.any (fun v => sameP v q) && q.2.1 == -1) a.1 a.2 r))
    (fun S a _ => by simp only [f40b.s1, at_end, cond_false, leastL]) (fun S i a v r hi hv hr _ ih => by
      simp only [f40b.s1, at_lt hi, at_ge, at_get hv, nx (show i ≤ _ by omega), Bool.and_self, cond_true, F58, Option.bind_some, sameP_def, leastL, cond_and']
      have i1 := ih (true, v) trivial
      have i2 := ih a trivial
      simp only at i1 i2
      simp only [i1, i2]
      cases a.1
      · cases (x.2.any (fun w => sameP w v) && v.2.1 == -1) <;> rfl
      · cases decide (cmpP v a.2 < 0)
        · rfl
        · cases (x.2.any (fun w => sameP w v) && v.2.1 == -1) <;> rfl) _ (Nat.lt_succ_self _) (false, noP) trivial
theorem con40_ok : ConOk Try.prog 40 con40 := orCon_ok (f40a.ok spec40a con42_ok con58_ok) (f40b.ok spec40b con58_ok)

/-- A set of what a list holds. -/
theorem set_loop {R : Type} {l : List dPoint} (hb : okB 32 l = true) {K : List dPoint → Option R} {Z : Option R} {step : ((Int × List dPoint) → Option R) → Int × List dPoint → Option R} {m : Nat} (hm : l.length < m)
    (hend : ∀ S s, (∀ q, s.any (fun v => sameP v q) = l.any (fun v => sameP v q)) → step S ((l.length : Int), s) = Z)
    (hstep : ∀ S i s v, i < l.length → l[i]? = some v → step S ((i : Int), s) = S (((i + 1 : Nat) : Int), bif s.any (fun w => sameP w v) then s else s ++ [v])) : iter step m (0, []) = Z :=
  iter_all (step := step) l (fun i s => ((i : Int), s)) (fun i s => ∀ q, s.any (fun v => sameP v q) = (l.take i).any (fun v => sameP v q)) (fun _ _ _ => Z)
    (fun S s hs => hend S s (by simpa using hs)) (fun S i s v r hi hv hr hI ih => by
      rw [hstep S i s v hi hv]
      refine ih _ (fun q => ?_)
      rw [← take_next hv, List.any_append, ← hI q]
      cases hs : s.any (fun w => sameP w v) with
      | true =>
        rw [cond_true]
        simp only [List.any_cons, List.any_nil, Bool.or_false]
        cases hq : sameP v q with
        | false => rw [Bool.or_false]
        | true => rw [← sameP_iff.1 hq, hs]; rfl
      | false => rw [cond_false, List.any_append]) m hm [] (fun q => by simp)
theorem F40a_some {l s : List dPoint} {f : dFoot} (h : okB 32 l = true) (h2 : okF f = true) : F40a (l, (s, f)) = some (leastL (fun q => s.any (fun v => sameP v q) || readsS f q) false noP l) := by
  show (bif okB 32 l && okF f then _ else _) = _
  rw [h, h2]; rfl
theorem F40b_some {l s : List dPoint} (h : okB 32 l = true) : F40b (l, s) = some (leastL (fun q => s.any (fun v => sameP v q) && q.2.1 == -1) false noP l) := by
  show (bif okB 32 l then _ else _) = _
  rw [h]; rfl
theorem spec27 : ∀ X Y, F27 X = some Y → ∃ n, f27.g n X = some Y := by
  intro x y h
  obtain ⟨ho, rfl⟩ := some_bif h
  obtain ⟨ha, hb⟩ := Bool.and_eq_true _ _ ▸ ho
  obtain ⟨a1, a2, a3⟩ := okF_iff ha
  obtain ⟨b1, b2, b3⟩ := okF_iff hb
  have hl := okB_len (by omega) a1
  refine ⟨x.1.1.length + 1, ?_⟩
  refine set_loop (K := fun _ => none) (l := x.1.1) (step := f27.s1 (x.1.1.length + 1) x) a1 (Nat.lt_succ_self _) (fun S s hs => ?_) (fun S i s v hi hv => ?_)
  · have hf : okF (([], (x.1.2.1, [])) : dFoot) = true := by unfold okF; rw [okB_nil, a2]; rfl
    simp only [f27.s1, at_end, cond_false, F40a_some b3 hf, Option.bind_some, clashS]
    congr 1
    refine leastL_congr (fun q => ?_) _ _ _
    rw [hs q]
    simp only [readsS, List.any_nil, Bool.false_or]
    congr 1
    congr 1
    funext v
    exact sameP_comm v q
  · simp only [f27.s1, at_lt hi, at_ge, at_get hv, nx (show i ≤ _ by omega), Bool.and_self, cond_true, sameP_def]
theorem con27_ok : ConOk Try.prog 27 con27 := f27.ok spec27 con40_ok
theorem spec28 : ∀ X Y, F28 X = some Y → ∃ n, f28.g n X = some Y := by
  intro x y h
  obtain ⟨ho, rfl⟩ := some_bif h
  obtain ⟨ha, hb⟩ := Bool.and_eq_true _ _ ▸ ho
  obtain ⟨a1, a2, a3⟩ := okF_iff ha
  obtain ⟨b1, b2, b3⟩ := okF_iff hb
  have hl := okB_len (by omega) b3
  refine ⟨x.2.2.2.length + 1, ?_⟩
  refine set_loop (K := fun _ => none) (l := x.2.2.2) (step := f28.s1 (x.2.2.2.length + 1) x) b3 (Nat.lt_succ_self _) (fun S s hs => ?_) (fun S i s v hi hv => ?_)
  · simp only [f28.s1, at_end, cond_false, F40b_some a3, Option.bind_some, bothS]
    congr 1
    refine leastL_congr (fun q => ?_) _ _ _
    rw [hs q]
  · simp only [f28.s1, at_lt hi, at_ge, at_get hv, nx (show i ≤ _ by omega), Bool.and_self, cond_true, sameP_def]
theorem con28_ok : ConOk Try.prog 28 con28 := f28.ok spec28 con40_ok

end Go.Proofs.Ytjedleoebjmkgaa.AI
