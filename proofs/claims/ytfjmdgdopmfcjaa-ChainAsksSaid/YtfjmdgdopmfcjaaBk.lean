/- The plain laws of the runs: what is asked of versions. -/
import Derived.Test.YtfjmdgdopmfcjaaBi
set_option linter.unusedVariables false
set_option linter.unusedSimpArgs false
namespace Go.Proofs.Ytfjmdgdopmfcjaa.AI
open Go

theorem spec24 : ∀ (X : List dVersion) (Y : Int), F24 X = some Y → ∃ n, f24.g n X = some Y := by
  intro x y h
  obtain ⟨ho, rfl⟩ := some_bif (show (bif okL x then _ else _) = _ from h)
  refine ⟨0, ?_⟩
  unfold f24.g
  rw [F12_some ho, Option.bind_some]
  cases mayP none x <;> rfl
theorem con24_ok : ConOk Try.prog 24 con24 := f24.ok spec24 con12_ok

theorem spec25 : ∀ X Y, F25 X = some Y → ∃ n, f25.g n X = some Y := by
  intro x y h
  obtain ⟨ho, rfl⟩ := some_bif (show (bif okL x.1 then _ else _) = _ from h)
  refine ⟨0, ?_⟩
  have hl := okL_iff.1 ho
  unfold f25.g lifeS
  by_cases h1 : x.2 < 0
  · simp [h1]
  · by_cases h2 : x.2 ≥ (x.1.length : Int)
    · simp [h1, h2]
    · have e0 : (bif (decide (x.2 < (0 : Int))) then true else (decide (x.2 ≥ (x.1.length : Int)))) = false := by
        rw [decide_eq_false h1, decide_eq_false h2]; rfl
      have e0' : (decide (x.2 < (0 : Int)) || decide (x.2 ≥ (x.1.length : Int))) = false := by
        rw [decide_eq_false h1, decide_eq_false h2]; rfl
      have e1 : IntKind.wrap .i64 (x.2 - 1) = x.2 - 1 := wrap_ok (by omega) (by omega)
      simp only [e0, e0', e1, cond_false]
      by_cases h3 : x.2 = 0
      · have a1 : (x.2 == 0) = true := by rw [h3]; rfl
        have a2 : decide ((0 : Int) < (x.1.length : Int)) = true := decide_eq_true (by omega)
        have a3 : decide (x.2 > 0) = false := decide_eq_false (by omega)
        have a4 : x.2.toNat = 0 := by omega
        have a5 : decide ((0 : Int) ≤ 0) = true := by decide
        simp only [a1, a2, a3, a4, a5, cond_true, cond_false, Bool.and_self]
      · have a1 : (x.2 == 0) = false := by simp; exact h3
        have a2 : decide (0 ≤ x.2) = true := decide_eq_true (by omega)
        have a3 : decide (x.2 > 0) = true := decide_eq_true (by omega)
        have a4 : decide (x.2 < (x.1.length : Int)) = true := decide_eq_true (by omega)
        have a5 : decide (0 ≤ x.2 - 1) = true := decide_eq_true (by omega)
        have a6 : decide (x.2 - 1 < (x.1.length : Int)) = true := decide_eq_true (by omega)
        simp only [a1, a2, a3, a4, a5, a6, cond_true, cond_false, Bool.and_self]
theorem con25_ok : ConOk Try.prog 25 con25 := f25.ok spec25

theorem spec27 : ∀ X Y, F27 X = some Y → ∃ n, f27.g n X = some Y := by
  intro x y h
  refine ⟨0, ?_⟩
  simp only [f27.g, show F48a x = some y from h, Option.bind_some]
theorem con27_ok : ConOk Try.prog 27 con27 := f27.ok spec27 con48_ok

theorem spec28 : ∀ X Y, F28 X = some Y → ∃ n, f28.g n X = some Y := by
  intro x y h
  obtain ⟨ho, rfl⟩ := some_bif (show (bif okL x.1 then _ else _) = _ from h)
  refine ⟨x.1.length + 1, ?_⟩
  unfold f28.g
  have := iter_all (step := f28.s1 (x.1.length + 1) x) x.1 (fun i (_ : Unit) => (i : Int)) (fun _ _ => True) (fun i _ r => some (r.any fun v => decide (v.1 > x.2.1) && decide (v.1 ≤ x.2.2)))
    (fun S a _ => by simp only [f28.s1, at_end, cond_false]; rfl) (fun S i a v r hi hv hr _ ih => by
      simp only [f28.s1, at_lt hi, at_ge, at_get hv, at_next ho hi, Bool.and_self, cond_true, ih () trivial, List.any_cons]
      cases decide (v.1 > x.2.1) <;> cases decide (v.1 ≤ x.2.2) <;> rfl) () trivial
  exact this
theorem con28_ok : ConOk Try.prog 28 con28 := f28.ok spec28

theorem spec6 : ∀ (X : List dVersion × Int × Int × Int) (Y : Bool), FL [(false, .sl tVersion), (false, .int .i64), (true, .pair (.int .u64) (.int .u64))] X = some Y → ∃ n, f6.g n X = some Y := by
  intro x y h
  obtain ⟨hw, rfl⟩ := FL_some h
  have hv : okV x.1 = true := wf_okV hw.1
  have ho := okV_okL hv
  refine ⟨0, ?_⟩
  unfold f6.g
  have e27 : F27 (x.1, x.2.2) = some (x.1.any fun v => decide (v.1 > x.2.2.1) && decide (v.1 ≤ x.2.2.2)) := by
    show (bif okL x.1 then _ else _) = _
    rw [ho]; rfl
  have e28 : F28 (x.1, x.2.2) = some (x.1.any fun v => decide (v.1 > x.2.2.1) && decide (v.1 ≤ x.2.2.2)) := e27
  have e24 : F24 x.1 = some (bif mayP none x.1 then 0 else 80) := F23_some ho
  have e25 : F25 (x.1, x.2.1) = some (lifeS x.1 x.2.1) := F14_some ho
  simp only [F23_some ho, e24, e25, F14_some ho, F12_some ho, F13_some, F15_some ho, F26_some ho, e27, e28, Option.bind_some, bne_self_eq_false, beq_self_eq_true, cond_true, cond_false]
  cases mayP none x.1 <;> rfl
theorem con6_ok : ConOk Try.prog 6 con6 := f6.ok spec6 con12_ok con13_ok con14_ok con15_ok con23_ok con24_ok con25_ok con26_ok con27_ok con28_ok

end Go.Proofs.Ytfjmdgdopmfcjaa.AI
