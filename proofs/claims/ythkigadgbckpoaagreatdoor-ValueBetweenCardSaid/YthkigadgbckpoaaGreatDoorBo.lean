/- The plain law of a number, a float beside it and another: none is passed. -/
import Derived.Test.YthkigadgbckpoaaGreatDoorBq
set_option linter.unusedVariables false
set_option linter.unusedSimpArgs false
namespace Go.Proofs.YthkigadgbckpoaaGreatDoor.AI
open Go

theorem mix_key (f : Nat) : (∀ n, mixS n f = -1) ∨ (∀ n, mixS n f = 1) ∨ ∃ w r : Int, ∀ n, mixS n f = (bif n != w then intS n w else r) := by
  unfold mixS
  cases (fo f f != some .eq || (fo f 4890909195324358656 == some .gt || fo f 4890909195324358656 == some .eq)) with
  | true => exact .inl fun _ => rfl
  | false =>
    cases fo f 14114281232179134464 == some .lt with
    | true => exact .inr (.inl fun _ => rfl)
    | false => exact .inr (.inr ⟨wholeI f, _, fun n => rfl⟩)

theorem int_three (a b : Int) : (a < b ∧ intS a b = -1) ∨ (a = b ∧ intS a b = 0) ∨ (a > b ∧ intS a b = 1) := by
  unfold intS
  by_cases h1 : a < b
  · rw [decide_eq_true h1]; exact .inl ⟨h1, rfl⟩
  · rw [decide_eq_false h1]
    by_cases h2 : a > b
    · rw [decide_eq_true h2]; exact .inr (.inr ⟨h2, rfl⟩)
    · rw [decide_eq_false h2]; exact .inr (.inl ⟨by omega, rfl⟩)

theorem mix_between (n m : Int) (f : Nat) : (mixS n f ≤ 0 → 0 - mixS m f ≤ 0 → intS n m ≤ 0) ∧ (mixS n f ≥ 0 → 0 - mixS m f ≥ 0 → intS n m ≥ 0) := by
  rcases mix_key f with h | h | ⟨w, r, h⟩
  · rw [h, h]; exact ⟨fun _ q => by omega, fun q _ => by omega⟩
  · rw [h, h]; exact ⟨fun q _ => by omega, fun _ q => by omega⟩
  · rw [h, h]
    have three : ∀ k : Int, (k < w ∧ (bif k != w then intS k w else r) = -1) ∨ (k = w ∧ (bif k != w then intS k w else r) = r) ∨ (k > w ∧ (bif k != w then intS k w else r) = 1) := by
      intro k
      rcases int_three k w with ⟨a, b⟩ | ⟨a, b⟩ | ⟨a, b⟩
      · rw [show (k != w) = true by simp; omega]; exact .inl ⟨a, b⟩
      · rw [show (k != w) = false by simp; exact a]; exact .inr (.inl ⟨a, rfl⟩)
      · rw [show (k != w) = true by simp; omega]; exact .inr (.inr ⟨a, b⟩)
    rcases three n with ⟨a1, a2⟩ | ⟨a1, a2⟩ | ⟨a1, a2⟩ <;> rcases three m with ⟨b1, b2⟩ | ⟨b1, b2⟩ | ⟨b1, b2⟩ <;> rcases int_three n m with ⟨c1, c2⟩ | ⟨c1, c2⟩ | ⟨c1, c2⟩ <;> rw [a2, b2, c2] <;> constructor <;> intro p q <;> omega

theorem spec3 : ∀ (X : Int × Int) (Y : Bool), FL [(false, .int .i64), (false, .int .i64)] X = some Y → ∃ n, f3.g n X = some Y := by
  intro x y h
  obtain ⟨hw, rfl⟩ := FL_some h
  refine ⟨0, ?_⟩
  have e5 : F5 (((2 : Int), (x.1, (0, (⟨#[]⟩ : ByteArray)))), (3 : Int)) = some (((3 : Int), ((0 : Int), (FloatKind.f64.nearest x.1, noS))), (0 : Int)) := by kernel_rfl
  have e1 : F6 (((2 : Int), (x.1, (0, (⟨#[]⟩ : ByteArray)))), ((2 : Int), (x.2, (0, (⟨#[]⟩ : ByteArray))))) = some (intS x.1 x.2, true) := by kernel_rfl
  have e2 : F6 (((3 : Int), ((0 : Int), (FloatKind.f64.nearest x.1, noS))), ((2 : Int), (x.2, (0, (⟨#[]⟩ : ByteArray))))) = some (0 - mixS x.2 (FloatKind.f64.nearest x.1), true) := by kernel_rfl
  have e3 : F6 (((2 : Int), (x.1, (0, (⟨#[]⟩ : ByteArray)))), ((3 : Int), ((0 : Int), (FloatKind.f64.nearest x.1, noS)))) = some (mixS x.1 (FloatKind.f64.nearest x.1), true) := by kernel_rfl
  have e7 : F7 () = some true := rfl
  obtain ⟨k1, k2⟩ := mix_between x.1 x.2 (FloatKind.f64.nearest x.1)
  unfold f3.g
  rw [e5]
  simp only [Option.bind_some]
  rw [e1, e2, e3, e7]
  generalize mixS x.1 (FloatKind.f64.nearest x.1) = u at *
  generalize 0 - mixS x.2 (FloatKind.f64.nearest x.1) = v at *
  generalize intS x.1 x.2 = c at *
  simp only [Option.bind_some]
  by_cases a1 : u ≤ 0 <;> by_cases a2 : v ≤ 0 <;> by_cases a3 : u ≥ 0 <;> by_cases a4 : v ≥ 0 <;> by_cases b1 : c > 0 <;> by_cases b2 : c < 0 <;> first
    | (exfalso; omega)
    | (exfalso; have := k1 a1 a2; omega)
    | (exfalso; have := k2 a3 a4; omega)
    | (simp only [a1, a2, a3, a4, b1, b2, decide_true, decide_false]; rfl)
theorem con3_ok : ConOk Tryz.prog 3 con3 := f3.ok spec3 con5_ok con6_ok con7_ok

end Go.Proofs.YthkigadgbckpoaaGreatDoor.AI
