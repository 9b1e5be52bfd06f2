/- The plain laws of values: Check, Same. -/
import Derived.Test.YtnfepfmppoikkaaGreatDoorBq
set_option linter.unusedVariables false
set_option linter.unusedSimpArgs false
namespace Go.Proofs.YtnfepfmppoikkaaGreatDoor.AI
open Go

theorem F9_some {x : dValue} (h : x.2.2.2.size ≤ 140737488351232) : F9 x = some (checkV x) := by
  show (bif decide (x.2.2.2.size ≤ 9223372036854775807) then _ else _) = _
  rw [decide_eq_true (show x.2.2.2.size ≤ 9223372036854775807 by omega)]; rfl

theorem spec3 : ∀ (X : dValue) (Y : Bool), FL [(true, tValue)] X = some Y → ∃ n, f3.g n X = some Y := by
  intro x y h
  obtain ⟨hw, rfl⟩ := FL_some h
  have hx : tValue.wf x := hw
  have hs : x.2.2.2.size ≤ 140737488351232 := hx.2.2.2
  refine ⟨0, ?_⟩
  have e10 : F10 x = some (checkV x) := F9_some hs
  simp only [f3.g, F9_some hs, e10, F11, Option.bind_some, beq_self_eq_true, cond_true]
theorem con3_ok : ConOk Tryz.prog 3 con3 := f3.ok spec3 con9_ok con10_ok con11_ok

theorem same_refl (x : dValue) : sameV x x = true := by
  unfold sameV
  have : strEq x.2.2.2 x.2.2.2 = true := (strEq_iff _ _).2 rfl
  simp [this]

theorem spec7 : ∀ (X : dValue × dValue) (Y : Bool), FL [(true, tValue), (true, tValue)] X = some Y → ∃ n, f7.g n X = some Y := by
  intro x y h
  obtain ⟨hw, rfl⟩ := FL_some h
  refine ⟨0, ?_⟩
  simp only [f7.g, F16, F17, F11, Option.bind_some, beq_self_eq_true, cond_true, same_refl]
theorem con7_ok : ConOk Tryz.prog 7 con7 := f7.ok spec7 con11_ok con16_ok con17_ok

end Go.Proofs.YtnfepfmppoikkaaGreatDoor.AI
