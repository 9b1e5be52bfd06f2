/- The law CursorNobody. -/
import Derived.Test.YtiolbhmbobelcaaGreatDoorCz
set_option linter.unusedVariables false
set_option linter.unusedSimpArgs false
namespace Go.Proofs.YtiolbhmbobelcaaGreatDoor.AI
open Go

theorem fold_nil (what : Int) : f11.g 1 (what, []) = some (foldS what []) := by
  unfold f11.g foldS
  have hbif : (bif decide (what < (1 : Int)) then true else decide (what > (5 : Int))) = (decide (what < 1) || decide (what > 5)) := by cases decide (what < (1 : Int)) <;> rfl
  simp only [hbif]
  cases decide (what < 1) || decide (what > 5) with
  | true => rfl
  | false =>
    simp only [cond_false]
    show f11.s2 1 (what, []) _ _ = _
    unfold f11.s2
    cases h : what == 1 with
    | true => simp only [List.find?_nil, liveL]; rfl
    | false => simp only [List.find?_nil, liveL]; rfl
theorem con11_ok : ConOk Tryz.prog 11 con11 := f11.ok (fun x y h => by
  obtain ⟨h1, rfl⟩ := bifG_some h
  obtain ⟨what, l⟩ := x
  have : l = [] := by simpa using h1
  subst this
  exact ⟨1, fold_nil what⟩) con5_ok con8_ok con26_ok con27_ok
theorem sameV_refl (a : dValue) : sameV a a = true := by
  unfold sameV
  simp [(strEq_iff a.2.2.2 a.2.2.2).2 rfl]
theorem strE : strEq (⟨#[]⟩ : ByteArray) (⟨#[]⟩ : ByteArray) = true := by kernel_rfl
theorem eqE : (.pair .str (.pair .str .bool) : Ty).eqB ((⟨#[]⟩ : ByteArray), ((⟨#[]⟩ : ByteArray), false)) ((⟨#[]⟩ : ByteArray), ((⟨#[]⟩ : ByteArray), false)) = true := by kernel_rfl
theorem spec4 : ∀ (X : Int) (Y : Bool), FL [(false, .int .i64)] X = some Y → ∃ n, f4.g n X = some Y := by
  intro x y h
  obtain ⟨hw, rfl⟩ := FL_some h
  refine ⟨3, ?_⟩
  have g1 : F7 (x, []) = some (foldS x []) := F7_some (x := (x, [])) rfl
  have g2 : F11 (x, []) = some (foldS x []) := bifG_true rfl
  have g3 : F12 ((foldS x []).1, (foldS x []).1) = some true := by
    show some (sameV _ _) = _
    rw [sameV_refl]
  have last : ∀ S, f4.s1 3 x S 2 = some true := fun S => by
    unfold f4.s1
    simp only [show decide ((2 : Int) < 2) = false from rfl, cond_false, g1, g2, Option.bind_some, beq_self_eq_true, cond_true, g3, F6]
  have one : ∀ S, f4.s1 3 x S 1 = S 2 := fun S => by
    unfold f4.s1
    simp only [show decide ((1 : Int) < 2) = true from rfl, show ((1 : Int) == 1) = true from rfl, cond_true, strE, Bool.not_true, cond_false]
    exact congrArg (fun b : Bool => bif !b then some false else S 2) eqE
  have none_ : ∀ S, f4.s1 3 x S 0 = S 1 := fun S => by
    unfold f4.s1
    simp only [show decide ((0 : Int) < 2) = true from rfl, show ((0 : Int) == 1) = false from rfl, cond_true, strE, Bool.not_true, cond_false]
    exact congrArg (fun b : Bool => bif !b then some false else S 1) eqE
  show f4.s1 3 x (iter (f4.s1 3 x) 2) 0 = some true
  rw [none_]
  show f4.s1 3 x (iter (f4.s1 3 x) 1) 1 = some true
  rw [one]
  exact last _
theorem con4_ok : ConOk Tryz.prog 4 con4 := f4.ok spec4 con6_ok con7_ok con11_ok con12_ok
end Go.Proofs.YtiolbhmbobelcaaGreatDoor.AI
