/- Contracts of functions that ask whether their slice is nil. -/
import Derived.Test.YtfccofgchjieeaaGreatDoorAjb
set_option linter.unusedVariables false
set_option linter.unusedSimpArgs false
namespace Go.Proofs.YtfccofgchjieeaaGreatDoor.AI
open Go

section
variable {P : Program} {T : TypeId → Option TI} {env : FuncId → Option Con} {ann : FuncId → Nat → Ann} {code : FuncId → Option Func}

/-- A number of a float's bits: 'math.Float64bits', which has no body here. -/
theorem bitsCon_ok {f : FuncId} (hf : ∀ (b : Nat) (w : World), (callFunc f #[.float .f64 b]).run P w = .ok (.value (.int .u64 b)) w) : ConOk P f (mkCon [(false, .float .f64)] [(false, .int .u64)] true fun (b : Nat) => some (b : Int)) := by
  refine ⟨fun x args vals X Y hI hv hl hF => ?_, fun h => (by cases h), fun _ args H l X h => lookL_more H l _ args X h⟩
  have hl' : lookL [(false, .float .f64)] (args.map (roV x.H)) = some X := hl
  have hvx : RepVs x.lend.bare (argsL [(false, .float .f64)] X) vals.toList := lookL_sound (x := x.lend) (y := x.lend.bare) (fun t d vs h => h) _ _ X _ hl' (repVs_ro hI _ _ hv)
  obtain ⟨u, r, hu, h1, h2⟩ := hvx
  have hr : r = [] := h2
  subst hr
  have h1' : RepV x.lend.bare (.val false [.sc (.float .f64) X]) u := h1
  have h3 : [u] = [Value.float .f64 X] := (of_one h1').2
  simp only [List.cons.injEq, and_true] at h3
  subst h3
  have hvals : vals = #[.float .f64 X] := by cases vals; simp_all
  subst hvals
  cases hF
  exact Does.value (hf X x.w) ⟨x, rfl, rfl, hI, Kept.refl x, fun id _ _ => IdOk.same hI rfl rfl (fun _ _ _ => rfl), Carry.id_of ⟨fun _ h => h, fun _ _ => rfl⟩ (fun id _ => IdOk.same hI rfl rfl (fun _ _ _ => rfl)), Nat.le_refl _, RepV_int _ _⟩
end
end Go.Proofs.YtfccofgchjieeaaGreatDoor.AI
