/- A contract out of what a call is known to do: plain data in, plain data out, what stood stands. -/
import Derived.Test.YtfccofgchjieeaaGreatDoorAjc
set_option linter.unusedVariables false
set_option linter.unusedSimpArgs false
namespace Go.Proofs.YtfccofgchjieeaaGreatDoor.AI
open Go Go.RowKit

section
variable {P : Program}

theorem calls_does {f : FuncId} {fn : Func} {vals : Array Value} {w : World} {S : Value → World → Prop} (hf : P.funcs[f]? = some fn) (hn : (fn.name == "runtime.NumGoroutine") = false) (hb : fn.body.isSome = true)
    (h : Calls P f vals w fun e w' => ∃ v, e = .returned v ∧ S v w') : Does P (callFunc f vals) w S := by
  have hrun : (callFunc f vals).run P w = .ok (.enter f vals) w := by
    simp only [beq_eq_false_iff_ne, ne_eq] at hn
    obtain ⟨c, hc⟩ := Option.isSome_iff_exists.1 hb
    simp [callFunc, go_sem, hf, hc, hn]
  unfold Does
  rw [hrun]
  refine Calls.mono h (fun e w' he => ?_)
  obtain ⟨v, rfl, hs⟩ := he
  exact hs

/-- What is asked of a call that lends its arguments and answers with plain data. -/
theorem lendCon_ok {f : FuncId} {s rs : Sig} {F : s.den → Option rs.den} (hfl : ∀ p ∈ rs, p.2.flat = true) (hrd : ∀ Y, readL rs (outL rs Y) [] = some Y)
    (hcall : ∀ (x : Cx) (vals : Array Value) (X : s.den) (Y : rs.den), Inv x → RepVs x (argsL s X) vals.toList → F X = some Y →
      Does P (callFunc f vals) x.w fun u w' => Below x.w.heap.size x.w w' ∧ ∀ y : Cx, RepV y (outL rs Y) u) : ConOk P f (mkCon s rs true F) := by
  refine ⟨fun x args vals X Y hI hv hl hF => ?_, fun h => (by cases h), fun _ args H l X h => lookL_more H l s args X h⟩
  have hl' : lookL s (args.map (roV x.H)) = some X := hl
  have hI' : Inv x.lend.bare := bare_inv (lend_ok hI) (lend_tab hI)
  have hvx : RepVs x.lend.bare (argsL s X) vals.toList := lookL_sound (x := x.lend) (y := x.lend.bare) (fun t d vs h => h) s _ X _ hl' (repVs_ro hI _ _ hv)
  have fin := con_core (x := x) (x' := x.lend.bare) (f := f) (vals := vals) (rs := rs) (Y := Y) hI rfl rfl (.inl hfl) ((hcall x.lend.bare vals X Y hI' hvx hF).mono (by
    rintro u w' ⟨hb, hrep⟩
    let y : Cx := { ok := x.lend.bare.ok, at_ := fun _ => none, w := w', H := [] }
    have hkin : Kin x.lend.bare y := ⟨fun _ h => h, fun b h => hb.block b (hI'.okb b h)⟩
    refine ⟨y, outL rs Y, [], rfl, hrd Y, ⟨?_, rfl, ?_, fun id hid => by omega, Nat.le_refl _, hrep y⟩⟩
    · exact ⟨fun b h => Nat.lt_of_lt_of_le (hI'.okb b h) hb.size, fun i j b oi oj hi => by simp [y] at hi, fun i b o hi => by simp [y] at hi, fun i o hi => by simp [y] at hi, hI'.tab.kin hkin⟩
    · exact ⟨hb.os, hb.tape, hb.output, hb.size, fun b h _ => hb.block b h, fun b h => (by obtain ⟨i, o, h1, _⟩ := h; simp [y] at h1), fun b h => h, fun b h => .inl h⟩))
  refine fin.mono ?_
  rintro u w' ⟨y, r1, r2, r3, r4, r5, r6, r7⟩
  exact ⟨y, r1, r2, r3, r4, fun id _ _ => r5 id, r6, by rw [r2]; exact Nat.le_refl _, r7⟩
end
end Go.Proofs.YtfccofgchjieeaaGreatDoor.AI
