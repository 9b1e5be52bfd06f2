/- A part of the proof. -/
import Derived.Test.YtefddghdaimklaaGreatDoorQa
set_option linter.unusedVariables false
set_option linter.unusedSimpArgs false
namespace Go.Proofs.YtefddghdaimklaaGreatDoor.AI
open Go
theorem Xq (a : wU) : ((.pair .str (.pair .str .bool) : Ty).eqB a a) = true := (tM (.pair .str (.pair .str .bool)) a a rfl).2 rfl
theorem SU {l : List Int} (h : (Ty.sl (.int .i64)).wf l) : okB 8 l = true := om (t := .int .i64) (b := 8) rfl h
theorem OT : ∀ (X : V9 × List Int) (Y : Bool), FL [(true, Zp), (false, .sl (.int .i64))] X = some Y → ∃ n, f3.g n X = some Y := by
 rintro ⟨x, cols⟩ y h
 obtain ⟨hw, rfl⟩ := To h
 have hw' : (tTable.wf x.1 ∧ tExpr.wf x.2.1 ∧ (Ty.sl tValue).wf x.2.2) ∧ (Ty.sl (.int .i64)).wf cols := hw
 have ht := Pc hw'.1.1
 have hb := U4 hw'.1.2.1
 have hcb := SU hw'.2
 have hc := PZ hb
 have g1 : F5 x.2.1 = some (YD x.2.1) := zo hb
 have g2 : F8 (YD x.2.1) = some (YD x.2.1) := zo hc
 have g3 : F6 (x.1, (YD x.2.1, cols)) = some (oN (x.1, (YD x.2.1, cols))) := zo (by rw [ht, hc, hcb]; rfl)
 have g4 : F9 (x.1, (YD x.2.1, cols)) = some (oN (x.1, (YD x.2.1, cols))) := g3
 have g6 : F10 () = some true := rfl
 have hroom : decide ((0 + cols.length) * 8 ≤ zq) = true := Ln (by have := xJ.1 hcb; rw [show zq = 140737488355328 from rfl]; omega)
 have hcopy : List.take (0 + cols.length) (List.take 0 ([] : List Int) ++ cols) = cols := by rw [Nat.zero_add]; exact Lz
 exact ⟨0, by simp only [f3.g, Rose.eta, g1, g2, Rq ht, hroom, hcopy, g3, g4, g6, Lm, beq_self_eq_true, Xq, Lk]⟩
theorem Sc : ConOk Tryz.prog 3 Le := f3.ok OT Rv Tc UQ RK SW X0
end Go.Proofs.YtefddghdaimklaaGreatDoor.AI
