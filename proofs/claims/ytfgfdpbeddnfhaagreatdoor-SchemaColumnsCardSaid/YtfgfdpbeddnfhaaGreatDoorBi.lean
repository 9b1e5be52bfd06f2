/- The plain laws of the runs: what awake asks, and the laws. -/
import Derived.Test.YtfgfdpbeddnfhaaGreatDoorBh
set_option linter.unusedVariables false
set_option linter.unusedSimpArgs false
namespace Go.Proofs.YtfgfdpbeddnfhaaGreatDoor.AI
open Go

/-! ### The small table's text -/
theorem sameV_eq {a b : dValue} (h : sameV a b = true) : a = b := by
  unfold sameV at h
  simp only [Bool.and_eq_true] at h
  obtain ⟨⟨⟨h1, h2⟩, h3⟩, h4⟩ := h
  exact Prod.ext (eq_of_beq h1) (Prod.ext (eq_of_beq h2) (Prod.ext (eq_of_beq h3) ((strEq_iff _ _).1 h4)))
theorem sameCol_eq {a b : dColumn} (h : sameCol a b = true) : a = b := by
  unfold sameCol at h
  simp only [Bool.and_eq_true] at h
  obtain ⟨h1, h2, h3, h4⟩ := h
  exact Prod.ext ((strEq_iff _ _).1 h1) (Prod.ext (eq_of_beq h2) (Prod.ext (eq_of_beq h3) (sameV_eq h4)))
theorem one_key {l : List Int} (h : (match l with | [k] => k == 0 | _ => false) = true) : l = [0] := by
  split at h
  · rw [eq_of_beq h]
  · cases h
theorem sameSmall_eq {t : dTable} (h : sameSmall t = true) : t = smallT := by
  unfold sameSmall at h
  simp only [Bool.and_eq_true] at h
  obtain ⟨h1, h2, h3, h4, h5⟩ := h
  have e2 : t.2.1 = smallT.2.1 := by
    split at h2
    · rename_i c hc
      rw [hc, sameCol_eq h2]; rfl
    · cases h2
  have e4 : t.2.2.2.1 = [] := by
    split at h4
    · assumption
    · cases h4
  have e5 : t.2.2.2.2 = [] := by
    split at h5
    · assumption
    · cases h5
  exact Prod.ext ((strEq_iff _ _).1 h1) (Prod.ext e2 (Prod.ext (one_key h3) (Prod.ext e4 e5)))
set_option maxRecDepth 100000 in
theorem spec49 : ∀ X Y, F49 X = some Y → X = f49.at ∧ ∃ n, f49.g n X = some Y := by
  intro x y h
  obtain ⟨ho, rfl⟩ := some_bif (show (bif sameSmall x.1 && (match x.2 with | [k] => k == 0 | _ => false) then some (⟨#[40, 97, 41]⟩ : ByteArray) else none) = some y from h)
  simp only [Bool.and_eq_true] at ho
  exact ⟨Prod.ext (sameSmall_eq ho.1) (one_key ho.2), 5, by kernel_rfl⟩
theorem con49_ok : ConOk Tryz.prog 49 con49 := f49.ok spec49 con50_ok
set_option maxRecDepth 100000 in
theorem spec29 : ∀ X Y, F29 X = some Y → X = f29.at ∧ ∃ n, f29.g n X = some Y := by
  intro x y h
  obtain ⟨ho, rfl⟩ := some_bif h
  exact ⟨sameSmall_eq ho, 5, by kernel_rfl⟩
theorem con29_ok : ConOk Tryz.prog 29 con29 := f29.ok spec29 con11_ok con48_ok con49_ok con50_ok
set_option maxRecDepth 100000 in
theorem con10_ok : ConOk Tryz.prog 10 con10 := f10.ok (fun x y h => ⟨0, by cases h; kernel_rfl⟩) con11_ok con17_ok con29_ok

/-! ### What the model lets in -/
theorem wf_okB {t : Ty} {b : Nat} (ht : t.bytes = b) {l : List t.den} (h : (Ty.sl t).wf l) : okB b l = true := by
  have h1 : l.length * t.bytes ≤ reachBytes := h.1
  rw [ht] at h1
  refine okB_iff.2 ?_
  have : reachBytes = 140737488351232 := rfl
  omega
theorem wf_okV {x : dValue} (h : tValue.wf x) : okV x = true := by
  have h1 : x.2.2.2.size ≤ reachBytes := h.2.2.2
  have : reachBytes = 140737488351232 := rfl
  exact decide_eq_true (by omega)
theorem wf_okT {t : dTable} (h : tTable.wf t) : okT t = true := by
  obtain ⟨_, h1, h2, h3, h4⟩ := h
  unfold okT
  rw [wf_okB (t := tColumn) (b := 72) rfl h1, wf_okB (t := .int .i64) (b := 8) rfl h2, wf_okB (t := tIndex) (b := 48) rfl h3, wf_okB (t := tRef) (b := 40) rfl h4]
  rw [List.all_eq_true.2 (fun c hc => wf_okV (h1.2 c hc).2.2.2), List.all_eq_true.2 (fun c hc => wf_okB (t := .int .i64) (b := 8) rfl (h3.2 c hc).2.1), List.all_eq_true.2 (fun c hc => wf_okB (t := .int .i64) (b := 8) rfl (h4.2 c hc).1)]
  rfl
theorem F10_eq : F10 () = some true := rfl

theorem spec3 : ∀ (X : ByteArray) (Y : Bool), FL [(false, .str)] X = some Y → ∃ n, f3.g n X = some Y := by
  intro x y h
  obtain ⟨hw, rfl⟩ := FL_some h
  exact ⟨0, by simp only [f3.g, F8_eq, F9_eq, F10_eq, Option.bind_some, beq_self_eq_true, cond_true]⟩
theorem con3_ok : ConOk Tryz.prog 3 con3 := f3.ok spec3 con8_ok con9_ok con10_ok
theorem spec4 : ∀ (X : dTable) (Y : Bool), FL [(true, tTable)] X = some Y → ∃ n, f4.g n X = some Y := by
  intro x y h
  obtain ⟨hw, rfl⟩ := FL_some h
  have ho : okT x = true := wf_okT hw
  exact ⟨0, by simp only [f4.g, F12_some ho, F11_some ho, F13_some ho, F10_eq, Option.bind_some, beq_self_eq_true, cond_true]⟩
theorem con4_ok : ConOk Tryz.prog 4 con4 := f4.ok spec4 con10_ok con11_ok con12_ok con13_ok
theorem spec5 : ∀ (X : dTable × List dValue) (Y : Bool), FL [(true, tTable), (false, .sl tValue)] X = some Y → ∃ n, f5.g n X = some Y := by
  intro x y h
  obtain ⟨hw, rfl⟩ := FL_some h
  have ho : okT x.1 = true := wf_okT hw.1
  have hr : (Ty.sl tValue).wf x.2 := hw.2
  have h2 : okB 40 x.2 = true := wf_okB (t := tValue) rfl hr
  have h3 : ∀ v ∈ x.2, okV v = true := fun v hv => wf_okV (hr.2 v hv)
  exact ⟨0, by simp only [f5.g, F12_some ho, F15_some h2, F14_some ho h2 h3, show F16 x = some (admitS x.1 x.2) from F16_some ho h2 h3, F10_eq, Option.bind_some, beq_self_eq_true, cond_true]⟩
theorem con5_ok : ConOk Tryz.prog 5 con5 := f5.ok spec5 con10_ok con12_ok con14_ok con15_ok con16_ok

theorem sameV_refl (a : dValue) : sameV a a = true := by
  unfold sameV
  simp [(strEq_iff a.2.2.2 a.2.2.2).2 rfl]
theorem sameR_refl : ∀ l : List dValue, sameR l l = true
  | [] => rfl
  | a :: l => by rw [sameR, sameV_refl, sameR_refl l]; rfl
theorem spec6 : ∀ (X : dTable × List Int × List dValue) (Y : Bool), FL [(true, tTable), (false, .sl (.int .i64)), (false, .sl tValue)] X = some Y → ∃ n, f6.g n X = some Y := by
  intro x y h
  obtain ⟨hw, rfl⟩ := FL_some h
  have ho : okT x.1 = true := wf_okT hw.1
  have hk : okB 8 x.2.1 = true := wf_okB (t := .int .i64) rfl hw.2.1
  have hr : (Ty.sl tValue).wf x.2.2 := hw.2.2
  have h2 : okB 40 x.2.2 = true := wf_okB (t := tValue) rfl hr
  have h3 : ∀ v ∈ x.2.2, okV v = true := fun v hv => wf_okV (hr.2 v hv)
  have hx : Ok17 (x.1, x.2.1, x.2.2) := ⟨ho, hk, h2, h3⟩
  have e1 : decide ((0 + x.2.1.length) * 8 ≤ boundN) = true := by
    have := okB_iff.1 hk
    have hb : boundN = 140737488355328 := rfl
    rw [decide_eq_true_iff, hb]; omega
  have e2 : List.take (0 + x.2.1.length) (List.take 0 ([] : List Int) ++ x.2.1) = x.2.1 := by simp
  have e3 : okB 40 (fillS x.1 x.2.1 x.2.2).1 = true := by
    unfold fillS
    cases checkT x.1 != 0 with
    | true => rfl
    | false =>
      rw [cond_false]
      cases ((x.2.1.length : Int) != (x.2.2.length : Int)) || (decide (x.2.1.length > 0) && !someS x.1.2.1.length x.2.1) with
      | true => rfl
      | false =>
        rw [cond_false]
        cases admitS x.1 (putL (x.1.2.1.map fun c => c.2.2.2) x.2.1 x.2.2) != 0 with
        | true => rfl
        | false => exact row_okB (x := (x.1, x.2.1, x.2.2)) hx
  exact ⟨0, by simp only [f6.g, F12_some ho, e1, e2, F15_some h2, F17_some hx, show F18 x = some (fillS x.1 x.2.1 x.2.2) from F18_some hx, F19_some e3, sameR_refl, F10_eq, Option.bind_some, beq_self_eq_true, cond_true]⟩
theorem con6_ok : ConOk Tryz.prog 6 con6 := f6.ok spec6 con10_ok con12_ok con15_ok con17_ok con18_ok con19_ok
theorem spec7 : ∀ (X : dTable × ByteArray) (Y : Bool), FL [(true, tTable), (false, .str)] X = some Y → ∃ n, f7.g n X = some Y := by
  intro x y h
  obtain ⟨hw, rfl⟩ := FL_some h
  have ho : okT x.1 = true := wf_okT hw.1
  exact ⟨0, by simp only [f7.g, F12_some ho, F20_some ho, show F21 x = some (columnS x.1 x.2) from F21_some ho x.2, F10_eq, Option.bind_some, beq_self_eq_true, cond_true]⟩
theorem con7_ok : ConOk Tryz.prog 7 con7 := f7.ok spec7 con10_ok con12_ok con20_ok con21_ok

end Go.Proofs.YtfgfdpbeddnfhaaGreatDoor.AI
