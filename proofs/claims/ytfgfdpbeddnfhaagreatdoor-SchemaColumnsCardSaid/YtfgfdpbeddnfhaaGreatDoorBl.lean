/- Contracts of the library's functions that this seat calls, out of the kit's own calls. -/
import Derived.Test.YtfgfdpbeddnfhaaGreatDoorBz
import Derived.Test.YtfgfdpbeddnfhaaGreatDoorAjd
import Derived.Test.YtfgfdpbeddnfhaaGreatDoorBs
set_option linter.unusedVariables false
set_option linter.unusedSimpArgs false
namespace Go.Proofs.YtfgfdpbeddnfhaaGreatDoor.AI
open Go Go.RowKit Go.Shelf

theorem args1 {x : Cx} {t : Ty} {X : t.den} {vals : Array Value} (h : RepVs x (argsL [(false, t)] X) vals.toList) : ∃ u, vals = #[u] ∧ RepV x (.val false (t.cells X)) u := by
  obtain ⟨u, r, hu, h1, h2⟩ := h
  have hr : r = [] := h2
  subst hr
  exact ⟨u, by cases vals; simp_all, h1⟩
theorem args2 {x : Cx} {t s : Ty} {X : t.den × s.den} {vals : Array Value} (h : RepVs x (argsL [(false, t), (false, s)] X) vals.toList) : ∃ u v, vals = #[u, v] ∧ RepV x (.val false (t.cells X.1)) u ∧ RepV x (.val false (s.cells X.2)) v := by
  obtain ⟨u, r, hu, h1, v, r', hr, h2, h3⟩ := h
  have hr' : r' = [] := h3
  subst hr'
  subst hr
  exact ⟨u, v, by cases vals; simp_all, h1, h2⟩
theorem some_bif {α : Type} {c : Bool} {x y : α} (h : (bif c then some x else none) = some y) : c = true ∧ x = y := by
  cases c with
  | true => exact ⟨rfl, Option.some.inj h⟩
  | false => cases h

/-! ### What has no body -/
theorem bits56 (b : Nat) (w : World) : (callFunc 56 #[.float .f64 b]).run Tryz.prog w = .ok (.value (.int .u64 b)) w := by kernel_rfl
theorem con56_ok : ConOk Tryz.prog 56 con56 := bitsCon_ok bits56

/-! ### What the kit has shown -/
theorem body47 : (Tryz.f47.name == "runtime.NumGoroutine") = false ∧ Tryz.f47.body.isSome = true := ⟨by kernel_rfl, by kernel_rfl⟩
theorem body57 : (Tryz.f57.name == "runtime.NumGoroutine") = false ∧ Tryz.f57.body.isSome = true := ⟨by kernel_rfl, by kernel_rfl⟩
theorem body50 : (Tryz.f50.name == "runtime.NumGoroutine") = false ∧ Tryz.f50.body.isSome = true := ⟨by kernel_rfl, by kernel_rfl⟩
theorem of_str' {x : Cx} {s : ByteArray} {u : Value} (h : RepV x (.val false [.sc .str s]) u) : u = .string s := of_str h

theorem con48_ok : ConOk Tryz.prog 48 con48 := lendCon_ok (List.all_eq_true.1 rfl) (fun _ => rfl) (fun x vals X Y hI hv hF => by cases hF)

theorem tab_utf {x : Cx} (hI : Inv x) : Lib.Utf8Tabs 2 3 x.w := ⟨(hI.tab.1 2 _ .first).2 x.w rfl, (hI.tab.1 3 _ .accept).2 x.w rfl⟩

set_option maxRecDepth 100000 in
theorem con47_ok : ConOk Tryz.prog 47 con47 := lendCon_ok (List.all_eq_true.1 rfl) (fun _ => rfl) (fun x vals X Y hI hv hF => by
  obtain ⟨u, v, rfl, h1, h2⟩ := args2 (t := .str) (s := .str) hv
  obtain ⟨hc, rfl⟩ := some_bif (show (bif decide (X.1.size < 4294967281) then some (Lib.contains X.1.data.toList X.2.data.toList) else none) = some Y from hF)
  obtain ⟨m, hm⟩ := (hI.tab.1 4 _ .maxLen).2 x.w rfl
  rw [of_str' h1, of_str' h2]
  refine calls_does Tryz.func47 body47.1 body47.2 ((YtfgfdpbeddnfhaaGreatDoor.strings_Contains X.1 X.2 m x.w (of_decide_eq_true hc) hm).mono (fun e w' he => ?_))
  obtain ⟨rfl, rfl⟩ := he
  exact ⟨_, rfl, Below.refl _ _, fun y => RepV_bool _⟩)

set_option maxRecDepth 100000 in
theorem con57_ok : ConOk Tryz.prog 57 con57 := lendCon_ok (List.all_eq_true.1 rfl) (fun _ => rfl) (fun x vals X Y hI hv hF => by
  obtain ⟨u, rfl, h1⟩ := args1 (t := .str) hv
  obtain ⟨hc, rfl⟩ := some_bif (show (bif decide (X.size ≤ 9223372036854775807) then some (Lib.validD X.data.toList) else none) = some Y from hF)
  rw [of_str' h1]
  refine calls_does Tryz.func57 body57.1 body57.2 ((YtfgfdpbeddnfhaaGreatDoor.validString X x.w (of_decide_eq_true hc) (tab_utf hI)).mono (fun e w' he => ?_))
  obtain ⟨rfl, hb⟩ := he
  exact ⟨_, rfl, hb, fun y => RepV_bool _⟩)

set_option maxRecDepth 100000 in
theorem con50_ok : ConOk Tryz.prog 50 con50 := lendCon_ok (List.all_eq_true.1 rfl) (fun _ => rfl) (fun x vals X Y hI hv hF => by
  obtain ⟨u, v, rfl, h1, h2⟩ := args2 (t := .sl .str) (s := .str) hv
  obtain ⟨hc, rfl⟩ := some_bif (show (bif decide (X.1.length ≤ 140737488355328) && decide ((joinS X.1 X.2).length ≤ 140737488355328) then some (⟨(joinS X.1 X.2).toArray⟩ : ByteArray) else none) = some Y from hF)
  simp only [Bool.and_eq_true, decide_eq_true_eq] at hc
  obtain ⟨c1, c2⟩ := hc
  rw [of_str' h2]
  have hr := (of_one (c := .sc (.sl .str) X.1) h1).2
  obtain ⟨A, c, hu, hlc, hrow⟩ := hr
  obtain rfl : u = .slice A X.1.length c := by simpa using hu
  rcases hx : X.1 with _ | ⟨y, ys⟩
  · refine calls_does Tryz.func50 body50.1 body50.2 ((YtfgfdpbeddnfhaaGreatDoor.strings_Join_none A c X.2 x.w).mono (fun e w' he => ?_))
    obtain ⟨rfl, rfl⟩ := he
    refine ⟨_, rfl, Below.refl _ _, fun y => ?_⟩
    have : joinS ([] : List ByteArray) X.2 = [] := rfl
    show RepV y (.val false [.sc .str (⟨(joinS [] X.2).toArray⟩ : ByteArray)]) _
    rw [this]
    exact RepV_str _
  · obtain ⟨b, off, rfl, hb, hrow⟩ := hrow (by rw [hx]; simp)
    rw [← hx]
    refine calls_does Tryz.func50 body50.1 body50.2 ((YtfgfdpbeddnfhaaGreatDoor.strings_Join b off c X.1 X.2 x.w (fun j z hj => ?_) (hI.okb b hb) c1 hlc c2).mono (fun e w' he => ?_))
    · obtain ⟨vs, q1, q2, q3⟩ := hrow j z hj
      have q1' : vs = [.string z] := q1
      have := q3 0 (.string z) (by rw [q1']; rfl)
      simpa [Ty.size] using this
    · obtain ⟨rfl, hb⟩ := he
      exact ⟨_, rfl, hb, fun y => RepV_str _⟩)

end Go.Proofs.YtfgfdpbeddnfhaaGreatDoor.AI
