/- Contracts of functions that ask whether their slice is nil. -/
import Derived.Test.YtjedleoebjmkgaaAjb
set_option linter.unusedVariables false
set_option linter.unusedSimpArgs false
namespace Go.Proofs.Ytjedleoebjmkgaa.AI
open Go

section
variable {P : Program} {T : TypeId → Option TI} {env : FuncId → Option Con} {ann : FuncId → Nat → Ann} {code : FuncId → Option Func}

theorem nil_or {x : Cx} {t : Ty} {xs : List t.den} {u : Value} (h : RepV x (.val false [.sc (.sl t) xs]) u) : (xs = [] ∧ RepV x (.val false [.scn true t []]) u) ∨ RepV x (.val false [.scn false t xs]) u := by
  have hc := of_one h
  have h2 : RepT x.ok x.w (.sl t) xs [u] := hc.2
  obtain ⟨A, c, h3, h4, h5⟩ := h2
  simp only [List.cons.injEq, and_true] at h3
  subst h3
  cases A with
  | none =>
    left
    have hx : xs = [] := by
      by_cases hne : xs = []
      · exact hne
      · obtain ⟨b, off, hA, _⟩ := h5 hne; cases hA
    subst hx
    exact ⟨rfl, mk_one ⟨hc.1, ⟨none, c, rfl, h4, h5⟩, .inl ⟨rfl, _, _, rfl⟩⟩⟩
  | some a => exact .inr (mk_one ⟨hc.1, ⟨some a, c, rfl, h4, h5⟩, .inr ⟨rfl, _, _, _, rfl⟩⟩)

/-- A function of one slice that asks whether it is nil: what it answers is the same. -/
theorem mkConN_ok (hm : P.follows .mixedOrders = true) (hT : TOk P T) (hE : EnvOk P env) (hC : CodesOk P env ann code) {d : Nat} {f : FuncId} {t : Ty} {rs : Sig} {F : List t.den → Option rs.den}
    (hrun : ∀ X Y, F X = some Y → ∀ z, (z = true → X = []) → ∃ n, runK T env n ann code d f [.val false [.scn z t X]] [] (readL rs) = some Y) : ConOk P f (mkCon [(false, .sl t)] rs false F) := by
  refine ⟨fun x args vals X Y hI hv hl hF => ?_, fun _ => ⟨fun _ _ _ => rfl, fun _ _ => rfl, fun _ _ _ => rfl⟩, fun h => by cases h⟩
  have hl' : lookL [(false, .sl t)] args = some X := hl
  have hvx : RepVs x.bare (argsL [(false, .sl t)] X) vals.toList := lookL_sound (x := x) (y := x.bare) (fun t d vs h => h) _ _ X _ hl' hv
  obtain ⟨u, r, hu, h1, h2⟩ := hvx
  have hr : r = [] := h2
  subst hr
  have h1' : RepV x.bare (.val false [.sc (.sl t) X]) u := h1
  have go : ∀ z, (z = true → X = []) → RepV x.bare (.val false [.scn z t X]) u →
      Does P (callFunc f vals) x.w fun u w' => ∃ y : Cx, y.w = w' ∧ y.H = x.H ∧ Inv y ∧ Kept x y ∧ (∀ id, IdOk x y id) ∧ Carry (fun c => c) x y ∧ RepV y (outL rs Y) u := fun z hz hrep => by
    obtain ⟨n, hn⟩ := hrun X Y hF z hz
    refine con_core (x' := x.bare) hI rfl rfl (.inr rfl) ?_
    exact run_sound hm hT hE hC (x := x.bare) (r := Y) (k := readL rs) hn (bare_inv hI.okb hI.tab) ⟨u, [], hu, hrep, rfl⟩ (fun v H' y u hk hL => ⟨y, v, H', rfl, hk, hL⟩)
  have fin : Does P (callFunc f vals) x.w fun u w' => ∃ y : Cx, y.w = w' ∧ y.H = x.H ∧ Inv y ∧ Kept x y ∧ (∀ id, IdOk x y id) ∧ Carry (fun c => c) x y ∧ RepV y (outL rs Y) u := by
    rcases nil_or h1' with ⟨rfl, h3⟩ | h3
    · exact go true (fun _ => rfl) h3
    · exact go false (fun h => by cases h) h3
  refine fin.mono ?_
  rintro u w' ⟨y, r1, r2, r3, r4, r5, r6, r7⟩
  exact ⟨y, r1, r2, r3, r4, fun id _ _ => r5 id, r6, by rw [r2]; exact Nat.le_refl _, r7⟩

/-- The same, where the answer holds rows of the caller's own. -/
theorem mkConNO_ok (hm : P.follows .mixedOrders = true) (hT : TOk P T) (hE : EnvOk P env) (hC : CodesOk P env ann code) {d : Nat} {f : FuncId} {t : Ty} {l : List (Bool × List Rc)} {F : List t.den → Option (RdL l)}
    (hrun : ∀ X Y, F X = some Y → ∀ z, (z = true → X = []) → ∃ n, runK T env n ann code d f [.val false [.scn z t X]] [] (readO l) = some Y) : ConOk P f (mkConO [(false, .sl t)] l F) := by
  refine mkConO_of fun x vals z Y hI hvx hF' => ?_
  obtain ⟨u, r, hu, h1, h2⟩ := hvx
  have hr : r = [] := h2
  subst hr
  have h1' : RepV x.bare (.val false [.sc (.sl t) z]) u := h1
  rcases nil_or h1' with ⟨rfl, h3⟩ | h3
  · obtain ⟨n, hn⟩ := hrun [] Y hF' true (fun _ => rfl)
    exact conO_core hm hT hE hC hI hn ⟨u, [], hu, h3, rfl⟩
  · obtain ⟨n, hn⟩ := hrun z Y hF' false (fun h => by cases h)
    exact conO_core hm hT hE hC hI hn ⟨u, [], hu, h3, rfl⟩

/-- A number of a float's bits: 'math.Float64bits', which has no body here. -/
theorem bitsCon_ok {f : FuncId} (hf : ∀ (b : Nat) (w : World), (callFunc f #[.float .f64 b]).run P w = .ok (.value (.int .u64 b)) w) : ConOk P f (mkCon [(false, .float .f64)] [(false, .int .u64)] true fun (b : Nat) => some (b : Int)) := by
  refine ⟨fun x args vals X Y hI hv hl hF => ?_, fun h => (by cases h), fun _ args H l X h => lookL_more H l _ args X h⟩
  have hl' : lookL [(false, .float .f64)] (args.map (roV x.H)) = some X := hl
  have hvx : RepVs x.lend.bare (argsL [(false, .float .f64)] X) vals.toList := lookL_sound (x := x.lend) (y := x.lend.bare) (fun t d vs h => h) _ _ X _ hl' (repVs_ro hI _ _ hv)
  obtain ⟨u, r, hu, h1, h2⟩ := hvx
  have hr : r = [] := h2
  subst hr
  have h1' : RepV x.lend.bare (.val false [.sc (.float .f64) X]) u := h1
  have h3 : [u] = [Value.float .f64 X] := (of_one h1').2
  simp only [List.cons.injEq, and_true] at h3
  subst h3
  have hvals : vals = #[.float .f64 X] := by cases vals; simp_all
  subst hvals
  cases hF
  exact Does.value (hf X x.w) ⟨x, rfl, rfl, hI, Kept.refl x, fun id _ _ => IdOk.same hI rfl rfl (fun _ _ _ => rfl), Carry.id_of ⟨fun _ h => h, fun _ _ => rfl⟩ (fun id _ => IdOk.same hI rfl rfl (fun _ _ _ => rfl)), Nat.le_refl _, RepV_int _ _⟩
end
end Go.Proofs.Ytjedleoebjmkgaa.AI
