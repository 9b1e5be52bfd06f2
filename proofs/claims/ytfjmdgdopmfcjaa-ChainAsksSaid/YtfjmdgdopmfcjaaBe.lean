/- The plain laws of the runs: what is pruned, chains that are the same. -/
import Derived.Test.YtfjmdgdopmfcjaaBd
set_option linter.unusedVariables false
set_option linter.unusedSimpArgs false
namespace Go.Proofs.Ytfjmdgdopmfcjaa.AI
open Go

/-- Room for one more. -/
theorem room {n m : Nat} (h : n + 1 ≤ m) (hm : m * 40 ≤ 140737488355328) : decide ((n + 1) * 40 ≤ boundN) = true := by
  rw [decide_eq_true_iff]
  show _ ≤ 140737488355328
  omega

theorem F15_pair {x : List dVersion × Int} (ho : okL x.1 = true) : F15 x = some (idxI (fun v => decide (v.1 ≤ x.2)) x.1) := F15_some ho
theorem F26_pair {x : List dVersion × Int} (ho : okL x.1 = true) : F26 x = some (idxI (fun v => decide (v.1 ≤ x.2)) x.1) := F15_some ho

theorem wrap_len {a b : Nat} (h1 : a ≤ 3518437208883) (h2 : b ≤ 3518437208883) : IntKind.wrap .i64 ((a : Int) - (b : Int)) = (a : Int) - (b : Int) := wrap_ok (by omega) (by omega)

theorem prune_len (k fl : Int) : ∀ (r : List dVersion) (i : Int), (pruneL k fl i r).length ≤ r.length
  | [], i => Nat.le_refl _
  | v :: r, i => by
    unfold pruneL
    cases decide (v.1 > fl) || (i == k && !v.2.1) with
    | true => simpa using prune_len k fl r (i + 1)
    | false => have := prune_len k fl r (i + 1); simp; omega

theorem spec20 : ∀ (X : List dVersion × Int) (Y : List dVersion × Int), F20 X = some Y → ∃ n, f20.g n X = some Y := by
  intro x y h
  obtain ⟨hv, rfl⟩ := some_bif h
  have ho := okV_okL hv
  have hl := okL_iff.1 ho
  refine ⟨x.1.length + 1, ?_⟩
  unfold f20.g
  rw [F15_pair ho, Option.bind_some]
  have := iter_all (step := f20.s1 (x.1.length + 1) x (idxI (fun v => decide (v.1 ≤ x.2)) x.1)) x.1 (fun i (acc : List dVersion) => (acc.length, ((i : Int), acc))) (fun i acc => acc.length ≤ i)
    (fun i acc r => some (acc ++ pruneL (idxI (fun v => decide (v.1 ≤ x.2)) x.1) x.2 (i : Int) r, (x.1.length : Int) - ((acc ++ pruneL (idxI (fun v => decide (v.1 ≤ x.2)) x.1) x.2 (i : Int) r).length : Int)))
    (fun S acc ha => by
      simp only [f20.s1, at_end, cond_false, List.take_length, pruneL, List.append_nil]
      rw [wrap_len (by omega) (by omega)]) (fun S i acc v r hi hw hr ha ih => by
      simp only [f20.s1, at_lt hi, at_ge, at_get hw, at_next ho hi, Bool.and_self, cond_true, F44_some (okV_at hv hw), Option.bind_some, List.take_length]
      have hc : (bif decide (v.1 > x.2) then true else bif (i : Int) == idxI (fun v => decide (v.1 ≤ x.2)) x.1 then !v.2.1 else false) = (decide (v.1 > x.2) || ((i : Int) == idxI (fun v => decide (v.1 ≤ x.2)) x.1 && !v.2.1)) := by
        cases decide (v.1 > x.2) <;> cases ((i : Int) == idxI (fun v => decide (v.1 ≤ x.2)) x.1) <;> rfl
      rw [hc]
      simp only [pruneL]
      cases (decide (v.1 > x.2) || ((i : Int) == idxI (fun v => decide (v.1 ≤ x.2)) x.1 && !v.2.1)) with
      | true =>
        simp only [cond_true, room (show acc.length + 1 ≤ x.1.length by omega) hl]
        have := ih (acc ++ [v]) (by simp; omega)
        simp only [List.length_append, List.length_cons, List.length_nil, Nat.zero_add, List.append_assoc, List.cons_append, List.nil_append, Int.natCast_add, Int.natCast_one, Int.natCast_succ] at this ⊢
        exact this
      | false =>
        simp only [cond_false]
        exact ih acc (by omega)) [] (Nat.zero_le _)
  exact this
theorem con20_ok : ConOk Try.prog 20 con20 := f20.ok spec20 con15_ok con44_ok


theorem spec21 : ∀ (X : List dVersion × Int) (Y : List dVersion × Int), F21 X = some Y → ∃ n, f21.g n X = some Y := by
  intro x y h
  obtain ⟨hv, rfl⟩ := some_bif (show (bif okV x.1 then _ else _) = _ from h)
  have ho := okV_okL hv
  have hl := okL_iff.1 ho
  refine ⟨x.1.length + 1, ?_⟩
  unfold f21.g
  rw [F26_pair ho, Option.bind_some]
  have := iter_all (step := f21.s1 (x.1.length + 1) x (idxI (fun v => decide (v.1 ≤ x.2)) x.1)) x.1 (fun i (acc : List dVersion) => (acc.length, ((i : Int), acc))) (fun i acc => acc.length ≤ i)
    (fun i acc r => some (acc ++ pruneL (idxI (fun v => decide (v.1 ≤ x.2)) x.1) x.2 (i : Int) r, (x.1.length : Int) - ((acc ++ pruneL (idxI (fun v => decide (v.1 ≤ x.2)) x.1) x.2 (i : Int) r).length : Int)))
    (fun S acc ha => by
      simp only [f21.s1, at_end, cond_false, List.take_length, pruneL, List.append_nil]
      rw [wrap_len (by omega) (by omega)]) (fun S i acc v r hi hw hr ha ih => by
      simp only [f21.s1, at_lt hi, at_ge, at_get hw, at_next ho hi, Bool.and_self, cond_true, List.take_length, room (show acc.length + 1 ≤ x.1.length by omega) hl, pruneL]
      have yes := ih (acc ++ [v]) (by simp; omega)
      have no := ih acc (by omega)
      simp only [List.length_append, List.length_cons, List.length_nil, Nat.zero_add, List.append_assoc, List.cons_append, List.nil_append, Int.natCast_add, Int.natCast_one, Int.natCast_succ] at yes no ⊢
      cases decide (v.1 > x.2) with
      | true => simp only [cond_true, Bool.true_or]; simpa using yes
      | false =>
        simp only [cond_false, Bool.false_or]
        cases ((i : Int) == idxI (fun v => decide (v.1 ≤ x.2)) x.1) with
        | false => simp only [cond_false, Bool.false_and]; simpa using no
        | true =>
          simp only [cond_true, Bool.true_and]
          cases v.2.1 with
          | true => simp only [Bool.not_true, cond_false]; simpa using no
          | false => simp only [Bool.not_false, cond_true]; simpa using yes) [] (Nat.zero_le _)
  exact this
theorem con21_ok : ConOk Try.prog 21 con21 := f21.ok spec21 con26_ok

theorem F45_some {a b : List dValue} (ho : okL a = true) : F45 (a, b) = some (decide (a = b)) := by
  show (bif okL a then _ else _) = _
  rw [ho]; rfl

theorem spec22 : ∀ (X : List dVersion × List dVersion) (Y : Bool), F22 X = some Y → ∃ n, f22.g n X = some Y := by
  intro x y h
  obtain ⟨hv, rfl⟩ := some_bif h
  have ho := okV_okL hv
  refine ⟨x.1.length + 1, ?_⟩
  unfold f22.g
  by_cases hlen : x.1.length = x.2.length
  · have h1 : ((x.1.length : Int) != (x.2.length : Int)) = false := by rw [hlen]; simp
    simp only [h1, cond_false]
    have := iter_all (step := f22.s1 (x.1.length + 1) x) x.1 (fun i (_ : Unit) => (i : Int)) (fun _ _ => True) (fun i _ r => some (decide (r = x.2.drop i)))
      (fun S a _ => by simp only [f22.s1, at_end, cond_false, hlen, List.drop_length]; rfl) (fun S i a w r hi hw hr _ ih => by
        obtain ⟨u, hu⟩ : ∃ u, x.2[i]? = some u := ⟨x.2[i], List.getElem?_eq_getElem (by omega)⟩
        have hd := drop_eq hu
        have hi2 : i < x.2.length := by omega
        simp only [f22.s1, at_lt hi, at_lt hi2, at_ge, at_get hw, at_get hu, at_next ho hi, Bool.and_self, cond_true, F45_some (okV_at hv hw), Option.bind_some, ih () trivial, hd]
        obtain ⟨w1, w2, w3⟩ := w
        obtain ⟨u1, u2, u3⟩ := u
        have e0 : (w1 != u1) = !(decide (w1 = u1)) := by rw [← int_beq]; rfl
        simp only [List.cons.injEq, Prod.mk.injEq, e0]
        by_cases e1 : w1 = u1 <;> cases w2 <;> cases u2 <;> by_cases e3 : w3 = u3 <;> simp [e1, e3]) () trivial
    simp only [List.drop_zero] at this
    exact this
  · have h1 : ((x.1.length : Int) != (x.2.length : Int)) = true := by simp; omega
    simp only [h1, cond_true]
    have : x.1 ≠ x.2 := fun e => hlen (by rw [e])
    simp [this]
theorem con22_ok : ConOk Try.prog 22 con22 := f22.ok spec22 con45_ok

theorem prune_mem (k fl : Int) : ∀ (r : List dVersion) (i : Int) (v : dVersion), v ∈ pruneL k fl i r → v ∈ r
  | [], i, v, h => h
  | u :: r, i, v, h => by
    unfold pruneL at h
    cases hc : decide (u.1 > fl) || (i == k && !u.2.1) with
    | true =>
      rw [hc] at h
      rcases List.mem_cons.1 h with rfl | h
      · simp
      · exact List.mem_cons_of_mem _ (prune_mem k fl r (i + 1) v h)
    | false =>
      rw [hc] at h
      exact List.mem_cons_of_mem _ (prune_mem k fl r (i + 1) v h)

theorem okV_sub {l m : List dVersion} (h : okV l = true) (hl : m.length ≤ l.length) (hm : ∀ v ∈ m, v ∈ l) : okV m = true := by
  simp only [okV, Bool.and_eq_true, List.all_eq_true] at h ⊢
  refine ⟨?_, fun v hv => h.2 v (hm v hv)⟩
  have := okL_iff.1 h.1
  exact okL_iff.2 (by omega)

theorem prune_okV {l : List dVersion} {fl : Int} (h : okV l = true) : okV (pruneS l fl) = true :=
  okV_sub h (prune_len _ _ l 0) (fun v hv => prune_mem _ _ l 0 v hv)

theorem F20_some {x : List dVersion × Int} (hv : okV x.1 = true) : F20 x = some (pruneS x.1 x.2, (x.1.length : Int) - ((pruneS x.1 x.2).length : Int)) := by
  show (bif okV x.1 then _ else _) = _
  rw [hv]; rfl
theorem F21_some {x : List dVersion × Int} (hv : okV x.1 = true) : F21 x = some (pruneS x.1 x.2, (x.1.length : Int) - ((pruneS x.1 x.2).length : Int)) := F20_some hv
theorem F22_same {a : List dVersion} (ho : okV a = true) : F22 (a, a) = some true := by
  show (bif okV a then _ else _) = _
  rw [ho]; simp

theorem spec5 : ∀ (X : List dVersion × Int) (Y : Bool), FL [(false, .sl tVersion), (false, .int .u64)] X = some Y → ∃ n, f5.g n X = some Y := by
  intro x y h
  obtain ⟨hw, rfl⟩ := FL_some h
  have hv : okV x.1 = true := wf_okV hw.1
  refine ⟨0, ?_⟩
  unfold f5.g
  simp only [F12_some (okV_okL hv), F13_some, Option.bind_some]
  rw [F20_some (x := x) hv, F21_some (x := x) hv]
  simp only [Option.bind_some, beq_self_eq_true, cond_true, F22_same (prune_okV hv)]
  cases mayP none x.1 <;> rfl
theorem con5_ok : ConOk Try.prog 5 con5 := f5.ok spec5 con12_ok con13_ok con20_ok con21_ok con22_ok

end Go.Proofs.Ytfjmdgdopmfcjaa.AI
