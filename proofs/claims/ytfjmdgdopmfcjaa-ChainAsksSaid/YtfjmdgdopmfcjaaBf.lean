/- The plain laws of the runs: what is installed. -/
import Derived.Test.YtfjmdgdopmfcjaaBe
set_option linter.unusedVariables false
set_option linter.unusedSimpArgs false
namespace Go.Proofs.Ytfjmdgdopmfcjaa.AI
open Go

theorem idx_any {α : Type} (p : α → Bool) (l : List α) : decide (idxI p l ≥ 0) = l.any p := by
  rcases find_idx p l with ⟨h1, h2⟩ | ⟨i, v, h1, h2, h3⟩
  · rw [h1]
    have : l.any p = false := by
      rw [List.any_eq_false]
      intro v hv
      have := List.find?_eq_none.1 h2 v hv
      simpa using this
    rw [this]; rfl
  · rw [h1]
    have h4 := List.find?_some h3
    have : l.any p = true := List.any_eq_true.2 ⟨v, List.mem_of_getElem? h2, h4⟩
    rw [this]
    simp

theorem spec48a : ∀ X Y, F48a X = some Y → ∃ n, f48a.g n X = some Y := by
  intro x y h
  obtain ⟨ho, rfl⟩ := some_bif h
  refine ⟨0, ?_⟩
  have : F42b x = some (idxI (fun v => decide (v.1 > x.2.1) && decide (v.1 ≤ x.2.2)) x.1) := by show (bif okL x.1 then _ else _) = _; rw [ho]; rfl
  simp only [f48a.g, this, Option.bind_some, idx_any]
theorem spec48b : ∀ X Y, F48b X = some Y → ∃ n, f48b.g n X = some Y := by
  intro x y h
  obtain ⟨ho, rfl⟩ := some_bif h
  refine ⟨0, ?_⟩
  have : F42c x = some (idxI (fun o => decide (o.1 ≥ x.2.1)) x.1) := by show (bif okL x.1 then _ else _) = _; rw [ho]; rfl
  simp only [f48b.g, this, Option.bind_some, idx_any]
theorem con48_ok : ConOk Try.prog 48 con48 := orCon_ok (f48a.ok spec48a con42_ok) (f48b.ok spec48b con42_ok)

theorem not_may (v : dVersion) : (!(bif (bif (decide (v.1 ≥ 1)) then (decide (v.1 ≤ 4611686018427387904)) else false) then (bif (!v.2.1) then true else ((v.2.2.length : Int) == 0)) else false)) = !mayV v := by
  unfold mayV maxStamp
  have e : ((v.2.2.length : Int) == 0) = !decide ((v.2.2.length : Int) > 0) := by
    rw [int_beq, ← decide_not, decide_eq_decide]; omega
  rw [e]
  cases decide (v.1 ≥ 1) <;> cases decide (v.1 ≤ 4611686018427387904) <;> cases v.2.1 <;> simp

theorem spec23 : ∀ (X : List dVersion) (Y : Int), F23 X = some Y → ∃ n, f23.g n X = some Y := by
  intro x y h
  obtain ⟨ho, rfl⟩ := some_bif h
  have hl := okL_iff.1 ho
  refine ⟨x.length + 1, ?_⟩
  have := iter_all (step := f23.s1 (x.length + 1) x) x (fun i (_ : Unit) => (i : Int)) (fun _ _ => True) (fun i _ r => some (bif mayP ((prevOf x i).map (·.1)) r then 0 else 80))
    (fun S a _ => by simp only [f23.s1, at_end, cond_false]; rfl) (fun S i a v r hi hv hr _ ih => by
      have ih' := ih () trivial
      simp only [prev_succ hv, Option.map_some] at ih'
      simp only [f23.s1, at_lt hi, at_ge, at_get hv, at_next ho hi, Bool.and_self, cond_true, ih', may_tail x i v r]
      rw [not_may v]
      cases mayV v with
      | false => rfl
      | true =>
        simp only [Bool.not_true, cond_false, Bool.true_and]
        by_cases h0 : i = 0
        · subst h0
          simp [prevOf]
        · obtain ⟨u, hu⟩ : ∃ u, x[i - 1]? = some u := ⟨x[i - 1], List.getElem?_eq_getElem (by omega)⟩
          have e1 : IntKind.wrap .i64 ((i : Int) - 1) = ((i - 1 : Nat) : Int) := at_prev (by omega) (by omega)
          have e2 : decide ((i : Int) > 0) = true := by simp; omega
          simp only [e1, e2, cond_true, at_ge, at_get hu, at_lt (show i - 1 < x.length by omega), Bool.and_self, prevOf, if_neg h0, hu, Option.map_some]
          by_cases h3 : v.1 < u.1
          · have : decide (v.1 ≥ u.1) = false := by simp; omega
            simp [this, h3]
          · have : decide (v.1 ≥ u.1) = true := by simp; omega
            simp [this, h3]) () trivial
  exact this
theorem con23_ok : ConOk Try.prog 23 con23 := f23.ok spec23

theorem F23_some {l : List dVersion} (ho : okL l = true) : F23 l = some (bif mayP none l then 0 else 80) := by
  show (bif okL l then _ else _) = _
  rw [ho]; rfl
theorem F48b_some {x : List dVersion × dVersion} (ho : okL x.1 = true) : F48b x = some (x.1.any fun o => decide (o.1 ≥ x.2.1)) := by
  show (bif okL x.1 then _ else _) = _
  rw [ho]; rfl

theorem spec29 : ∀ (X : List dVersion × dVersion) (Y : List dVersion × Int), F29 X = some Y → ∃ n, f29.g n X = some Y := by
  intro x y h
  obtain ⟨h0, rfl⟩ := some_bif h
  rw [Bool.and_eq_true, Bool.and_eq_true] at h0
  obtain ⟨⟨hv, hr⟩, hb⟩ := h0
  have ho := okV_okL hv
  have hb' : (x.1.length + 1) * 40 ≤ 140737488355328 := of_decide_eq_true hb
  refine ⟨x.1.length + 1, ?_⟩
  unfold f29.g installS
  rw [F23_some ho, Option.bind_some]
  cases hm : mayP none x.1 with
  | false => rfl
  | true =>
    have e0 : ((bif true then (0 : Int) else 80) != 0) = false := rfl
    rw [e0]
    simp only [cond_false, Bool.not_true, Bool.false_or]
    rw [not_may x.2]
    cases hmv : mayV x.2 with
    | false => rfl
    | true =>
      simp only [Bool.not_true, cond_false]
      rw [F48b_some ho, Option.bind_some]
      cases ha : x.1.any fun o => decide (o.1 ≥ x.2.1) with
      | true => rfl
      | false =>
        simp only [cond_false]
        rw [F44_some hr, Option.bind_some]
        have := iter_all (step := f29.s1 (x.1.length + 1) x (bif true then 0 else 80) false x.2.2.2) x.1 (fun i (acc : List dVersion) => (acc.length, ((i : Int), acc))) (fun i acc => acc.length = i + 1)
          (fun i acc r => some (acc ++ r, (0 : Int)))
          (fun S acc ha => by
            simp only [f29.s1, at_end, cond_false, List.take_length, List.append_nil]) (fun S i acc v r hi hw hr' hacc ih => by
            simp only [f29.s1, at_lt hi, at_ge, at_get hw, at_next ho hi, Bool.and_self, cond_true, F44_some (okV_at hv hw), Option.bind_some, List.take_length, room (show acc.length + 1 ≤ x.1.length + 1 by omega) hb']
            have yes := ih (acc ++ [v]) (by simp; omega)
            simp only [List.length_append, List.length_cons, List.length_nil, Nat.zero_add, List.append_assoc, List.cons_append, List.nil_append] at yes ⊢
            exact yes) [x.2] rfl
        exact this
theorem con29_ok : ConOk Try.prog 29 con29 := f29.ok spec29 con23_ok con44_ok con48_ok

theorem any_head {l : List dVersion} (h : l.Pairwise fun a b => b.1 < a.1) (s : Int) : (l.any fun o => decide (o.1 ≥ s)) = (decide ((l.length : Int) > 0) && decide ((l.getD 0 tVersion.dflt).1 ≥ s)) := by
  cases l with
  | nil => rfl
  | cons a r =>
    have h1 := (List.pairwise_cons.1 h).1
    have e : decide (((a :: r).length : Int) > 0) = true := by rw [decide_eq_true_iff]; simp only [List.length_cons]; omega
    rw [e, Bool.true_and, List.any_cons]
    show (decide (a.1 ≥ s) || _) = decide (a.1 ≥ s)
    by_cases hs : a.1 ≥ s
    · simp [hs]
    · have : (r.any fun o => decide (o.1 ≥ s)) = false := by
        rw [List.any_eq_false]
        intro o ho
        have := h1 o ho
        simp; omega
      rw [this]; simp

theorem spec30 : ∀ (X : List dVersion × dVersion) (Y : List dVersion × Int), F30 X = some Y → ∃ n, f30.g n X = some Y := by
  intro x y h
  obtain ⟨h0, rfl⟩ := some_bif (show (bif okV x.1 && okL x.2.2.2 && decide ((x.1.length + 1) * 40 ≤ boundN) then _ else _) = _ from h)
  rw [Bool.and_eq_true, Bool.and_eq_true] at h0
  obtain ⟨⟨hv, hr⟩, hb⟩ := h0
  have ho := okV_okL hv
  have hb' : (x.1.length + 1) * 40 ≤ 140737488355328 := of_decide_eq_true hb
  refine ⟨0, ?_⟩
  unfold f30.g installS
  have e1 : decide (1 * 40 ≤ boundN) = true := by decide
  have e2 : okL (List.take 1 [x.2]) = true := by rfl
  rw [e1, F12_some ho, F12_some e2]
  simp only [cond_true, Option.bind_some]
  cases hm : mayP none x.1 with
  | false => rfl
  | true =>
    obtain ⟨_, _, m3⟩ := mayP_pair x.1 none hm
    rw [any_head m3]
    have e3 : mayP none (List.take 1 [x.2]) = mayV x.2 := by
      show (mayV x.2 && true && true) = _
      simp
    rw [e3]
    simp only [Bool.not_true, cond_false, Bool.false_or]
    cases hmv : mayV x.2 with
    | false => rfl
    | true =>
      simp only [Bool.not_true, cond_false]
      have e4 : decide ((1 + x.1.length) * 40 ≤ boundN) = true := by rw [decide_eq_true_iff]; show _ ≤ 140737488355328; omega
      have e5 : List.take (1 + x.1.length) (List.take 1 [x.2] ++ x.1) = x.2 :: x.1 := by
        rw [Nat.add_comm]; simp
      rw [e4, e5]
      have e8 : decide ((0 : Int) ≤ 0) = true := by decide
      rw [e8]
      cases he : decide ((x.1.length : Int) > 0) with
      | true =>
        simp only [cond_true, Bool.true_and, Bool.and_self]
        cases decide ((x.1.getD 0 tVersion.dflt).1 ≥ x.2.1) <;> rfl
      | false => rfl
theorem con30_ok : ConOk Try.prog 30 con30 := f30.ok spec30 con12_ok

theorem F29_some {x : List dVersion × dVersion} (hv : okV x.1 = true) (hr : okL x.2.2.2 = true) (hb : (x.1.length + 1) * 40 ≤ 140737488355328) : F29 x = some (installS x.1 x.2) := by
  show (bif okV x.1 && okL x.2.2.2 && decide ((x.1.length + 1) * 40 ≤ boundN) then _ else _) = _
  rw [hv, hr, show decide ((x.1.length + 1) * 40 ≤ boundN) = true from decide_eq_true hb]; rfl
theorem F30_some {x : List dVersion × dVersion} (hv : okV x.1 = true) (hr : okL x.2.2.2 = true) (hb : (x.1.length + 1) * 40 ≤ 140737488355328) : F30 x = some (installS x.1 x.2) := F29_some hv hr hb

theorem install_okV {l : List dVersion} {v : dVersion} (hv : okV l = true) (hr : okL v.2.2 = true) (hb : (l.length + 1) * 40 ≤ 140737488355328) : okV (installS l v).1 = true := by
  unfold installS
  cases (!(mayP none l) || !(mayV v)) with
  | true => rfl
  | false =>
    cases l.any fun o => decide (o.1 ≥ v.1) with
    | true => rfl
    | false =>
      simp only [cond_false, okV, Bool.and_eq_true, List.all_eq_true]
      refine ⟨okL_iff.2 (by simpa using hb), fun u hu => ?_⟩
      rcases List.mem_cons.1 hu with rfl | hu
      · exact hr
      · simp only [okV, Bool.and_eq_true, List.all_eq_true] at hv
        exact hv.2 u hu

theorem wf_room {t : Ty} (ht : t.bytes = 40) {l : List t.den} (h : (Ty.sl t).wf l) : (l.length + 1) * 40 ≤ 140737488355328 := by
  have h1 : l.length * t.bytes ≤ reachBytes := h.1
  rw [ht] at h1
  have : reachBytes = 140737488351232 := rfl
  omega

theorem spec7 : ∀ (X : List dVersion × dVersion) (Y : Bool), FL [(false, .sl tVersion), (true, tVersion)] X = some Y → ∃ n, f7.g n X = some Y := by
  intro x y h
  obtain ⟨hw, rfl⟩ := FL_some h
  have hv : okV x.1 = true := wf_okV hw.1
  have hr : okL x.2.2.2 = true := by
    have h2 : tVersion.wf x.2 := hw.2
    exact wf_okL (t := tValue) rfl h2.2.2
  have hb := wf_room (t := tVersion) rfl hw.1
  refine ⟨0, ?_⟩
  unfold f7.g
  rw [F29_some hv hr hb, F30_some hv hr hb]
  simp only [Option.bind_some, beq_self_eq_true, cond_true, F22_same (install_okV hv hr hb), F13_some]
theorem con7_ok : ConOk Try.prog 7 con7 := f7.ok spec7 con13_ok con22_ok con29_ok con30_ok

end Go.Proofs.Ytfjmdgdopmfcjaa.AI
