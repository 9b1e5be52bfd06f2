/- The plain laws of intents: a write, a way back, a fold. -/
import Derived.Test.YtfjmdgdopmfcjaaBh
set_option linter.unusedVariables false
set_option linter.unusedSimpArgs false
namespace Go.Proofs.Ytfjmdgdopmfcjaa.AI
open Go

def Up (l : List dWrite) : Prop := l.Pairwise fun a b => a.1 < b.1

theorem mayW_up : ∀ (l : List dWrite) (p : Option Int), mayW p l = true → (∀ v ∈ l, 0 ≤ v.1 ∧ (v.2.1 && decide ((v.2.2.length : Int) > 0)) = false) ∧ (∀ q, p = some q → ∀ v ∈ l, q < v.1) ∧ Up l
  | [], p, _ => ⟨fun v hv => (by cases hv), fun q _ v hv => (by cases hv), List.Pairwise.nil⟩
  | v :: r, p, h => by
    unfold mayW at h
    rw [Bool.and_eq_true, Bool.and_eq_true, Bool.and_eq_true] at h
    obtain ⟨⟨⟨h0, h1⟩, h2⟩, h3⟩ := h
    obtain ⟨a1, a2, a3⟩ := mayW_up r (some v.1) h3
    have h0' : v.1 ≥ 0 := of_decide_eq_true h0
    have h1' : (v.2.1 && decide ((v.2.2.length : Int) > 0)) = false := by
      cases h : (v.2.1 && decide ((v.2.2.length : Int) > 0)) with
      | true => rw [h] at h1; cases h1
      | false => rfl
    refine ⟨fun u hu => ?_, fun q hq u hu => ?_, List.pairwise_cons.2 ⟨fun u hu => a2 _ rfl u hu, a3⟩⟩
    · rcases List.mem_cons.1 hu with rfl | hu
      · exact ⟨h0', h1'⟩
      · exact a1 u hu
    · subst hq
      have h2' : q < v.1 := by simpa using h2
      rcases List.mem_cons.1 hu with rfl | hu
      · exact h2'
      · have := a2 _ rfl u hu; omega

theorem below_cons (v : dWrite) (r : List dWrite) (s : Int) : belowS (v :: r) s = bif decide (v.1 ≥ s) then 0 else belowS r s + 1 := by
  unfold belowS
  rw [List.findIdx?_cons]
  cases decide (v.1 ≥ s) with
  | true => rfl
  | false =>
    simp only [Bool.false_eq_true, if_false, cond_false]
    cases List.findIdx? (fun w : dWrite => decide (w.1 ≥ s)) r <;> rfl

theorem filter_none {l : List dWrite} {s : Int} (h : ∀ v ∈ l, s ≤ v.1) : (l.filter fun o => decide (o.1 < s)) = [] := by
  rw [List.filter_eq_nil_iff]
  intro v hv
  have := h v hv
  simp; omega
theorem filter_all {l : List dWrite} {s : Int} (h : ∀ v ∈ l, v.1 < s) : (l.filter fun o => decide (o.1 < s)) = l := by
  rw [List.filter_eq_self]
  intro v hv
  have := h v hv
  simp; omega

theorem take_below (s : Int) : ∀ (l : List dWrite), Up l → l.take (belowS l s) = l.filter fun o => decide (o.1 < s)
  | [], _ => by simp [belowS]
  | v :: r, h => by
    have h1 := (List.pairwise_cons.1 h).1
    have h2 := (List.pairwise_cons.1 h).2
    rw [below_cons, List.filter_cons]
    by_cases hv : v.1 ≥ s
    · have e1 : decide (v.1 ≥ s) = true := decide_eq_true hv
      have e2 : decide (v.1 < s) = false := decide_eq_false (by omega)
      rw [e1, e2, filter_none (fun u hu => by have := h1 u hu; omega)]; rfl
    · have e1 : decide (v.1 ≥ s) = false := decide_eq_false hv
      have e2 : decide (v.1 < s) = true := decide_eq_true (by omega)
      rw [e1, e2, cond_false, List.take_succ_cons, take_below s r h2]; rfl

theorem below_pred (s : Int) : ∀ (l : List dWrite), Up l → belowS l (s - 1) = bif decide (belowS l s > 0) && ((l.getD (belowS l s - 1) tWrite.dflt).1 == s - 1) then belowS l s - 1 else belowS l s
  | [], _ => by simp [belowS]
  | v :: r, h => by
    have h1 := (List.pairwise_cons.1 h).1
    have h2 := (List.pairwise_cons.1 h).2
    rw [below_cons, below_cons]
    by_cases hv : v.1 ≥ s
    · have e1 : decide (v.1 ≥ s) = true := decide_eq_true hv
      have e2 : decide (v.1 ≥ s - 1) = true := decide_eq_true (by omega)
      rw [e1, e2]; rfl
    · have e1 : decide (v.1 ≥ s) = false := decide_eq_false hv
      have e5 : decide (belowS r s + 1 > 0) = true := decide_eq_true (by omega)
      rw [e1]
      simp only [cond_false, e5, Bool.true_and, Nat.add_sub_cancel]
      by_cases he : v.1 = s - 1
      · have e2 : decide (v.1 ≥ s - 1) = true := decide_eq_true (by omega)
        have e3 : belowS r s = 0 := by
          cases r with
          | nil => rfl
          | cons u r' =>
            have := h1 u (by simp)
            rw [below_cons, decide_eq_true (show u.1 ≥ s by omega)]; rfl
        have e4 : ((List.getD (v :: r) 0 tWrite.dflt).1 == s - 1) = true := by
          show (v.1 == s - 1) = true
          rw [he]; simp
        rw [e2, e3, e4]; rfl
      · have e2 : decide (v.1 ≥ s - 1) = false := decide_eq_false (by omega)
        rw [e2, below_pred s r h2]
        simp only [cond_false]
        cases hm : belowS r s with
        | zero =>
          have e4 : ((List.getD (v :: r) 0 tWrite.dflt).1 == s - 1) = false := by
            show (v.1 == s - 1) = false
            simp; exact he
          rw [e4]; rfl
        | succ m =>
          have e6 : decide (m + 1 > 0) = true := decide_eq_true (by omega)
          have e7 : List.getD (v :: r) (m + 1) tWrite.dflt = List.getD r m tWrite.dflt := by simp [List.getD]
          rw [e6, e7]
          simp only [Nat.add_sub_cancel, Bool.true_and]
          cases (List.getD r m tWrite.dflt).1 == s - 1 <;> rfl

theorem last_snoc (l : List dWrite) (u : dWrite) : lastW (l ++ [u]) = u := by
  unfold lastW
  simp [List.getD]

theorem snoc_of {l : List dWrite} (h : 0 < l.length) : ∃ i u, l = i ++ [u] := by
  have hne : l ≠ [] := fun e => by rw [e] at h; simp at h
  exact ⟨l.dropLast, l.getLast hne, (List.dropLast_concat_getLast hne).symm⟩

theorem up_snoc {i : List dWrite} {u : dWrite} : Up (i ++ [u]) ↔ Up i ∧ ∀ v ∈ i, v.1 < u.1 := by
  unfold Up
  rw [List.pairwise_append]
  simp

theorem below_all {l : List dWrite} {s : Int} : (belowS l s == l.length) = l.all fun v => decide (v.1 < s) := by
  induction l with
  | nil => rfl
  | cons v r ih =>
    rw [below_cons, List.all_cons, ← ih]
    by_cases hv : v.1 ≥ s
    · rw [decide_eq_true hv, decide_eq_false (show ¬ v.1 < s by omega)]; simp
    · rw [decide_eq_false hv, decide_eq_true (show v.1 < s by omega)]
      simp only [cond_false, Bool.true_and, List.length_cons]
      rw [Bool.eq_iff_iff, beq_iff_eq, beq_iff_eq]; omega

theorem below_last {l : List dWrite} {s : Int} (h : Up l) : (belowS l s == l.length) = (l.length == 0 || decide ((lastW l).1 < s)) := by
  rw [below_all]
  by_cases hp : 0 < l.length
  · obtain ⟨i, u, rfl⟩ := snoc_of hp
    have h1 := (up_snoc.1 h).2
    have e : ((i ++ [u]).length == 0) = false := by simp
    rw [e, last_snoc, Bool.false_or, List.all_append]
    by_cases hu : u.1 < s
    · have : (i.all fun v => decide (v.1 < s)) = true := by
        rw [List.all_eq_true]
        intro v hv
        have := h1 v hv
        simp; omega
      simp [hu, this]
    · simp [hu]
  · have : l = [] := List.length_eq_zero_iff.1 (by omega)
    subst this
    rfl

theorem putL_eq {l : List dWrite} {w : dWrite} (h : Up l) (ha : (l.any fun o => decide (o.1 > w.1)) = false) : putL l w = (l.filter fun o => decide (o.1 < w.1)) ++ [w] := by
  unfold putL
  by_cases hp : 0 < l.length
  · obtain ⟨i, u, rfl⟩ := snoc_of hp
    obtain ⟨h0, h1⟩ := up_snoc.1 h
    have hu : u.1 ≤ w.1 := by
      have := List.any_eq_false.1 ha u (by simp)
      simp at this; exact this
    rw [last_snoc, decide_eq_true hp, Bool.true_and, List.filter_append, filter_all (l := i) (fun v hv => by have := h1 v hv; omega)]
    by_cases he : u.1 = w.1
    · have e1 : (u.1 == w.1) = true := by simp; exact he
      have e2 : ([u].filter fun o => decide (o.1 < w.1)) = [] := filter_none (fun v hv => by rw [List.mem_singleton] at hv; subst hv; omega)
      rw [e1, e2]
      simp
    · have e1 : (u.1 == w.1) = false := by simp; exact he
      have e2 : ([u].filter fun o => decide (o.1 < w.1)) = [u] := filter_all (fun v hv => by rw [List.mem_singleton] at hv; subst hv; omega)
      rw [e1, e2]; rfl
  · have : l = [] := List.length_eq_zero_iff.1 (by omega)
    subst this
    rfl

theorem put_eq {x : dIntent} {w : dWrite} (h : Up x.2) : put1 x w = put2 x w := by
  unfold put1 put2
  cases hb : badW x w with
  | true => rfl
  | false =>
    cases ha : x.2.any fun o => decide (o.1 > w.1) with
    | true => rfl
    | false =>
      simp only [Bool.or_self, cond_false]
      rw [putL_eq h ha]

theorem back_eq {x : dIntent} {s : Int} (h : Up x.2) : back1 x s = back2 x s := by
  unfold back1 back2
  rw [take_below s _ h]
  have : (belowS x.2 s == 0) = ((x.2.filter fun o => decide (o.1 < s)).length == 0) := by
    rw [← take_below s _ h, List.length_take, Nat.min_eq_left (below_le _ _)]
  rw [this]

theorem fold_eq {x : dIntent} {s : Int} (h : Up x.2) : fold1 x s = fold2 x s := by
  unfold fold1 fold2
  rw [below_last h, back2_2, ← take_below (s - 1) _ h, below_pred s _ h]

theorem okWs_of {l : List dWrite} (h1 : l.length * 40 ≤ 140737488355328) (h2 : ∀ v ∈ l, okL v.2.2 = true) : okWs l = true := by
  simp only [okWs, Bool.and_eq_true, List.all_eq_true]
  exact ⟨okL_iff.2 h1, h2⟩
theorem okWs_mem {l : List dWrite} (h : okWs l = true) {v : dWrite} (hv : v ∈ l) : okL v.2.2 = true := by
  simp only [okWs, Bool.and_eq_true, List.all_eq_true] at h
  exact h.2 v hv

theorem put_okWs {x : dIntent} {w : dWrite} (hu : Up x.2) (hv : okWs x.2 = true) (hr : okL w.2.2 = true) (hb : (x.2.length + 1) * 40 ≤ 140737488355328) : okWs (put1 x w).1.2 = true := by
  rw [put_eq hu]
  unfold put2
  cases badW x w || x.2.any fun o => decide (o.1 > w.1) with
  | true => rfl
  | false =>
    have h1 := List.length_filter_le (fun o : dWrite => decide (o.1 < w.1)) x.2
    refine okWs_of (by simp only [cond_false, List.length_append, List.length_singleton]; omega) (fun v hv' => ?_)
    rcases List.mem_append.1 hv' with h | h
    · exact okWs_mem hv (List.mem_filter.1 h).1
    · rw [List.mem_singleton] at h; subst h; exact hr

theorem fold_okWs {x : dIntent} {s : Int} (hv : okWs x.2 = true) (hb : (x.2.length + 1) * 40 ≤ 140737488355328) : okWs (fold1 x s).1.2 = true := by
  unfold fold1
  cases decide (s < 1) with
  | true => rfl
  | false =>
    cases he : belowS x.2 s == x.2.length with
    | true => exact hv
    | false =>
      simp only [cond_false]
      refine okWs_of ?_ (fun v hv' => ?_)
      · rw [List.length_append, List.length_singleton, List.length_take]
        have := Nat.min_le_right (bif decide (belowS x.2 s > 0) && ((x.2.getD (belowS x.2 s - 1) tWrite.dflt).1 == s - 1) then belowS x.2 s - 1 else belowS x.2 s) x.2.length
        omega
      · rcases List.mem_append.1 hv' with h | h
        · exact okWs_mem hv (List.mem_of_mem_take h)
        · rw [List.mem_singleton] at h; subst h
          refine okL_last hv ?_
          have h1 := below_le x.2 s
          have h2 : belowS x.2 s ≠ x.2.length := by simpa using he
          omega

theorem back_okWs {x : dIntent} {s : Int} (hv : okWs x.2 = true) : okWs (back1 x s).2 = true := by
  unfold back1
  cases belowS x.2 s == 0 with
  | true => rfl
  | false =>
    have := okL_iff.1 (okWs_okL hv)
    refine okWs_of ?_ (fun v hv' => okWs_mem hv (List.mem_of_mem_take hv'))
    simp only [cond_false, List.length_take]
    omega

theorem F34_same {a : dIntent} (ho : okWs a.2 = true) : F34 (a, a) = some true := by
  show (bif okWs a.2 then _ else _) = _
  rw [ho]; simp
theorem F32_some {x : dIntent × dWrite} (hv : okWs x.1.2 = true) (hr : okL x.2.2.2 = true) (hb : (x.1.2.length + 1) * 40 ≤ 140737488355328) : F32 x = some (put1 x.1 x.2) := by
  show (bif okWs x.1.2 && okL x.2.2.2 && decide ((x.1.2.length + 1) * 40 ≤ boundN) then _ else _) = _
  rw [hv, hr, show decide ((x.1.2.length + 1) * 40 ≤ boundN) = true from decide_eq_true hb]; rfl
theorem F33_some {x : dIntent × dWrite} (ho : okL x.1.2 = true) (hb : (x.1.2.length + 1) * 40 ≤ 140737488355328) : F33 x = some (put2 x.1 x.2) := by
  show (bif okL x.1.2 && decide ((x.1.2.length + 1) * 40 ≤ boundN) then _ else _) = _
  rw [ho, show decide ((x.1.2.length + 1) * 40 ≤ boundN) = true from decide_eq_true hb]; rfl
theorem F35_some {x : dIntent × Int} (hv : okWs x.1.2 = true) (hb : (x.1.2.length + 1) * 40 ≤ 140737488355328) (h1 : -9223372036854775808 ≤ x.2) (h2 : x.2 ≤ 9223372036854775807) : F35 x = some (fold1 x.1 x.2) := by
  show (bif (okWs x.1.2 && decide ((x.1.2.length + 1) * 40 ≤ boundN)) && (decide (-9223372036854775808 ≤ x.2) && decide (x.2 ≤ 9223372036854775807)) then _ else _) = _
  rw [hv, show decide ((x.1.2.length + 1) * 40 ≤ boundN) = true from decide_eq_true hb, decide_eq_true h1, decide_eq_true h2]; rfl
theorem F36_some {x : dIntent × Int} (ho : okL x.1.2 = true) (hb : (x.1.2.length + 1) * 40 ≤ 140737488355328) (h1 : -9223372036854775808 ≤ x.2) (h2 : x.2 ≤ 9223372036854775807) : F36 x = some (fold2 x.1 x.2) := by
  show (bif (okL x.1.2 && decide ((x.1.2.length + 1) * 40 ≤ boundN)) && (decide (-9223372036854775808 ≤ x.2) && decide (x.2 ≤ 9223372036854775807)) then _ else _) = _
  rw [ho, show decide ((x.1.2.length + 1) * 40 ≤ boundN) = true from decide_eq_true hb, decide_eq_true h1, decide_eq_true h2]; rfl
theorem F37_some {x : dIntent × Int} (hv : okWs x.1.2 = true) : F37 x = some (back1 x.1 x.2) := by
  show (bif okWs x.1.2 then _ else _) = _
  rw [hv]; rfl

theorem mayI_up {x : dIntent} (h : mayI x = true) : Up x.2 := by
  unfold mayI at h
  rw [Bool.and_eq_true] at h
  exact (mayW_up _ _ h.2).2.2

theorem up_or {x : dIntent} (h : (bif (!(mayI x)) then (!(bif (decide (x.1 > (0 : Int))) then ((x.2.length : Int) == (0 : Int)) else false)) else false) = false) : Up x.2 := by
  cases hm : mayI x with
  | true => exact mayI_up hm
  | false =>
    rw [hm] at h
    cases h1 : decide (x.1 > 0) with
    | false => rw [h1] at h; cases h
    | true =>
      rw [h1] at h
      have h2 : ((x.2.length : Int) == 0) = true := by simpa using h
      have h3 : x.2 = [] := List.length_eq_zero_iff.1 (by have := eq_of_beq h2; omega)
      rw [h3]
      exact List.Pairwise.nil

theorem spec9 : ∀ (X : dLevels) (Y : Bool), FL [(true, tLevels)] X = some Y → ∃ n, f9.g n X = some Y := by
  intro x y h
  obtain ⟨hw, rfl⟩ := FL_some h
  have hx : tLevels.wf x := hw
  have hi : tIntent.wf x.1 := hx.1
  have hlev : IntKind.min .i64 ≤ x.2.1 ∧ x.2.1 ≤ IntKind.max .i64 := hx.2.1
  have l1 : -9223372036854775808 ≤ x.2.1 := hlev.1
  have l2 : x.2.1 ≤ 9223372036854775807 := hlev.2
  have hwr : tWrite.wf x.2.2 := hx.2.2
  have hws : okWs x.1.2 = true := wf_okWs hi.2
  have ho := okWs_okL hws
  have hb := wf_room (t := tWrite) rfl hi.2
  have hr : okL x.2.2.2.2 = true := wf_okL (t := tValue) rfl hwr.2.2
  refine ⟨0, ?_⟩
  unfold f9.g
  rw [F16_some ho, Option.bind_some]
  cases hc : (bif (!(mayI x.1)) then (!(bif (decide (x.1.1 > (0 : Int))) then ((x.1.2.length : Int) == (0 : Int)) else false)) else false) with
  | true => rfl
  | false =>
    have hu := up_or hc
    rw [F32_some (x := (x.1, x.2.2)) hws hr hb, F33_some (x := (x.1, x.2.2)) ho hb, F35_some (x := (x.1, x.2.1)) hws hb l1 l2, F36_some (x := (x.1, x.2.1)) ho hb l1 l2,
      F37_some (x := (x.1, x.2.1)) hws, F38_some (x := (x.1, x.2.1)) ho]
    simp only [cond_false, Option.bind_some, List.take_length, ← put_eq hu, ← fold_eq hu, ← back_eq hu, bne_self_eq_false, beq_self_eq_true, cond_true]
    rw [F34_same (put_okWs hu hws hr hb), F34_same (fold_okWs hws hb)]
    show ((some true).bind _) = _
    simp only [Option.bind_some, Bool.not_true, cond_false, cond_true, F13_some]
    have e : F34 (back1 x.1 x.2.1, (back1 x.1 x.2.1).1, (back1 x.1 x.2.1).2) = some true := F34_same (back_okWs hws)
    rw [e]
    cases mayI x.1 <;> rfl
theorem con9_ok : ConOk Try.prog 9 con9 := f9.ok spec9 con13_ok con16_ok con32_ok con33_ok con34_ok con35_ok con36_ok con37_ok con38_ok

end Go.Proofs.Ytfjmdgdopmfcjaa.AI
