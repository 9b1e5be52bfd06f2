/- The plain laws of the runs: the reference's log, and the law of what is noted. -/
import Derived.Test.YtjedleoebjmkgaaBe
set_option linter.unusedVariables false
set_option linter.unusedSimpArgs false
namespace Go.Proofs.Ytjedleoebjmkgaa.AI
open Go

theorem con45_ok : ConOk Try.prog 45 con45 := f45.ok (fun x y h => ⟨0, by cases h; simp only [f45.g, cond_and', mayI]⟩)
theorem bad_loop {α : Type} {l : List α} (p : α → Bool) {K : Option Int} {step : (Int → Option Int) → Int → Option Int} {m : Nat} (hm : l.length < m)
    (hend : ∀ S, step S (l.length : Int) = K)
    (hstep : ∀ S i v, i < l.length → l[i]? = some v → step S (i : Int) = bif p v then some 1 else S ((i + 1 : Nat) : Int)) : iter step m 0 = bif l.any p then some 1 else K :=
  iter_all (step := step) l (fun i (_ : Unit) => (i : Int)) (fun _ _ => True) (fun _ _ r => bif r.any p then some 1 else K)
    (fun S _ _ => by rw [hend]; rfl) (fun S i _ v r hi hv hr _ ih => by
      rw [hstep S i v hi hv, ih () trivial, List.any_cons]
      cases p v <;> rfl) m hm () trivial
theorem F32_some {f : dFoot} (h : okF f = true) : F32 f = some (checkS f) := by
  show (bif okF f then _ else _) = _
  rw [h]; rfl
theorem spec32 : ∀ X Y, F32 X = some Y → ∃ n, f32.g n X = some Y := by
  intro x y h
  obtain ⟨ho, rfl⟩ := some_bif h
  obtain ⟨h1, h2, h3⟩ := okF_iff ho
  have l1 := okB_len (by omega) h1
  have l2 := okB_len (by omega) h2
  have l3 := okB_len (by omega) h3
  let n := x.1.length + x.2.1.length + x.2.2.length + 1
  refine ⟨n, ?_⟩
  simp only [f32.g, size_wrap ho, checkS]
  cases decide (sizeS x > 65536) with
  | true => rfl
  | false =>
  simp only [cond_false]
  have k1 : ∀ a b, iter (f32.s1 n x a b) n 0 = bif x.2.2.any (fun p => !mayI p.1 p.2.1) then some 1 else some 0 := fun a b =>
    bad_loop (l := x.2.2) _ (by omega) (fun S => by simp only [f32.s1, at_end, cond_false]) (fun S i v hi hv => by
      simp only [f32.s1, at_lt hi, at_ge, at_get hv, nx (show i ≤ _ by omega), Bool.and_self, cond_true, F45, Option.bind_some])
  have k2 : ∀ a, iter (f32.s2 n x a) n 0 = bif x.2.1.any (fun p => !mayI p.1 p.2.1) then some 1 else bif x.2.2.any (fun p => !mayI p.1 p.2.1) then some 1 else some 0 := fun a =>
    bad_loop (l := x.2.1) _ (by omega) (fun S => by simp only [f32.s2, at_end, cond_false]; exact k1 a _) (fun S i v hi hv => by
      simp only [f32.s2, at_lt hi, at_ge, at_get hv, nx (show i ≤ _ by omega), Bool.and_self, cond_true, F45, Option.bind_some])
  have k3 : iter (f32.s3 n x) n 0 = bif x.1.any (fun p => !mayI p.1 p.2.1) then some 1 else bif x.2.1.any (fun p => !mayI p.1 p.2.1) then some 1 else bif x.2.2.any (fun p => !mayI p.1 p.2.1) then some 1 else some 0 :=
    bad_loop (l := x.1) _ (by omega) (fun S => by simp only [f32.s3, at_end, cond_false]; exact k2 _) (fun S i v hi hv => by
      simp only [f32.s3, at_lt hi, at_ge, at_get hv, nx (show i ≤ _ by omega), Bool.and_self, cond_true, F45, Option.bind_some])
  rw [k3]
  cases x.1.any (fun p => !mayI p.1 p.2.1) <;> cases x.2.1.any (fun p => !mayI p.1 p.2.1) <;> cases x.2.2.any (fun p => !mayI p.1 p.2.1) <;> rfl
theorem con32_ok : ConOk Try.prog 32 con32 := f32.ok spec32 con45_ok

theorem F30_some {l : List dRcommit} {f : dFoot} (h1 : okB 32 l = true) (h2 : okF f = true) (n : Int) : F30 (l, n, f) = some (noteR l n f) := by
  show (bif okB 32 l && okF f then _ else _) = _
  rw [h1, h2]; rfl
theorem spec30 : ∀ X Y, F30 X = some Y → ∃ n, f30.g n X = some Y := by
  rintro ⟨l, at_, f⟩ y h
  obtain ⟨ho, rfl⟩ := some_bif h
  obtain ⟨h1, h2⟩ := Bool.and_eq_true _ _ ▸ ho
  simp only at h1 h2
  have hl := okB_len (by omega) h1
  refine ⟨0, ?_⟩
  simp only [f30.g, noteR, List.take_length, F32_some h2, Option.bind_some, cond_or', len_pos, len_4096]
  cases checkS f != 0 with
  | true => rfl
  | false =>
  simp only [cond_false]
  cases decide (at_ < 1) || decide (at_ > 4611686018427387904) with
  | true => rfl
  | false =>
  simp only [cond_false]
  have fin : decide (l.length ≥ 4096) = false → decide ((l.length + 1) * 32 ≤ boundN) = true := fun h => by
    have hb : boundN = 140737488355328 := rfl
    rw [decide_eq_false_iff_not] at h
    rw [decide_eq_true_iff, hb]
    omega
  have fin0 : decide (l.length * 32 ≤ boundN) = true := by
    have hb : boundN = 140737488355328 := rfl
    rw [decide_eq_true_iff, hb]
    exact okB_iff.1 h1
  have tk : List.take (l.length + 1) (l ++ [((at_, f.2.2) : dRcommit)]) = l ++ [(at_, f.2.2)] := List.take_of_length_le (by simp)
  have tail : (bif decide (l.length ≥ 4096) then some ((l, (2 : Int)) : List dRcommit × Int)
      else bif decide (l.length * 32 ≤ boundN) then bif decide ((l.length + 1) * 32 ≤ boundN) then some (List.take (l.length + 1) (l ++ [(at_, f.2.2)]), 0) else none else none)
      = some (bif decide (l.length ≥ 4096) then (l, 2) else (l ++ [(at_, f.2.2)], 0)) := by
    cases hq : decide (l.length ≥ 4096) with
    | true => rfl
    | false => simp only [cond_false, fin0, fin hq, cond_true, tk]
  cases hp : decide (l.length > 0) with
  | false =>
    simp only [Bool.false_and, cond_false]
    exact tail
  | true =>
    have hp' : 0 < l.length := of_decide_eq_true hp
    have e1 : decide (0 ≤ (((l.length - 1 : Nat)) : Int)) = true := at_ge _
    have e2 : decide (((l.length - 1 : Nat) : Int) < ((l.length : Nat) : Int)) = true := at_lt (l := l) (by omega)
    simp only [cond_true, last_wrap hp' hl, e1, e2, Bool.and_self, nat_toNat, Bool.true_and]
    have e3 : decide ((l.getD (l.length - 1) tRcommit.dflt).1 ≥ at_) = decide ((lastR l).1 ≥ at_) := rfl
    rw [e3]
    cases decide ((lastR l).1 ≥ at_) with
    | true => rfl
    | false =>
      simp only [cond_false]
      exact tail
theorem con30_ok : ConOk Try.prog 30 con30 := f30.ok spec30 con32_ok
theorem roomAcc {α : Type} {b : Nat} {l acc : List α} (h : okB b l = true) {i : Nat} (hi : i < l.length) (ha : acc.length ≤ i) : decide ((acc.length + 1) * b ≤ boundN) = true := by
  have h1 := okB_iff.1 h
  have : (acc.length + 1) * b ≤ l.length * b := Nat.mul_le_mul_right _ (by omega)
  have hb : boundN = 140737488355328 := rfl
  rw [decide_eq_true_iff, hb]
  omega
theorem snoc_len {α : Type} (l : List α) (v : α) : (l ++ [v]).length = l.length + 1 := by simp
theorem F20_some {l : List dRcommit} (h1 : okB 32 l = true) (n : Int) : F20 (l, n) = some (trimR l n) := by
  show (bif okB 32 l then _ else _) = _
  rw [h1]; rfl
theorem spec20 : ∀ X Y, F20 X = some Y → ∃ n, f20.g n X = some Y := by
  rintro ⟨l, at_⟩ y h
  obtain ⟨ho, rfl⟩ := some_bif h
  have hl := okB_len (by omega) ho
  simp only at hl
  refine ⟨l.length + 1, ?_⟩
  refine keep_loop (l := l) (step := f20.s1 (l.length + 1) (l, at_)) (fun c => decide (c.1 > at_)) (fun i acc => (acc.length, ((i : Int), acc)))
    (K := fun acc => some (acc, IntKind.wrap .i64 ((l.length : Int) - ((acc.length : Nat) : Int)))) (Nat.lt_succ_self _) (fun S acc => ?_) (fun S i acc v hi hv ha => ?_) |>.trans ?_
  · simp only [f20.s1, at_end, cond_false, List.take_length]
  · simp only [f20.s1, at_lt hi, at_ge, at_get hv, nx (show i ≤ _ by omega), Bool.and_self, cond_true, roomAcc ho hi ha, List.take_length, snoc_len]
  · have : (l.filter (fun c => decide (c.1 > at_))).length ≤ l.length := List.length_filter_le _ _
    simp only [trimR]
    rw [wrap_ok (by omega) (by omega)]
theorem con20_ok : ConOk Try.prog 20 con20 := f20.ok spec20

/-! ### The log and the reference's log -/
def relS (l : List dCommit) : List dRcommit := l.map fun c => (c.1, c.2.2.2)
def ascS (l : List dCommit) : Prop := l.Pairwise fun a b => a.1 < b.1
structure LogOk (l : List dCommit) : Prop where
  asc : ascS l
  len : l.length ≤ 4096
  foot : ∀ c ∈ l, okF c.2 = true
  one : ∀ c ∈ l, 1 ≤ c.1

theorem LogOk.nil : LogOk [] := ⟨List.Pairwise.nil, by simp, fun c h => by simp at h, fun c h => by simp at h⟩
theorem LogOk.b80 {l : List dCommit} (h : LogOk l) : okB 80 l = true := okB_iff.2 (by have := h.len; omega)
theorem LogOk.lg {l : List dCommit} (h : LogOk l) : okLg l = true := by
  unfold okLg
  rw [h.b80, List.all_eq_true.2 h.foot]; rfl
theorem LogOk.r32 {l : List dCommit} (h : LogOk l) : okB 32 (relS l) = true := okB_iff.2 (by have := h.len; unfold relS; rw [List.length_map]; omega)

theorem last_rel (l : List dCommit) (h : 0 < l.length) : (lastR (relS l)).1 = (lastC l).1 := by
  unfold lastR lastC relS
  rw [List.length_map]
  have : l[l.length - 1]? = some l[l.length - 1] := List.getElem?_eq_getElem (by omega)
  simp [List.getD, this]

/-- To note is the same for both. -/
theorem note_same {l : List dCommit} (h : LogOk l) (n : Int) (hn : 0 ≤ n) {f : dFoot} (hf : okF f = true) :
    ∃ l' e, noteS (true, l) n f = ((true, l'), e) ∧ noteR (relS l) n f = (relS l', e) ∧ LogOk l' := by
  simp only [noteS, noteR, Bool.not_true, cond_false]
  cases checkS f != 0 with
  | true => exact ⟨l, _, rfl, rfl, h⟩
  | false =>
  simp only [cond_false]
  have e1 : (n == 0) = decide (n < 1) := by rw [Bool.eq_iff_iff, beq_iff_eq, decide_eq_true_iff]; omega
  rw [e1]
  cases hb : decide (n < 1) || decide (n > 4611686018427387904) with
  | true => exact ⟨l, 1, rfl, rfl, h⟩
  | false =>
  simp only [Bool.or_eq_false_iff, decide_eq_false_iff_not] at hb
  simp only [cond_false]
  have e2 : (relS l).length = l.length := List.length_map _
  rw [e2]
  have e3 : (decide (l.length > 0) && decide ((lastR (relS l)).1 ≥ n)) = (decide (l.length > 0) && decide ((lastC l).1 ≥ n)) := by
    cases hp : decide (l.length > 0) with
    | false => rfl
    | true => rw [last_rel l (of_decide_eq_true hp)]
  rw [e3]
  cases hc : decide (l.length > 0) && decide ((lastC l).1 ≥ n) with
  | true => exact ⟨l, 81, rfl, rfl, h⟩
  | false =>
  simp only [cond_false]
  cases hq : decide (l.length ≥ 4096) with
  | true => exact ⟨l, 2, rfl, rfl, h⟩
  | false =>
  simp only [cond_false]
  rw [decide_eq_false_iff_not] at hq
  refine ⟨_, 0, rfl, by unfold relS; rw [List.map_append]; rfl, ?_, by rw [snoc_len]; omega, fun c hc' => ?_, fun c hc' => ?_⟩
  · show List.Pairwise _ _
    rw [List.pairwise_append]
    refine ⟨h.asc, List.pairwise_singleton _ _, fun a ha b hb => ?_⟩
    rw [List.mem_singleton.1 hb]
    show a.1 < n
    have hpos : 0 < l.length := List.length_pos_of_mem ha
    rw [Bool.and_eq_false_iff, decide_eq_false_iff_not, decide_eq_false_iff_not] at hc
    have hlast : (lastC l).1 < n := by
      rcases hc with hc | hc
      · omega
      · omega
    obtain ⟨i, hi, rfl⟩ := List.getElem_of_mem ha
    have hl : lastC l = l[l.length - 1] := by
      unfold lastC
      have : l[l.length - 1]? = some l[l.length - 1] := List.getElem?_eq_getElem (by omega)
      simp [List.getD, this]
    rw [hl] at hlast
    rcases Nat.lt_or_ge i (l.length - 1) with hlt | hge
    · have := (List.pairwise_iff_getElem.1 h.asc) i (l.length - 1) hi (by omega) hlt
      omega
    · have : i = l.length - 1 := by omega
      subst this
      exact hlast
  · rw [List.mem_append, List.mem_singleton] at hc'
    rcases hc' with hc' | rfl
    · exact h.foot c hc'
    · obtain ⟨_, _, h3⟩ := okF_iff hf
      show (okB 32 ([] : List dPoint) && (okB 56 ([] : List dSpan) && okB 32 f.2.2)) = true
      rw [okB_nil, okB_nil, h3]; rfl
  · rw [List.mem_append, List.mem_singleton] at hc'
    rcases hc' with hc' | rfl
    · exact h.one c hc'
    · show 1 ≤ n; omega

theorem behind_filter {l : List dCommit} (h : ascS l) (n : Int) : behindS l n = l.filter fun c => decide (c.1 > n) := by
  unfold behindS
  induction l with
  | nil => rfl
  | cons a r ih =>
    obtain ⟨h1, h2⟩ := List.pairwise_cons.1 h
    rw [List.dropWhile_cons, List.filter_cons]
    by_cases hp : a.1 > n
    · have : decide (a.1 > n) = true := decide_eq_true hp
      rw [this]
      simp only [Bool.not_true, Bool.false_eq_true, if_false, if_true]
      rw [List.filter_eq_self.2 (fun c hc => ?_)]
      have := h1 c hc
      rw [decide_eq_true_iff]; omega
    · have : decide (a.1 > n) = false := decide_eq_false hp
      rw [this]
      simp only [Bool.not_false, if_true, Bool.false_eq_true, if_false]
      exact ih h2
theorem rel_filter (l : List dCommit) (n : Int) : relS (l.filter fun c => decide (c.1 > n)) = (relS l).filter fun c => decide (c.1 > n) := by
  unfold relS
  rw [List.filter_map]; rfl
theorem LogOk.sub {l l' : List dCommit} (h : LogOk l) (hs : l'.Sublist l) : LogOk l' :=
  ⟨List.Pairwise.sublist hs h.asc, Nat.le_trans hs.length_le h.len, fun c hc => h.foot c (hs.subset hc), fun c hc => h.one c (hs.subset hc)⟩
theorem trim_same {l : List dCommit} (h : LogOk l) (n : Int) : ∃ l' e, trimS (true, l) n = ((true, l'), e) ∧ trimR (relS l) n = (relS l', e) ∧ LogOk l' ∧ l' = l.filter fun c => decide (c.1 > n) := by
  refine ⟨_, _, rfl, ?_, ?_, ?_⟩
  · simp only [trimR, behind_filter h.asc n, rel_filter]
    have e1 : (relS l).length = l.length := List.length_map _
    rw [e1, ← rel_filter, show (relS (l.filter fun c => decide (c.1 > n))).length = (l.filter fun c => decide (c.1 > n)).length from List.length_map _]
  · rw [behind_filter h.asc n]
    exact h.sub List.filter_sublist
  · exact behind_filter h.asc n
theorem stamps_same (l : List dCommit) : stampsS (true, l) (relS l) = true := by
  simp only [stampsS, cond_true, relS, List.map_map]
  rw [decide_eq_true_iff]
  rfl

theorem wf_okF {f : dFoot} (h : tFoot.wf f) : okF f = true := by
  unfold okF
  obtain ⟨h1, h2, h3⟩ := h
  rw [wf_okB (t := tPoint) (b := 32) rfl h1, wf_okB (t := tSpan) (b := 56) rfl h2, wf_okB (t := tPoint) (b := 32) rfl h3]; rfl
theorem wf_okC {l : List dCommit} (h : (Ty.sl tCommit).wf l) : okB 80 l = true ∧ ∀ c ∈ l, okF c.2 = true ∧ 0 ≤ c.1 :=
  ⟨wf_okB (t := tCommit) (b := 80) rfl h, fun c hc => ⟨wf_okF (h.2 c hc).2, by have h1 := (h.2 c hc).1; exact h1.1⟩⟩

/-- The loop that every law begins with: what is noted in both. -/
theorem noted_loop {x : List dCommit} (hx : okB 80 x = true ∧ ∀ c ∈ x, okF c.2 = true ∧ 0 ≤ c.1) {step : (List dRcommit × Int × Bool × Nat × List dCommit → Option Bool) → List dRcommit × Int × Bool × Nat × List dCommit → Option Bool} {m : Nat} (hm : x.length < m)
    (hend : ∀ S l, LogOk l → step S (relS l, (x.length : Int), true, l.length, l) = some true)
    (hstep : ∀ S i l v l' e, i < x.length → x[i]? = some v → LogOk l → noteS (true, l) v.1 v.2 = ((true, l'), e) → noteR (relS l) v.1 v.2 = (relS l', e) → okF v.2 = true → step S (relS l, (i : Int), true, l.length, l) = S (relS l', ((i + 1 : Nat) : Int), true, l'.length, l')) :
    iter step m ([], 0, true, 0, []) = some true :=
  iter_all (step := step) x (fun i (l : List dCommit) => (relS l, (i : Int), true, l.length, l)) (fun _ l => LogOk l) (fun _ _ _ => some true)
    (fun S l hl => hend S l hl) (fun S i l v r hi hv hr hl ih => by
      obtain ⟨h1, h2⟩ := hx.2 v (List.mem_of_getElem? hv)
      obtain ⟨l', e, e1, e2, e3⟩ := note_same hl v.1 h2 h1
      rw [hstep S i l v l' e hi hv hl e1 e2 h1]
      exact ih l' e3) m hm [] LogOk.nil

theorem spec4 : ∀ (X : List dCommit × Int) (Y : Bool), FL [(false, .sl tCommit), (false, .int .u64)] X = some Y → ∃ n, f4.g n X = some Y := by
  intro x y h
  obtain ⟨hw, rfl⟩ := FL_some h
  have hx := wf_okC hw.1
  have hl := okB_len (by omega) hx.1
  refine ⟨x.1.length + 1, ?_⟩
  refine noted_loop hx (step := f4.s1 (x.1.length + 1) x) (Nat.lt_succ_self _) (fun S l hl => ?_) (fun S i l v l' e hi hv hl e1 e2 hf => ?_)
  · obtain ⟨l', e, e1, e2, e3, _⟩ := trim_same hl x.2
    simp only [f4.s1, at_end, cond_false, List.take_length, F18_some (l := (true, l)) hl.b80 hl.r32, stamps_same, Option.bind_some, Bool.not_true, F19_some hl.b80, F20_some hl.r32, e1, e2, beq_self_eq_true, cond_true, F18_some (l := (true, l')) e3.b80 e3.r32, F17]
  · have g1 := F23_some (l := (true, l)) hl.b80 hf v.1
    have g2 := F30_some (l := relS l) hl.r32 hf v.1
    rw [e1] at g1
    rw [e2] at g2
    simp only [f4.s1, at_lt hi, at_ge, at_get hv, Bool.and_self, cond_true, List.take_length]
    show (F23 ((true, l), (v.1, v.2))).bind _ = _
    rw [g1, Option.bind_some]
    show (F30 (relS l, v.1, v.2)).bind _ = _
    rw [g2, Option.bind_some]
    simp only [bne_self_eq_false, cond_false, nx (show i ≤ _ by omega)]
theorem con4_ok : ConOk Try.prog 4 con4 := f4.ok spec4 con17_ok con18_ok con19_ok con20_ok con23_ok con30_ok

end Go.Proofs.Ytjedleoebjmkgaa.AI
