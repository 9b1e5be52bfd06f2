/- The plain laws of the runs: schedules, and that they are serial. -/
import Derived.Test.YtjedleoebjmkgaaBg
set_option linter.unusedVariables false
set_option linter.unusedSimpArgs false
namespace Go.Proofs.Ytjedleoebjmkgaa.AI
open Go

theorem okA_iff {l : List dAttempt} (h : okA l = true) : okB 88 l = true ∧ ∀ t ∈ l, okF t.2.1 = true := by
  unfold okA at h
  simp only [Bool.and_eq_true, List.all_eq_true] at h
  exact h
theorem wf_okA {l : List dAttempt} (h : (Ty.sl tAttempt).wf l) : okA l = true := by
  unfold okA
  rw [wf_okB (t := tAttempt) (b := 88) rfl h, List.all_eq_true.2 (fun t ht => wf_okF (h.2 t ht).2.1)]; rfl
theorem wrap_u {n : Int} (h0 : 0 ≤ n) (h1 : n ≤ 4611686018427387904) : IntKind.wrap .u64 (n + 1) = n + 1 := by
  simp [IntKind.wrap, IntKind.min, IntKind.max, IntKind.signed, IntKind.bits]
  omega
theorem gt_4096 {α : Type} (l : List α) : decide (((l.length : Nat) : Int) > 4096) = decide (l.length > 4096) := by
  rw [Bool.eq_iff_iff, decide_eq_true_iff, decide_eq_true_iff]; omega
theorem room56 {n : Nat} (h : n < 4096) : decide ((n + 1) * 56 ≤ boundN) = true := by
  have hb : boundN = 140737488355328 := rfl
  rw [decide_eq_true_iff, hb]
  omega

theorem spec25 : ∀ X Y, F25 X = some Y → ∃ n, f25.g n X = some Y := by
  rintro ⟨s0, x⟩ y h
  obtain ⟨ho, rfl⟩ := some_bif h
  obtain ⟨ha, hs⟩ := Bool.and_eq_true _ _ ▸ ho
  obtain ⟨hx, hf⟩ := okA_iff ha
  have hs0 : 0 ≤ s0 := of_decide_eq_true hs
  refine ⟨x.length + 1, ?_⟩
  simp only [f25.g, schedS, gt_4096]
  cases hd : decide (s0 > 4611686018427387904) with
  | true => rfl
  | false =>
  have hs1 : s0 ≤ 4611686018427387904 := by rw [decide_eq_false_iff_not] at hd; omega
  simp only [cond_false]
  cases hn : decide (x.length > 4096) with
  | true => rfl
  | false =>
  rw [decide_eq_false_iff_not] at hn
  simp only [cond_false]
  have := iter_all (step := f25.s1 (x.length + 1) (s0, x)) x (fun i (a : Int × List dCommit × List dFate) => (a.1, (a.2.2.length, ((i : Int), (true, (a.2.1.length, (a.2.2, a.2.1)))))))
    (fun i a => 0 ≤ a.1 ∧ a.1 ≤ 4611686018427387904 ∧ LogOk a.2.1 ∧ a.2.2.length = i) (fun i a r => some (a.2.2 ++ schedL a.1 a.2.1 r, 0))
    (fun S a _ => by simp only [f25.s1, at_end, cond_false, List.take_length, schedL, List.append_nil]) (fun S i a v r hi hv hr hI ih => by
      obtain ⟨i1, i2, i3, i4⟩ := hI
      obtain ⟨s, l, fs⟩ := a
      simp only at i1 i2 i3 i4
      have hv2 : okF v.2.1 = true := hf v (List.mem_of_getElem? hv)
      have hr56 : decide ((fs.length + 1) * 56 ≤ boundN) = true := room56 (by omega)
      simp only [f25.s1, at_lt hi, at_ge, at_get hv, nx (show i ≤ _ by omega), Bool.and_self, cond_true, List.take_length, F21_some (l := (true, l)) i3.lg hv2, Option.bind_some, hr56, schedL]
      cases h1 : (tryS (true, l) v).2 != 0 with
      | true =>
        simp only [cond_true]
        have := ih (s, l, fs ++ [(0, ((tryS (true, l) v).2, (tryS (true, l) v).1))]) ⟨i1, i2, i3, by simp; omega⟩
        simp only [snoc_len] at this
        rw [this, List.append_assoc]; rfl
      | false =>
      simp only [cond_false]
      cases h2 : s == 4611686018427387904 with
      | true =>
        simp only [cond_true]
        have := ih (s, l, fs ++ [(0, (4, (tryS (true, l) v).1))]) ⟨i1, i2, i3, by simp; omega⟩
        simp only [snoc_len] at this
        rw [this, List.append_assoc]; rfl
      | false =>
        have h2' : s ≠ 4611686018427387904 := by simpa using h2
        obtain ⟨l', e, e1, e2, e3⟩ := note_same i3 (s + 1) (by omega) hv2
        have g1 := F23_some (l := (true, l)) i3.b80 hv2 (s + 1)
        rw [e1] at g1
        simp only [cond_false, wrap_u i1 i2, g1, Option.bind_some, e1]
        have := ih (s + 1, l', fs ++ [(s + 1, ((tryS (true, l) v).2, (tryS (true, l) v).1))]) ⟨by simp only; omega, by simp only; omega, e3, by simp; omega⟩
        simp only [snoc_len] at this
        rw [this, List.append_assoc]; rfl) (x.length + 1) (Nat.lt_succ_self _) (s0, [], []) ⟨hs0, hs1, LogOk.nil, rfl⟩
  simpa using this
theorem con25_ok : ConOk Try.prog 25 con25 := f25.ok spec25 con21_ok con23_ok
theorem F25_some {s : Int} {l : List dAttempt} (h1 : okA l = true) (h2 : 0 ≤ s) : F25 (s, l) = some (schedS s l) := by
  show (bif okA l && decide (0 ≤ s) then _ else _) = _
  rw [h1, decide_eq_true h2]; rfl

/-! ### What went through -/
/-- Nothing stands against an attempt in a commit. -/
def safe (t : dAttempt) (f : dFoot) : Prop := (t.2.2 == 3 && (clashS t.2.1 f).2) = false ∧ (decide (t.2.2 ≥ 2) && (bothS t.2.1 f).2) = false
theorem first_none {g : dFoot → dFoot → dPoint × Bool} {f : dFoot} : ∀ {l : List dCommit}, (firstS g f l).2 = false → ∀ c ∈ l, (g f c.2).2 = false
  | [], _, c, hc => by simp at hc
  | a :: r, h, c, hc => by
    unfold firstS at h
    cases hg : (g f a.2).2 with
    | true => rw [hg] at h; simp at h
    | false =>
      rw [hg, cond_false] at h
      rcases List.mem_cons.1 hc with rfl | hc
      · exact hg
      · exact first_none h c hc
theorem read_none {g : dFoot → dFoot → dPoint × Bool} {l : List dCommit} {f : dFoot} {n : Int} (hl : ascS l) (hk : checkS f = 0) (h : (readS g (true, l) f n).2 = false) (c : dCommit) (hc : c ∈ l) (hn : c.1 > n) : (g f c.2).2 = false := by
  unfold readS at h
  rw [hk] at h
  simp only [Bool.not_true, bne_self_eq_false, Bool.or_self, cond_false] at h
  refine first_none h c ?_
  rw [behind_filter hl]
  exact List.mem_filter.2 ⟨hc, decide_eq_true hn⟩
theorem try_safe {l : List dCommit} {t : dAttempt} (hl : ascS l) (h : (tryS (true, l) t).2 = 0) : checkS t.2.1 = 0 ∧ ∀ c ∈ l, c.1 > t.1 → safe t c.2 := by
  unfold tryS at h
  simp only [Bool.not_true, cond_false] at h
  cases h1 : checkS t.2.1 != 0 with
  | true => rw [h1, cond_true] at h; simp at h1; exact absurd h h1
  | false =>
  have hk : checkS t.2.1 = 0 := by simpa using h1
  rw [h1, cond_false] at h
  cases h2 : decide (t.2.2 < 1) || decide (t.2.2 > 3) with
  | true => rw [h2, cond_true] at h; simp at h
  | false =>
  rw [h2, cond_false] at h
  cases h3 : t.2.2 != 1 && (readS bothS (true, l) t.2.1 t.1).2 with
  | true => rw [h3, cond_true] at h; simp at h
  | false =>
  rw [h3, cond_false] at h
  cases h4 : t.2.2 == 3 && (readS clashS (true, l) t.2.1 t.1).2 with
  | true => rw [h4, cond_true] at h; simp at h
  | false =>
  refine ⟨hk, fun c hc hn => ⟨?_, ?_⟩⟩
  · cases h5 : t.2.2 == 3 with
    | false => rfl
    | true =>
      rw [h5, Bool.true_and] at h4
      rw [read_none hl hk h4 c hc hn]; rfl
  · cases h5 : decide (t.2.2 ≥ 2) with
    | false => rfl
    | true =>
      have h6 : (t.2.2 != 1) = true := by have := of_decide_eq_true h5; simp; omega
      rw [h6, Bool.true_and] at h3
      rw [read_none hl hk h3 c hc hn]; rfl

/-- What is noted behind a successful attempt. -/
theorem note_new {l : List dCommit} (hl : LogOk l) {s : Int} (h0 : 0 ≤ s) (h1 : s < 4611686018427387904) (hlast : ∀ c ∈ l, c.1 ≤ s) (hlen : l.length < 4096) {f : dFoot} (hk : checkS f = 0) (hf : okF f = true) :
    noteS (true, l) (s + 1) f = ((true, l ++ [(s + 1, ([], ([], f.2.2)))]), 0) := by
  unfold noteS
  have e1 : (s + 1 == 0 || decide (s + 1 > 4611686018427387904)) = false := by simp; omega
  have e2 : (decide (l.length > 0) && decide ((lastC l).1 ≥ s + 1)) = false := by
    cases hp : decide (l.length > 0) with
    | false => rfl
    | true =>
      have hp' : 0 < l.length := of_decide_eq_true hp
      have hm : lastC l ∈ l := by
        unfold lastC
        have : l[l.length - 1]? = some l[l.length - 1] := List.getElem?_eq_getElem (by omega)
        simp only [List.getD, this, Option.getD_some]
        exact List.getElem_mem _
      have := hlast _ hm
      simp; omega
  have e3 : decide (l.length ≥ 4096) = false := by simp; omega
  simp only [hk, e1, e2, e3, Bool.not_true, bne_self_eq_false, cond_false]

structure SchedInv (s : Int) (l : List dCommit) (n : Nat) : Prop where
  log : LogOk l
  s0 : 0 ≤ s
  s1 : s ≤ 4611686018427387904
  last : ∀ c ∈ l, c.1 ≤ s
  len : l.length + n ≤ 4096

theorem sched_step {s : Int} {l : List dCommit} {t : dAttempt} {r : List dAttempt} (h : SchedInv s l (t :: r).length) (hf : okF t.2.1 = true) :
    (∃ f, f.2.1 ≠ 0 ∧ schedL s l (t :: r) = f :: schedL s l r ∧ SchedInv s l r.length) ∨
    (∃ f : dFate, f.1 = s + 1 ∧ f.2.1 = 0 ∧ (∀ c ∈ l, c.1 > t.1 → safe t c.2) ∧ schedL s l (t :: r) = f :: schedL (s + 1) (l ++ [(s + 1, ([], ([], t.2.1.2.2)))]) r ∧ SchedInv (s + 1) (l ++ [(s + 1, ([], ([], t.2.1.2.2)))]) r.length) := by
  have hlen := h.len
  simp only [List.length_cons] at hlen
  have hsame : SchedInv s l r.length := ⟨h.log, h.s0, h.s1, h.last, by omega⟩
  simp only [schedL]
  cases h1 : (tryS (true, l) t).2 != 0 with
  | true => exact .inl ⟨_, by simpa using h1, rfl, hsame⟩
  | false =>
  have h1' : (tryS (true, l) t).2 = 0 := by simpa using h1
  simp only [cond_false]
  cases h2 : s == 4611686018427387904 with
  | true => exact .inl ⟨(0, (4, (tryS (true, l) t).1)), by simp, rfl, hsame⟩
  | false =>
  have h2' : s ≠ 4611686018427387904 := by simpa using h2
  have hs1 := h.s1
  obtain ⟨hk, hsafe⟩ := try_safe h.log.asc h1'
  have e1 := note_new h.log h.s0 (by omega) h.last (by omega) hk hf
  obtain ⟨l', e, q1, _, q3⟩ := note_same h.log (s + 1) (by have := h.s0; omega) hf
  rw [e1] at q1
  have hl' : l' = l ++ [(s + 1, ([], ([], t.2.1.2.2)))] := (congrArg (fun z => z.1.2) q1).symm
  subst hl'
  refine .inr ⟨_, rfl, h1', hsafe, by rw [cond_false, e1], q3, by have := h.s0; omega, by omega, fun c hc => ?_, by rw [snoc_len]; omega⟩
  rcases List.mem_append.1 hc with hc | hc
  · have := h.last c hc; omega
  · rw [List.mem_singleton.1 hc]; exact Int.le_refl _

theorem sched_len : ∀ (r : List dAttempt) (s : Int) (l : List dCommit), (schedL s l r).length = r.length
  | [], s, l => rfl
  | t :: r, s, l => by
    simp only [schedL]
    cases (tryS (true, l) t).2 != 0 with
    | true => simp only [cond_true, List.length_cons, sched_len r]
    | false =>
      simp only [cond_false]
      cases s == 4611686018427387904 with
      | true => simp only [cond_true, List.length_cons, sched_len r]
      | false => simp only [cond_false, List.length_cons, sched_len r]

theorem sched_ok : ∀ (r : List dAttempt) (s : Int) (l : List dCommit), SchedInv s l r.length → (∀ t ∈ r, okF t.2.1 = true) → ∀ (i : Nat) (t : dAttempt) (f : dFate), r[i]? = some t → (schedL s l r)[i]? = some f → f.2.1 = 0 →
    s < f.1 ∧ ∀ c ∈ l, c.1 > t.1 → safe t c.2
  | [], s, l, _, _, i, t, f, h, _, _ => by simp at h
  | u :: r, s, l, hI, hf, i, t, f, h, h2, h3 => by
    have hr : ∀ t ∈ r, okF t.2.1 = true := fun t ht => hf t (List.mem_cons_of_mem _ ht)
    rcases sched_step hI (hf u List.mem_cons_self) with ⟨f0, q1, q2, q3⟩ | ⟨f0, q1, q2, q3, q4, q5⟩
    · rw [q2] at h2
      cases i with
      | zero => simp at h2; subst h2; exact absurd h3 q1
      | succ i => exact sched_ok r s l q3 hr i t f (by simpa using h) (by simpa using h2) h3
    · rw [q4] at h2
      cases i with
      | zero =>
        simp at h h2
        subst h2; subst h
        exact ⟨by omega, q3⟩
      | succ i =>
        obtain ⟨a1, a2⟩ := sched_ok r _ _ q5 hr i t f (by simpa using h) (by simpa using h2) h3
        exact ⟨by omega, fun c hc hn => a2 c (List.mem_append_left _ hc) hn⟩

theorem clash_foot (a b : dFoot) : clashS a ([], ([], b.2.2)) = clashS a b := rfl
theorem both_foot (a b : dFoot) : bothS a ([], ([], b.2.2)) = bothS a b := rfl

theorem sched_pair : ∀ (r : List dAttempt) (s : Int) (l : List dCommit), SchedInv s l r.length → (∀ t ∈ r, okF t.2.1 = true) → ∀ (i j : Nat) (t u : dAttempt) (f g : dFate), j < i → r[i]? = some t → (schedL s l r)[i]? = some f → f.2.1 = 0 →
    r[j]? = some u → (schedL s l r)[j]? = some g → g.2.1 = 0 → g.1 < f.1 ∧ (g.1 > t.1 → safe t u.2.1)
  | [], s, l, _, _, i, j, t, u, f, g, _, h, _, _, _, _, _ => by simp at h
  | v :: r, s, l, hI, hf, i, j, t, u, f, g, hij, h, h2, h3, k, k2, k3 => by
    have hr : ∀ t ∈ r, okF t.2.1 = true := fun t ht => hf t (List.mem_cons_of_mem _ ht)
    obtain ⟨i, rfl⟩ : ∃ q, i = q + 1 := ⟨i - 1, by omega⟩
    rcases sched_step hI (hf v List.mem_cons_self) with ⟨f0, q1, q2, q3⟩ | ⟨f0, q1, q2, q3, q4, q5⟩
    · rw [q2] at h2 k2
      cases j with
      | zero => simp at k2; subst k2; exact absurd k3 q1
      | succ j => exact sched_pair r s l q3 hr i j t u f g (by omega) (by simpa using h) (by simpa using h2) h3 (by simpa using k) (by simpa using k2) k3
    · rw [q4] at h2 k2
      cases j with
      | zero =>
        simp at k k2
        subst k; subst k2
        obtain ⟨a1, a2⟩ := sched_ok r _ _ q5 hr i t f (by simpa using h) (by simpa using h2) h3
        refine ⟨by omega, fun hn => ?_⟩
        have := a2 (s + 1, ([], ([], v.2.1.2.2))) (List.mem_append_right _ (List.mem_singleton.2 rfl)) (by rw [q1] at hn; exact hn)
        exact this
      | succ j => exact sched_pair r _ _ q5 hr i j t u f g (by omega) (by simpa using h) (by simpa using h2) h3 (by simpa using k) (by simpa using k2) k3

theorem getE {α : Type} {l : List α} {i : Nat} (h : i < l.length) : l[i]? = some l[i] := List.getElem?_eq_getElem h

theorem spec10 : ∀ (X : Int × List dAttempt) (Y : Bool), FL [(false, .int .u64), (false, .sl tAttempt)] X = some Y → ∃ n, f10.g n X = some Y := by
  rintro ⟨s, x⟩ y h
  obtain ⟨hw, rfl⟩ := FL_some h
  have hs : 0 ≤ s := hw.1.1
  have ha : okA x = true := wf_okA hw.2
  obtain ⟨hx, hf⟩ := okA_iff ha
  have hxl := okB_len (by omega) hx
  refine ⟨x.length + 1, ?_⟩
  simp only [f10.g, F25_some ha hs, Option.bind_some]
  unfold schedS
  cases hd : decide (s > 4611686018427387904) with
  | true => rfl
  | false =>
  have hs1 : s ≤ 4611686018427387904 := by rw [decide_eq_false_iff_not] at hd; omega
  simp only [cond_false]
  cases hn : decide (x.length > 4096) with
  | true => rfl
  | false =>
  rw [decide_eq_false_iff_not] at hn
  simp only [cond_false, bne_self_eq_false]
  have hlen : (schedL s [] x).length = x.length := sched_len x s []
  have e1 : (((schedL s [] x).length : Int) != (x.length : Int)) = false := by rw [hlen]; simp
  rw [e1, cond_false]
  have hI : SchedInv s [] x.length := ⟨LogOk.nil, hs, hs1, fun c hc => by simp at hc, by simp; omega⟩
  generalize hfs : schedL s [] x = fs at *
  have inner : ∀ (i : Nat) (S3 : Int → Option Bool) (t : dAttempt) (f : dFate), i < x.length → x[i]? = some t → fs[i]? = some f → f.2.1 = 0 → S3 ((i + 1 : Nat) : Int) = some true → iter (f10.s1 (x.length + 1) (s, x) (fs, 0) (i : Int) S3) (x.length + 1) 0 = some true := fun i S3 t f hi ht hfi h0 hS3 => by
    have htl : (x.take i).length = i := by rw [List.length_take]; omega
    refine iter_all (step := f10.s1 (x.length + 1) (s, x) (fs, 0) (i : Int) S3) (x.take i) (fun j (_ : Unit) => (j : Int)) (fun _ _ => True) (fun _ _ _ => some true) (fun S _ _ => ?_) (fun S j _ u r hj hu hr _ ih => ?_) (x.length + 1) (by omega) () trivial
    · have : decide (((x.take i).length : Int) < (i : Int)) = false := by rw [htl]; simp
      simp only [f10.s1, this, cond_false, nx (show i ≤ _ by omega), hS3]
    · have hji : j < i := by omega
      have hjx : j < x.length := by omega
      have hjf : j < fs.length := by omega
      have hif : i < fs.length := by omega
      have hu' : x[j]? = some u := by rw [List.getElem?_take_of_lt hji] at hu; exact hu
      obtain ⟨g, hg⟩ : ∃ g, fs[j]? = some g := ⟨_, getE hjf⟩
      have d1 : decide ((j : Int) < (i : Int)) = true := by simp; omega
      have hokt : okF t.2.1 = true := hf t (List.mem_of_getElem? ht)
      have hoku : okF u.2.1 = true := hf u (List.mem_of_getElem? hu')
      simp only [f10.s1, d1, cond_true, at_ge, at_lt hjf, at_lt hif, at_lt hi, at_lt hjx, Bool.and_self, at_get hg, at_get hfi, at_get ht, at_get hu', F27_some hokt hoku, F28_some hokt hoku, Option.bind_some, cond_and', nx (show j ≤ _ by omega), ih () trivial]
      cases hge : g.2.1 != 0 with
      | true => rfl
      | false =>
        have g0 : g.2.1 = 0 := by simpa using hge
        obtain ⟨p1, p2⟩ := sched_pair x s [] hI hf i j t u f g hji ht (by rw [hfs]; exact hfi) h0 hu' (by rw [hfs]; exact hg) g0
        simp only [cond_false]
        cases hle : decide (g.1 ≤ t.1) with
        | true => rfl
        | false =>
          have d2 : decide (g.1 ≥ f.1) = false := by simp; omega
          obtain ⟨s1, s2⟩ := p2 (by rw [decide_eq_false_iff_not] at hle; omega)
          simp only [cond_false, d2, s1, s2]
  refine iter_all (step := f10.s2 (x.length + 1) (s, x) (fs, 0)) x (fun i (_ : Unit) => (i : Int)) (fun _ _ => True) (fun _ _ _ => some true) (fun S _ _ => ?_) (fun S i _ t r hi ht hr _ ih => ?_) (x.length + 1) (Nat.lt_succ_self _) () trivial
  · have : decide ((x.length : Int) < (fs.length : Int)) = false := by rw [hlen]; simp
    simp only [f10.s2, this, cond_false]
    rfl
  · have hif : i < fs.length := by omega
    obtain ⟨f, hfi⟩ : ∃ f, fs[i]? = some f := ⟨_, getE hif⟩
    simp only [f10.s2, at_lt hif, at_ge, Bool.and_self, cond_true, at_get hfi]
    cases hfe : f.2.1 != 0 with
    | true =>
      simp only [cond_true, nx (show i ≤ _ by omega)]
      exact ih () trivial
    | false =>
      simp only [cond_false]
      exact inner i S t f hi ht hfi (by simpa using hfe) (ih () trivial)
theorem con10_ok : ConOk Try.prog 10 con10 := f10.ok spec10 con17_ok con25_ok con27_ok con28_ok

end Go.Proofs.Ytjedleoebjmkgaa.AI
