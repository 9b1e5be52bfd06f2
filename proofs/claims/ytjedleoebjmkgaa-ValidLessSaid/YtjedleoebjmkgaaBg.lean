/- The plain laws of the runs: what an attempt meets, and the laws of trimming and of no log. -/
import Derived.Test.YtjedleoebjmkgaaBf
import Derived.Test.YtjedleoebjmkgaaBz
set_option linter.unusedVariables false
set_option linter.unusedSimpArgs false
namespace Go.Proofs.Ytjedleoebjmkgaa.AI
open Go

theorem con16_ok : ConOk Try.prog 16 con16 := f16.ok (fun x y h => ⟨0, by cases h; simp only [f16.g, cond_and', sameC]⟩)
theorem strEq_self (s : ByteArray) : strEq s s = true := by simp [strEq]
theorem sameC_self (c : dClash) : sameC c c = true := by simp [sameC, strEq_self]

theorem noC_eq : ((((0 : Int), ((0 : Int), ((0 : Int), (⟨#[]⟩ : ByteArray)))), (0 : Int)) : dClash × Int) = (noC, 0) := rfl
theorem spec21 : ∀ X Y, F21 X = some Y → ∃ n, f21.g n X = some Y := by
  rintro ⟨⟨mk, l⟩, from_, f, lev⟩ y h
  obtain ⟨ho, rfl⟩ := some_bif h
  obtain ⟨h1, h2⟩ := Bool.and_eq_true _ _ ▸ ho
  simp only at h1 h2
  refine ⟨0, ?_⟩
  simp only [f21.g, tryS, F38_some h2, Option.bind_some, cond_or', F14_some (l := (mk, l)) h1 h2, F12_some (l := (mk, l)) h1 h2]
  cases mk with
  | false => rfl
  | true =>
  simp only [Bool.not_true, cond_false]
  cases checkS f != 0 with
  | true => rfl
  | false =>
  simp only [cond_false]
  cases decide (lev < 1) || decide (lev > 3) with
  | true => rfl
  | false =>
  simp only [cond_false]
  cases lev != 1 with
  | true =>
    simp only [cond_true, Bool.true_and]
    cases (readS bothS (true, l) f from_).2 with
    | true => rfl
    | false =>
      simp only [cond_false]
      cases lev == 3 with
      | true =>
        simp only [cond_true, Bool.true_and]
        cases (readS clashS (true, l) f from_).2 <;> rfl
      | false => rfl
  | false =>
    simp only [cond_false, Bool.false_and]
    cases lev == 3 with
    | true =>
      simp only [cond_true, Bool.true_and]
      cases (readS clashS (true, l) f from_).2 <;> rfl
    | false => rfl
theorem con21_ok : ConOk Try.prog 21 con21 := f21.ok spec21 con12_ok con14_ok con38_ok
theorem F21_some {l : Bool × List dCommit} {t : dAttempt} (h1 : okLg l.2 = true) (h2 : okF t.2.1 = true) : F21 (l, t) = some (tryS l t) := by
  show (bif okLg l.2 && okF t.2.1 then _ else _) = _
  rw [h1, h2]; rfl

/-! ### What is noted, one behind the other -/
def logOf (x : List dCommit) : List dCommit := x.foldl (fun l v => (noteS (true, l) v.1 v.2).1.2) []
theorem noted_loop2 {x : List dCommit} (hx : okB 80 x = true ∧ ∀ c ∈ x, okF c.2 = true ∧ 0 ≤ c.1) {step : (List dRcommit × Int × Bool × Nat × List dCommit → Option Bool) → List dRcommit × Int × Bool × Nat × List dCommit → Option Bool} {m : Nat} (hm : x.length < m)
    (hend : ∀ S, LogOk (logOf x) → step S (relS (logOf x), (x.length : Int), true, (logOf x).length, logOf x) = some true)
    (hstep : ∀ S i l v l' e, i < x.length → x[i]? = some v → LogOk l → noteS (true, l) v.1 v.2 = ((true, l'), e) → noteR (relS l) v.1 v.2 = (relS l', e) → okF v.2 = true → step S (relS l, (i : Int), true, l.length, l) = S (relS l', ((i + 1 : Nat) : Int), true, l'.length, l')) :
    iter step m ([], 0, true, 0, []) = some true :=
  iter_all (step := step) x (fun i (l : List dCommit) => (relS l, (i : Int), true, l.length, l)) (fun i l => LogOk l ∧ l = logOf (x.take i)) (fun _ _ _ => some true)
    (fun S l hl => by
      have e : l = logOf x := by rw [hl.2, List.take_length]
      subst e
      exact hend S hl.1) (fun S i l v r hi hv hr hl ih => by
      obtain ⟨h1, h2⟩ := hx.2 v (List.mem_of_getElem? hv)
      obtain ⟨l', e, e1, e2, e3⟩ := note_same hl.1 v.1 h2 h1
      rw [hstep S i l v l' e hi hv hl.1 e1 e2 h1]
      refine ih l' ⟨e3, ?_⟩
      rw [← take_next hv]
      unfold logOf
      rw [List.foldl_append]
      have : List.foldl (fun l v => (noteS (true, l) v.1 v.2).1.2) [] (x.take i) = l := hl.2.symm
      rw [this]
      show l' = (noteS (true, l) v.1 v.2).1.2
      rw [e1]) m hm [] ⟨LogOk.nil, rfl⟩

/-! ### Trimming -/
theorem drop_drop' (l : List dCommit) {a b : Int} (h : a ≤ b) : behindS (behindS l a) b = behindS l b := by
  unfold behindS
  induction l with
  | nil => rfl
  | cons c r ih =>
    rw [List.dropWhile_cons]
    by_cases hc : c.1 > a
    · have : (!decide (c.1 > a)) = false := by simp [hc]
      rw [this]; rfl
    · have e1 : (!decide (c.1 > a)) = true := by simp [hc]
      have e2 : (!decide (c.1 > b)) = true := by simp; omega
      rw [e1, if_pos rfl, ih, List.dropWhile_cons, e2, if_pos rfl]
theorem read_trim (g : dFoot → dFoot → dPoint × Bool) (l : List dCommit) (f : dFoot) {a b : Int} (h : a ≤ b) : readS g (true, behindS l a) f b = readS g (true, l) f b := by
  unfold readS
  simp only [drop_drop' l h]
theorem try_trim (l : List dCommit) (t : dAttempt) {a : Int} (h : a ≤ t.1) : tryS (true, behindS l a) t = tryS (true, l) t := by
  unfold tryS
  simp only [read_trim _ l _ h]

theorem law6_end {n : Nat} {x : List dCommit × dAttempt × Int} (hf : okF x.2.1.2.1 = true) (hl : LogOk (logOf x.1)) (S) :
    f6.s2 n x (relS (logOf x.1), (x.1.length : Int), true, (logOf x.1).length, logOf x.1) S (relS (logOf x.1), (x.1.length : Int), true, (logOf x.1).length, logOf x.1) = some true := by
  obtain ⟨l', e, e1, _, e3, _⟩ := trim_same hl x.2.2
  have e4 : l' = behindS (logOf x.1) x.2.2 := by
    have := congrArg (fun z => z.1.2) e1
    exact this.symm
  have e5 : trimS (true, logOf x.1) x.2.2 = ((true, l'), e) := e1
  simp only [f6.s2, at_end, cond_false, List.take_length, F19_some hl.b80, e5, Option.bind_some]
  cases hd : decide (x.2.1.1 < x.2.2) with
  | true =>
    have g1 := F21_some (l := (true, logOf x.1)) (t := (x.2.2, x.2.1.2)) hl.lg hf
    have g2 := F21_some (l := (true, l')) (t := (x.2.2, x.2.1.2)) e3.lg hf
    have g3 : tryS (true, l') (x.2.2, x.2.1.2) = tryS (true, logOf x.1) (x.2.2, x.2.1.2) := by rw [e4]; exact try_trim _ _ (Int.le_refl _)
    simp only [cond_true, g1, g2, g3, Option.bind_some, beq_self_eq_true, F16, sameC_self, F17]
  | false =>
    have hle : x.2.2 ≤ x.2.1.1 := by rw [decide_eq_false_iff_not] at hd; omega
    have g1 := F21_some (l := (true, logOf x.1)) (t := x.2.1) hl.lg hf
    have g2 := F21_some (l := (true, l')) (t := x.2.1) e3.lg hf
    have g3 : tryS (true, l') x.2.1 = tryS (true, logOf x.1) x.2.1 := by rw [e4]; exact try_trim _ _ hle
    simp only [cond_false, g1, g2, g3, Option.bind_some, beq_self_eq_true, F16, sameC_self, F17, cond_true]

theorem spec6 : ∀ (X : List dCommit × dAttempt × Int) (Y : Bool), FL [(false, .sl tCommit), (true, tAttempt), (false, .int .u64)] X = some Y → ∃ n, f6.g n X = some Y := by
  intro x y h
  obtain ⟨hw, rfl⟩ := FL_some h
  have hx := wf_okC hw.1
  have hf : okF x.2.1.2.1 = true := wf_okF hw.2.1.2.1
  have hl := okB_len (by omega) hx.1
  refine ⟨x.1.length + 1, ?_⟩
  have note : ∀ l v l' e, LogOk l → noteS (true, l) v.1 v.2 = ((true, l'), e) → noteR (relS l) v.1 v.2 = (relS l', e) → okF v.2 = true → F23 ((true, l), v) = some ((true, l'), e) ∧ F30 (relS l, v) = some (relS l', e) := fun l v l' e hl e1 e2 hv => by
    have g1 := F23_some (l := (true, l)) hl.b80 hv v.1
    have g2 := F30_some (l := relS l) hl.r32 hv v.1
    rw [e1] at g1
    rw [e2] at g2
    exact ⟨g1, g2⟩
  refine noted_loop2 hx (step := f6.s3 (x.1.length + 1) x) (Nat.lt_succ_self _) (fun S hl => ?_) (fun S i l v l' e hi hv hl e1 e2 hf => ?_)
  · simp only [f6.s3, at_end, cond_false]
    refine noted_loop2 hx (step := f6.s2 (x.1.length + 1) x _) (Nat.lt_succ_self _) (fun S hl => law6_end hf hl S) (fun S i l v l' e hi hv hl e1 e2 hf => ?_)
    obtain ⟨g1, g2⟩ := note l v l' e hl e1 e2 hf
    simp only [f6.s2, at_lt hi, at_ge, at_get hv, Bool.and_self, cond_true, List.take_length, g1, g2, Option.bind_some, bne_self_eq_false, cond_false, nx (show i ≤ _ by omega)]
  · obtain ⟨g1, g2⟩ := note l v l' e hl e1 e2 hf
    simp only [f6.s3, at_lt hi, at_ge, at_get hv, Bool.and_self, cond_true, List.take_length, g1, g2, Option.bind_some, bne_self_eq_false, cond_false, nx (show i ≤ _ by omega)]
theorem con6_ok : ConOk Try.prog 6 con6 := f6.ok spec6 con16_ok con17_ok con19_ok con21_ok con23_ok con30_ok

/-! ### No log -/
theorem spec8 : ∀ (X : dCommit × dAttempt × Int) (Y : Bool), FL [(true, tCommit), (true, tAttempt), (false, .int .u64)] X = some Y → ∃ n, f8.g n X = some Y := by
  intro x y h
  obtain ⟨hw, rfl⟩ := FL_some h
  exact ⟨3, rfl⟩
theorem con8_ok : ConOk Try.prog 8 con8 := f8.ok spec8 con17_ok con38_ok con39_ok

end Go.Proofs.Ytjedleoebjmkgaa.AI
