/- The plain laws of the runs: who asks for less meets no more. -/
import Derived.Test.YtjedleoebjmkgaaBj
import Derived.Test.YtjedleoebjmkgaaBy
set_option linter.unusedVariables false
set_option linter.unusedSimpArgs false
namespace Go.Proofs.Ytjedleoebjmkgaa.AI
open Go

theorem least_any (p : dPoint → Bool) : ∀ (l : List dPoint) (b : Bool) (y : dPoint), (leastL p b y l).2 = (b || l.any p)
  | [], b, y => by simp [leastL]
  | q :: r, b, y => by
    simp only [leastL, List.any_cons]
    cases b with
    | true =>
      simp only [Bool.not_true, Bool.false_or, Bool.true_or]
      cases decide (cmpP q y < 0) && p q with
      | true => rw [cond_true, least_any p r]; rfl
      | false => rw [cond_false, least_any p r]; rfl
    | false =>
      simp only [Bool.not_false, Bool.true_or, Bool.true_and, Bool.false_or]
      cases p q with
      | true => rw [cond_true, least_any p r]
      | false => rw [cond_false, least_any p r]
theorem first_any (g : dFoot → dFoot → dPoint × Bool) (f : dFoot) : ∀ (l : List dCommit), (firstS g f l).2 = l.any (fun c => (g f c.2).2)
  | [] => rfl
  | c :: r => by
    simp only [firstS, List.any_cons]
    cases (g f c.2).2 with
    | true => rfl
    | false => rw [cond_false, first_any g f r]; rfl
theorem any_sub {α : Type} {l m : List α} {p q : α → Bool} (h : l.any p = false) (hs : ∀ v ∈ m, v ∈ l) (hq : ∀ v, q v = true → p v = true) : m.any q = false := by
  rw [List.any_eq_false] at *
  intro v hv hqv
  exact h v (hs v hv) (hq v hqv)

/-- One footprint is within another. -/
structure Within (f g : dFoot) : Prop where
  points : ∀ p ∈ f.1, p ∈ g.1
  spans : ∀ s ∈ f.2.1, s ∈ g.2.1
  writes : ∀ p ∈ f.2.2, p ∈ g.2.2

theorem within_reads {f g : dFoot} (h : Within f g) (q : dPoint) (hq : readsS f q = true) : readsS g q = true := by
  unfold readsS at *
  rw [Bool.or_eq_true, List.any_eq_true, List.any_eq_true] at *
  rcases hq with ⟨v, hv, e⟩ | ⟨v, hv, e⟩
  · exact .inl ⟨v, h.points v hv, e⟩
  · exact .inr ⟨v, h.spans v hv, e⟩
theorem within_clash {f g : dFoot} (h : Within f g) (b : dFoot) (hc : (clashS g b).2 = false) : (clashS f b).2 = false := by
  unfold clashS at *
  rw [least_any, Bool.false_or] at *
  exact any_sub hc (fun _ h => h) (fun q hq => within_reads (f := (f.1, (f.2.1, []))) (g := (g.1, (g.2.1, []))) ⟨h.points, h.spans, fun p hp => hp⟩ q hq)
theorem within_both {f g : dFoot} (h : Within f g) (b : dFoot) (hc : (bothS g b).2 = false) : (bothS f b).2 = false := by
  unfold bothS at *
  rw [least_any, Bool.false_or] at *
  exact any_sub hc h.writes (fun q hq => hq)
theorem within_first {k : dFoot → dFoot → dPoint × Bool} (hk : ∀ {f g : dFoot}, Within f g → ∀ b, (k g b).2 = false → (k f b).2 = false) {l : List dCommit} (hl : ascS l) {f g : dFoot} (h : Within f g) {m n : Int} (hmn : m ≤ n)
    (hc : (firstS k g (behindS l m)).2 = false) : (firstS k f (behindS l n)).2 = false := by
  rw [first_any] at *
  rw [behind_filter hl] at *
  refine any_sub hc (fun c hc => ?_) (fun c hc => ?_)
  · obtain ⟨h1, h2⟩ := List.mem_filter.1 hc
    have := of_decide_eq_true h2
    exact List.mem_filter.2 ⟨h1, decide_eq_true (by omega)⟩
  · cases hg : (k g c.2).2 with
    | true => rfl
    | false => rw [hk h c.2 hg] at hc; cases hc
theorem within_check {f g : dFoot} (h : Within f g) (hs : sizeS f ≤ sizeS g) (hc : checkS g = 0) : checkS f = 0 := by
  unfold checkS at *
  cases h1 : decide (sizeS g > 65536) with
  | true => rw [h1] at hc; simp at hc
  | false =>
  rw [h1, cond_false] at hc
  rw [decide_eq_false_iff_not] at h1
  rw [decide_eq_false (show ¬ sizeS f > 65536 by omega), cond_false]
  cases h2 : g.1.any (fun p => !mayI p.1 p.2.1) with
  | true => rw [h2] at hc; simp at hc
  | false =>
  cases h3 : g.2.2.any (fun p => !mayI p.1 p.2.1) with
  | true => rw [h2, h3] at hc; simp at hc
  | false =>
  cases h4 : g.2.1.any (fun s => !mayI s.1 s.2.1) with
  | true => rw [h2, h3, h4] at hc; simp at hc
  | false => rw [any_sub h2 h.points (fun _ h => h), any_sub h3 h.writes (fun _ h => h), any_sub h4 h.spans (fun _ h => h)]; rfl

/-- Less is asked for, from later on: what went through goes through. -/
theorem try_less {l : List dCommit} (hl : ascS l) {t u : dAttempt} (h : Within u.2.1 t.2.1) (hs : sizeS u.2.1 ≤ sizeS t.2.1) (hf : t.1 ≤ u.1) (hlev : u.2.2 = t.2.2) (h0 : (tryS (true, l) t).2 = 0) : (tryS (true, l) u).2 = 0 := by
  unfold tryS at *
  simp only [Bool.not_true, cond_false] at *
  cases h1 : checkS t.2.1 != 0 with
  | true => rw [h1, cond_true] at h0; simp at h1; exact absurd h0 h1
  | false =>
  have hk : checkS t.2.1 = 0 := by simpa using h1
  have hk2 := within_check h hs hk
  rw [h1, cond_false] at h0
  rw [hk2]
  simp only [bne_self_eq_false, cond_false, hlev]
  cases h2 : decide (t.2.2 < 1) || decide (t.2.2 > 3) with
  | true => rw [h2, cond_true] at h0; simp at h0
  | false =>
  rw [h2, cond_false] at h0
  simp only [cond_false]
  have read0 : ∀ (k : dFoot → dFoot → dPoint × Bool) (f : dFoot) (n : Int), checkS f = 0 → readS k (true, l) f n = firstS k f (behindS l n) := fun k f n hf => by
    unfold readS
    rw [hf]; rfl
  rw [read0 _ _ _ hk, read0 _ _ _ hk] at h0
  rw [read0 _ _ _ hk2, read0 _ _ _ hk2]
  cases h3 : t.2.2 != 1 && (firstS bothS t.2.1 (behindS l t.1)).2 with
  | true => rw [h3, cond_true] at h0; simp at h0
  | false =>
  rw [h3, cond_false] at h0
  have e3 : (t.2.2 != 1 && (firstS bothS u.2.1 (behindS l u.1)).2) = false := by
    cases h5 : t.2.2 != 1 with
    | false => rfl
    | true =>
      rw [h5, Bool.true_and] at h3
      rw [within_first (fun h b => within_both h b) hl h hf h3]; rfl
  rw [e3, cond_false]
  cases h4 : t.2.2 == 3 && (firstS clashS t.2.1 (behindS l t.1)).2 with
  | true => rw [h4, cond_true] at h0; simp at h0
  | false =>
  have e4 : (t.2.2 == 3 && (firstS clashS u.2.1 (behindS l u.1)).2) = false := by
    cases h5 : t.2.2 == 3 with
    | false => rfl
    | true =>
      rw [h5, Bool.true_and] at h4
      rw [within_first (fun h b => within_clash h b) hl h hf h4]; rfl
  rw [e4]; rfl

def emptyF : dFoot := ([], ([], []))
theorem first_empty {k : dFoot → dFoot → dPoint × Bool} (hk : ∀ b, (k emptyF b).2 = false) (l : List dCommit) : (firstS k emptyF l).2 = false := by
  rw [first_any, List.any_eq_false]
  intro c _
  rw [hk]; simp
theorem try_empty (l : List dCommit) : (tryS (true, l) (0, (emptyF, 3))).2 = 0 := by
  have hk : checkS emptyF = 0 := rfl
  have hb : ∀ b, (bothS emptyF b).2 = false := fun b => rfl
  have hc : ∀ b, (clashS emptyF b).2 = false := fun b => by
    unfold clashS
    rw [least_any, Bool.false_or, List.any_eq_false]
    intro q _ h
    simp [readsS, emptyF] at h
  have read0 : ∀ (k : dFoot → dFoot → dPoint × Bool) (n : Int), readS k (true, l) emptyF n = firstS k emptyF (behindS l n) := fun k n => rfl
  unfold tryS
  simp only [Bool.not_true, cond_false, hk, bne_self_eq_false, read0, first_empty hb, first_empty hc, Bool.and_false]
  rfl

/-! ### What is cut -/
def cutI (c h : Int) : Int := bif decide (c ≥ 0) && decide (c < h) then c else h
theorem cut_ok {c : Int} {n : Nat} : 0 ≤ cutI c (n : Int) ∧ cutI c (n : Int) ≤ (n : Int) := by
  unfold cutI
  cases h : decide (c ≥ 0) && decide (c < (n : Int)) with
  | true =>
    simp only [Bool.and_eq_true, decide_eq_true_eq] at h
    rw [cond_true]; omega
  | false => rw [cond_false]; omega
theorem cut_steps (n : Nat) (x : List dCommit × dAttempt × (Int × (Int × Int))) (y1 : List dRcommit × Int × Bool × Nat × List dCommit) (r4 r5 : dClash × Int) (S : Int × Int × Int × Int → Option Bool) (a b c : Int) :
    f5.s1 n x y1 r4 r5 S (0, (a, (b, c))) = S (1, (cutI x.2.2.1 a, (b, c))) ∧ f5.s1 n x y1 r4 r5 S (1, (a, (b, c))) = S (2, (a, (cutI x.2.2.2.1 b, c))) ∧ f5.s1 n x y1 r4 r5 S (2, (a, (b, c))) = S (3, (a, (b, cutI x.2.2.2.2 c))) := by
  have e00 : ((0 : Int) == 0) = true := rfl
  have e10 : ((1 : Int) == 0) = false := rfl
  have e11 : ((1 : Int) == 1) = true := rfl
  have e20 : ((2 : Int) == 0) = false := rfl
  have e21 : ((2 : Int) == 1) = false := rfl
  have e22 : ((2 : Int) == 2) = true := rfl
  have t0 : decide ((0 : Int) < 3) = true := rfl
  have t1 : decide ((1 : Int) < 3) = true := rfl
  have t2 : decide ((2 : Int) < 3) = true := rfl
  have w0 : IntKind.wrap .i64 ((0 : Int) + 1) = 1 := rfl
  have w1 : IntKind.wrap .i64 ((1 : Int) + 1) = 2 := rfl
  have w2 : IntKind.wrap .i64 ((2 : Int) + 1) = 3 := rfl
  refine ⟨?_, ?_, ?_⟩
  · simp only [f5.s1, t0, e00, cond_true, w0, cutI]
    cases decide (x.2.2.1 ≥ 0) with
    | false => rfl
    | true => cases decide (x.2.2.1 < a) <;> rfl
  · simp only [f5.s1, t1, e10, e11, cond_true, cond_false, w1, cutI]
    cases decide (x.2.2.2.1 ≥ 0) with
    | false => rfl
    | true => cases decide (x.2.2.2.1 < b) <;> rfl
  · simp only [f5.s1, t2, e20, e21, e22, cond_true, cond_false, w2, cutI]
    cases decide (x.2.2.2.2 ≥ 0) with
    | false => rfl
    | true => cases decide (x.2.2.2.2 < c) <;> rfl

theorem within_take (f : dFoot) (a b c : Nat) : Within (f.1.take a, (f.2.1.take b, f.2.2.take c)) f ∧ sizeS (f.1.take a, (f.2.1.take b, f.2.2.take c)) ≤ sizeS f := by
  refine ⟨⟨fun p hp => List.mem_of_mem_take hp, fun p hp => List.mem_of_mem_take hp, fun p hp => List.mem_of_mem_take hp⟩, ?_⟩
  simp only [sizeS, List.length_take]
  omega
theorem okF_take {f : dFoot} (h : okF f = true) (a b c : Nat) : okF (f.1.take a, (f.2.1.take b, f.2.2.take c)) = true := by
  obtain ⟨h1, h2, h3⟩ := okF_iff h
  unfold okF
  rw [okB_take h1, okB_take h2, okB_take h3]; rfl

theorem spec5 : ∀ (X : List dCommit × dAttempt × (Int × (Int × Int))) (Y : Bool), FL [(false, .sl tCommit), (true, tAttempt), (true, .pair (.int .i64) (.pair (.int .i64) (.int .i64)))] X = some Y → ∃ n, f5.g n X = some Y := by
  intro x y h
  obtain ⟨hw, rfl⟩ := FL_some h
  have hx := wf_okC hw.1
  have hf : okF x.2.1.2.1 = true := wf_okF hw.2.1.2.1
  have hfrom : 0 ≤ x.2.1.1 := hw.2.1.1.1
  have hl := okB_len (by omega) hx.1
  refine ⟨x.1.length + 4, ?_⟩
  refine noted_loop2 hx (step := f5.s2 (x.1.length + 4) x) (by omega) (fun S hl => ?_) (fun S i l v l' e hi hv hl e1 e2 hf => ?_)
  · have g1 := F21_some (l := (true, logOf x.1)) (t := x.2.1) hl.lg hf
    have g2 := F21_some (l := (true, logOf x.1)) (t := (0, (emptyF, 3))) hl.lg rfl
    simp only [f5.s2, at_end, cond_false, List.take_length, g1, Option.bind_some]
    show (F21 ((true, logOf x.1), (0, (emptyF, 3)))).bind _ = _
    rw [g2, Option.bind_some, try_empty]
    simp only [bne_self_eq_false, cond_false]
    cases he : (tryS (true, logOf x.1) x.2.1).2 != 0 with
    | true => rfl
    | false =>
    have he0 : (tryS (true, logOf x.1) x.2.1).2 = 0 := by simpa using he
    simp only [cond_false]
    generalize hr : tryS (true, logOf x.1) (0, (emptyF, 3)) = r5
    generalize hr4 : tryS (true, logOf x.1) x.2.1 = r4
    generalize hy1 : ((relS (logOf x.1), (x.1.length : Int), true, (logOf x.1).length, logOf x.1) : List dRcommit × Int × Bool × Nat × List dCommit) = y1
    show f5.s1 _ x y1 r4 r5 (iter (f5.s1 (x.1.length + 4) x y1 r4 r5) (x.1.length + 3)) (0, _) = some true
    rw [(cut_steps _ _ _ _ _ _ _ _ _).1]
    show f5.s1 _ x y1 r4 r5 (iter (f5.s1 (x.1.length + 4) x y1 r4 r5) (x.1.length + 2)) (1, _) = some true
    rw [(cut_steps _ _ _ _ _ _ _ _ _).2.1]
    show f5.s1 _ x y1 r4 r5 (iter (f5.s1 (x.1.length + 4) x y1 r4 r5) (x.1.length + 1)) (2, _) = some true
    rw [(cut_steps _ _ _ _ _ _ _ _ _).2.2]
    show f5.s1 _ x y1 r4 r5 (iter (f5.s1 (x.1.length + 4) x y1 r4 r5) x.1.length) (3, _) = some true
    obtain ⟨a1, a2⟩ := cut_ok (c := x.2.2.1) (n := x.2.1.2.1.1.length)
    obtain ⟨b1, b2⟩ := cut_ok (c := x.2.2.2.1) (n := x.2.1.2.1.2.1.length)
    obtain ⟨c1, c2⟩ := cut_ok (c := x.2.2.2.2) (n := x.2.1.2.1.2.2.length)
    generalize cutI x.2.2.1 (x.2.1.2.1.1.length : Int) = a at *
    generalize cutI x.2.2.2.1 (x.2.1.2.1.2.1.length : Int) = b at *
    generalize cutI x.2.2.2.2 (x.2.1.2.1.2.2.length : Int) = c at *
    have t3 : decide ((3 : Int) < 3) = false := rfl
    obtain ⟨w1, w2⟩ := within_take x.2.1.2.1 a.toNat b.toNat c.toNat
    have wok := okF_take hf a.toNat b.toNat c.toNat
    have key : ∀ (fr : Int), x.2.1.1 ≤ fr → (F21 ((true, logOf x.1), (fr, ((x.2.1.2.1.1.take a.toNat, (x.2.1.2.1.2.1.take b.toNat, x.2.1.2.1.2.2.take c.toNat)), x.2.1.2.2)))).bind (fun r8 => bif r8.2 == (0 : Int) then (F17 ()).bind (fun r9 => some r9) else some false) = some true := fun fr hfr => by
      have g3 := F21_some (l := (true, logOf x.1)) (t := (fr, ((x.2.1.2.1.1.take a.toNat, (x.2.1.2.1.2.1.take b.toNat, x.2.1.2.1.2.2.take c.toNat)), x.2.1.2.2))) hl.lg wok
      have g4 := try_less hl.asc (t := x.2.1) (u := (fr, ((x.2.1.2.1.1.take a.toNat, (x.2.1.2.1.2.1.take b.toNat, x.2.1.2.1.2.2.take c.toNat)), x.2.1.2.2))) w1 w2 hfr rfl he0
      rw [g3, Option.bind_some, g4]
      rfl
    subst hy1
    simp only [f5.s1, t3, cond_false, decide_eq_true a1, decide_eq_true a2, decide_eq_true b1, decide_eq_true b2, decide_eq_true c1, decide_eq_true c2, Bool.and_self, cond_true, List.take_length]
    cases hd : decide (x.2.1.1 < 1152921504606846976) with
    | true =>
      have := of_decide_eq_true hd
      rw [cond_true, wrap_u hfrom (by omega)]
      exact key _ (by omega)
    | false =>
      rw [cond_false]
      exact key _ (Int.le_refl _)
  · obtain ⟨g1, g2⟩ := note_runs hl e1 e2 hf
    simp only [f5.s2, at_lt hi, at_ge, at_get hv, Bool.and_self, cond_true, List.take_length, g1, g2, Option.bind_some, bne_self_eq_false, cond_false, nx (show i ≤ _ by omega)]
theorem con5_ok : ConOk Try.prog 5 con5 := f5.ok spec5 con17_ok con21_ok con23_ok con30_ok

end Go.Proofs.Ytjedleoebjmkgaa.AI
