/- The plain laws of the runs: the log. -/
import Derived.Test.YtjedleoebjmkgaaBd
set_option linter.unusedVariables false
set_option linter.unusedSimpArgs false
namespace Go.Proofs.Ytjedleoebjmkgaa.AI
open Go

theorem F50_some {l : List dCommit} (h : okB 80 l = true) (n : Int) : F50 (l, n) = some (idxI (fun c => decide (c.1 > n)) l) := by
  show (bif okB 80 l then _ else _) = _
  rw [h]; rfl
theorem spec50 : ∀ X Y, F50 X = some Y → ∃ n, f50.g n X = some Y := by
  intro x y h
  obtain ⟨ho, rfl⟩ := some_bif h
  have hl := okB_len (by omega) ho
  refine ⟨x.1.length + 1, idx_loop _ (Nat.lt_succ_self _) (fun S => ?_) (fun S i v hi hv => ?_)⟩
  · simp only [f50.s1, at_end, cond_false]
  · simp only [f50.s1, at_lt hi, at_ge, at_get hv, nx (show i ≤ _ by omega), Bool.and_self, cond_true]
theorem con50_ok : ConOk Try.prog 50 con50 := f50.ok spec50

/-- What is behind the first of a kind. -/
theorem drop_idx {α : Type} (p : α → Bool) : ∀ (l : List α), (l.findIdx? p = none → l.dropWhile (fun c => !p c) = []) ∧ ∀ i, l.findIdx? p = some i → i < l.length ∧ l.drop i = l.dropWhile (fun c => !p c)
  | [] => ⟨fun _ => rfl, fun i h => by simp at h⟩
  | a :: r => by
    obtain ⟨h1, h2⟩ := drop_idx p r
    rw [List.findIdx?_cons, List.dropWhile_cons]
    cases hp : p a with
    | true =>
      refine ⟨fun h => by simp at h, fun i h => ?_⟩
      simp at h
      subst h
      simp
    | false =>
      simp only [Bool.false_eq_true, if_false, Bool.not_false, if_true]
      refine ⟨fun h => ?_, fun i h => ?_⟩
      · cases hf : r.findIdx? p with
        | none => exact h1 hf
        | some j => rw [hf] at h; simp at h
      · cases hf : r.findIdx? p with
        | none => rw [hf] at h; simp at h
        | some j =>
          rw [hf] at h
          simp at h
          subst h
          obtain ⟨h3, h4⟩ := h2 j hf
          exact ⟨by simp; omega, by simpa using h4⟩

theorem behind_cases (l : List dCommit) (n : Int) : (idxI (fun c => decide (c.1 > n)) l = -1 ∧ behindS l n = []) ∨ ∃ i : Nat, idxI (fun c => decide (c.1 > n)) l = (i : Int) ∧ i < l.length ∧ l.drop i = behindS l n := by
  obtain ⟨h1, h2⟩ := drop_idx (fun c : dCommit => decide (c.1 > n)) l
  unfold idxI
  cases hf : l.findIdx? (fun c : dCommit => decide (c.1 > n)) with
  | none => exact .inl ⟨rfl, h1 hf⟩
  | some i => exact .inr ⟨i, rfl, (h2 i hf).1, (h2 i hf).2⟩

theorem F27_some {a b : dFoot} (h1 : okF a = true) (h2 : okF b = true) : F27 (a, b) = some (clashS a b) := by
  show (bif okF a && okF b then _ else _) = _
  rw [h1, h2]; rfl
theorem F28_some {a b : dFoot} (h1 : okF a = true) (h2 : okF b = true) : F28 (a, b) = some (bothS a b) := by
  show (bif okF a && okF b then _ else _) = _
  rw [h1, h2]; rfl
theorem neg_lt : decide ((-1 : Int) < 0) = true := rfl
theorem nat_lt (i : Nat) : decide ((i : Int) < 0) = false := by simp
theorem getN {α : Type} {l : List α} {i : Nat} {v d : α} (h : l[i]? = some v) : l.getD i d = v := by simp [List.getD, h]
theorem nat_toNat (i : Nat) : ((i : Int)).toNat = i := by simp

theorem first_loop {l : List dCommit} {f : dFoot} (g : dFoot → dFoot → dPoint × Bool) (hb : l.length ≤ 140737488355328) {step : (Int → Option (dClash × Bool)) → Int → Option (dClash × Bool)} {m : Nat} (hm : l.length < m)
    (hend : ∀ S, step S (l.length : Int) = some (noC, false))
    (hstep : ∀ S i v, i < l.length → l[i]? = some v → step S (i : Int) = bif (g f v.2).2 then some ((v.1, (g f v.2).1), true) else S ((i + 1 : Nat) : Int)) : iter step m 0 = some (firstS g f l) :=
  iter_all (step := step) l (fun i (_ : Unit) => (i : Int)) (fun _ _ => True) (fun _ _ r => some (firstS g f r))
    (fun S _ _ => hend S) (fun S i _ v r hi hv hr _ ih => by
      rw [hstep S i v hi hv, ih () trivial, firstS]
      cases (g f v.2).2 <;> rfl) m hm () trivial

theorem spec31a : ∀ X Y, F31a X = some Y → ∃ n, f31a.g n X = some Y := by
  intro x y h
  obtain ⟨ho, rfl⟩ := some_bif h
  obtain ⟨ha, hf⟩ := Bool.and_eq_true _ _ ▸ ho
  obtain ⟨hl, hc⟩ := okLg_iff ha
  have hlen := okB_len (by omega) hl
  refine ⟨x.1.2.length + 1, ?_⟩
  simp only [f31a.g, F38_some hf, F50_some hl, Option.bind_some, readS]
  cases hm : x.1.1 with
  | false => rfl
  | true =>
  simp only [Bool.not_true, cond_false, Bool.false_or]
  cases hk : checkS x.2.1 != 0 with
  | true => rfl
  | false =>
  simp only [cond_false]
  rcases behind_cases x.1.2 x.2.2.1 with ⟨h1, h2⟩ | ⟨i, h1, h2, h3⟩
  · rw [h1, h2, neg_lt, cond_true]
    rfl
  · rw [h1, nat_lt, cond_false, at_ge, at_le h2, Bool.and_self, cond_true, ← h3]
    have hd : okB 80 (List.drop i x.1.2) = true := okB_drop hl i
    have hdl : (List.drop i x.1.2).length ≤ x.1.2.length := by rw [List.length_drop]; omega
    refine first_loop clashS (l := List.drop i x.1.2) (f := x.2.1) (by omega) (by omega) (fun S => ?_) (fun S j v hj hv => ?_)
    · simp only [f31a.s2, nat_toNat, at_end, cond_false]; rfl
    · have hv2 : okF v.2 = true := hc v (List.mem_of_mem_drop (List.mem_of_getElem? hv))
      simp only [f31a.s2, nat_toNat, at_lt hj, at_ge, getN hv, nx (show j ≤ _ by omega), Bool.and_self, cond_true, F27_some hf hv2, Option.bind_some]
theorem spec31b : ∀ X Y, F31b X = some Y → ∃ n, f31b.g n X = some Y := by
  intro x y h
  obtain ⟨ho, rfl⟩ := some_bif h
  obtain ⟨ha, hf⟩ := Bool.and_eq_true _ _ ▸ ho
  obtain ⟨hl, hc⟩ := okLg_iff ha
  have hlen := okB_len (by omega) hl
  refine ⟨x.1.2.length + 1, ?_⟩
  simp only [f31b.g, F38_some hf, F50_some hl, Option.bind_some, readS]
  cases hm : x.1.1 with
  | false => rfl
  | true =>
  simp only [Bool.not_true, cond_false, Bool.false_or]
  cases hk : checkS x.2.1 != 0 with
  | true => rfl
  | false =>
  simp only [cond_false]
  rcases behind_cases x.1.2 x.2.2.1 with ⟨h1, h2⟩ | ⟨i, h1, h2, h3⟩
  · rw [h1, h2, neg_lt, cond_true]
    rfl
  · rw [h1, nat_lt, cond_false, at_ge, at_le h2, Bool.and_self, cond_true, ← h3]
    have hd : okB 80 (List.drop i x.1.2) = true := okB_drop hl i
    have hdl : (List.drop i x.1.2).length ≤ x.1.2.length := by rw [List.length_drop]; omega
    refine first_loop bothS (l := List.drop i x.1.2) (f := x.2.1) (by omega) (by omega) (fun S => ?_) (fun S j v hj hv => ?_)
    · simp only [f31b.s2, nat_toNat, at_end, cond_false]; rfl
    · have hv2 : okF v.2 = true := hc v (List.mem_of_mem_drop (List.mem_of_getElem? hv))
      simp only [f31b.s2, nat_toNat, at_lt hj, at_ge, getN hv, nx (show j ≤ _ by omega), Bool.and_self, cond_true, F28_some hf hv2, Option.bind_some]
theorem con31_ok : ConOk Try.prog 31 con31 := orCon_ok (f31a.ok spec31a con27_ok con38_ok con50_ok) (f31b.ok spec31b con28_ok con38_ok con50_ok)
theorem spec12 : ∀ X Y, F12 X = some Y → ∃ n, f12.g n X = some Y := by
  intro x y h
  obtain ⟨ho, rfl⟩ := some_bif h
  have e : F31a (x.1, x.2.1, x.2.2, ()) = some (readS clashS x.1 x.2.1 x.2.2) := by show (bif okLg x.1.2 && okF x.2.1 then _ else _) = _; rw [ho]; rfl
  exact ⟨0, by simp only [f12.g, e, Option.bind_some]⟩
theorem con12_ok : ConOk Try.prog 12 con12 := f12.ok spec12 con27_ok con31_ok
theorem spec14 : ∀ X Y, F14 X = some Y → ∃ n, f14.g n X = some Y := by
  intro x y h
  obtain ⟨ho, rfl⟩ := some_bif h
  have e : F31b (x.1, x.2.1, x.2.2, ()) = some (readS bothS x.1 x.2.1 x.2.2) := by show (bif okLg x.1.2 && okF x.2.1 then _ else _) = _; rw [ho]; rfl
  exact ⟨0, by simp only [f14.g, e, Option.bind_some]⟩
theorem con14_ok : ConOk Try.prog 14 con14 := f14.ok spec14 con28_ok con31_ok
theorem F12_some {l : Bool × List dCommit} {f : dFoot} (h1 : okLg l.2 = true) (h2 : okF f = true) (n : Int) : F12 (l, f, n) = some (readS clashS l f n) := by
  show (bif okLg l.2 && okF f then _ else _) = _
  rw [h1, h2]; rfl
theorem F14_some {l : Bool × List dCommit} {f : dFoot} (h1 : okLg l.2 = true) (h2 : okF f = true) (n : Int) : F14 (l, f, n) = some (readS bothS l f n) := by
  show (bif okLg l.2 && okF f then _ else _) = _
  rw [h1, h2]; rfl

/-! ### Stamps -/
theorem eqs_loop {α β : Type} {l : List α} {r : List β} (a : α → Int) (b : β → Int) (he : l.length = r.length) {step : (Int → Option Bool) → Int → Option Bool} {m : Nat} (hm : l.length < m)
    (hend : ∀ S, step S (l.length : Int) = some true)
    (hstep : ∀ S i u v, i < l.length → l[i]? = some u → r[i]? = some v → step S (i : Int) = bif a u != b v then some false else S ((i + 1 : Nat) : Int)) : iter step m 0 = some (decide (l.map a = r.map b)) := by
  have := iter_all (step := step) l (fun i (_ : Unit) => (i : Int)) (fun _ _ => True) (fun i _ s => some (decide (s.map a = (r.drop i).map b)))
    (fun S _ _ => by
      rw [hend, List.drop_eq_nil_of_le (by omega)]; rfl) (fun S i _ u s hi hu hs _ ih => by
      obtain ⟨hj, hv⟩ : ∃ h : i < r.length, r[i]? = some r[i] := ⟨by omega, List.getElem?_eq_getElem _⟩
      rw [hstep S i u _ hi hu hv, ih () trivial, List.drop_eq_getElem_cons hj, List.map_cons, List.map_cons]
      by_cases hab : a u = b r[i]
      · rw [hab]; simp
      · have : (a u != b r[i]) = true := by simp [hab]
        rw [this, cond_true]
        congr 1
        rw [eq_comm, decide_eq_false_iff_not]
        intro hc
        exact hab (List.cons.inj hc).1) m hm () trivial
  simpa using this
theorem F18_some {l : Bool × List dCommit} {r : List dRcommit} (h : okB 80 l.2 = true) (h2 : okB 32 r = true) : F18 (l, r) = some (stampsS l r) := by
  show (bif okB 80 l.2 && okB 32 r then _ else _) = _
  rw [h, h2]; rfl
theorem room8 {α : Type} {l : List α} (h : okB 80 l = true) {i : Nat} (hi : i < l.length) : decide ((i + 1) * 8 ≤ boundN) = true := by
  have h1 := okB_iff.1 h
  have hb : boundN = 140737488355328 := rfl
  rw [decide_eq_true_iff, hb]
  omega
theorem spec18 : ∀ X Y, F18 X = some Y → ∃ n, f18.g n X = some Y := by
  intro x y h
  obtain ⟨ho, rfl⟩ := some_bif h
  obtain ⟨h1, h2⟩ := Bool.and_eq_true _ _ ▸ ho
  have l1 := okB_len (by omega) h1
  have l2 := okB_len (by omega) h2
  refine ⟨x.1.2.length + 1, ?_⟩
  simp only [f18.g, stampsS]
  cases hm : x.1.1 with
  | false =>
    simp only [Bool.not_false, cond_true, cond_false]
    have hs : ∀ m, iter (f18.s1 (x.1.2.length + 1) x) (m + 1) () = some true := fun m => rfl
    cases hr : x.2 with
    | nil => rw [← hr]; simp [hr, hs]
    | cons a r =>
      have e : ((0 : Int) != (((a :: r).length : Nat) : Int)) = true := by simp; omega
      rw [e]
      simp
  | true =>
    simp only [Bool.not_true, cond_false, cond_true]
    have key := copy_loop (l := x.1.2) (step := f18.s3 (x.1.2.length + 1) x) (fun i r => (i, ((i : Int), r.map (fun c => c.1)))) (m := x.1.2.length + 1) (Nat.lt_succ_self _) (K := some (decide (x.1.2.map (fun c => c.1) = x.2.map (fun c => c.1))))
      (fun S => by
        simp only [f18.s3, at_end, cond_false]
        by_cases he : x.1.2.length = x.2.length
        · have : ((((x.1.2.length : Nat) : Int)) != (x.2.length : Int)) = false := by rw [he]; simp
          rw [this, cond_false]
          refine eqs_loop (l := x.1.2) (r := x.2) (fun c => c.1) (fun c => c.1) he (Nat.lt_succ_self _) (fun S => ?_) (fun S i u v hi hu hv => ?_)
          · simp only [f18.s2, at_end, cond_false]
          · have hi2 : i < x.2.length := by omega
            have hm : (x.1.2.map (fun c => c.1))[i]? = some u.1 := by rw [List.getElem?_map, hu]; rfl
            simp only [f18.s2, at_lt hi, at_lt hi2, at_ge, at_get hv, at_get hm, nx (show i ≤ _ by omega), Bool.and_self, cond_true]
        · have : ((((x.1.2.length : Nat) : Int)) != (x.2.length : Int)) = true := by simp; omega
          rw [this, cond_true]
          congr 1
          rw [eq_comm, decide_eq_false_iff_not]
          intro hc
          have := congrArg List.length hc
          simp at this
          omega)
      (fun S i v hi hv => by
        have e : List.take i ((x.1.2.take i).map (fun c : dCommit => c.1)) ++ [v.1] = (x.1.2.take (i + 1)).map (fun c => c.1) := by
          rw [← take_next hv, List.map_append, List.map_take, take_self]; rfl
        simp only [f18.s3, at_lt hi, at_ge, at_get hv, nx (show i ≤ _ by omega), Bool.and_self, cond_true, room8 h1 hi, e])
    exact key
theorem con18_ok : ConOk Try.prog 18 con18 := f18.ok spec18

/-! ### What is written into the log -/
theorem F39_some {l : List dPoint} (h : okB 32 l = true) : F39 l = some l := by
  show (bif okB 32 l then _ else _) = _
  rw [h]; rfl
theorem clone_room {α : Type} {b : Nat} {l : List α} (h : okB b l = true) : decide ((0 + l.length) * b ≤ boundN) = true := by
  have hb : boundN = 140737488355328 := rfl
  rw [decide_eq_true_iff, hb, Nat.zero_add]
  exact okB_iff.1 h
theorem spec39 : ∀ X Y, F39 X = some Y → ∀ z, (z = true → X = []) → ∃ n, f39.g n (z, X) = some Y := by
  intro x y h z hz
  obtain ⟨ho, rfl⟩ := some_bif h
  refine ⟨0, ?_⟩
  cases z with
  | true => rw [hz rfl]; rfl
  | false =>
    simp only [f39.g, cond_false, clone_room ho, cond_true]
    simp
theorem con39_ok : ConOk Try.prog 39 con39 := f39.ok spec39
theorem F37_some {l : List dCommit} (h : okB 80 l = true) : F37 l = some ((l, ()), ()) := by
  show (bif okB 80 l then _ else _) = _
  rw [h]; rfl
theorem spec37 : ∀ X Y, F37 X = some Y → ∀ z, (z = true → X = []) → ∃ n, f37.g n (z, X) = some Y := by
  intro x y h z hz
  obtain ⟨ho, rfl⟩ := some_bif h
  refine ⟨0, ?_⟩
  cases z with
  | true => rw [hz rfl]; rfl
  | false =>
    simp only [f37.g, cond_false, clone_room ho, cond_true]
    simp
theorem con37_ok : ConOk Try.prog 37 con37 := f37.ok spec37

theorem F23_some {l : Bool × List dCommit} {f : dFoot} (h1 : okB 80 l.2 = true) (h2 : okF f = true) (n : Int) : F23 (l, (n, f)) = some (noteS l n f) := by
  show (bif okB 80 l.2 && okF f then _ else _) = _
  rw [h1, h2]; rfl
theorem last_wrap {n : Nat} (h0 : 0 < n) (h : n ≤ 140737488355328) : IntKind.wrap .i64 ((n : Int) - (1 : Int)) = ((n - 1 : Nat) : Int) := by
  rw [wrap_ok (by omega) (by omega)]; omega
theorem len_pos {α : Type} (l : List α) : decide (((l.length : Nat) : Int) > 0) = decide (l.length > 0) := by simp
theorem len_4096 {α : Type} (l : List α) : decide (((l.length : Nat) : Int) ≥ 4096) = decide (l.length ≥ 4096) := by
  rw [Bool.eq_iff_iff, decide_eq_true_iff, decide_eq_true_iff]; omega
theorem spec23a : ∀ X Y, F23 X = some Y → ∃ n, f23a.g n X = some Y := by
  rintro ⟨⟨mk, l⟩, at_, f⟩ y h
  obtain ⟨ho, rfl⟩ := some_bif h
  obtain ⟨h1, h2⟩ := Bool.and_eq_true _ _ ▸ ho
  simp only at h1 h2
  have hl := okB_len (by omega) h1
  refine ⟨0, ?_⟩
  simp only [f23a.g, noteS, List.take_length, F38_some h2, Option.bind_some, F39_some (okF_iff h2).2.2, cond_or', len_pos, len_4096]
  cases mk with
  | false => rfl
  | true =>
  simp only [Bool.not_true, cond_false]
  cases checkS f != 0 with
  | true => rfl
  | false =>
  simp only [cond_false]
  cases at_ == 0 || decide (at_ > 4611686018427387904) with
  | true => rfl
  | false =>
  simp only [cond_false]
  have fin : decide (l.length ≥ 4096) = false → decide ((l.length + 1) * 80 ≤ boundN) = true := fun h => by
    have hb : boundN = 140737488355328 := rfl
    rw [decide_eq_false_iff_not] at h
    rw [decide_eq_true_iff, hb]
    omega
  have tk : List.take (l.length + 1) (l ++ [((at_, ([], ([], f.2.2))) : dCommit)]) = l ++ [(at_, ([], ([], f.2.2)))] := List.take_of_length_le (by simp)
  have tail : (bif decide (l.length ≥ 4096) then some (((true, l), (2 : Int)) : (Bool × List dCommit) × Int)
      else bif decide ((l.length + 1) * 80 ≤ boundN) then some ((true, List.take (l.length + 1) (l ++ [(at_, ([], ([], f.2.2)))])), 0) else none)
      = some (bif decide (l.length ≥ 4096) then ((true, l), 2) else ((true, l ++ [(at_, ([], ([], f.2.2)))]), 0)) := by
    cases hq : decide (l.length ≥ 4096) with
    | true => rfl
    | false => simp only [cond_false, fin hq, cond_true, tk]
  cases hp : decide (l.length > 0) with
  | false =>
    simp only [Bool.false_and, cond_false]
    exact tail
  | true =>
    have hp' : 0 < l.length := of_decide_eq_true hp
    have e1 : decide (0 ≤ (((l.length - 1 : Nat)) : Int)) = true := at_ge _
    have e2 : decide (((l.length - 1 : Nat) : Int) < ((l.length : Nat) : Int)) = true := at_lt (l := l) (by omega)
    simp only [cond_true, last_wrap hp' hl, e1, e2, Bool.and_self, nat_toNat, Bool.true_and]
    have e3 : decide ((l.getD (l.length - 1) tCommit.dflt).1 ≥ at_) = decide ((lastC l).1 ≥ at_) := rfl
    rw [e3]
    cases decide ((lastC l).1 ≥ at_) with
    | true => rfl
    | false =>
      simp only [cond_false]
      exact tail
theorem spec23n : ∀ X Y, F23 X = some Y → X.1.2 = [] → ∃ n, f23n.g n X = some Y := by
  rintro ⟨⟨mk, l⟩, at_, f⟩ y h he
  simp only at he
  subst he
  obtain ⟨ho, rfl⟩ := some_bif h
  obtain ⟨h1, h2⟩ := Bool.and_eq_true _ _ ▸ ho
  simp only at h1 h2
  refine ⟨0, ?_⟩
  simp only [f23n.g, noteS, F38_some h2, Option.bind_some, F39_some (okF_iff h2).2.2, cond_or']
  cases mk with
  | false => rfl
  | true =>
  simp only [Bool.not_true, cond_false]
  cases checkS f != 0 with
  | true => rfl
  | false =>
  simp only [cond_false]
  cases at_ == 0 || decide (at_ > 4611686018427387904) with
  | true => rfl
  | false => rfl
theorem con23_ok : ConOk Try.prog 23 con23 := f23.ok spec23a spec23n con38_ok con39_ok
theorem F19_some {l : List dCommit} (h1 : okB 80 l = true) (n : Int) : F19 ((true, l), n) = some (trimS (true, l) n) := by
  show (bif okB 80 l then _ else _) = _
  rw [h1]; rfl
theorem spec19 : ∀ X Y, F19 X = some Y → ∃ n, f19d.g n X = some Y := by
  intro x y h
  obtain ⟨ho, rfl⟩ := some_bif h
  obtain ⟨hm, h1⟩ := Bool.and_eq_true _ _ ▸ ho
  have hl := okB_len (by omega) h1
  refine ⟨0, ?_⟩
  simp only [f19d.g, hm, Bool.not_true, cond_false, F50_some h1, Option.bind_some, trimS]
  rcases behind_cases x.1.2 x.2 with ⟨h3, h4⟩ | ⟨i, h3, h4, h5⟩
  · simp only [h3, neg_lt, cond_true, F37_some okB_nil, Option.bind_some, h4]
    rw [wrap_ok (by omega) (by omega)]
    rfl
  · simp only [h3, nat_lt, cond_false, at_ge, at_le h4, Bool.and_self, cond_true, nat_toNat, h5, F37_some (h5 ▸ okB_drop h1 i), Option.bind_some, List.take_length]
    have : (behindS x.1.2 x.2).length ≤ x.1.2.length := by rw [← h5, List.length_drop]; omega
    rw [wrap_ok (by omega) (by omega)]
theorem con19_ok : ConOk Try.prog 19 con19 := f19.ok spec19 con37_ok con50_ok
def oneF : dFoot := ([], ([], [(1, (-1, ⟨#[107]⟩))]))
def onePt : dFoot := ([(1, (-1, ⟨#[107]⟩))], ([], []))
theorem note_one : noteS (true, []) 5 oneF = ((true, [(5, oneF)]), 0) := by rfl
theorem read_one4 : (readS clashS (true, [(5, oneF)]) onePt 4).2 = true := by decide +kernel
theorem read_one5 : (readS clashS (true, [(5, oneF)]) onePt 5).2 = false := by decide +kernel
theorem spec17 : ∀ X Y, F17 X = some Y → ∃ n, f17.g n X = some Y := by
  intro x y h
  cases h
  refine ⟨0, ?_⟩
  have h1 := F23_some (l := (true, [])) (f := oneF) (by decide) (by decide) 5
  have h2 := F12_some (l := (true, [(5, oneF)])) (f := onePt) (by decide) (by decide) 4
  have h3 := F12_some (l := (true, [(5, oneF)])) (f := onePt) (by decide) (by decide) 5
  rw [note_one] at h1
  show (F23 ((true, []), ((5 : Int), oneF))).bind _ = _
  rw [h1, Option.bind_some]
  show (F12 ((true, [(5, oneF)]), onePt, 4)).bind _ = _
  rw [h2, Option.bind_some]
  show (F12 ((true, [(5, oneF)]), onePt, 5)).bind _ = _
  rw [h3, Option.bind_some, read_one4, read_one5]
  rfl
theorem con17_ok : ConOk Try.prog 17 con17 := f17.ok spec17 con12_ok con23_ok

end Go.Proofs.Ytjedleoebjmkgaa.AI
