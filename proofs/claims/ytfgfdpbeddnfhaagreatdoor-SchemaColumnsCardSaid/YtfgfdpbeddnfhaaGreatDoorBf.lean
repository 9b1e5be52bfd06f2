/- The plain laws of the runs: tables that may be. -/
import Derived.Test.YtfgfdpbeddnfhaaGreatDoorBe
set_option linter.unusedVariables false
set_option linter.unusedSimpArgs false
namespace Go.Proofs.YtfgfdpbeddnfhaaGreatDoor.AI
open Go

theorem okT_parts {t : dTable} (h : okT t = true) : okB 72 t.2.1 = true ∧ okB 8 t.2.2.1 = true ∧ okB 48 t.2.2.2.1 = true ∧ okB 40 t.2.2.2.2 = true ∧ (∀ c ∈ t.2.1, okV c.2.2.2 = true) ∧ (∀ c ∈ t.2.2.2.1, okB 8 c.2.1 = true) ∧ (∀ c ∈ t.2.2.2.2, okB 8 c.1 = true) := by
  unfold okT at h
  simp only [Bool.and_eq_true] at h
  obtain ⟨⟨h1, h2, h3, h4⟩, h5, h6, h7⟩ := h
  exact ⟨h1, h2, h3, h4, List.all_eq_true.1 h5, List.all_eq_true.1 h6, List.all_eq_true.1 h7⟩

/-- A look through the first places. -/
theorem scan_loop {α R : Type} {l : List α} {i : Nat} (hi : i ≤ l.length) (p : α → Bool) {A K : Option R} {step : (Int → Option R) → Int → Option R} {m : Nat} (hm : i < m)
    (hend : ∀ S, step S (i : Int) = K)
    (hstep : ∀ S j v, j < i → l[j]? = some v → step S (j : Int) = bif p v then A else S ((j + 1 : Nat) : Int)) :
    iter step m 0 = bif (l.take i).any p then A else K := by
  have hlen : (l.take i).length = i := by rw [List.length_take]; omega
  exact iter_all (step := step) (l.take i) (fun i (_ : Unit) => (i : Int)) (fun _ _ => True) (fun _ _ r => bif r.any p then A else K)
    (fun S a _ => by rw [hlen, hend]; rfl) (fun S j _ v r hj hv hr _ ih => by
      rw [hlen] at hj
      rw [List.getElem?_take_of_lt hj] at hv
      rw [hstep S j v hj hv, List.any_cons, ih () trivial]
      cases p v <;> rfl) m (by rw [hlen]; exact hm) () trivial
theorem nat_lt {j i : Nat} (h : j < i) : decide ((j : Int) < (i : Int)) = true := by simp; exact h
theorem nat_end (i : Nat) : decide ((i : Int) < (i : Int)) = false := by simp

theorem F8_eq (s : ByteArray) : F8 s = some (nameS s) := rfl
theorem F9_eq (s : ByteArray) : F9 s = some (nameS s) := rfl

/-! ### Columns -/
theorem spec32 : ∀ X Y, F32 X = some Y → ∃ n, f32.g n X = some Y := by
  intro x y h
  obtain ⟨ho, rfl⟩ := some_bif h
  obtain ⟨h1, h2, h3, h4, h5, h6, h7⟩ := okT_parts ho
  have hl := okB_len (by omega) h1
  refine ⟨x.2.1.length + 1, ?_⟩
  exact seen_loop (l := x.2.1) (step := f32.s1 (x.2.1.length + 1) x) (fun seen r => colsL seen r) (Nat.lt_succ_self _) (fun S => by
      simp only [f32.s1, at_end, cond_false, colsL]) (fun S i v r hi hv hr ih => by
      simp only [f32.s1, at_lt hi, at_ge, at_le hi, at_get hv, at_take, nx (show i ≤ _ by omega), Bool.and_self, cond_true, F51_some (okB_take h1 i) v, F8_eq, F42_some (h5 v (List.mem_of_getElem? hv)), Option.bind_some, cond_or', cond_and', ih, colsL, badC]
      generalize nameS v.1 = b1
      generalize (x.2.1.take i).any (fun c => strEq c.1 v.1) = b2
      generalize (decide (v.2.1 < 1) || decide (v.2.1 > 5)) = b3
      generalize (checkV v.2.2.2 != 0) = b4
      generalize (v.2.2.2.1 != 0 && v.2.2.2.1 != v.2.1) = b5
      cases b1 <;> cases b2 <;> cases b3 <;> cases b4 <;> cases b5 <;> rfl)
theorem con32_ok : ConOk Tryz.prog 32 con32 := f32.ok spec32 con8_ok con42_ok con51_ok
theorem F32_some {t : dTable} (h : okT t = true) : F32 t = some (colsL [] t.2.1) := by unfold F32; rw [h]; rfl
theorem F39_some {t : dTable} (h : okT t = true) : F39 t = some (colsL [] t.2.1) := F32_some h

/-! ### Check -/
theorem refs11 {x : dTable} (h : okT x = true) {n : Nat} (hn : x.2.2.2.2.length < n) (r1 : Bool) (r2 : Int) (r3 r4 : Bool) (y5 : Int) : iter (f11.s1 n x r1 r2 r3 r4 y5) n 0 = some (refsL x.2.1.length x.2.2.2.2) := by
  obtain ⟨h1, h2, h3, h4, h5, h6, h7⟩ := okT_parts h
  have hl := okB_len (by omega) h4
  exact seen_loop (l := x.2.2.2.2) (step := f11.s1 n x r1 r2 r3 r4 y5) (fun _ r => refsL x.2.1.length r) hn (fun S => by
      simp only [f11.s1, at_end, cond_false, refsL]) (fun S i v r hi hv hr ih => by
      simp only [f11.s1, at_lt hi, at_ge, at_get hv, nx (show i ≤ _ by omega), Bool.and_self, cond_true, F8_eq, F33_some x (h7 v (List.mem_of_getElem? hv)), Option.bind_some, ih, refsL]
      generalize nameS v.2 = b1
      generalize someS x.2.1.length v.1 = b2
      cases b1 <;> cases b2 <;> rfl)
theorem idxs11 {x : dTable} (h : okT x = true) {n : Nat} (hn : x.2.2.2.2.length < n) (hn2 : x.2.2.2.1.length < n) (r1 : Bool) (r2 : Int) (r3 r4 : Bool) :
    iter (f11.s2 n x r1 r2 r3 r4) n 0 = some (bif idxsL x.2.1.length [] x.2.2.2.1 != 0 then idxsL x.2.1.length [] x.2.2.2.1 else refsL x.2.1.length x.2.2.2.2) := by
  obtain ⟨h1, h2, h3, h4, h5, h6, h7⟩ := okT_parts h
  have hl := okB_len (by omega) h3
  exact seen_loop (l := x.2.2.2.1) (step := f11.s2 n x r1 r2 r3 r4) (fun seen r => bif idxsL x.2.1.length seen r != 0 then idxsL x.2.1.length seen r else refsL x.2.1.length x.2.2.2.2) hn2 (fun S => by
      simp only [f11.s2, at_end, cond_false, idxsL, refs11 h hn]; rfl) (fun S i v r hi hv hr ih => by
      simp only [f11.s2, at_lt hi, at_ge, at_le hi, at_get hv, at_take, nx (show i ≤ _ by omega), Bool.and_self, cond_true, F8_eq, F36_some (okB_take h3 i) v, F33_some x (h6 v (List.mem_of_getElem? hv)), Option.bind_some, ih, idxsL]
      generalize nameS v.1 = b1
      generalize (x.2.2.2.1.take i).any (fun c => strEq c.1 v.1) = b2
      generalize someS x.2.1.length v.2.1 = b3
      cases b1 <;> cases b2 <;> cases b3 <;> rfl)
theorem key_in {x : dTable} (h : someS x.2.1.length x.2.2.1 = true) : x.2.2.1.all (inK x) = true := by
  unfold someS at h
  cases hc : decide (x.2.2.1.length < 1) || decide (x.2.2.1.length > 64) with
  | true => rw [hc] at h; cases h
  | false =>
    rw [hc, cond_false] at h
    exact someL_in _ _ _ h
theorem sizes_eq (x : dTable) : (bif bif bif decide ((x.2.1.length : Int) < (1 : Int)) then true else decide ((x.2.1.length : Int) > (64 : Int)) then true else decide ((x.2.2.2.1.length : Int) > (16 : Int)) then true else decide ((x.2.2.2.2.length : Int) > (16 : Int))) =
    (decide (x.2.1.length < 1) || decide (x.2.1.length > 64) || decide (x.2.2.2.1.length > 16) || decide (x.2.2.2.2.length > 16)) := by
  rw [cond_or', cond_or', cond_or', show decide ((x.2.1.length : Int) < (1 : Int)) = decide (x.2.1.length < 1) from len_lt _ 1, show decide ((x.2.1.length : Int) > (64 : Int)) = decide (x.2.1.length > 64) from len_gt _ 64,
    show decide ((x.2.2.2.1.length : Int) > (16 : Int)) = decide (x.2.2.2.1.length > 16) from len_gt _ 16, show decide ((x.2.2.2.2.length : Int) > (16 : Int)) = decide (x.2.2.2.2.length > 16) from len_gt _ 16]
theorem spec11 : ∀ X Y, F11 X = some Y → ∃ n, f11.g n X = some Y := by
  intro x y h
  obtain ⟨ho, rfl⟩ := some_bif h
  obtain ⟨h1, h2, h3, h4, h5, h6, h7⟩ := okT_parts ho
  refine ⟨x.2.2.2.1.length + x.2.2.2.2.length + 1, ?_⟩
  unfold f11.g checkT
  simp only [F8_eq, Option.bind_some, sizes_eq, F32_some ho, F33_some x h2]
  cases nameS x.1 with
  | false => rfl
  | true =>
    simp only [Bool.not_true, cond_false]
    cases decide (x.2.1.length < 1) || decide (x.2.1.length > 64) || decide (x.2.2.2.1.length > 16) || decide (x.2.2.2.2.length > 16) with
    | true => rfl
    | false =>
      simp only [cond_false]
      cases colsL [] x.2.1 != 0 with
      | true => rfl
      | false =>
        simp only [cond_false]
        cases hs : someS x.2.1.length x.2.2.1 with
        | false => rfl
        | true =>
          simp only [Bool.not_true, cond_false, F34_some h2 (key_in hs), Option.bind_some]
          cases x.2.2.1.any (nullK x) with
          | true => rfl
          | false =>
            simp only [cond_false]
            exact idxs11 ho (by omega) (by omega) _ _ _ _
theorem con11_ok : ConOk Tryz.prog 11 con11 := f11.ok spec11 con8_ok con32_ok con33_ok con34_ok con36_ok
theorem F11_some {t : dTable} (h : okT t = true) : F11 t = some (checkT t) := by unfold F11; rw [h]; rfl
theorem F13_some {t : dTable} (h : okT t = true) : F13 t = some (checkT t) := F11_some h

/-! ### The reference's -/
theorem spec40 : ∀ X Y, F40 X = some Y → ∃ n, f40.g n X = some Y := by
  intro x y h
  obtain ⟨ho, rfl⟩ := some_bif (show (bif okB 8 x.2 then some (someS x.1.2.1.length x.2) else none) = some y from h)
  have hl := okB_len (by omega) ho
  refine ⟨x.2.length + 1, ?_⟩
  have inner : ∀ (S1 : Int → Option Bool) (i : Nat) (v : Int), i < x.2.length → x.2[i]? = some v → iter (f40.s1 (x.2.length + 1) x (i : Int) S1) (x.2.length + 1) 0 = bif (x.2.take i).any (fun w => w == v) then some false else S1 ((i + 1 : Nat) : Int) := fun S1 i v hi hv =>
    scan_loop (l := x.2) (Nat.le_of_lt hi) (fun w => w == v) (by omega) (fun S => by
      simp only [f40.s1, nat_end, cond_false, nx (show i ≤ _ by omega)]) (fun S j w hj hw => by
      simp only [f40.s1, nat_lt hj, at_ge, at_lt (lt_of hw), at_lt hi, at_get hw, at_get hv, nx (show j ≤ _ by omega), Bool.and_self, cond_true])
  have key := seen_loop (l := x.2) (step := f40.s2 (x.2.length + 1) x) (fun seen r => someL x.1.2.1.length seen r) (Nat.lt_succ_self _) (fun S => by
      simp only [f40.s2, at_end, cond_false, someL]) (fun S i v r hi hv hr ih => by
      simp only [f40.s2, at_lt hi, at_ge, at_get hv, Bool.and_self, cond_true, inner S i v hi hv, ih, someL]
      generalize decide (v < 0) = b1
      generalize decide (v ≥ (x.1.2.1.length : Int)) = b2
      generalize (x.2.take i).any (fun w => w == v) = b3
      cases b1 <;> cases b2 <;> cases b3 <;> rfl)
  simp only [f40.g, key, someS, cond_or']
  have e1 : decide ((x.2.length : Int) < (1 : Int)) = decide (x.2.length < 1) := len_lt _ 1
  have e2 : decide ((x.2.length : Int) > (64 : Int)) = decide (x.2.length > 64) := len_gt _ 64
  rw [e1, e2]
  cases decide (x.2.length < 1) || decide (x.2.length > 64) <;> rfl
theorem con40_ok : ConOk Tryz.prog 40 con40 := f40.ok spec40

theorem spec39 : ∀ X Y, F39 X = some Y → ∃ n, f39.g n X = some Y := by
  intro x y h
  obtain ⟨ho, rfl⟩ := some_bif (show (bif okT x then some (colsL [] x.2.1) else none) = some y from h)
  obtain ⟨h1, h2, h3, h4, h5, h6, h7⟩ := okT_parts ho
  have hl := okB_len (by omega) h1
  refine ⟨x.2.1.length + 1, ?_⟩
  have inner : ∀ (r2 : Bool) (S1 : Int → Option Int) (i : Nat) (v : dColumn), i < x.2.1.length → x.2.1[i]? = some v → iter (f39.s1 (x.2.1.length + 1) x (i : Int) r2 S1) (x.2.1.length + 1) 0 = bif (x.2.1.take i).any (fun c => strEq c.1 v.1) then some 31 else bif badC v then some 32 else S1 ((i + 1 : Nat) : Int) := fun r2 S1 i v hi hv =>
    scan_loop (l := x.2.1) (Nat.le_of_lt hi) (fun c => strEq c.1 v.1) (by omega) (fun S => by
      simp only [f39.s1, nat_end, cond_false, at_get hv, nx (show i ≤ _ by omega), F43_some (h5 v (List.mem_of_getElem? hv)), Option.bind_some, cond_or', cond_and', badC]
      generalize (decide (v.2.1 < 1) || decide (v.2.1 > 5)) = b3
      generalize (checkV v.2.2.2 != 0) = b4
      generalize (v.2.2.2.1 != 0) = b5
      generalize (v.2.2.2.1 != v.2.1) = b6
      cases b3 <;> cases b4 <;> cases b5 <;> cases b6 <;> rfl) (fun S j w hj hw => by
      simp only [f39.s1, nat_lt hj, at_ge, at_lt (lt_of hw), at_lt hi, at_get hw, at_get hv, nx (show j ≤ _ by omega), Bool.and_self, cond_true])
  exact seen_loop (l := x.2.1) (step := f39.s2 (x.2.1.length + 1) x) (fun seen r => colsL seen r) (Nat.lt_succ_self _) (fun S => by
      simp only [f39.s2, at_end, cond_false, colsL]) (fun S i v r hi hv hr ih => by
      simp only [f39.s2, at_lt hi, at_ge, at_get hv, Bool.and_self, cond_true, F9_eq, Option.bind_some, inner _ S i v hi hv, ih, colsL]
      generalize nameS v.1 = b1
      generalize (x.2.1.take i).any (fun c => strEq c.1 v.1) = b2
      generalize badC v = b3
      cases b1 <;> cases b2 <;> cases b3 <;> rfl)
theorem con39_ok : ConOk Tryz.prog 39 con39 := f39.ok spec39 con9_ok con43_ok

theorem F41_some {t : dTable} (h : okT t = true) : F41 t = some (idxsL t.2.1.length [] t.2.2.2.1) := by unfold F41; rw [h]; rfl
theorem spec41 : ∀ X Y, F41 X = some Y → ∃ n, f41.g n X = some Y := by
  intro x y h
  obtain ⟨ho, rfl⟩ := some_bif h
  obtain ⟨h1, h2, h3, h4, h5, h6, h7⟩ := okT_parts ho
  have hl := okB_len (by omega) h3
  refine ⟨x.2.2.2.1.length + 1, ?_⟩
  have inner : ∀ (r2 : Bool) (S1 : Int → Option Int) (i : Nat) (v : dIndex), i < x.2.2.2.1.length → x.2.2.2.1[i]? = some v → iter (f41.s1 (x.2.2.2.1.length + 1) x (i : Int) r2 S1) (x.2.2.2.1.length + 1) 0 = bif (x.2.2.2.1.take i).any (fun c => strEq c.1 v.1) then some 31 else bif !someS x.2.1.length v.2.1 then some 33 else S1 ((i + 1 : Nat) : Int) := fun r2 S1 i v hi hv =>
    scan_loop (l := x.2.2.2.1) (Nat.le_of_lt hi) (fun c => strEq c.1 v.1) (by omega) (fun S => by
      simp only [f41.s1, nat_end, cond_false, at_get hv, nx (show i ≤ _ by omega), F40_some x (h6 v (List.mem_of_getElem? hv)), Option.bind_some]) (fun S j w hj hw => by
      simp only [f41.s1, nat_lt hj, at_ge, at_lt (lt_of hw), at_lt hi, at_get hw, at_get hv, nx (show j ≤ _ by omega), Bool.and_self, cond_true])
  exact seen_loop (l := x.2.2.2.1) (step := f41.s2 (x.2.2.2.1.length + 1) x) (fun seen r => idxsL x.2.1.length seen r) (Nat.lt_succ_self _) (fun S => by
      simp only [f41.s2, at_end, cond_false, idxsL]) (fun S i v r hi hv hr ih => by
      simp only [f41.s2, at_lt hi, at_ge, at_get hv, Bool.and_self, cond_true, F9_eq, Option.bind_some, inner _ S i v hi hv, ih, idxsL]
      generalize nameS v.1 = b1
      generalize (x.2.2.2.1.take i).any (fun c => strEq c.1 v.1) = b2
      generalize someS x.2.1.length v.2.1 = b3
      cases b1 <;> cases b2 <;> cases b3 <;> rfl)
theorem con41_ok : ConOk Tryz.prog 41 con41 := f41.ok spec41 con9_ok con40_ok

theorem refs13 {x : dTable} (h : okT x = true) {n : Nat} (hn : x.2.2.2.2.length < n) (r1 : Bool) (r2 : Int) (r3 : Bool) (y4 r5 : Int) : iter (f13.s1 n x r1 r2 r3 y4 r5) n 0 = some (refsL x.2.1.length x.2.2.2.2) := by
  obtain ⟨h1, h2, h3, h4, h5, h6, h7⟩ := okT_parts h
  have hl := okB_len (by omega) h4
  exact seen_loop (l := x.2.2.2.2) (step := f13.s1 n x r1 r2 r3 y4 r5) (fun _ r => refsL x.2.1.length r) hn (fun S => by
      simp only [f13.s1, at_end, cond_false, refsL]) (fun S i v r hi hv hr ih => by
      simp only [f13.s1, at_lt hi, at_ge, at_get hv, nx (show i ≤ _ by omega), Bool.and_self, cond_true, F9_eq, F40_some x (h7 v (List.mem_of_getElem? hv)), Option.bind_some, ih, refsL]
      generalize nameS v.2 = b1
      generalize someS x.2.1.length v.1 = b2
      cases b1 <;> cases b2 <;> rfl)
theorem key13 {x : dTable} (h : okT x = true) (hin : x.2.2.1.all (inK x) = true) {n : Nat} (hn : x.2.2.2.2.length < n) (hn2 : x.2.2.1.length < n) (r1 : Bool) (r2 : Int) (r3 : Bool) :
    iter (f13.s2 n x r1 r2 r3) n 0 = bif x.2.2.1.any (nullK x) then some 33 else some (bif idxsL x.2.1.length [] x.2.2.2.1 != 0 then idxsL x.2.1.length [] x.2.2.2.1 else refsL x.2.1.length x.2.2.2.2) := by
  obtain ⟨h1, h2, h3, h4, h5, h6, h7⟩ := okT_parts h
  have hl := okB_len (by omega) h2
  have := scan_loop (l := x.2.2.1) (Nat.le_refl _) (nullK x) (A := some (33 : Int)) (K := some (bif idxsL x.2.1.length [] x.2.2.2.1 != 0 then idxsL x.2.1.length [] x.2.2.2.1 else refsL x.2.1.length x.2.2.2.2)) (step := f13.s2 n x r1 r2 r3) hn2 (fun S => by
      simp only [f13.s2, at_end, cond_false, F41_some h, Option.bind_some, refs13 h hn]
      cases idxsL x.2.1.length [] x.2.2.2.1 != 0 <;> rfl) (fun S i v hi hv => by
      have q : (decide (0 ≤ v) && decide (v < (x.2.1.length : Int))) = true := List.all_eq_true.1 hin v (List.mem_of_getElem? hv)
      simp only [f13.s2, at_lt hi, at_ge, at_get hv, nx (show i ≤ _ by omega), Bool.and_self, cond_true, q, nullK])
  rw [List.take_length] at this
  exact this
theorem spec13 : ∀ X Y, F13 X = some Y → ∃ n, f13.g n X = some Y := by
  intro x y h
  obtain ⟨ho, rfl⟩ := some_bif (show (bif okT x then some (checkT x) else none) = some y from h)
  obtain ⟨h1, h2, h3, h4, h5, h6, h7⟩ := okT_parts ho
  refine ⟨x.2.2.1.length + x.2.2.2.2.length + 1, ?_⟩
  unfold f13.g checkT
  simp only [F9_eq, Option.bind_some, sizes_eq, F39_some ho, F40_some x h2]
  cases nameS x.1 with
  | false => rfl
  | true =>
    simp only [Bool.not_true, cond_false]
    cases decide (x.2.1.length < 1) || decide (x.2.1.length > 64) || decide (x.2.2.2.1.length > 16) || decide (x.2.2.2.2.length > 16) with
    | true => rfl
    | false =>
      simp only [cond_false]
      cases colsL [] x.2.1 != 0 with
      | true => rfl
      | false =>
        simp only [cond_false]
        cases hs : someS x.2.1.length x.2.2.1 with
        | false => rfl
        | true =>
          simp only [Bool.not_true, cond_false]
          rw [key13 ho (key_in hs) (by omega) (by omega)]
          cases x.2.2.1.any (nullK x) <;> rfl
theorem con13_ok : ConOk Tryz.prog 13 con13 := f13.ok spec13 con9_ok con39_ok con40_ok con41_ok

end Go.Proofs.YtfgfdpbeddnfhaaGreatDoor.AI
