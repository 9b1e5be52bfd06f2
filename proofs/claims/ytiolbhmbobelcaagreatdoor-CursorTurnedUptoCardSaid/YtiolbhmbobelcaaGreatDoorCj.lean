/- The law CursorTurned. -/
import Derived.Test.YtiolbhmbobelcaaGreatDoorCz
set_option linter.unusedVariables false
set_option linter.unusedSimpArgs false
namespace Go.Proofs.YtiolbhmbobelcaaGreatDoor.AI
open Go

/-! ### What the model lets in -/
theorem wf_okB {t : Ty} {b : Nat} (ht : t.bytes = b) {l : List t.den} (h : (Ty.sl t).wf l) : okB b l = true := by
  have h1 : l.length * t.bytes ≤ reachBytes := h.1
  rw [ht] at h1
  refine okB_iff.2 ?_
  have : reachBytes = 140737488351232 := rfl
  omega
theorem wf_okV {x : dValue} (h : tValue.wf x) : okV x = true := by
  have h1 : x.2.2.2.size ≤ reachBytes := h.2.2.2
  have : reachBytes = 140737488351232 := rfl
  exact decide_eq_true (by omega)
theorem okI_iff {n : Int} : okI n = true ↔ -9223372036854775808 ≤ n ∧ n ≤ 9223372036854775807 := by
  unfold okI
  rw [Bool.and_eq_true, decide_eq_true_iff, decide_eq_true_iff]
theorem wf_okZ {x : dValue} (h : tValue.wf x) : okZ x = true := by
  have h1 : IntKind.i64.min ≤ x.2.1 ∧ x.2.1 ≤ IntKind.i64.max := h.2.1
  have h2 : (Lit.float .f64 x.2.2.1).wf = true := h.2.2.1
  have e0 : IntKind.i64.min = -9223372036854775808 := by kernel_rfl
  have e1 : IntKind.i64.max = 9223372036854775807 := by kernel_rfl
  have e2 : (Lit.float .f64 x.2.2.1).wf = decide (x.2.2.1 < 2 ^ 64) := rfl
  rw [e0, e1] at h1
  rw [e2, decide_eq_true_eq] at h2
  have hv : okS x.2.2.2 = true := wf_okV h
  unfold okZ
  rw [hv, okI_iff.2 h1, decide_eq_true (by omega)]; rfl

/-! ### The rounds of the law -/
theorem okL_perm {l m : List dValue} (h : m.Perm l) (ho : okL' l = true) : okL' m = true := by
  unfold okL' at *
  rw [Bool.and_eq_true] at *
  refine ⟨?_, ?_⟩
  · rw [okB_iff, h.length_eq, ← okB_iff]; exact ho.1
  · rw [all_perm h]; exact ho.2
/-- Fold of both lists, for each of the five. -/
theorem what_loop {n k : Nat} {x : List dValue × Int} {y1 : Nat × Int × List dValue} {y2 : Int × List dValue} {y3 : Bool × Int} (ho : okL' x.1 = true) (hp : y2.2.Perm x.1) (hk : y1.1 = y2.2.length)
    (hc : ∀ v ∈ x.1, checkV v = 0) (hi : y3.1 = true → ∀ v ∈ x.1, v.1 = 2 ∨ v.1 = 0) (hn : 5 < k) : iter (f3.s1 n x y1 y2 y3) k 1 = some true := by
  have key : iter (f3.s1 n x y1 y2 y3) k (((0 : Nat) : Int) + 1) = some true := iter_all (step := f3.s1 n x y1 y2 y3) (List.replicate 5 ()) (fun i (_ : Unit) => ((i : Int) + 1)) (fun _ _ => True) (fun _ _ _ => some true)
    (fun S _ _ => by
      unfold f3.s1
      simp only [List.length_replicate, show decide ((((5 : Nat) : Int) + 1) ≤ 5) = false from rfl, cond_false, F6, Option.bind_some])
    (fun S i _ v r hlt hv hr _ ih => by
      simp only [List.length_replicate] at hlt
      unfold f3.s1
      have e1 : List.take y1.1 y2.2 = y2.2 := by rw [hk, List.take_length]
      have g1 := F7_some (x := (((i : Int) + 1), x.1)) ho
      have g2 := F7_some (x := (((i : Int) + 1), y2.2)) (okL_perm hp ho)
      obtain ⟨q1, q2⟩ := fold_turn (what := (i : Int) + 1) hp.symm hc
      have hw : IntKind.wrap .i64 ((i : Int) + 1 + 1) = ((i + 1 : Nat) : Int) + 1 := by rw [wrap_ok (by omega) (by omega)]; simp
      simp only [decide_eq_true (show (i : Int) + 1 ≤ 5 by omega), cond_true, e1, g1, g2, Option.bind_some, q1, bne_self_eq_false, cond_false, F8, hw]
      cases hb : (bif (bif (bif y3.1 then true else ((i : Int) + 1 == (1 : Int))) then true else ((i : Int) + 1 == (3 : Int))) then true else ((i : Int) + 1 == (4 : Int))) with
      | false =>
        have : (bif (cmpV (foldS ((i : Int) + 1) x.1).1 (foldS ((i : Int) + 1) y2.2).1 != (0 : Int)) then false else false) = false := by cases (cmpV (foldS ((i : Int) + 1) x.1).1 (foldS ((i : Int) + 1) y2.2).1 != (0 : Int)) <;> rfl
        rw [this]
        exact ih () trivial
      | true =>
        have hz : cmpV (foldS ((i : Int) + 1) x.1).1 (foldS ((i : Int) + 1) y2.2).1 = 0 := by
          refine q2 ?_
          cases hy : y3.1 with
          | true => exact .inl (hi hy)
          | false =>
            rw [hy] at hb
            simp only [cond_false] at hb
            cases h1 : ((i : Int) + 1 == (1 : Int)) with
            | true => exact .inr (.inl (by simpa using h1))
            | false =>
              rw [h1] at hb
              simp only [cond_false] at hb
              cases h3 : ((i : Int) + 1 == (3 : Int)) with
              | true => exact .inr (.inr (.inl (by simpa using h3)))
              | false =>
                rw [h3] at hb
                simp only [cond_false] at hb
                exact .inr (.inr (.inr (by simpa using hb)))
        rw [hz]
        exact ih () trivial)
    k (by simpa using hn) () trivial
  simpa using key
/-- All are values; are they ints? -/
theorem ints_loop {n k : Nat} {x : List dValue × Int} {y1 : Nat × Int × List dValue} {y2 : Int × List dValue} (ho : okL' x.1 = true) (hp : y2.2.Perm x.1) (hk : y1.1 = y2.2.length)
    (hn : 5 < n) (hm : x.1.length < k) : iter (f3.s2 n x y1 y2) k (true, 0) = some true := by
  have hz := ho
  unfold okL' at hz
  rw [Bool.and_eq_true, List.all_eq_true] at hz
  have hl := okB_len (by decide) hz.1
  exact iter_all (step := f3.s2 n x y1 y2) x.1 (fun i (b : Bool) => (b, (i : Int))) (fun i b => (∀ v ∈ x.1.take i, checkV v = 0) ∧ (b = true → ∀ v ∈ x.1.take i, v.1 = 2 ∨ v.1 = 0)) (fun _ _ _ => some true)
    (fun S b hI => by
      obtain ⟨h1, h2⟩ := hI
      rw [List.take_length] at h1 h2
      unfold f3.s2
      simp only [at_end, cond_false]
      exact what_loop ho hp hk h1 h2 hn)
    (fun S i b v r hi hv hr hI ih => by
      obtain ⟨h1, h2⟩ := hI
      have hmem : v ∈ x.1 := List.mem_of_getElem? hv
      unfold f3.s2
      simp only [at_lt hi, at_ge, Bool.and_true, cond_true, at_get hv, F5_some (okZ_V (hz.2 v hmem)), Option.bind_some, nx (i := i) (by omega), F6]
      cases hcv : checkV v != 0 with
      | true => rfl
      | false =>
        have hcv0 : checkV v = 0 := by simpa using hcv
        have h1' : ∀ u ∈ x.1.take (i + 1), checkV u = 0 := fun u hu => by
          rw [← take_next hv, List.mem_append, List.mem_singleton] at hu
          rcases hu with h | h
          · exact h1 u h
          · rw [h]; exact hcv0
        have hst : ∀ b' : Bool, (b' = true → b = true ∧ (v.1 = 2 ∨ v.1 = 0)) → S (b', ((i + 1 : Nat) : Int)) = some true := fun b' hb' => ih b' ⟨h1', fun hbt u hu => by
          obtain ⟨e1, e2⟩ := hb' hbt
          rw [← take_next hv, List.mem_append, List.mem_singleton] at hu
          rcases hu with h | h
          · exact h2 e1 u h
          · rw [h]; exact e2⟩
        simp only [cond_false]
        cases b with
        | false => exact hst false (fun h => by cases h)
        | true =>
          simp only [cond_true]
          cases hv2 : v.1 == 2 with
          | true => exact hst true (fun _ => ⟨rfl, .inl (by simpa using hv2)⟩)
          | false => exact hst (v.1 == 0) (fun h => ⟨rfl, .inr (by simpa using h)⟩))
    k hm true ⟨by simp, by simp⟩
/-- The swaps. -/
theorem swap_loop {n k : Nat} {x : List dValue × Int} {y1 : Nat × Int × List dValue} (ho : okL' x.1 = true) (hp : y1.2.2.Perm x.1) (hk : y1.1 = y1.2.2.length)
    (hn : 5 < n) (hm : x.1.length < n) (hm2 : x.1.length < k) : iter (f3.s3 n x y1) k (0, y1.2.2) = some true := by
  have hz := ho
  unfold okL' at hz
  rw [Bool.and_eq_true, List.all_eq_true] at hz
  have hl := okB_len (by decide) hz.1
  have hlen := hp.length_eq
  have hdiv : IntKind.wrap .i64 (Int.tdiv ((y1.1 : Nat) : Int) (2 : Int)) = ((y1.1 / 2 : Nat) : Int) := by
    have : Int.tdiv ((y1.1 : Nat) : Int) (2 : Int) = ((y1.1 / 2 : Nat) : Int) := by
      rw [show (2 : Int) = ((2 : Nat) : Int) from rfl, ← Int.ofNat_tdiv]
    rw [this, wrap_ok (by omega) (by omega)]
  exact iter_all (step := f3.s3 n x y1) (List.replicate (y1.1 / 2) ()) (fun i (m : List dValue) => ((i : Int), m)) (fun _ m => m.Perm x.1) (fun _ _ _ => some true)
    (fun S m hI => by
      unfold f3.s3
      simp only [List.length_replicate, hdiv, decide_eq_false (Int.lt_irrefl _), cond_false]
      exact ints_loop (y2 := (_, m)) ho hI (by rw [hk, hlen]; exact hI.length_eq.symm) hn hm)
    (fun S i m v r hi hv hr hI ih => by
      simp only [List.length_replicate] at hi
      have hml := hI.length_eq
      have hi2 : i < y1.1 / 2 := hi
      have hw1 : IntKind.wrap .i64 (((y1.1 : Nat) : Int) - (1 : Int)) = ((y1.1 - 1 : Nat) : Int) := by rw [wrap_ok (by omega) (by omega)]; omega
      have hw2 : IntKind.wrap .i64 (((y1.1 - 1 : Nat) : Int) - (i : Int)) = ((y1.1 - 1 - i : Nat) : Int) := by rw [wrap_ok (by omega) (by omega)]; omega
      unfold f3.s3
      simp only [hdiv, decide_eq_true (show (i : Int) < ((y1.1 / 2 : Nat) : Int) by omega), cond_true, hw1, hw2, at_ge, decide_eq_true (show ((y1.1 - 1 - i : Nat) : Int) < ((y1.1 : Nat) : Int) by omega), decide_eq_true (show (i : Int) < ((y1.1 : Nat) : Int) by omega), Bool.and_true, nx (i := i) (by omega), Int.toNat_natCast]
      cases Int.tmod x.2 (2 : Int) == (1 : Int) with
      | false => exact ih m hI
      | true =>
        simp only [cond_true]
        exact ih _ ((swap_perm (m := m) (i := i) (j := y1.1 - 1 - i) (by omega) (by omega) tValue.dflt).trans hI))
    k (by simp; omega) y1.2.2 hp
theorem spec3 : ∀ (X : List dValue × Int) (Y : Bool), FLB 1048576 [(false, .sl tValue), (false, .int .u16)] X = some Y → ∃ n, f3.g n X = some Y := by
  intro x y h
  obtain ⟨hw, hm, rfl⟩ := FLB_some h
  have hw1 : (Ty.sl tValue).wf x.1 := hw.1
  have hw2 : IntKind.u16.min ≤ x.2 ∧ x.2 ≤ IntKind.u16.max := hw.2
  have e0 : IntKind.u16.min = 0 := by kernel_rfl
  have e1 : IntKind.u16.max = 65535 := by kernel_rfl
  rw [e0, e1] at hw2
  have ho : okL' x.1 = true := by
    unfold okL'
    rw [wf_okB (t := tValue) (b := 40) rfl hw1, List.all_eq_true.2 fun v hv => wf_okZ (hw1.2 v hv)]; rfl
  have hb := wf_okB (t := tValue) (b := 40) rfl hw1
  have hl := okB_len (by decide) hb
  obtain ⟨b, hbn⟩ := Int.eq_ofNat_of_zero_le hw2.1
  have hb16 : b ≤ 65535 := by omega
  refine ⟨x.1.length + 6, ?_⟩
  unfold f3.g
  exact iter_all (step := f3.s4 (x.1.length + 6) x) x.1 (fun i (m : List dValue) => (m.length, ((i : Int), m))) (fun i m => m = (turnL x.1 b).take i) (fun _ _ _ => some true)
    (fun S m hI => by
      have hmm : m = turnL x.1 b := by rw [hI]; exact List.take_of_length_le (by rw [turnL_len]; exact Nat.le_refl _)
      unfold f3.s4
      simp only [at_end, cond_false]
      exact swap_loop (y1 := (m.length, _, m)) ho (by rw [hmm]; exact turnL_perm _ _) rfl (by omega) (by omega) (by omega))
    (fun S i m v r hi hv hr hI ih => by
      have hml : m.length = i := by rw [hI, List.length_take, turnL_len]; omega
      have hw3 : IntKind.wrap .i64 ((i : Int) + IntKind.wrap .i64 x.2) = ((i + b : Nat) : Int) := by
        rw [hbn, wrap_ok (n := (b : Int)) (by omega) (by omega), wrap_ok (by omega) (by omega)]; simp
      have hmod : Int.tmod ((i + b : Nat) : Int) (x.1.length : Int) = (((i + b) % x.1.length : Nat) : Int) := by
        rw [Int.natCast_add]; exact tmod_at i b x.1.length
      have hlt : (i + b) % x.1.length < x.1.length := Nat.mod_lt _ (by omega)
      have hne : ((x.1.length : Int) == (0 : Int)) = false := by simp; intro e; rw [e] at hi; simp at hi
      have hbd : (m.length + 1) * 40 ≤ boundN := by
        have h1 := okB_iff.1 hb
        have h2 : (m.length + 1) * 40 ≤ x.1.length * 40 := Nat.mul_le_mul_right _ (by omega)
        exact Nat.le_trans h2 h1
      unfold f3.s4
      simp only [at_lt hi, cond_true, hne, cond_false, hw3, hmod, at_ge, decide_eq_true (show (((i + b) % x.1.length : Nat) : Int) < (x.1.length : Int) by omega), Bool.and_true, decide_eq_true hbd, List.take_length, nx (i := i) (by omega), Int.toNat_natCast]
      have hgo := ih (m ++ [x.1.getD ((i + b) % x.1.length) tValue.dflt]) (by rw [hI]; exact (turn_step hi _).symm)
      simp only [List.length_append, List.length_singleton] at hgo
      exact hgo)
    _ (by omega) [] (by simp)
theorem con3_ok : ConOk Tryz.prog 3 con3 := f3.ok spec3 con5_ok con6_ok con7_ok con8_ok
end Go.Proofs.YtiolbhmbobelcaaGreatDoor.AI
