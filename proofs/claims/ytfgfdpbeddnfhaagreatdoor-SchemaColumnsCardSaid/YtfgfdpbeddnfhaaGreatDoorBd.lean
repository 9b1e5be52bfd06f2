/- The plain laws of the runs: loops over lists; names. -/
import Derived.Test.YtfgfdpbeddnfhaaGreatDoorBl
set_option linter.unusedVariables false
set_option linter.unusedSimpArgs false
namespace Go.Proofs.YtfgfdpbeddnfhaaGreatDoor.AI
open Go

/-! ### Loops over lists -/
theorem wrap_ok {n : Int} (h1 : -9223372036854775808 ≤ n) (h2 : n ≤ 9223372036854775807) : IntKind.wrap .i64 n = n := by
  simp [IntKind.wrap, IntKind.min, IntKind.max, IntKind.signed, IntKind.bits]
  omega
theorem nx {i : Nat} (h : i ≤ 140737488355328) : IntKind.wrap .i64 ((i : Int) + (1 : Int)) = ((i + 1 : Nat) : Int) := by
  rw [wrap_ok (by omega) (by omega)]; simp

theorem iter_list {α σ β R : Type} {step : (β → Option R) → β → Option R} (l : List α) (enc : Nat → σ → β) (I : Nat → σ → Prop) (f : Nat → σ → List α → Option R)
    (hend : ∀ S a, I l.length a → step S (enc l.length a) = f l.length a [])
    (hstep : ∀ S i a v r, i < l.length → l[i]? = some v → l.drop (i + 1) = r → I i a → (∀ a', I (i + 1) a' → S (enc (i + 1) a') = f (i + 1) a' r) → step S (enc i a) = f i a (v :: r)) :
    ∀ (r : List α) (i : Nat), l.drop i = r → i ≤ l.length → ∀ m a, I i a → r.length < m → iter step m (enc i a) = f i a r
  | [], i, hd, hi, m, a, hI, hm => by
    have hl : l.length ≤ i := List.drop_eq_nil_iff.1 hd
    have : i = l.length := by omega
    subst this
    cases m with
    | zero => simp at hm
    | succ m => exact hend _ a hI
  | v :: r, i, hd, hi, m, a, hI, hm => by
    have hlt : i < l.length := by
      rcases Nat.lt_or_ge i l.length with h | h
      · exact h
      · rw [List.drop_eq_nil_iff.2 h] at hd; cases hd
    have hv : l[i]? = some v := by
      have := congrArg List.head? hd
      rw [List.head?_drop] at this
      simpa using this
    have hr : l.drop (i + 1) = r := by
      have := congrArg List.tail hd
      rw [List.tail_drop] at this
      simpa using this
    cases m with
    | zero => simp at hm
    | succ m => exact hstep _ i a v r hlt hv hr hI (fun a' hI' => iter_list l enc I f hend hstep r (i + 1) hr (by omega) m a' hI' (by simp at hm; omega))

theorem iter_all {α σ β R : Type} {step : (β → Option R) → β → Option R} (l : List α) (enc : Nat → σ → β) (I : Nat → σ → Prop) (f : Nat → σ → List α → Option R)
    (hend : ∀ S a, I l.length a → step S (enc l.length a) = f l.length a [])
    (hstep : ∀ S i a v r, i < l.length → l[i]? = some v → l.drop (i + 1) = r → I i a → (∀ a', I (i + 1) a' → S (enc (i + 1) a') = f (i + 1) a' r) → step S (enc i a) = f i a (v :: r))
    (m : Nat) (hm : l.length < m) (a : σ) (hI : I 0 a) : iter step m (enc 0 a) = f 0 a l :=
  iter_list l enc I f hend hstep l 0 rfl (Nat.zero_le _) m a hI hm

theorem okB_iff {α : Type} {b : Nat} {l : List α} : okB b l = true ↔ l.length * b ≤ 140737488355328 := by
  unfold okB
  rw [decide_eq_true_iff]
theorem okB_len {α : Type} {b : Nat} {l : List α} (hb : 1 ≤ b) (h : okB b l = true) : l.length ≤ 140737488355328 := by
  have h1 := okB_iff.1 h
  have : l.length * 1 ≤ l.length * b := Nat.mul_le_mul_left _ hb
  omega
theorem okB_take {α : Type} {b : Nat} {l : List α} (h : okB b l = true) (i : Nat) : okB b (l.take i) = true := by
  have h1 := okB_iff.1 h
  refine okB_iff.2 ?_
  have : (l.take i).length * b ≤ l.length * b := Nat.mul_le_mul_right _ (by rw [List.length_take]; exact Nat.min_le_right _ _)
  omega

theorem at_lt {α : Type} {l : List α} {i : Nat} (h : i < l.length) : decide ((i : Int) < (l.length : Int)) = true := by simp; exact h
theorem at_end {α : Type} (l : List α) : decide ((l.length : Int) < (l.length : Int)) = false := by simp
theorem at_ge (i : Nat) : decide (0 ≤ (i : Int)) = true := by simp
theorem at_le {α : Type} {l : List α} {i : Nat} (h : i < l.length) : decide ((i : Int) ≤ (l.length : Int)) = true := by simp; omega
theorem at_get {α : Type} {l : List α} {i : Nat} {v d : α} (h : l[i]? = some v) : l.getD (i : Int).toNat d = v := by simp [List.getD, h]
theorem at_take {α : Type} (l : List α) (i : Nat) : List.take (i : Int).toNat l = l.take i := by simp
theorem take_next {α : Type} {l : List α} {i : Nat} {v : α} (h : l[i]? = some v) : l.take i ++ [v] = l.take (i + 1) := by
  obtain ⟨hlt, rfl⟩ := List.getElem?_eq_some_iff.1 h
  simp
theorem lt_of {α : Type} {l : List α} {i : Nat} {v : α} (h : l[i]? = some v) : i < l.length := (List.getElem?_eq_some_iff.1 h).1

/-- Whether one is there. -/
theorem any_loop {α : Type} {l : List α} (p : α → Bool) {step : (Int → Option Bool) → Int → Option Bool} {m : Nat} (hm : l.length < m)
    (hend : ∀ S, step S (l.length : Int) = some false)
    (hstep : ∀ S i v, i < l.length → l[i]? = some v → step S (i : Int) = bif p v then some true else S ((i + 1 : Nat) : Int)) :
    iter step m 0 = some (l.any p) :=
  iter_all (step := step) l (fun i (_ : Unit) => (i : Int)) (fun _ _ => True) (fun i _ r => some (r.any p))
    (fun S a _ => by simp [hend]) (fun S i a v r hi hv hr _ ih => by
      rw [hstep S i v hi hv, List.any_cons, ih () trivial]
      cases p v <;> rfl) m hm () trivial
/-- Whether all are so. -/
theorem all_loop {α : Type} {l : List α} (p : α → Bool) {step : (Int → Option Bool) → Int → Option Bool} {m : Nat} (hm : l.length < m)
    (hend : ∀ S, step S (l.length : Int) = some true)
    (hstep : ∀ S i v, i < l.length → l[i]? = some v → step S (i : Int) = bif p v then S ((i + 1 : Nat) : Int) else some false) :
    iter step m 0 = some (l.all p) :=
  iter_all (step := step) l (fun i (_ : Unit) => (i : Int)) (fun _ _ => True) (fun i _ r => some (r.all p))
    (fun S a _ => by simp [hend]) (fun S i a v r hi hv hr _ ih => by
      rw [hstep S i v hi hv, List.all_cons, ih () trivial]
      cases p v <;> rfl) m hm () trivial
theorem idx_loop {α : Type} {l : List α} (p : α → Bool) {step : (Int → Option Int) → Int → Option Int} {m : Nat} (hm : l.length < m)
    (hend : ∀ S, step S (l.length : Int) = some (-1))
    (hstep : ∀ S i v, i < l.length → l[i]? = some v → step S (i : Int) = bif p v then some (i : Int) else S ((i + 1 : Nat) : Int)) :
    iter step m 0 = some (idxI p l) := by
  have := iter_all (step := step) l (fun i (_ : Unit) => (i : Int)) (fun _ _ => True) (fun i _ r => some (match r.findIdx? p with | some j => ((i + j : Nat) : Int) | none => -1))
    (fun S a _ => by simp [hend]) (fun S i a v r hi hv hr _ ih => by
      rw [hstep S i v hi hv, List.findIdx?_cons]
      cases hp : p v with
      | true => simp
      | false =>
        have := ih () trivial
        rw [cond_false, this]
        simp only [Bool.false_eq_true, if_false]
        cases r.findIdx? p with
        | none => rfl
        | some j => simp; omega) m hm () trivial
  simp only [Int.natCast_zero, Nat.zero_add] at this
  exact this
/-- A fold with what was seen, up to the first answer. -/
theorem seen_loop {α R : Type} {l : List α} (f : List α → List α → R) {step : (Int → Option R) → Int → Option R} {m : Nat} (hm : l.length < m)
    (hend : ∀ S, step S (l.length : Int) = some (f l []))
    (hstep : ∀ S i v r, i < l.length → l[i]? = some v → l.drop (i + 1) = r → S ((i + 1 : Nat) : Int) = some (f (l.take i ++ [v]) r) → step S (i : Int) = some (f (l.take i) (v :: r))) :
    iter step m 0 = some (f [] l) := by
  have := iter_all (step := step) l (fun i (_ : Unit) => (i : Int)) (fun _ _ => True) (fun i _ r => some (f (l.take i) r))
    (fun S a _ => by simp [hend]) (fun S i a v r hi hv hr _ ih => by
      refine hstep S i v r hi hv hr ?_
      rw [take_next hv]
      exact ih () trivial) m hm () trivial
  simpa using this

theorem idx_any {α : Type} (p : α → Bool) (l : List α) : decide (idxI p l ≥ 0) = l.any p := by
  unfold idxI
  cases h : l.findIdx? p with
  | none =>
    have h1 := List.findIdx?_eq_none_iff.1 h
    have : l.any p = false := by
      rw [List.any_eq_false]
      intro v hv
      rw [h1 v hv]; simp
    rw [this]; rfl
  | some i =>
    obtain ⟨hlt, hp, _⟩ := List.findIdx?_eq_some_iff_getElem.1 h
    have : l.any p = true := List.any_eq_true.2 ⟨l[i], List.getElem_mem hlt, hp⟩
    rw [this]; simp

theorem cond_or' (a b : Bool) : (bif a then true else b) = (a || b) := by cases a <;> rfl
theorem cond_and' (a b : Bool) : (bif a then b else false) = (a && b) := by cases a <;> rfl

/-! ### First places -/
theorem F67_some {x : List Int × Int} (h : okB 8 x.1 = true) : F67 x = some (idxI (fun v => v == x.2) x.1) := by unfold F67; rw [h]; rfl
theorem spec67 : ∀ X Y, F67 X = some Y → ∃ n, f67.g n X = some Y := by
  intro x y h
  obtain ⟨ho, rfl⟩ := some_bif h
  have hl := okB_len (by omega) ho
  refine ⟨x.1.length + 1, idx_loop _ (Nat.lt_succ_self _) (fun S => ?_) (fun S i v hi hv => ?_)⟩
  · simp only [f67.s1, at_end, cond_false]
  · have : (x.2 == v) = (v == x.2) := by rw [Bool.eq_iff_iff, beq_iff_eq, beq_iff_eq]; exact eq_comm
    simp only [f67.s1, at_lt hi, at_ge, at_get hv, nx (show i ≤ _ by omega), Bool.and_self, cond_true, this]
theorem con67_ok : ConOk Tryz.prog 67 con67 := f67.ok spec67
theorem F53_some {l : List Int} (h : okB 8 l = true) (a : Int) : F53 (l, a) = some (l.any fun v => v == a) := by
  show (bif okB 8 l then _ else _) = _
  rw [h]; rfl
theorem spec53 : ∀ X Y, F53 X = some Y → ∃ n, f53.g n X = some Y := by
  intro x y h
  obtain ⟨ho, rfl⟩ := some_bif h
  exact ⟨0, by simp only [f53.g, F67_some ho, Option.bind_some, idx_any]⟩
theorem con53_ok : ConOk Tryz.prog 53 con53 := f53.ok spec53 con67_ok
theorem spec26 : ∀ X Y, F26 X = some Y → ∃ n, f26.g n X = some Y := by
  intro x y h
  obtain ⟨ho, rfl⟩ := some_bif (show (bif okB 16 x.1 then some (x.1.any fun w => strEq w x.2) else none) = some y from h)
  have hl := okB_len (by omega) ho
  refine ⟨x.1.length + 1, any_loop _ (Nat.lt_succ_self _) (fun S => ?_) (fun S i v hi hv => ?_)⟩
  · simp only [f26.s1, at_end, cond_false]
  · simp only [f26.s1, at_lt hi, at_ge, at_get hv, nx (show i ≤ _ by omega), Bool.and_self, cond_true]
theorem con26_ok : ConOk Tryz.prog 26 con26 := f26.ok spec26
theorem con27_ok : ConOk Tryz.prog 27 con27 := f27.ok (fun x y h => ⟨0, by cases h; rfl⟩)
theorem spec45a : ∀ X Y, F45a X = some Y → ∃ n, f45a.g n X = some Y := by
  intro x y h
  obtain ⟨ho, rfl⟩ := some_bif h
  have hl := okB_len (by omega) ho
  refine ⟨x.1.length + 1, idx_loop _ (Nat.lt_succ_self _) (fun S => ?_) (fun S i v hi hv => ?_)⟩
  · simp only [f45a.s1, at_end, cond_false]
  · simp only [f45a.s1, at_lt hi, at_ge, at_get hv, nx (show i ≤ _ by omega), Bool.and_self, cond_true]
theorem spec45b : ∀ X Y, F45b X = some Y → ∃ n, f45b.g n X = some Y := by
  intro x y h
  obtain ⟨ho, rfl⟩ := some_bif h
  have hl := okB_len (by omega) ho
  refine ⟨x.1.length + 1, idx_loop _ (Nat.lt_succ_self _) (fun S => ?_) (fun S i v hi hv => ?_)⟩
  · simp only [f45b.s1, at_end, cond_false]
  · simp only [f45b.s1, at_lt hi, at_ge, at_get hv, nx (show i ≤ _ by omega), Bool.and_self, cond_true]
theorem con45_ok : ConOk Tryz.prog 45 con45 := orCon_ok (f45a.ok spec45a) (f45b.ok spec45b)
theorem F51_some {l : List dColumn} (h : okB 72 l = true) (a : dColumn) : F51 (l, a) = some (l.any fun c => strEq c.1 a.1) := by
  show (bif okB 72 l then _ else _) = _
  rw [h]; rfl
theorem spec51 : ∀ X Y, F51 X = some Y → ∃ n, f51.g n X = some Y := by
  intro x y h
  obtain ⟨ho, rfl⟩ := some_bif h
  have e : F45b x = some (idxI (fun c => strEq c.1 x.2.1) x.1) := by unfold F45b; rw [ho]; rfl
  exact ⟨0, by simp only [f51.g, e, Option.bind_some, idx_any]⟩
theorem con51_ok : ConOk Tryz.prog 51 con51 := f51.ok spec51 con45_ok
theorem spec54 : ∀ X Y, F54 X = some Y → ∃ n, f54.g n X = some Y := by
  intro x y h
  obtain ⟨ho, rfl⟩ := some_bif h
  obtain ⟨ho, hin⟩ := Bool.and_eq_true _ _ ▸ ho
  have hl := okB_len (by omega) ho
  refine ⟨x.1.length + 1, idx_loop _ (Nat.lt_succ_self _) (fun S => ?_) (fun S i v hi hv => ?_)⟩
  · simp only [f54.s1, at_end, cond_false]
  · have h2 : (decide (0 ≤ v) && decide (v < (x.2.2.1.length : Int))) = true := List.all_eq_true.1 hin v (List.mem_of_getElem? hv)
    simp only [f54.s1, at_lt hi, at_ge, at_get hv, nx (show i ≤ _ by omega), Bool.and_self, cond_true, h2, nullK]
theorem con54_ok : ConOk Tryz.prog 54 con54 := f54.ok spec54
theorem F34_some {l : List Int} {t : dTable} (h : okB 8 l = true) (h2 : l.all (inK t) = true) : F34 (l, t) = some (l.any (nullK t)) := by
  show (bif okB 8 l && l.all (inK t) then _ else _) = _
  rw [h, h2]; rfl
theorem spec34 : ∀ X Y, F34 X = some Y → ∃ n, f34.g n X = some Y := by
  intro x y h
  obtain ⟨ho, rfl⟩ := some_bif h
  have e : F54 x = some (idxI (nullK x.2) x.1) := by unfold F54; rw [ho]; rfl
  exact ⟨0, by simp only [f34.g, e, Option.bind_some, idx_any]⟩
theorem con34_ok : ConOk Tryz.prog 34 con34 := f34.ok spec34 con54_ok
theorem spec55 : ∀ X Y, F55 X = some Y → ∃ n, f55.g n X = some Y := by
  intro x y h
  obtain ⟨ho, rfl⟩ := some_bif h
  have hl := okB_len (by omega) ho
  refine ⟨x.1.length + 1, idx_loop _ (Nat.lt_succ_self _) (fun S => ?_) (fun S i v hi hv => ?_)⟩
  · simp only [f55.s1, at_end, cond_false]
  · simp only [f55.s1, at_lt hi, at_ge, at_get hv, nx (show i ≤ _ by omega), Bool.and_self, cond_true]
theorem con55_ok : ConOk Tryz.prog 55 con55 := f55.ok spec55
theorem F36_some {l : List dIndex} (h : okB 48 l = true) (a : dIndex) : F36 (l, a) = some (l.any fun c => strEq c.1 a.1) := by
  show (bif okB 48 l then _ else _) = _
  rw [h]; rfl
theorem spec36 : ∀ X Y, F36 X = some Y → ∃ n, f36.g n X = some Y := by
  intro x y h
  obtain ⟨ho, rfl⟩ := some_bif h
  have e : F55 x = some (idxI (fun c => strEq c.1 x.2.1) x.1) := by unfold F55; rw [ho]; rfl
  exact ⟨0, by simp only [f36.g, e, Option.bind_some, idx_any]⟩
theorem con36_ok : ConOk Tryz.prog 36 con36 := f36.ok spec36 con55_ok

/-! ### Columns of a table -/
theorem len_lt (n : Nat) (k : Nat) : decide ((n : Int) < (k : Int)) = decide (n < k) := by simp
theorem len_gt (n : Nat) (k : Nat) : decide ((n : Int) > (k : Int)) = decide (n > k) := by simp
theorem someL_in (n : Nat) : ∀ (seen l : List Int), someL n seen l = true → l.all (fun k => decide (0 ≤ k) && decide (k < (n : Int))) = true
  | _, [], _ => rfl
  | seen, k :: r, h => by
    unfold someL at h
    by_cases h1 : k < 0
    · simp [h1] at h
    · by_cases h2 : k ≥ (n : Int)
      · simp [h2] at h
      · have h3 : (decide (k < 0) || decide (k ≥ (n : Int))) = false := by simp; omega
        rw [h3, cond_false] at h
        cases h4 : seen.any (fun v => v == k) with
        | true => rw [h4] at h; cases h
        | false =>
          rw [h4, cond_false] at h
          rw [List.all_cons, someL_in n _ r h]
          simp; omega
theorem F33_some {l : List Int} (t : dTable) (h : okB 8 l = true) : F33 (t, l) = some (someS t.2.1.length l) := by
  show (bif okB 8 l then _ else _) = _
  rw [h]; rfl
theorem F40_some {l : List Int} (t : dTable) (h : okB 8 l = true) : F40 (t, l) = some (someS t.2.1.length l) := F33_some t h
theorem spec33 : ∀ X Y, F33 X = some Y → ∃ n, f33.g n X = some Y := by
  intro x y h
  obtain ⟨ho, rfl⟩ := some_bif h
  have hl := okB_len (by omega) ho
  refine ⟨x.2.length + 1, ?_⟩
  have key := seen_loop (l := x.2) (step := f33.s1 (x.2.length + 1) x) (fun seen r => someL x.1.2.1.length seen r) (Nat.lt_succ_self _) (fun S => by
      simp only [f33.s1, at_end, cond_false, someL]) (fun S i v r hi hv hr ih => by
      simp only [f33.s1, at_lt hi, at_ge, at_le hi, at_get hv, at_take, nx (show i ≤ _ by omega), Bool.and_self, cond_true, F53_some (okB_take ho i) v, Option.bind_some, cond_or', ih, someL]
      cases decide (v < 0) || decide (v ≥ (x.1.2.1.length : Int)) with
      | true => rfl
      | false =>
        simp only [cond_false]
        cases (x.2.take i).any (fun w => w == v) <;> rfl)
  simp only [f33.g, key, someS, cond_or']
  have e1 : decide ((x.2.length : Int) < (1 : Int)) = decide (x.2.length < 1) := len_lt _ 1
  have e2 : decide ((x.2.length : Int) > (64 : Int)) = decide (x.2.length > 64) := len_gt _ 64
  rw [e1, e2]
  cases decide (x.2.length < 1) || decide (x.2.length > 64) <;> rfl
theorem con33_ok : ConOk Tryz.prog 33 con33 := f33.ok spec33 con53_ok

end Go.Proofs.YtfgfdpbeddnfhaaGreatDoor.AI
