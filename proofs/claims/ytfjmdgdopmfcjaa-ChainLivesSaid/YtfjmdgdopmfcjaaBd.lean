/- The plain laws of the runs: loops over lists. -/
import Derived.Test.YtfjmdgdopmfcjaaBc
set_option linter.unusedVariables false
set_option linter.unusedSimpArgs false
namespace Go.Proofs.Ytfjmdgdopmfcjaa.AI
open Go

theorem wrap_ok {n : Int} (h1 : -9223372036854775808 ≤ n) (h2 : n ≤ 9223372036854775807) : IntKind.wrap .i64 n = n := by
  simp [IntKind.wrap, IntKind.min, IntKind.max, IntKind.signed, IntKind.bits]
  omega

/-- A loop over a list by its places. -/
theorem iter_list {α σ β R : Type} {step : (β → Option R) → β → Option R} (l : List α) (enc : Nat → σ → β) (I : Nat → σ → Prop) (f : Nat → σ → List α → Option R)
    (hend : ∀ S a, I l.length a → step S (enc l.length a) = f l.length a [])
    (hstep : ∀ S i a v r, i < l.length → l[i]? = some v → l.drop (i + 1) = r → I i a → (∀ a', I (i + 1) a' → S (enc (i + 1) a') = f (i + 1) a' r) → step S (enc i a) = f i a (v :: r)) :
    ∀ (r : List α) (i : Nat), l.drop i = r → i ≤ l.length → ∀ m a, I i a → r.length < m → iter step m (enc i a) = f i a r
  | [], i, hd, hi, m, a, hI, hm => by
    have hl : l.length ≤ i := List.drop_eq_nil_iff.1 hd
    have : i = l.length := by omega
    subst this
    cases m with
    | zero => simp at hm
    | succ m => exact hend _ a hI
  | v :: r, i, hd, hi, m, a, hI, hm => by
    have hlt : i < l.length := by
      rcases Nat.lt_or_ge i l.length with h | h
      · exact h
      · rw [List.drop_eq_nil_iff.2 h] at hd; cases hd
    have hv : l[i]? = some v := by
      have := congrArg List.head? hd
      rw [List.head?_drop] at this
      simpa using this
    have hr : l.drop (i + 1) = r := by
      have := congrArg List.tail hd
      rw [List.tail_drop] at this
      simpa using this
    cases m with
    | zero => simp at hm
    | succ m => exact hstep _ i a v r hlt hv hr hI (fun a' hI' => iter_list l enc I f hend hstep r (i + 1) hr (by omega) m a' hI' (by simp at hm; omega))

theorem iter_all {α σ β R : Type} {step : (β → Option R) → β → Option R} (l : List α) (enc : Nat → σ → β) (I : Nat → σ → Prop) (f : Nat → σ → List α → Option R)
    (hend : ∀ S a, I l.length a → step S (enc l.length a) = f l.length a [])
    (hstep : ∀ S i a v r, i < l.length → l[i]? = some v → l.drop (i + 1) = r → I i a → (∀ a', I (i + 1) a' → S (enc (i + 1) a') = f (i + 1) a' r) → step S (enc i a) = f i a (v :: r))
    (a : σ) (hI : I 0 a) : iter step (l.length + 1) (enc 0 a) = f 0 a l :=
  iter_list l enc I f hend hstep l 0 rfl (Nat.zero_le _) _ a hI (by omega)

theorem okL_iff {α : Type} {l : List α} : okL l = true ↔ l.length * 40 ≤ 140737488355328 := by
  unfold okL
  rw [decide_eq_true_iff]
  exact Iff.rfl

/-- What a place inside a list is worth. -/
theorem at_lt {α : Type} {l : List α} {i : Nat} (h : i < l.length) : decide ((i : Int) < (l.length : Int)) = true := by simp; exact h
theorem at_end {α : Type} (l : List α) : decide ((l.length : Int) < (l.length : Int)) = false := by simp
theorem at_ge (i : Nat) : decide (0 ≤ (i : Int)) = true := by simp
theorem at_get {α : Type} {l : List α} {i : Nat} {v d : α} (h : l[i]? = some v) : l.getD (i : Int).toNat d = v := by simp [List.getD, h]
theorem at_next {α : Type} {l : List α} {i : Nat} (ho : okL l = true) (h : i < l.length) : IntKind.wrap .i64 ((i : Int) + 1) = ((i + 1 : Nat) : Int) := by
  have := okL_iff.1 ho
  rw [wrap_ok (by omega) (by omega)]; simp
theorem at_prev {i : Nat} (h : 0 < i) (h2 : i ≤ 140737488355328) : IntKind.wrap .i64 ((i : Int) - 1) = ((i - 1 : Nat) : Int) := by
  rw [wrap_ok (by omega) (by omega)]; omega

theorem some_bif {α : Type} {c : Bool} {x y : α} (h : (bif c then some x else none) = some y) : c = true ∧ x = y := by
  cases c with
  | true => exact ⟨rfl, Option.some.inj h⟩
  | false => cases h

/-! ### First places -/
theorem idx_loop {α : Type} {l : List α} (p : α → Bool) {step : (Int → Option Int) → Int → Option Int}
    (hend : ∀ S, step S (l.length : Int) = some (-1))
    (hstep : ∀ S i v, i < l.length → l[i]? = some v → step S (i : Int) = bif p v then some (i : Int) else S ((i + 1 : Nat) : Int)) :
    iter step (l.length + 1) 0 = some (idxI p l) := by
  have := iter_all (step := step) l (fun i (_ : Unit) => (i : Int)) (fun _ _ => True) (fun i _ r => some (match r.findIdx? p with | some j => ((i + j : Nat) : Int) | none => -1))
    (fun S a _ => by simp [hend]) (fun S i a v r hi hv hr _ ih => by
      rw [hstep S i v hi hv, List.findIdx?_cons]
      cases hp : p v with
      | true => simp
      | false =>
        have := ih () trivial
        rw [cond_false, this]
        simp only [Bool.false_eq_true, if_false]
        cases r.findIdx? p with
        | none => rfl
        | some j => simp; omega) () trivial
  simp only [Int.natCast_zero, Nat.zero_add] at this
  exact this

theorem spec42a : ∀ X Y, F42a X = some Y → ∃ n, f42a.g n X = some Y := by
  intro x y h
  obtain ⟨ho, rfl⟩ := some_bif h
  refine ⟨x.1.length + 1, idx_loop _ (fun S => ?_) (fun S i v hi hv => ?_)⟩
  · simp only [f42a.s1, at_end, cond_false]
  · simp only [f42a.s1, at_lt hi, at_ge, at_get hv, at_next ho hi, Bool.and_self, cond_true]
theorem spec42b : ∀ X Y, F42b X = some Y → ∃ n, f42b.g n X = some Y := by
  intro x y h
  obtain ⟨ho, rfl⟩ := some_bif h
  refine ⟨x.1.length + 1, idx_loop _ (fun S => ?_) (fun S i v hi hv => ?_)⟩
  · simp only [f42b.s1, at_end, cond_false]
  · simp only [f42b.s1, at_lt hi, at_ge, at_get hv, at_next ho hi, Bool.and_self, cond_true]
    cases decide (v.1 > x.2.1) <;> rfl
theorem spec42c : ∀ X Y, F42c X = some Y → ∃ n, f42c.g n X = some Y := by
  intro x y h
  obtain ⟨ho, rfl⟩ := some_bif h
  refine ⟨x.1.length + 1, idx_loop _ (fun S => ?_) (fun S i v hi hv => ?_)⟩
  · simp only [f42c.s1, at_end, cond_false]
  · simp only [f42c.s1, at_lt hi, at_ge, at_get hv, at_next ho hi, Bool.and_self, cond_true]
theorem spec26 : ∀ X Y, F26 X = some Y → ∃ n, f26.g n X = some Y := by
  intro x y h
  obtain ⟨ho, rfl⟩ := some_bif (show (bif okL x.1 then _ else _) = _ from h)
  refine ⟨x.1.length + 1, idx_loop _ (fun S => ?_) (fun S i v hi hv => ?_)⟩
  · simp only [f26.s1, at_end, cond_false]
  · simp only [f26.s1, at_lt hi, at_ge, at_get hv, at_next ho hi, Bool.and_self, cond_true]
theorem con42_ok : ConOk Try.prog 42 con42 := orCon_ok (f42a.ok spec42a) (orCon_ok (f42b.ok spec42b) (f42c.ok spec42c))
theorem spec15 : ∀ X Y, F15 X = some Y → ∃ n, f15.g n X = some Y := by
  intro x y h
  refine ⟨0, ?_⟩
  simp only [f15.g, show F42a x = some y from h, Option.bind_some]
theorem con15_ok : ConOk Try.prog 15 con15 := f15.ok spec15 con42_ok
theorem con26_ok : ConOk Try.prog 26 con26 := f26.ok spec26

theorem spec13 : ∀ X Y, F13 X = some Y → ∃ n, f13.g n X = some Y := by
  intro x y h
  refine ⟨0, ?_⟩
  cases h
  rfl
theorem con13_ok : ConOk Try.prog 13 con13 := f13.ok spec13 con15_ok

/-! ### Life -/
theorem spec14 : ∀ X Y, F14 X = some Y → ∃ n, f14.g n X = some Y := by
  intro x y h
  obtain ⟨ho, rfl⟩ := some_bif h
  refine ⟨0, ?_⟩
  have hl := okL_iff.1 ho
  unfold f14.g lifeS
  by_cases h1 : x.2 < 0
  · simp [h1]
  · by_cases h2 : x.2 ≥ (x.1.length : Int)
    · simp [h1, h2]
    · have e1 : IntKind.wrap .i64 (x.2 - 1) = x.2 - 1 := wrap_ok (by omega) (by omega)
      simp only [e1]
      by_cases h3 : x.2 > 0
      · have a1 : decide (0 ≤ x.2 - 1) = true := by simp; omega
        have a2 : decide (x.2 - 1 < (x.1.length : Int)) = true := by simp; omega
        have a3 : decide (0 ≤ x.2) = true := by simp; omega
        have a4 : decide (x.2 < (x.1.length : Int)) = true := by simp; omega
        simp only [h1, h2, h3, a1, a2, a3, a4, decide_true, decide_false, Bool.or_self, Bool.and_self, cond_true, cond_false]
      · have a3 : decide (0 ≤ x.2) = true := by simp; omega
        have a4 : decide (x.2 < (x.1.length : Int)) = true := by simp; omega
        simp [h1, h2, h3, a3, a4]
theorem con14_ok : ConOk Try.prog 14 con14 := f14.ok spec14

/-! ### May -/
theorem may_tail (l : List dVersion) (i : Nat) (v : dVersion) (r : List dVersion) (p : Option Int) : mayP p (v :: r) = (mayV v && (match p with | some q => decide (v.1 < q) | none => true) && mayP (some v.1) r) := rfl

def prevOf {α : Type} (l : List α) (i : Nat) : Option α := if i = 0 then none else l[i - 1]?

theorem prev_succ {α : Type} {l : List α} {i : Nat} {v : α} (h : l[i]? = some v) : prevOf l (i + 1) = some v := by simp [prevOf, h]

theorem spec12 : ∀ X Y, F12 X = some Y → ∃ n, f12.g n X = some Y := by
  intro x y h
  obtain ⟨ho, rfl⟩ := some_bif h
  have hl := okL_iff.1 ho
  refine ⟨x.length + 1, ?_⟩
  have := iter_all (step := f12.s1 (x.length + 1) x) x (fun i (_ : Unit) => (i : Int)) (fun _ _ => True) (fun i _ r => some (mayP ((prevOf x i).map (·.1)) r))
    (fun S a _ => by simp only [f12.s1, at_end, cond_false]; rfl) (fun S i a v r hi hv hr _ ih => by
      have ih' := ih () trivial
      simp only [prev_succ hv, Option.map_some] at ih'
      simp only [f12.s1, at_lt hi, at_ge, at_get hv, at_next ho hi, Bool.and_self, cond_true, ih', may_tail x i v r]
      have hbad : (bif bif decide (v.1 < 1) then true else decide (v.1 > 4611686018427387904) then true else bif v.2.1 then decide ((v.2.2.length : Int) > 0) else false) = !mayV v := by
        unfold mayV maxStamp
        by_cases h1 : v.1 < 1 <;> by_cases h2 : v.1 > 4611686018427387904 <;> cases v.2.1 <;> simp [h1, h2] <;> omega
      rw [hbad]
      cases mayV v with
      | false => rfl
      | true =>
        simp only [Bool.not_true, cond_false, Bool.true_and]
        by_cases h0 : i = 0
        · subst h0
          simp [prevOf]
        · have hp : ∃ u, x[i - 1]? = some u := ⟨x[i - 1], List.getElem?_eq_getElem (by omega)⟩
          obtain ⟨u, hu⟩ := hp
          have e1 : IntKind.wrap .i64 ((i : Int) - 1) = ((i - 1 : Nat) : Int) := at_prev (by omega) (by omega)
          have e2 : decide ((i : Int) > 0) = true := by simp; omega
          simp only [e1, e2, cond_true, at_ge, at_get hu, at_lt (show i - 1 < x.length by omega), Bool.and_self, prevOf, if_neg h0, hu, Option.map_some]
          by_cases h3 : v.1 < u.1
          · have : decide (v.1 ≥ u.1) = false := by simp; omega
            simp [this, h3]
          · have : decide (v.1 ≥ u.1) = true := by simp; omega
            simp [this, h3]) () trivial
  exact this
theorem con12_ok : ConOk Try.prog 12 con12 := f12.ok spec12


theorem mayP_pair : ∀ (l : List dVersion) (p : Option Int), mayP p l = true → (∀ v ∈ l, mayV v = true) ∧ (∀ q, p = some q → ∀ v ∈ l, v.1 < q) ∧ l.Pairwise fun a b => b.1 < a.1
  | [], p, _ => ⟨fun v hv => (by cases hv), fun q _ v hv => (by cases hv), List.Pairwise.nil⟩
  | v :: r, p, h => by
    rw [may_tail (v :: r) 0, Bool.and_eq_true, Bool.and_eq_true] at h
    obtain ⟨⟨h1, h2⟩, h3⟩ := h
    obtain ⟨a1, a2, a3⟩ := mayP_pair r (some v.1) h3
    refine ⟨fun u hu => ?_, fun q hq u hu => ?_, List.pairwise_cons.2 ⟨fun u hu => a2 _ rfl u hu, a3⟩⟩
    · rcases List.mem_cons.1 hu with rfl | hu
      · exact h1
      · exact a1 u hu
    · subst hq
      have h2' : v.1 < q := by simpa using h2
      rcases List.mem_cons.1 hu with rfl | hu
      · exact h2'
      · have := a2 _ rfl u hu; omega

theorem pair_get {α : Type} {R : α → α → Prop} {l : List α} (h : l.Pairwise R) {i j : Nat} {a b : α} (hij : i < j) (ha : l[i]? = some a) (hb : l[j]? = some b) : R a b := by
  obtain ⟨h1, rfl⟩ := List.getElem?_eq_some_iff.1 ha
  obtain ⟨h2, rfl⟩ := List.getElem?_eq_some_iff.1 hb
  exact List.pairwise_iff_getElem.1 h i j h1 h2 hij

/-! ### Lives -/
def inAt (l : List dVersion) (s : Int) (i : Nat) : Int := idxI (fun v => decide (v.1 ≤ s)) (l.take i)

theorem idx_take_succ {α : Type} {l : List α} {p : α → Bool} {i : Nat} {v : α} (hv : l[i]? = some v) : idxI p (l.take (i + 1)) = bif decide (idxI p (l.take i) ≥ 0) then idxI p (l.take i) else bif p v then (i : Int) else -1 := by
  obtain ⟨hlt, rfl⟩ := List.getElem?_eq_some_iff.1 hv
  unfold idxI
  rw [List.take_add_one, List.getElem?_eq_getElem hlt, Option.toList_some, List.findIdx?_append]
  cases h : List.findIdx? p (l.take i) with
  | some j => simp
  | none =>
    simp only [Option.none_or, List.findIdx?_cons, List.findIdx?_nil]
    cases p l[i] <;> simp [Nat.min_eq_left (Nat.le_of_lt hlt)]

theorem idx_none {α : Type} {p : α → Bool} {l : List α} (h : ∀ v ∈ l, p v = false) : idxI p l = -1 := by
  unfold idxI
  rw [List.findIdx?_eq_none_iff.2 h]

theorem idx_ge {α : Type} {p : α → Bool} {l : List α} (h : ∃ v ∈ l, p v = true) : 0 ≤ idxI p l := by
  unfold idxI
  cases hf : List.findIdx? p l with
  | some j => simp
  | none =>
    obtain ⟨v, hv, hp⟩ := h
    rw [List.findIdx?_eq_none_iff.1 hf v hv] at hp; cases hp

theorem wf_okL {t : Ty} (ht : t.bytes = 40) {l : List t.den} (h : (Ty.sl t).wf l) : okL l = true := by
  have h1 : l.length * t.bytes ≤ reachBytes := h.1
  rw [ht] at h1
  refine okL_iff.2 ?_
  have : reachBytes = 140737488351232 := rfl
  omega

theorem F15_some {l : List dVersion} {s : Int} (ho : okL l = true) : F15 (l, s) = some (idxI (fun v => decide (v.1 ≤ s)) l) := by
  show (bif okL l then _ else _) = _
  rw [ho]; rfl
theorem F12_some {l : List dVersion} (ho : okL l = true) : F12 l = some (mayP none l) := by unfold F12; rw [ho]; rfl
theorem F14_some {l : List dVersion} {p : Int} (ho : okL l = true) : F14 (l, p) = some (lifeS l p) := by
  show (bif okL l then _ else _) = _
  rw [ho]; rfl

def endAt (l : List dVersion) (i : Nat) : Int := match prevOf l i with | some u => u.1 | none => 0

theorem life_at {l : List dVersion} {i : Nat} {v : dVersion} (hv : l[i]? = some v) : lifeS l (i : Int) = (v.1, endAt l i, 0) := by
  obtain ⟨hlt, rfl⟩ := List.getElem?_eq_some_iff.1 hv
  unfold lifeS endAt
  have h1 : decide ((i : Int) < 0) = false := by simp
  have h2 : decide ((i : Int) ≥ (l.length : Int)) = false := by simp; omega
  simp only [h1, h2, Bool.or_self, cond_false, at_get hv]
  by_cases h0 : i = 0
  · subst h0; rfl
  · have h3 : decide ((i : Int) > 0) = true := by simp; omega
    have h4 : ((i : Int) - 1).toNat = i - 1 := by omega
    have h5 : l[i - 1]? = some l[i - 1] := List.getElem?_eq_getElem (by omega)
    simp only [h3, cond_true, h4, prevOf, if_neg h0, h5, List.getD, Option.getD_some]

theorem spec3 : ∀ (X : List dVersion × Int) (Y : Bool), FL [(false, .sl tVersion), (false, .int .u64)] X = some Y → ∃ n, f3.g n X = some Y := by
  intro x y h
  obtain ⟨hw, rfl⟩ := FL_some h
  have hw1 : (Ty.sl tVersion).wf x.1 := hw.1
  have ho : okL x.1 = true := wf_okL (t := tVersion) rfl hw1
  have hl := okL_iff.1 ho
  refine ⟨x.1.length + 1, ?_⟩
  unfold f3.g
  simp only [F12_some ho, Option.bind_some]
  cases hm : mayP none x.1 with
  | false => rfl
  | true =>
    simp only [Bool.not_true, cond_false]
    obtain ⟨m1, _, m3⟩ := mayP_pair x.1 none hm
    have pos : ∀ v ∈ x.1, 1 ≤ v.1 := fun v hv => by
      have := m1 v hv
      simp only [mayV, Bool.and_eq_true, decide_eq_true_eq] at this
      exact this.1.1
    have key := iter_all (step := f3.s1 (x.1.length + 1) x true) x.1 (fun i (a : Int × Int) => (a.1, (a.2, (i : Int))))
      (fun i a => a.1 = inAt x.1 x.2 i ∧ a.2 = endAt x.1 i) (fun _ _ _ => some true)
      (fun S a ha => by
        simp only [f3.s1, at_end, cond_false]
        rw [show F15 x = some (idxI (fun v => decide (v.1 ≤ x.2)) x.1) from F15_some ho]
        have e : a.1 = idxI (fun v => decide (v.1 ≤ x.2)) x.1 := by rw [ha.1]; unfold inAt; rw [List.take_length]
        simp only [Option.bind_some, e, beq_self_eq_true, cond_true]
        rfl) (fun S i a v r hi hv hr hI ih => by
        obtain ⟨h1, h2⟩ := hI
        have hvm : v ∈ x.1 := List.mem_of_getElem? hv
        have hvp := pos v hvm
        simp only [f3.s1, at_lt hi, cond_true, F14_some ho, Option.bind_some, life_at hv, at_ge, Bool.and_self, at_get hv, at_next ho hi, bne_self_eq_false, cond_false]
        have e2 : (endAt x.1 i != a.2) = false := by rw [h2]; simp
        simp only [e2, cond_false]
        -- what the life says of the stamp
        have next : ∀ c, c = inAt x.1 x.2 (i + 1) → S (c, (v.1, ((i + 1 : Nat) : Int))) = some true := fun c hc => ih (c, v.1) ⟨hc, by simp only [endAt, prev_succ hv]⟩
        have hin : inAt x.1 x.2 (i + 1) = bif decide (inAt x.1 x.2 i ≥ 0) then inAt x.1 x.2 i else bif decide (v.1 ≤ x.2) then (i : Int) else -1 := idx_take_succ hv
        -- nothing ahead is seen where the one before is not
        have ahead : ∀ u, prevOf x.1 i = some u → x.2 < u.1 → inAt x.1 x.2 i = -1 := fun u hu hlt => by
          refine idx_none (fun q hq => ?_)
          obtain ⟨j, hj⟩ := List.getElem?_of_mem hq
          have hjl : j < i := by
            have := (List.getElem?_eq_some_iff.1 hj).1
            simp at this; omega
          rw [List.getElem?_take, if_pos hjl] at hj
          unfold prevOf at hu
          split at hu
          · omega
          · by_cases e : j = i - 1
            · subst e
              rw [hj] at hu; cases hu
              simp; omega
            · have : u.1 < q.1 := pair_get m3 (show j < i - 1 by omega) hj hu
              simp; omega
        have behind : ∀ u, prevOf x.1 i = some u → ¬ x.2 < u.1 → 0 ≤ inAt x.1 x.2 i := fun u hu hge => by
          refine idx_ge ⟨u, ?_, by simp; omega⟩
          unfold prevOf at hu
          split at hu
          · cases hu
          · have : (x.1.take i)[i - 1]? = some u := by rw [List.getElem?_take, if_pos (by omega)]; exact hu
            exact List.mem_of_getElem? this
        by_cases hs : x.2 ≥ v.1
        · have hs1 : decide (x.2 ≥ v.1) = true := by simp; exact hs
          have hs2 : decide (v.1 ≤ x.2) = true := by simp; omega
          simp only [hs1, cond_true]
          unfold endAt
          cases hp : prevOf x.1 i with
          | none =>
            have hi0 : i = 0 := by
              unfold prevOf at hp
              split at hp
              · assumption
              · rw [List.getElem?_eq_getElem (by omega)] at hp; cases hp
            subst hi0
            have e3 : a.1 = -1 := by rw [h1]; rfl
            simp only [beq_self_eq_true, cond_true, e3]
            have : decide ((-1 : Int) ≥ 0) = false := by decide
            simp only [this, cond_false]
            refine next _ ?_
            rw [hin, hs2]
            rfl
          | some u =>
            have hup : 1 ≤ u.1 := by
              unfold prevOf at hp
              split at hp
              · cases hp
              · exact pos u (List.mem_of_getElem? hp)
            have e4 : (u.1 == (0 : Int)) = false := by simp; omega
            simp only [e4, cond_false]
            by_cases hu : x.2 < u.1
            · have e5 : decide (x.2 < u.1) = true := by simp; exact hu
              have e6 := ahead u hp hu
              simp only [e5, cond_true]
              have e7 : decide (a.1 ≥ 0) = false := by rw [h1, e6]; decide
              simp only [e7, cond_false]
              refine next _ ?_
              rw [hin, hs2, e6]
              rfl
            · have e5 : decide (x.2 < u.1) = false := by simp; omega
              simp only [e5, cond_false]
              refine next _ ?_
              have e6 := behind u hp hu
              rw [hin, h1]
              have : decide (inAt x.1 x.2 i ≥ 0) = true := by simp; exact e6
              rw [this]; rfl
        · have hs1 : decide (x.2 ≥ v.1) = false := by simp; omega
          have hs2 : decide (v.1 ≤ x.2) = false := by simp; omega
          simp only [hs1, cond_false]
          refine next _ ?_
          rw [hin, hs2, h1]
          by_cases e : inAt x.1 x.2 i ≥ 0
          · have : decide (inAt x.1 x.2 i ≥ 0) = true := by simp; exact e
            rw [this]; rfl
          · have : decide (inAt x.1 x.2 i ≥ 0) = false := by simp; omega
            rw [this]
            -- a place is -1 or none below it
            unfold inAt idxI at e ⊢
            cases hq : List.findIdx? (fun v => decide (v.1 ≤ x.2)) (x.1.take i) with
            | some j => rw [hq] at e; simp at e
            | none => rfl) ((-1 : Int), (0 : Int)) ⟨rfl, rfl⟩
    exact key
theorem con3_ok : ConOk Try.prog 3 con3 := f3.ok spec3 con12_ok con13_ok con14_ok con15_ok

end Go.Proofs.Ytfjmdgdopmfcjaa.AI
