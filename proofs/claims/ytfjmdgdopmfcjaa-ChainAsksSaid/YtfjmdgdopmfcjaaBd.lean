/- The plain laws of the runs: loops over lists. -/
import Derived.Test.YtfjmdgdopmfcjaaBc
import Derived.Laws.Strings
set_option linter.unusedVariables false
set_option linter.unusedSimpArgs false
namespace Go.Proofs.Ytfjmdgdopmfcjaa.AI
open Go

theorem wrap_ok {n : Int} (h1 : -9223372036854775808 ≤ n) (h2 : n ≤ 9223372036854775807) : IntKind.wrap .i64 n = n := by
  simp [IntKind.wrap, IntKind.min, IntKind.max, IntKind.signed, IntKind.bits]
  omega

/-- A loop over a list by its places. -/
theorem iter_list {α σ β R : Type} {step : (β → Option R) → β → Option R} (l : List α) (enc : Nat → σ → β) (I : Nat → σ → Prop) (f : Nat → σ → List α → Option R)
    (hend : ∀ S a, I l.length a → step S (enc l.length a) = f l.length a [])
    (hstep : ∀ S i a v r, i < l.length → l[i]? = some v → l.drop (i + 1) = r → I i a → (∀ a', I (i + 1) a' → S (enc (i + 1) a') = f (i + 1) a' r) → step S (enc i a) = f i a (v :: r)) :
    ∀ (r : List α) (i : Nat), l.drop i = r → i ≤ l.length → ∀ m a, I i a → r.length < m → iter step m (enc i a) = f i a r
  | [], i, hd, hi, m, a, hI, hm => by
    have hl : l.length ≤ i := List.drop_eq_nil_iff.1 hd
    have : i = l.length := by omega
    subst this
    cases m with
    | zero => simp at hm
    | succ m => exact hend _ a hI
  | v :: r, i, hd, hi, m, a, hI, hm => by
    have hlt : i < l.length := by
      rcases Nat.lt_or_ge i l.length with h | h
      · exact h
      · rw [List.drop_eq_nil_iff.2 h] at hd; cases hd
    have hv : l[i]? = some v := by
      have := congrArg List.head? hd
      rw [List.head?_drop] at this
      simpa using this
    have hr : l.drop (i + 1) = r := by
      have := congrArg List.tail hd
      rw [List.tail_drop] at this
      simpa using this
    cases m with
    | zero => simp at hm
    | succ m => exact hstep _ i a v r hlt hv hr hI (fun a' hI' => iter_list l enc I f hend hstep r (i + 1) hr (by omega) m a' hI' (by simp at hm; omega))

theorem iter_all {α σ β R : Type} {step : (β → Option R) → β → Option R} (l : List α) (enc : Nat → σ → β) (I : Nat → σ → Prop) (f : Nat → σ → List α → Option R)
    (hend : ∀ S a, I l.length a → step S (enc l.length a) = f l.length a [])
    (hstep : ∀ S i a v r, i < l.length → l[i]? = some v → l.drop (i + 1) = r → I i a → (∀ a', I (i + 1) a' → S (enc (i + 1) a') = f (i + 1) a' r) → step S (enc i a) = f i a (v :: r))
    (a : σ) (hI : I 0 a) : iter step (l.length + 1) (enc 0 a) = f 0 a l :=
  iter_list l enc I f hend hstep l 0 rfl (Nat.zero_le _) _ a hI (by omega)

theorem okL_iff {α : Type} {l : List α} : okL l = true ↔ l.length * 40 ≤ 140737488355328 := by
  unfold okL
  rw [decide_eq_true_iff]
  exact Iff.rfl

/-- What a place inside a list is worth. -/
theorem at_lt {α : Type} {l : List α} {i : Nat} (h : i < l.length) : decide ((i : Int) < (l.length : Int)) = true := by simp; exact h
theorem at_end {α : Type} (l : List α) : decide ((l.length : Int) < (l.length : Int)) = false := by simp
theorem at_ge (i : Nat) : decide (0 ≤ (i : Int)) = true := by simp
theorem at_get {α : Type} {l : List α} {i : Nat} {v d : α} (h : l[i]? = some v) : l.getD (i : Int).toNat d = v := by simp [List.getD, h]
theorem at_next {α : Type} {l : List α} {i : Nat} (ho : okL l = true) (h : i < l.length) : IntKind.wrap .i64 ((i : Int) + 1) = ((i + 1 : Nat) : Int) := by
  have := okL_iff.1 ho
  rw [wrap_ok (by omega) (by omega)]; simp
theorem at_prev {i : Nat} (h : 0 < i) (h2 : i ≤ 140737488355328) : IntKind.wrap .i64 ((i : Int) - 1) = ((i - 1 : Nat) : Int) := by
  rw [wrap_ok (by omega) (by omega)]; omega

theorem some_bif {α : Type} {c : Bool} {x y : α} (h : (bif c then some x else none) = some y) : c = true ∧ x = y := by
  cases c with
  | true => exact ⟨rfl, Option.some.inj h⟩
  | false => cases h

/-! ### First places -/
theorem idx_loop {α : Type} {l : List α} (p : α → Bool) {step : (Int → Option Int) → Int → Option Int}
    (hend : ∀ S, step S (l.length : Int) = some (-1))
    (hstep : ∀ S i v, i < l.length → l[i]? = some v → step S (i : Int) = bif p v then some (i : Int) else S ((i + 1 : Nat) : Int)) :
    iter step (l.length + 1) 0 = some (idxI p l) := by
  have := iter_all (step := step) l (fun i (_ : Unit) => (i : Int)) (fun _ _ => True) (fun i _ r => some (match r.findIdx? p with | some j => ((i + j : Nat) : Int) | none => -1))
    (fun S a _ => by simp [hend]) (fun S i a v r hi hv hr _ ih => by
      rw [hstep S i v hi hv, List.findIdx?_cons]
      cases hp : p v with
      | true => simp
      | false =>
        have := ih () trivial
        rw [cond_false, this]
        simp only [Bool.false_eq_true, if_false]
        cases r.findIdx? p with
        | none => rfl
        | some j => simp; omega) () trivial
  simp only [Int.natCast_zero, Nat.zero_add] at this
  exact this

theorem spec42a : ∀ X Y, F42a X = some Y → ∃ n, f42a.g n X = some Y := by
  intro x y h
  obtain ⟨ho, rfl⟩ := some_bif h
  refine ⟨x.1.length + 1, idx_loop _ (fun S => ?_) (fun S i v hi hv => ?_)⟩
  · simp only [f42a.s1, at_end, cond_false]
  · simp only [f42a.s1, at_lt hi, at_ge, at_get hv, at_next ho hi, Bool.and_self, cond_true]
theorem spec42b : ∀ X Y, F42b X = some Y → ∃ n, f42b.g n X = some Y := by
  intro x y h
  obtain ⟨ho, rfl⟩ := some_bif h
  refine ⟨x.1.length + 1, idx_loop _ (fun S => ?_) (fun S i v hi hv => ?_)⟩
  · simp only [f42b.s1, at_end, cond_false]
  · simp only [f42b.s1, at_lt hi, at_ge, at_get hv, at_next ho hi, Bool.and_self, cond_true]
    cases decide (v.1 > x.2.1) <;> rfl
theorem spec42c : ∀ X Y, F42c X = some Y → ∃ n, f42c.g n X = some Y := by
  intro x y h
  obtain ⟨ho, rfl⟩ := some_bif h
  refine ⟨x.1.length + 1, idx_loop _ (fun S => ?_) (fun S i v hi hv => ?_)⟩
  · simp only [f42c.s1, at_end, cond_false]
  · simp only [f42c.s1, at_lt hi, at_ge, at_get hv, at_next ho hi, Bool.and_self, cond_true]
theorem spec26 : ∀ X Y, F26 X = some Y → ∃ n, f26.g n X = some Y := by
  intro x y h
  obtain ⟨ho, rfl⟩ := some_bif (show (bif okL x.1 then _ else _) = _ from h)
  refine ⟨x.1.length + 1, idx_loop _ (fun S => ?_) (fun S i v hi hv => ?_)⟩
  · simp only [f26.s1, at_end, cond_false]
  · simp only [f26.s1, at_lt hi, at_ge, at_get hv, at_next ho hi, Bool.and_self, cond_true]
theorem con42_ok : ConOk Try.prog 42 con42 := orCon_ok (f42a.ok spec42a) (orCon_ok (f42b.ok spec42b) (f42c.ok spec42c))
theorem spec15 : ∀ X Y, F15 X = some Y → ∃ n, f15.g n X = some Y := by
  intro x y h
  refine ⟨0, ?_⟩
  simp only [f15.g, show F42a x = some y from h, Option.bind_some]
theorem con15_ok : ConOk Try.prog 15 con15 := f15.ok spec15 con42_ok
theorem con26_ok : ConOk Try.prog 26 con26 := f26.ok spec26

theorem spec13 : ∀ X Y, F13 X = some Y → ∃ n, f13.g n X = some Y := by
  intro x y h
  refine ⟨0, ?_⟩
  cases h
  rfl
theorem con13_ok : ConOk Try.prog 13 con13 := f13.ok spec13 con15_ok

/-! ### Life -/
theorem spec14 : ∀ X Y, F14 X = some Y → ∃ n, f14.g n X = some Y := by
  intro x y h
  obtain ⟨ho, rfl⟩ := some_bif h
  refine ⟨0, ?_⟩
  have hl := okL_iff.1 ho
  unfold f14.g lifeS
  by_cases h1 : x.2 < 0
  · simp [h1]
  · by_cases h2 : x.2 ≥ (x.1.length : Int)
    · simp [h1, h2]
    · have e1 : IntKind.wrap .i64 (x.2 - 1) = x.2 - 1 := wrap_ok (by omega) (by omega)
      simp only [e1]
      by_cases h3 : x.2 > 0
      · have a1 : decide (0 ≤ x.2 - 1) = true := by simp; omega
        have a2 : decide (x.2 - 1 < (x.1.length : Int)) = true := by simp; omega
        have a3 : decide (0 ≤ x.2) = true := by simp; omega
        have a4 : decide (x.2 < (x.1.length : Int)) = true := by simp; omega
        simp only [h1, h2, h3, a1, a2, a3, a4, decide_true, decide_false, Bool.or_self, Bool.and_self, cond_true, cond_false]
      · have a3 : decide (0 ≤ x.2) = true := by simp; omega
        have a4 : decide (x.2 < (x.1.length : Int)) = true := by simp; omega
        simp [h1, h2, h3, a3, a4]
theorem con14_ok : ConOk Try.prog 14 con14 := f14.ok spec14

/-! ### May -/
theorem may_tail (l : List dVersion) (i : Nat) (v : dVersion) (r : List dVersion) (p : Option Int) : mayP p (v :: r) = (mayV v && (match p with | some q => decide (v.1 < q) | none => true) && mayP (some v.1) r) := rfl

def prevOf {α : Type} (l : List α) (i : Nat) : Option α := if i = 0 then none else l[i - 1]?

theorem prev_succ {α : Type} {l : List α} {i : Nat} {v : α} (h : l[i]? = some v) : prevOf l (i + 1) = some v := by simp [prevOf, h]

theorem spec12 : ∀ X Y, F12 X = some Y → ∃ n, f12.g n X = some Y := by
  intro x y h
  obtain ⟨ho, rfl⟩ := some_bif h
  have hl := okL_iff.1 ho
  refine ⟨x.length + 1, ?_⟩
  have := iter_all (step := f12.s1 (x.length + 1) x) x (fun i (_ : Unit) => (i : Int)) (fun _ _ => True) (fun i _ r => some (mayP ((prevOf x i).map (·.1)) r))
    (fun S a _ => by simp only [f12.s1, at_end, cond_false]; rfl) (fun S i a v r hi hv hr _ ih => by
      have ih' := ih () trivial
      simp only [prev_succ hv, Option.map_some] at ih'
      simp only [f12.s1, at_lt hi, at_ge, at_get hv, at_next ho hi, Bool.and_self, cond_true, ih', may_tail x i v r]
      have hbad : (bif bif decide (v.1 < 1) then true else decide (v.1 > 4611686018427387904) then true else bif v.2.1 then decide ((v.2.2.length : Int) > 0) else false) = !mayV v := by
        unfold mayV maxStamp
        by_cases h1 : v.1 < 1 <;> by_cases h2 : v.1 > 4611686018427387904 <;> cases v.2.1 <;> simp [h1, h2] <;> omega
      rw [hbad]
      cases mayV v with
      | false => rfl
      | true =>
        simp only [Bool.not_true, cond_false, Bool.true_and]
        by_cases h0 : i = 0
        · subst h0
          simp [prevOf]
        · have hp : ∃ u, x[i - 1]? = some u := ⟨x[i - 1], List.getElem?_eq_getElem (by omega)⟩
          obtain ⟨u, hu⟩ := hp
          have e1 : IntKind.wrap .i64 ((i : Int) - 1) = ((i - 1 : Nat) : Int) := at_prev (by omega) (by omega)
          have e2 : decide ((i : Int) > 0) = true := by simp; omega
          simp only [e1, e2, cond_true, at_ge, at_get hu, at_lt (show i - 1 < x.length by omega), Bool.and_self, prevOf, if_neg h0, hu, Option.map_some]
          by_cases h3 : v.1 < u.1
          · have : decide (v.1 ≥ u.1) = false := by simp; omega
            simp [this, h3]
          · have : decide (v.1 ≥ u.1) = true := by simp; omega
            simp [this, h3]) () trivial
  exact this
theorem con12_ok : ConOk Try.prog 12 con12 := f12.ok spec12


theorem mayP_pair : ∀ (l : List dVersion) (p : Option Int), mayP p l = true → (∀ v ∈ l, mayV v = true) ∧ (∀ q, p = some q → ∀ v ∈ l, v.1 < q) ∧ l.Pairwise fun a b => b.1 < a.1
  | [], p, _ => ⟨fun v hv => (by cases hv), fun q _ v hv => (by cases hv), List.Pairwise.nil⟩
  | v :: r, p, h => by
    rw [may_tail (v :: r) 0, Bool.and_eq_true, Bool.and_eq_true] at h
    obtain ⟨⟨h1, h2⟩, h3⟩ := h
    obtain ⟨a1, a2, a3⟩ := mayP_pair r (some v.1) h3
    refine ⟨fun u hu => ?_, fun q hq u hu => ?_, List.pairwise_cons.2 ⟨fun u hu => a2 _ rfl u hu, a3⟩⟩
    · rcases List.mem_cons.1 hu with rfl | hu
      · exact h1
      · exact a1 u hu
    · subst hq
      have h2' : v.1 < q := by simpa using h2
      rcases List.mem_cons.1 hu with rfl | hu
      · exact h2'
      · have := a2 _ rfl u hu; omega

theorem pair_get {α : Type} {R : α → α → Prop} {l : List α} (h : l.Pairwise R) {i j : Nat} {a b : α} (hij : i < j) (ha : l[i]? = some a) (hb : l[j]? = some b) : R a b := by
  obtain ⟨h1, rfl⟩ := List.getElem?_eq_some_iff.1 ha
  obtain ⟨h2, rfl⟩ := List.getElem?_eq_some_iff.1 hb
  exact List.pairwise_iff_getElem.1 h i j h1 h2 hij

/-! ### Lives -/
def inAt (l : List dVersion) (s : Int) (i : Nat) : Int := idxI (fun v => decide (v.1 ≤ s)) (l.take i)

theorem idx_take_succ {α : Type} {l : List α} {p : α → Bool} {i : Nat} {v : α} (hv : l[i]? = some v) : idxI p (l.take (i + 1)) = bif decide (idxI p (l.take i) ≥ 0) then idxI p (l.take i) else bif p v then (i : Int) else -1 := by
  obtain ⟨hlt, rfl⟩ := List.getElem?_eq_some_iff.1 hv
  unfold idxI
  rw [List.take_add_one, List.getElem?_eq_getElem hlt, Option.toList_some, List.findIdx?_append]
  cases h : List.findIdx? p (l.take i) with
  | some j => simp
  | none =>
    simp only [Option.none_or, List.findIdx?_cons, List.findIdx?_nil]
    cases p l[i] <;> simp [Nat.min_eq_left (Nat.le_of_lt hlt)]

theorem idx_none {α : Type} {p : α → Bool} {l : List α} (h : ∀ v ∈ l, p v = false) : idxI p l = -1 := by
  unfold idxI
  rw [List.findIdx?_eq_none_iff.2 h]

theorem idx_ge {α : Type} {p : α → Bool} {l : List α} (h : ∃ v ∈ l, p v = true) : 0 ≤ idxI p l := by
  unfold idxI
  cases hf : List.findIdx? p l with
  | some j => simp
  | none =>
    obtain ⟨v, hv, hp⟩ := h
    rw [List.findIdx?_eq_none_iff.1 hf v hv] at hp; cases hp

theorem wf_okL {t : Ty} (ht : t.bytes = 40) {l : List t.den} (h : (Ty.sl t).wf l) : okL l = true := by
  have h1 : l.length * t.bytes ≤ reachBytes := h.1
  rw [ht] at h1
  refine okL_iff.2 ?_
  have : reachBytes = 140737488351232 := rfl
  omega

theorem F15_some {l : List dVersion} {s : Int} (ho : okL l = true) : F15 (l, s) = some (idxI (fun v => decide (v.1 ≤ s)) l) := by
  show (bif okL l then _ else _) = _
  rw [ho]; rfl
theorem F12_some {l : List dVersion} (ho : okL l = true) : F12 l = some (mayP none l) := by unfold F12; rw [ho]; rfl
theorem F14_some {l : List dVersion} {p : Int} (ho : okL l = true) : F14 (l, p) = some (lifeS l p) := by
  show (bif okL l then _ else _) = _
  rw [ho]; rfl

def endAt (l : List dVersion) (i : Nat) : Int := match prevOf l i with | some u => u.1 | none => 0

theorem life_at {l : List dVersion} {i : Nat} {v : dVersion} (hv : l[i]? = some v) : lifeS l (i : Int) = (v.1, endAt l i, 0) := by
  obtain ⟨hlt, rfl⟩ := List.getElem?_eq_some_iff.1 hv
  unfold lifeS endAt
  have h1 : decide ((i : Int) < 0) = false := by simp
  have h2 : decide ((i : Int) ≥ (l.length : Int)) = false := by simp; omega
  simp only [h1, h2, Bool.or_self, cond_false, at_get hv]
  by_cases h0 : i = 0
  · subst h0; rfl
  · have h3 : decide ((i : Int) > 0) = true := by simp; omega
    have h4 : ((i : Int) - 1).toNat = i - 1 := by omega
    have h5 : l[i - 1]? = some l[i - 1] := List.getElem?_eq_getElem (by omega)
    simp only [h3, cond_true, h4, prevOf, if_neg h0, h5, List.getD, Option.getD_some]

theorem spec3 : ∀ (X : List dVersion × Int) (Y : Bool), FL [(false, .sl tVersion), (false, .int .u64)] X = some Y → ∃ n, f3.g n X = some Y := by
  intro x y h
  obtain ⟨hw, rfl⟩ := FL_some h
  have hw1 : (Ty.sl tVersion).wf x.1 := hw.1
  have ho : okL x.1 = true := wf_okL (t := tVersion) rfl hw1
  have hl := okL_iff.1 ho
  refine ⟨x.1.length + 1, ?_⟩
  unfold f3.g
  simp only [F12_some ho, Option.bind_some]
  cases hm : mayP none x.1 with
  | false => rfl
  | true =>
    simp only [Bool.not_true, cond_false]
    obtain ⟨m1, _, m3⟩ := mayP_pair x.1 none hm
    have pos : ∀ v ∈ x.1, 1 ≤ v.1 := fun v hv => by
      have := m1 v hv
      simp only [mayV, Bool.and_eq_true, decide_eq_true_eq] at this
      exact this.1.1
    have key := iter_all (step := f3.s1 (x.1.length + 1) x true) x.1 (fun i (a : Int × Int) => (a.1, (a.2, (i : Int))))
      (fun i a => a.1 = inAt x.1 x.2 i ∧ a.2 = endAt x.1 i) (fun _ _ _ => some true)
      (fun S a ha => by
        simp only [f3.s1, at_end, cond_false]
        rw [show F15 x = some (idxI (fun v => decide (v.1 ≤ x.2)) x.1) from F15_some ho]
        have e : a.1 = idxI (fun v => decide (v.1 ≤ x.2)) x.1 := by rw [ha.1]; unfold inAt; rw [List.take_length]
        simp only [Option.bind_some, e, beq_self_eq_true, cond_true]
        rfl) (fun S i a v r hi hv hr hI ih => by
        obtain ⟨h1, h2⟩ := hI
        have hvm : v ∈ x.1 := List.mem_of_getElem? hv
        have hvp := pos v hvm
        simp only [f3.s1, at_lt hi, cond_true, F14_some ho, Option.bind_some, life_at hv, at_ge, Bool.and_self, at_get hv, at_next ho hi, bne_self_eq_false, cond_false]
        have e2 : (endAt x.1 i != a.2) = false := by rw [h2]; simp
        simp only [e2, cond_false]
        -- what the life says of the stamp
        have next : ∀ c, c = inAt x.1 x.2 (i + 1) → S (c, (v.1, ((i + 1 : Nat) : Int))) = some true := fun c hc => ih (c, v.1) ⟨hc, by simp only [endAt, prev_succ hv]⟩
        have hin : inAt x.1 x.2 (i + 1) = bif decide (inAt x.1 x.2 i ≥ 0) then inAt x.1 x.2 i else bif decide (v.1 ≤ x.2) then (i : Int) else -1 := idx_take_succ hv
        -- nothing ahead is seen where the one before is not
        have ahead : ∀ u, prevOf x.1 i = some u → x.2 < u.1 → inAt x.1 x.2 i = -1 := fun u hu hlt => by
          refine idx_none (fun q hq => ?_)
          obtain ⟨j, hj⟩ := List.getElem?_of_mem hq
          have hjl : j < i := by
            have := (List.getElem?_eq_some_iff.1 hj).1
            simp at this; omega
          rw [List.getElem?_take, if_pos hjl] at hj
          unfold prevOf at hu
          split at hu
          · omega
          · by_cases e : j = i - 1
            · subst e
              rw [hj] at hu; cases hu
              simp; omega
            · have : u.1 < q.1 := pair_get m3 (show j < i - 1 by omega) hj hu
              simp; omega
        have behind : ∀ u, prevOf x.1 i = some u → ¬ x.2 < u.1 → 0 ≤ inAt x.1 x.2 i := fun u hu hge => by
          refine idx_ge ⟨u, ?_, by simp; omega⟩
          unfold prevOf at hu
          split at hu
          · cases hu
          · have : (x.1.take i)[i - 1]? = some u := by rw [List.getElem?_take, if_pos (by omega)]; exact hu
            exact List.mem_of_getElem? this
        by_cases hs : x.2 ≥ v.1
        · have hs1 : decide (x.2 ≥ v.1) = true := by simp; exact hs
          have hs2 : decide (v.1 ≤ x.2) = true := by simp; omega
          simp only [hs1, cond_true]
          unfold endAt
          cases hp : prevOf x.1 i with
          | none =>
            have hi0 : i = 0 := by
              unfold prevOf at hp
              split at hp
              · assumption
              · rw [List.getElem?_eq_getElem (by omega)] at hp; cases hp
            subst hi0
            have e3 : a.1 = -1 := by rw [h1]; rfl
            simp only [beq_self_eq_true, cond_true, e3]
            have : decide ((-1 : Int) ≥ 0) = false := by decide
            simp only [this, cond_false]
            refine next _ ?_
            rw [hin, hs2]
            rfl
          | some u =>
            have hup : 1 ≤ u.1 := by
              unfold prevOf at hp
              split at hp
              · cases hp
              · exact pos u (List.mem_of_getElem? hp)
            have e4 : (u.1 == (0 : Int)) = false := by simp; omega
            simp only [e4, cond_false]
            by_cases hu : x.2 < u.1
            · have e5 : decide (x.2 < u.1) = true := by simp; exact hu
              have e6 := ahead u hp hu
              simp only [e5, cond_true]
              have e7 : decide (a.1 ≥ 0) = false := by rw [h1, e6]; decide
              simp only [e7, cond_false]
              refine next _ ?_
              rw [hin, hs2, e6]
              rfl
            · have e5 : decide (x.2 < u.1) = false := by simp; omega
              simp only [e5, cond_false]
              refine next _ ?_
              have e6 := behind u hp hu
              rw [hin, h1]
              have : decide (inAt x.1 x.2 i ≥ 0) = true := by simp; exact e6
              rw [this]; rfl
        · have hs1 : decide (x.2 ≥ v.1) = false := by simp; omega
          have hs2 : decide (v.1 ≤ x.2) = false := by simp; omega
          simp only [hs1, cond_false]
          refine next _ ?_
          rw [hin, hs2, h1]
          by_cases e : inAt x.1 x.2 i ≥ 0
          · have : decide (inAt x.1 x.2 i ≥ 0) = true := by simp; exact e
            rw [this]; rfl
          · have : decide (inAt x.1 x.2 i ≥ 0) = false := by simp; omega
            rw [this]
            -- a place is -1 or none below it
            unfold inAt idxI at e ⊢
            cases hq : List.findIdx? (fun v => decide (v.1 ≤ x.2)) (x.1.take i) with
            | some j => rw [hq] at e; simp at e
            | none => rfl) ((-1 : Int), (0 : Int)) ⟨rfl, rfl⟩
    exact key
theorem con3_ok : ConOk Try.prog 3 con3 := f3.ok spec3 con12_ok con13_ok con14_ok con15_ok


/-! ### What has no body, and copies -/
theorem bits58 (b : Nat) (w : World) : (callFunc 58 #[.float .f64 b]).run Try.prog w = .ok (.value (.int .u64 b)) w := by kernel_rfl
theorem con58_ok : ConOk Try.prog 58 con58 := bitsCon_ok bits58

theorem spec44 : ∀ X Y, F44 X = some Y → ∀ z, (z = true → X = []) → ∃ n, f44.g n (z, X) = some Y := by
  intro x y h z hz
  obtain ⟨ho, rfl⟩ := some_bif h
  refine ⟨0, ?_⟩
  unfold f44.g
  cases z with
  | true => rw [hz rfl]; rfl
  | false =>
    have h1 : decide (x.length * 40 ≤ boundN) = true := ho
    simp only [cond_false, h1, cond_true, Nat.zero_add, List.take_nil, List.nil_append, List.take_length]
theorem con44_ok : ConOk Try.prog 44 con44 := f44.ok spec44

/-! ### Rows are the same -/
theorem strEq_iff (a b : ByteArray) : strEq a b = decide (a = b) := by
  unfold strEq
  rw [Bool.eq_iff_iff, decide_eq_true_iff, beq_iff_eq]
  constructor
  · intro h
    cases a with
    | mk d => cases b with
      | mk e =>
        have h1 : d.toList = e.toList := by simpa [ByteArray.toList_eq] using h
        exact congrArg ByteArray.mk (Array.ext' h1)
  · intro h; rw [h]

theorem int_beq (a b : Int) : (a == b) = decide (a = b) := by rw [Bool.eq_iff_iff, beq_iff_eq, decide_eq_true_iff]

theorem drop_eq {α : Type} {l : List α} {i : Nat} {v : α} (h : l[i]? = some v) : l.drop i = v :: l.drop (i + 1) := by
  obtain ⟨hlt, rfl⟩ := List.getElem?_eq_some_iff.1 h
  exact List.drop_eq_getElem_cons hlt

theorem spec45 : ∀ (X : List dValue × List dValue) (Y : Bool), F45 X = some Y → ∃ n, f45.g n X = some Y := by
  intro x y h
  obtain ⟨ho, rfl⟩ := some_bif h
  refine ⟨x.1.length + 1, ?_⟩
  unfold f45.g
  by_cases hlen : x.1.length = x.2.length
  · have h1 : ((x.1.length : Int) != (x.2.length : Int)) = false := by rw [hlen]; simp
    simp only [h1, cond_false]
    have := iter_all (step := f45.s1 (x.1.length + 1) x) x.1 (fun i (_ : Unit) => (i : Int)) (fun _ _ => True) (fun i _ r => some (decide (r = x.2.drop i)))
      (fun S a _ => by simp only [f45.s1, at_end, cond_false, hlen, List.drop_length]; rfl) (fun S i v w r hi hw hr _ ih => by
        obtain ⟨u, hu⟩ : ∃ u, x.2[i]? = some u := ⟨x.2[i], List.getElem?_eq_getElem (by omega)⟩
        have hd := drop_eq hu
        have hi2 : i < x.2.length := by omega
        simp only [f45.s1, at_lt hi, at_lt hi2, at_ge, at_get hw, at_get hu, at_next ho hi, Bool.and_self, cond_true, F58, Option.bind_some, ih () trivial, hd, strEq_iff]
        obtain ⟨w1, w2, w3, w4⟩ := w
        obtain ⟨u1, u2, u3, u4⟩ := u
        have ec : (((w3 : Nat) : Int) == ((u3 : Nat) : Int)) = decide (w3 = u3) := by rw [int_beq, decide_eq_decide]; omega
        simp only [List.cons.injEq, Prod.mk.injEq, ec]
        simp only [int_beq]
        by_cases e1 : w1 = u1 <;> by_cases e2 : w2 = u2 <;> by_cases e3 : w3 = u3 <;> by_cases e4 : w4 = u4 <;> simp [e1, e2, e3, e4]) () trivial
    simp only [List.drop_zero] at this
    exact this
  · have h1 : ((x.1.length : Int) != (x.2.length : Int)) = true := by simp; omega
    simp only [h1, cond_true]
    have : x.1 ≠ x.2 := fun e => hlen (by rw [e])
    simp [this]
theorem con45_ok : ConOk Try.prog 45 con45 := f45.ok spec45 con58_ok

/-! ### Intents -/
theorem spec16 : ∀ (X : dIntent) (Y : Bool), F16 X = some Y → ∃ n, f16.g n X = some Y := by
  intro x y h
  obtain ⟨ho, rfl⟩ := some_bif h
  have hl := okL_iff.1 ho
  refine ⟨x.2.length + 1, ?_⟩
  unfold f16.g mayI
  have h0 : (bif decide (x.1 < 0) then true else !((x.1 == 0) == ((x.2.length : Int) == 0))) = (decide (x.1 < 0) || !((x.1 == 0) == ((x.2.length : Int) == 0))) := by cases decide (x.1 < 0) <;> rfl
  rw [h0]
  cases (decide (x.1 < 0) || !((x.1 == 0) == ((x.2.length : Int) == 0))) with
  | true => rfl
  | false =>
    simp only [cond_false, Bool.not_false, Bool.true_and]
    have := iter_all (step := f16.s1 (x.2.length + 1) x) x.2 (fun i (_ : Unit) => (i : Int)) (fun _ _ => True) (fun i _ r => some (mayW ((prevOf x.2 i).map (·.1)) r))
      (fun S a _ => by simp only [f16.s1, at_end, cond_false]; rfl) (fun S i a v r hi hv hr _ ih => by
        have ih' := ih () trivial
        simp only [prev_succ hv, Option.map_some] at ih'
        simp only [f16.s1, at_lt hi, at_ge, at_get hv, at_next ho hi, Bool.and_self, cond_true, ih', mayW]
        have hbad : (bif decide (v.1 < 0) then true else bif v.2.1 then decide ((v.2.2.length : Int) > 0) else false) = !(decide (v.1 ≥ 0) && !(v.2.1 && decide ((v.2.2.length : Int) > 0))) := by
          by_cases h1 : v.1 < 0 <;> cases v.2.1 <;> simp [h1] <;> omega
        rw [hbad]
        cases (decide (v.1 ≥ 0) && !(v.2.1 && decide ((v.2.2.length : Int) > 0))) with
        | false => rfl
        | true =>
          simp only [Bool.not_true, cond_false, Bool.true_and]
          by_cases h0 : i = 0
          · subst h0
            simp [prevOf]
          · obtain ⟨u, hu⟩ : ∃ u, x.2[i - 1]? = some u := ⟨x.2[i - 1], List.getElem?_eq_getElem (by omega)⟩
            have e1 : IntKind.wrap .i64 ((i : Int) - 1) = ((i - 1 : Nat) : Int) := at_prev (by omega) (by omega)
            have e2 : decide ((i : Int) > 0) = true := by simp; omega
            simp only [e1, e2, cond_true, at_ge, at_get hu, at_lt (show i - 1 < x.2.length by omega), Bool.and_self, prevOf, if_neg h0, hu, Option.map_some]
            by_cases h3 : u.1 < v.1
            · have : decide (v.1 ≤ u.1) = false := by simp; omega
              simp [this, h3]
            · have : decide (v.1 ≤ u.1) = true := by simp; omega
              simp [this, h3]) () trivial
    exact this
theorem con16_ok : ConOk Try.prog 16 con16 := f16.ok spec16


/-! ### What is seen -/
theorem okL_last {l : List dWrite} (h : okWs l = true) (hp : 0 < l.length) : okL (lastW l).2.2 = true := by
  simp only [okWs, Bool.and_eq_true, List.all_eq_true] at h
  have : l[l.length - 1]? = some l[l.length - 1] := List.getElem?_eq_getElem (by omega)
  have e : lastW l = l[l.length - 1] := by simp [lastW, List.getD, this]
  rw [e]
  exact h.2 _ (List.getElem_mem (by omega))

theorem F44_some {l : List dValue} (ho : okL l = true) : F44 l = some l := by unfold F44; rw [ho]; rfl

theorem find_idx {α : Type} (p : α → Bool) (l : List α) : (idxI p l = -1 ∧ l.find? p = none) ∨ ∃ i v, idxI p l = ((i : Nat) : Int) ∧ l[i]? = some v ∧ l.find? p = some v := by
  unfold idxI
  induction l with
  | nil => exact .inl ⟨rfl, rfl⟩
  | cons a r ih =>
    rw [List.findIdx?_cons, List.find?_cons]
    cases hp : p a with
    | true => exact .inr ⟨0, a, rfl, rfl, rfl⟩
    | false =>
      simp only [Bool.false_eq_true, if_false]
      rcases ih with ⟨h1, h2⟩ | ⟨i, v, h1, h2, h3⟩
      · left
        cases hf : List.findIdx? p r with
        | none => exact ⟨rfl, h2⟩
        | some j => rw [hf] at h1; simp only at h1; omega
      · right
        cases hf : List.findIdx? p r with
        | none => rw [hf] at h1; simp only at h1; omega
        | some j =>
          rw [hf] at h1
          have : j = i := by simp only at h1; omega
          subst this
          exact ⟨j + 1, v, by simp, by simpa using h2, h3⟩

theorem okV_at {l : List dVersion} (h : okV l = true) {i : Nat} {v : dVersion} (hv : l[i]? = some v) : okL v.2.2 = true := by
  simp only [okV, Bool.and_eq_true, List.all_eq_true] at h
  exact h.2 v (List.mem_of_getElem? hv)
theorem okV_okL {l : List dVersion} (h : okV l = true) : okL l = true := by
  simp only [okV, Bool.and_eq_true] at h; exact h.1
theorem okWs_okL {l : List dWrite} (h : okWs l = true) : okL l = true := by
  simp only [okWs, Bool.and_eq_true] at h; exact h.1

theorem see_test (x : dIntent) (t : Int) : (bif bif decide (t > 0) then x.1 == t else false then decide ((x.2.length : Int) > 0) else false) = ((decide (t > 0) && (x.1 == t)) && decide ((x.2.length : Int) > 0)) := by
  cases decide (t > 0) <;> cases (x.1 == t) <;> rfl

theorem spec17 : ∀ (X : List dVersion × dIntent × Int × Int) (Y : List dValue × Bool), F17 X = some Y → ∃ n, f17.g n X = some Y := by
  intro x y h
  obtain ⟨ho, rfl⟩ := some_bif h
  rw [Bool.and_eq_true] at ho
  obtain ⟨hv, hw⟩ := ho
  have hl := okL_iff.1 (okWs_okL hw)
  refine ⟨0, ?_⟩
  unfold f17.g seeS
  rw [see_test x.2.1 x.2.2.1]
  cases ht : ((decide (x.2.2.1 > 0) && (x.2.1.1 == x.2.2.1)) && decide ((x.2.1.2.length : Int) > 0)) with
  | true =>
    simp only [cond_true]
    have hp : 0 < x.2.1.2.length := by
      simp only [Bool.and_eq_true, decide_eq_true_eq] at ht
      omega
    have e1 : IntKind.wrap .i64 ((x.2.1.2.length : Int) - 1) = ((x.2.1.2.length - 1 : Nat) : Int) := at_prev hp (by omega)
    have e2 : (((x.2.1.2.length - 1 : Nat) : Int)).toNat = x.2.1.2.length - 1 := by simp
    simp only [e1, e2, at_ge, at_lt (show x.2.1.2.length - 1 < x.2.1.2.length by omega), Bool.and_self, cond_true]
    rw [show x.2.1.2.getD (x.2.1.2.length - 1) tWrite.dflt = lastW x.2.1.2 from rfl, F44_some (okL_last hw hp)]
    rfl
  | false =>
    simp only [cond_false, F15_some (okV_okL hv), Option.bind_some]
    rcases find_idx (fun v => decide (v.1 ≤ x.2.2.2)) x.1 with ⟨h1, h2⟩ | ⟨i, v, h1, h2, h3⟩
    · rw [h1, h2]; rfl
    · have hi := (List.getElem?_eq_some_iff.1 h2).1
      have e1 : decide (((i : Nat) : Int) < 0) = false := by simp
      simp only [h1, h3, e1, cond_false, at_ge, at_lt hi, Bool.and_self, cond_true, at_get h2, F44_some (okV_at hv h2), Option.bind_some]
      cases v.2.1 <;> rfl
theorem con17_ok : ConOk Try.prog 17 con17 := f17.ok spec17 con15_ok con44_ok

theorem F26_some {l : List dVersion} {s : Int} (ho : okL l = true) : F26 (l, s) = some (idxI (fun v => decide (v.1 ≤ s)) l) := F15_some ho

theorem spec18 : ∀ (X : List dVersion × dIntent × Int × Int) (Y : List dValue × Bool), F18 X = some Y → ∃ n, f18.g n X = some Y := by
  intro x y h
  obtain ⟨ho, rfl⟩ := some_bif (show (bif okV x.1 && okWs x.2.1.2 then _ else _) = _ from h)
  rw [Bool.and_eq_true] at ho
  obtain ⟨hv, hw⟩ := ho
  have hl := okL_iff.1 (okWs_okL hw)
  refine ⟨0, ?_⟩
  unfold f18.g seeS
  rw [see_test x.2.1 x.2.2.1]
  cases ht : ((decide (x.2.2.1 > 0) && (x.2.1.1 == x.2.2.1)) && decide ((x.2.1.2.length : Int) > 0)) with
  | true =>
    simp only [cond_true]
    have hp : 0 < x.2.1.2.length := by
      simp only [Bool.and_eq_true, decide_eq_true_eq] at ht
      omega
    have e1 : IntKind.wrap .i64 ((x.2.1.2.length : Int) - 1) = ((x.2.1.2.length - 1 : Nat) : Int) := at_prev hp (by omega)
    have e2 : (((x.2.1.2.length - 1 : Nat) : Int)).toNat = x.2.1.2.length - 1 := by simp
    simp only [e1, e2, at_ge, at_lt (show x.2.1.2.length - 1 < x.2.1.2.length by omega), Bool.and_self, cond_true]
    rfl
  | false =>
    simp only [cond_false, F26_some (okV_okL hv), Option.bind_some]
    rcases find_idx (fun v => decide (v.1 ≤ x.2.2.2)) x.1 with ⟨h1, h2⟩ | ⟨i, v, h1, h2, h3⟩
    · rw [h1, h2]; rfl
    · have hi := (List.getElem?_eq_some_iff.1 h2).1
      have e1 : decide (((i : Nat) : Int) < 0) = false := by simp
      simp only [h1, h3, e1, cond_false, at_ge, at_lt hi, Bool.and_self, cond_true, at_get h2]
      cases v.2.1 <;> rfl
theorem con18_ok : ConOk Try.prog 18 con18 := f18.ok spec18 con26_ok


theorem wf_okV {l : List dVersion} (h : (Ty.sl tVersion).wf l) : okV l = true := by
  simp only [okV, Bool.and_eq_true, List.all_eq_true]
  refine ⟨wf_okL (t := tVersion) rfl h, fun v hv => ?_⟩
  have h2 : tVersion.wf v := h.2 v hv
  exact wf_okL (t := tValue) rfl h2.2.2
theorem wf_okWs {l : List dWrite} (h : (Ty.sl tWrite).wf l) : okWs l = true := by
  simp only [okWs, Bool.and_eq_true, List.all_eq_true]
  refine ⟨wf_okL (t := tWrite) rfl h, fun v hv => ?_⟩
  have h2 : tWrite.wf v := h.2 v hv
  exact wf_okL (t := tValue) rfl h2.2.2

theorem see_okL {l : List dVersion} {x : dIntent} {t s : Int} (hv : okV l = true) (hw : okWs x.2 = true) : okL (seeS l x t s).1 = true := by
  unfold seeS
  cases ht : ((decide (t > 0) && (x.1 == t)) && decide ((x.2.length : Int) > 0)) with
  | true =>
    have hp : 0 < x.2.length := by
      simp only [Bool.and_eq_true, decide_eq_true_eq] at ht
      omega
    exact okL_last hw hp
  | false =>
    simp only [cond_false]
    rcases find_idx (fun v => decide (v.1 ≤ s)) l with ⟨h1, h2⟩ | ⟨i, v, h1, h2, h3⟩
    · rw [h2]; rfl
    · rw [h3]
      have := okV_at hv h2
      simp only
      cases v.2.1 with
      | true => rfl
      | false => exact this

theorem F13_some : F13 () = some true := rfl
theorem F16_some {x : dIntent} (ho : okL x.2 = true) : F16 x = some (mayI x) := by
  show (bif okL x.2 then _ else _) = _
  rw [ho]; rfl
theorem F17_some {x : List dVersion × dIntent × Int × Int} (hv : okV x.1 = true) (hw : okWs x.2.1.2 = true) : F17 x = some (seeS x.1 x.2.1 x.2.2.1 x.2.2.2) := by
  show (bif okV x.1 && okWs x.2.1.2 then _ else _) = _
  rw [hv, hw]; rfl
theorem F18_some {x : List dVersion × dIntent × Int × Int} (hv : okV x.1 = true) (hw : okWs x.2.1.2 = true) : F18 x = some (seeS x.1 x.2.1 x.2.2.1 x.2.2.2) := F17_some hv hw
theorem F45_same {a : List dValue} (ho : okL a = true) : F45 (a, a) = some true := by
  show (bif okL a then _ else _) = _
  rw [ho]; simp

theorem spec4 : ∀ (X : List dVersion × dIntent × dReader) (Y : Bool), FL [(false, .sl tVersion), (true, tIntent), (true, tReader)] X = some Y → ∃ n, f4.g n X = some Y := by
  intro x y h
  obtain ⟨hw, rfl⟩ := FL_some h
  have hv : okV x.1 = true := wf_okV hw.1
  have hi : tIntent.wf x.2.1 := hw.2.1
  have hws : okWs x.2.1.2 = true := wf_okWs hi.2
  refine ⟨0, ?_⟩
  unfold f4.g
  simp only [F12_some (okV_okL hv), F16_some (okWs_okL hws), F13_some, Option.bind_some]
  rw [F17_some (x := x) hv hws, F18_some (x := x) hv hws]
  simp only [Option.bind_some, beq_self_eq_true, cond_true, F45_same (see_okL hv hws)]
  cases mayP none x.1 <;> cases mayI x.2.1 <;> rfl
theorem con4_ok : ConOk Try.prog 4 con4 := f4.ok spec4 con12_ok con13_ok con16_ok con17_ok con18_ok con45_ok

end Go.Proofs.Ytfjmdgdopmfcjaa.AI
