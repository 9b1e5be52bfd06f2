/- Contracts of the library's functions that this seat calls; what every law uses of lists. -/
import Derived.Test.YtjedleoebjmkgaaBc
import Derived.Test.YtjedleoebjmkgaaAjd
import Derived.Test.YtjedleoebjmkgaaBs
set_option linter.unusedVariables false
set_option linter.unusedSimpArgs false
namespace Go.Proofs.Ytjedleoebjmkgaa.AI
open Go Go.RowKit Go.Shelf

theorem args2 {x : Cx} {t s : Ty} {X : t.den × s.den} {vals : Array Value} (h : RepVs x (argsL [(false, t), (false, s)] X) vals.toList) : ∃ u v, vals = #[u, v] ∧ RepV x (.val false (t.cells X.1)) u ∧ RepV x (.val false (s.cells X.2)) v := by
  obtain ⟨u, r, hu, h1, v, r', hr, h2, h3⟩ := h
  have hr' : r' = [] := h3
  subst hr'
  subst hr
  exact ⟨u, v, by cases vals; simp_all, h1, h2⟩
theorem some_bif {α : Type} {c : Bool} {x y : α} (h : (bif c then some x else none) = some y) : c = true ∧ x = y := by
  cases c with
  | true => exact ⟨rfl, Option.some.inj h⟩
  | false => cases h
theorem body68 : (Try.f68.name == "runtime.NumGoroutine") = false ∧ Try.f68.body.isSome = true := ⟨by kernel_rfl, by kernel_rfl⟩
theorem of_str' {x : Cx} {s : ByteArray} {u : Value} (h : RepV x (.val false [.sc .str s]) u) : u = .string s := of_str h
set_option maxRecDepth 100000 in
theorem con68_ok : ConOk Try.prog 68 con68 := lendCon_ok (List.all_eq_true.1 rfl) (fun _ => rfl) (fun x vals X Y hI hv hF => by
  obtain ⟨u, v, rfl, h1, h2⟩ := args2 (t := .str) (s := .str) hv
  rw [of_str' h1, of_str' h2]
  cases hF
  refine calls_does Try.func68 body68.1 body68.2 ((Ytjedleoebjmkgaa.strings_Compare X.1 X.2 x.w).mono (fun e w' he => ?_))
  obtain ⟨rfl, rfl⟩ := he
  exact ⟨_, rfl, Below.refl _ _, fun y => RepV_int _ _⟩)

/-! ### Loops over lists -/
theorem wrap_ok {n : Int} (h1 : -9223372036854775808 ≤ n) (h2 : n ≤ 9223372036854775807) : IntKind.wrap .i64 n = n := by
  simp [IntKind.wrap, IntKind.min, IntKind.max, IntKind.signed, IntKind.bits]
  omega
theorem nx {i : Nat} (h : i ≤ 140737488355328) : IntKind.wrap .i64 ((i : Int) + (1 : Int)) = ((i + 1 : Nat) : Int) := by
  rw [wrap_ok (by omega) (by omega)]; simp

theorem iter_list {α σ β R : Type} {step : (β → Option R) → β → Option R} (l : List α) (enc : Nat → σ → β) (I : Nat → σ → Prop) (f : Nat → σ → List α → Option R)
    (hend : ∀ S a, I l.length a → step S (enc l.length a) = f l.length a [])
    (hstep : ∀ S i a v r, i < l.length → l[i]? = some v → l.drop (i + 1) = r → I i a → (∀ a', I (i + 1) a' → S (enc (i + 1) a') = f (i + 1) a' r) → step S (enc i a) = f i a (v :: r)) :
    ∀ (r : List α) (i : Nat), l.drop i = r → i ≤ l.length → ∀ m a, I i a → r.length < m → iter step m (enc i a) = f i a r
  | [], i, hd, hi, m, a, hI, hm => by
    have hl : l.length ≤ i := List.drop_eq_nil_iff.1 hd
    have : i = l.length := by omega
    subst this
    cases m with
    | zero => simp at hm
    | succ m => exact hend _ a hI
  | v :: r, i, hd, hi, m, a, hI, hm => by
    have hlt : i < l.length := by
      rcases Nat.lt_or_ge i l.length with h | h
      · exact h
      · rw [List.drop_eq_nil_iff.2 h] at hd; cases hd
    have hv : l[i]? = some v := by
      have := congrArg List.head? hd
      rw [List.head?_drop] at this
      simpa using this
    have hr : l.drop (i + 1) = r := by
      have := congrArg List.tail hd
      rw [List.tail_drop] at this
      simpa using this
    cases m with
    | zero => simp at hm
    | succ m => exact hstep _ i a v r hlt hv hr hI (fun a' hI' => iter_list l enc I f hend hstep r (i + 1) hr (by omega) m a' hI' (by simp at hm; omega))

theorem iter_all {α σ β R : Type} {step : (β → Option R) → β → Option R} (l : List α) (enc : Nat → σ → β) (I : Nat → σ → Prop) (f : Nat → σ → List α → Option R)
    (hend : ∀ S a, I l.length a → step S (enc l.length a) = f l.length a [])
    (hstep : ∀ S i a v r, i < l.length → l[i]? = some v → l.drop (i + 1) = r → I i a → (∀ a', I (i + 1) a' → S (enc (i + 1) a') = f (i + 1) a' r) → step S (enc i a) = f i a (v :: r))
    (m : Nat) (hm : l.length < m) (a : σ) (hI : I 0 a) : iter step m (enc 0 a) = f 0 a l :=
  iter_list l enc I f hend hstep l 0 rfl (Nat.zero_le _) m a hI hm

theorem okB_iff {α : Type} {b : Nat} {l : List α} : okB b l = true ↔ l.length * b ≤ 140737488355328 := by
  unfold okB
  rw [decide_eq_true_iff]
theorem okB_len {α : Type} {b : Nat} {l : List α} (hb : 1 ≤ b) (h : okB b l = true) : l.length ≤ 140737488355328 := by
  have h1 := okB_iff.1 h
  have : l.length * 1 ≤ l.length * b := Nat.mul_le_mul_left _ hb
  omega
theorem okB_take {α : Type} {b : Nat} {l : List α} (h : okB b l = true) (i : Nat) : okB b (l.take i) = true := by
  have h1 := okB_iff.1 h
  refine okB_iff.2 ?_
  have : (l.take i).length * b ≤ l.length * b := Nat.mul_le_mul_right _ (by rw [List.length_take]; exact Nat.min_le_right _ _)
  omega

theorem at_lt {α : Type} {l : List α} {i : Nat} (h : i < l.length) : decide ((i : Int) < (l.length : Int)) = true := by simp; exact h
theorem at_end {α : Type} (l : List α) : decide ((l.length : Int) < (l.length : Int)) = false := by simp
theorem at_ge (i : Nat) : decide (0 ≤ (i : Int)) = true := by simp
theorem at_le {α : Type} {l : List α} {i : Nat} (h : i < l.length) : decide ((i : Int) ≤ (l.length : Int)) = true := by simp; omega
theorem at_get {α : Type} {l : List α} {i : Nat} {v d : α} (h : l[i]? = some v) : l.getD (i : Int).toNat d = v := by simp [List.getD, h]
theorem at_take {α : Type} (l : List α) (i : Nat) : List.take (i : Int).toNat l = l.take i := by simp
theorem take_next {α : Type} {l : List α} {i : Nat} {v : α} (h : l[i]? = some v) : l.take i ++ [v] = l.take (i + 1) := by
  obtain ⟨hlt, rfl⟩ := List.getElem?_eq_some_iff.1 h
  simp
theorem lt_of {α : Type} {l : List α} {i : Nat} {v : α} (h : l[i]? = some v) : i < l.length := (List.getElem?_eq_some_iff.1 h).1

/-- Whether one is there. -/
theorem any_loop {α : Type} {l : List α} (p : α → Bool) {step : (Int → Option Bool) → Int → Option Bool} {m : Nat} (hm : l.length < m)
    (hend : ∀ S, step S (l.length : Int) = some false)
    (hstep : ∀ S i v, i < l.length → l[i]? = some v → step S (i : Int) = bif p v then some true else S ((i + 1 : Nat) : Int)) :
    iter step m 0 = some (l.any p) :=
  iter_all (step := step) l (fun i (_ : Unit) => (i : Int)) (fun _ _ => True) (fun i _ r => some (r.any p))
    (fun S a _ => by simp [hend]) (fun S i a v r hi hv hr _ ih => by
      rw [hstep S i v hi hv, List.any_cons, ih () trivial]
      cases p v <;> rfl) m hm () trivial
/-- Whether all are so. -/
theorem all_loop {α : Type} {l : List α} (p : α → Bool) {step : (Int → Option Bool) → Int → Option Bool} {m : Nat} (hm : l.length < m)
    (hend : ∀ S, step S (l.length : Int) = some true)
    (hstep : ∀ S i v, i < l.length → l[i]? = some v → step S (i : Int) = bif p v then S ((i + 1 : Nat) : Int) else some false) :
    iter step m 0 = some (l.all p) :=
  iter_all (step := step) l (fun i (_ : Unit) => (i : Int)) (fun _ _ => True) (fun i _ r => some (r.all p))
    (fun S a _ => by simp [hend]) (fun S i a v r hi hv hr _ ih => by
      rw [hstep S i v hi hv, List.all_cons, ih () trivial]
      cases p v <;> rfl) m hm () trivial
theorem idx_loop {α : Type} {l : List α} (p : α → Bool) {step : (Int → Option Int) → Int → Option Int} {m : Nat} (hm : l.length < m)
    (hend : ∀ S, step S (l.length : Int) = some (-1))
    (hstep : ∀ S i v, i < l.length → l[i]? = some v → step S (i : Int) = bif p v then some (i : Int) else S ((i + 1 : Nat) : Int)) :
    iter step m 0 = some (idxI p l) := by
  have := iter_all (step := step) l (fun i (_ : Unit) => (i : Int)) (fun _ _ => True) (fun i _ r => some (match r.findIdx? p with | some j => ((i + j : Nat) : Int) | none => -1))
    (fun S a _ => by simp [hend]) (fun S i a v r hi hv hr _ ih => by
      rw [hstep S i v hi hv, List.findIdx?_cons]
      cases hp : p v with
      | true => simp
      | false =>
        have := ih () trivial
        rw [cond_false, this]
        simp only [Bool.false_eq_true, if_false]
        cases r.findIdx? p with
        | none => rfl
        | some j => simp; omega) m hm () trivial
  simp only [Int.natCast_zero, Nat.zero_add] at this
  exact this
/-- A fold with what was seen, up to the first answer. -/
theorem seen_loop {α R : Type} {l : List α} (f : List α → List α → R) {step : (Int → Option R) → Int → Option R} {m : Nat} (hm : l.length < m)
    (hend : ∀ S, step S (l.length : Int) = some (f l []))
    (hstep : ∀ S i v r, i < l.length → l[i]? = some v → l.drop (i + 1) = r → S ((i + 1 : Nat) : Int) = some (f (l.take i ++ [v]) r) → step S (i : Int) = some (f (l.take i) (v :: r))) :
    iter step m 0 = some (f [] l) := by
  have := iter_all (step := step) l (fun i (_ : Unit) => (i : Int)) (fun _ _ => True) (fun i _ r => some (f (l.take i) r))
    (fun S a _ => by simp [hend]) (fun S i a v r hi hv hr _ ih => by
      refine hstep S i v r hi hv hr ?_
      rw [take_next hv]
      exact ih () trivial) m hm () trivial
  simpa using this

theorem idx_any {α : Type} (p : α → Bool) (l : List α) : decide (idxI p l ≥ 0) = l.any p := by
  unfold idxI
  cases h : l.findIdx? p with
  | none =>
    have h1 := List.findIdx?_eq_none_iff.1 h
    have : l.any p = false := by
      rw [List.any_eq_false]
      intro v hv
      rw [h1 v hv]; simp
    rw [this]; rfl
  | some i =>
    obtain ⟨hlt, hp, _⟩ := List.findIdx?_eq_some_iff_getElem.1 h
    have : l.any p = true := List.any_eq_true.2 ⟨l[i], List.getElem_mem hlt, hp⟩
    rw [this]; simp

theorem cond_or' (a b : Bool) : (bif a then true else b) = (a || b) := by cases a <;> rfl
theorem cond_and' (a b : Bool) : (bif a then b else false) = (a && b) := by cases a <;> rfl

theorem drop_cons {α : Type} {l : List α} {i : Nat} {v : α} (h : l[i]? = some v) : l.drop i = v :: l.drop (i + 1) := by
  obtain ⟨hlt, rfl⟩ := List.getElem?_eq_some_iff.1 h
  exact List.drop_eq_getElem_cons hlt
theorem take_self {α : Type} (l : List α) (i : Nat) : List.take i (l.take i) = l.take i := by rw [List.take_take, Nat.min_self]
theorem pair_eta {α β : Type} (p : α × β) : (p.1, p.2) = p := rfl

/-! ### Copies -/
theorem copy_loop {α β R : Type} {l : List α} (enc : Nat → List α → β) {step : (β → Option R) → β → Option R} {m : Nat} (hm : l.length < m) {K : Option R}
    (hend : ∀ S, step S (enc l.length l) = K)
    (hstep : ∀ S i v, i < l.length → l[i]? = some v → step S (enc i (l.take i)) = S (enc (i + 1) (l.take (i + 1)))) : iter step m (enc 0 []) = K :=
  iter_all (step := step) l (fun i (_ : Unit) => enc i (l.take i)) (fun _ _ => True) (fun _ _ _ => K)
    (fun S _ _ => by show step S (enc l.length (l.take l.length)) = K; rw [List.take_length]; exact hend S) (fun S i _ v r hi hv hr _ ih => by rw [hstep S i v hi hv]; exact ih () trivial) m hm () trivial
theorem room {α : Type} {b : Nat} {l : List α} (h : okB b l = true) {i : Nat} (hi : i < l.length) : decide ((i + 1) * b ≤ boundN) = true := by
  have h1 := okB_iff.1 h
  have : (i + 1) * b ≤ l.length * b := Nat.mul_le_mul_right _ hi
  have hb : boundN = 140737488355328 := rfl
  rw [decide_eq_true_iff, hb]
  omega

theorem less_cmp : ∀ (a b : List UInt8), (Op.bytesLess a b = true ↔ Lib.compareBytes a b = -1) ∧ (a = b ↔ Lib.compareBytes a b = 0)
  | [], [] => ⟨⟨fun h => (by cases h), fun h => (by cases h)⟩, ⟨fun _ => rfl, fun _ => rfl⟩⟩
  | [], _ :: _ => ⟨⟨fun _ => rfl, fun _ => rfl⟩, ⟨fun h => (by cases h), fun h => (by cases h)⟩⟩
  | _ :: _, [] => ⟨⟨fun h => (by cases h), fun h => (by cases h)⟩, ⟨fun h => (by cases h), fun h => (by cases h)⟩⟩
  | a :: l, b :: m => by
    obtain ⟨h1, h2⟩ := less_cmp l m
    simp only [Op.bytesLess, Lib.compareBytes]
    by_cases hab : a < b
    · have hne : a ≠ b := fun e => by subst e; exact absurd hab (UInt8.lt_irrefl a)
      rw [if_pos hab]
      simp [hab, hne]
    · rw [if_neg hab]
      by_cases hba : b < a
      · have hne : a ≠ b := fun e => by subst e; exact absurd hba (UInt8.lt_irrefl a)
        rw [if_pos hba]
        simp [hab, hne]
      · have he : a = b := UInt8.le_antisymm (UInt8.not_lt.1 hba) (UInt8.not_lt.1 hab)
        subst he
        rw [if_neg hba, ← h1, ← h2]
        simp [hab]

theorem str_cmp (a b : ByteArray) : strLt a b = decide (strS a b = -1) ∧ strEq a b = decide (strS a b = 0) := by
  obtain ⟨h1, h2⟩ := less_cmp a.data.toList b.data.toList
  unfold strLt strEq strS
  rw [ByteArray.toList_eq, ByteArray.toList_eq]
  refine ⟨?_, ?_⟩
  · rw [Bool.eq_iff_iff, decide_eq_true_iff]; exact h1
  · rw [Bool.eq_iff_iff, decide_eq_true_iff, beq_iff_eq]; exact h2

theorem cmp_range : ∀ (a b : List UInt8), Lib.compareBytes a b = -1 ∨ Lib.compareBytes a b = 0 ∨ Lib.compareBytes a b = 1
  | [], [] => .inr (.inl rfl)
  | [], _ :: _ => .inl rfl
  | _ :: _, [] => .inr (.inr rfl)
  | a :: l, b :: m => by
    simp only [Lib.compareBytes]
    split
    · exact .inl rfl
    · split
      · exact .inr (.inr rfl)
      · exact cmp_range l m

theorem wf_okB {t : Ty} {b : Nat} (ht : t.bytes = b) {l : List t.den} (h : (Ty.sl t).wf l) : okB b l = true := by
  have h1 : l.length * t.bytes ≤ reachBytes := h.1
  rw [ht] at h1
  refine okB_iff.2 ?_
  have : reachBytes = 140737488351232 := rfl
  omega

end Go.Proofs.Ytjedleoebjmkgaa.AI
