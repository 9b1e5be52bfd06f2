import Derived.Test.YtiolbhmbobelcaaGreatDoorBc
import Derived.Test.YtiolbhmbobelcaaGreatDoorAjd
import Derived.Test.YtiolbhmbobelcaaGreatDoorBs
import Derived.Laws.Externs
import Derived.Lib.IndexMore
import Derived.KernelRfl
import GoSem.Core.Float
/- Contracts of the library's functions that this seat calls, out of the kit's own calls. -/
set_option linter.unusedVariables false
set_option linter.unusedSimpArgs false
namespace Go.Proofs.YtiolbhmbobelcaaGreatDoor.AI
open Go Go.RowKit Go.Shelf

theorem args1 {x : Cx} {t : Ty} {X : t.den} {vals : Array Value} (h : RepVs x (argsL [(false, t)] X) vals.toList) : ∃ u, vals = #[u] ∧ RepV x (.val false (t.cells X)) u := by
  obtain ⟨u, r, hu, h1, h2⟩ := h
  have hr : r = [] := h2
  subst hr
  exact ⟨u, by cases vals; simp_all, h1⟩
theorem args2 {x : Cx} {t s : Ty} {X : t.den × s.den} {vals : Array Value} (h : RepVs x (argsL [(false, t), (false, s)] X) vals.toList) : ∃ u v, vals = #[u, v] ∧ RepV x (.val false (t.cells X.1)) u ∧ RepV x (.val false (s.cells X.2)) v := by
  obtain ⟨u, r, hu, h1, v, r', hr, h2, h3⟩ := h
  have hr' : r' = [] := h3
  subst hr'
  subst hr
  exact ⟨u, v, by cases vals; simp_all, h1, h2⟩
theorem strEq_iff' (a b : ByteArray) : strEq a b = true ↔ a = b := by
  unfold strEq
  rw [beq_iff_eq]
  exact ⟨bytes_eq, fun h => by rw [h]⟩
theorem some_bif {α : Type} {c : Bool} {x y : α} (h : (bif c then some x else none) = some y) : c = true ∧ x = y := by
  cases c with
  | true => exact ⟨rfl, Option.some.inj h⟩
  | false => cases h

/-! ### What has no body -/
theorem bits13 (b : Nat) (w : World) : (callFunc 13 #[.float .f64 b]).run Tryz.prog w = .ok (.value (.int .u64 b)) w := by kernel_rfl
theorem con13_ok : ConOk Tryz.prog 13 con13 := bitsCon_ok bits13

/-! ### What the kit has shown -/
theorem body14 : (Tryz.f14.name == "runtime.NumGoroutine") = false ∧ Tryz.f14.body.isSome = true := ⟨by kernel_rfl, by kernel_rfl⟩
theorem of_str' {x : Cx} {s : ByteArray} {u : Value} (h : RepV x (.val false [.sc .str s]) u) : u = .string s := of_str h


theorem tab_utf {x : Cx} (hI : Inv x) : Lib.Utf8Tabs 1 2 x.w := ⟨(hI.tab.1 _ _ .first).2 x.w rfl, (hI.tab.1 _ _ .accept).2 x.w rfl⟩

set_option maxRecDepth 100000 in
theorem con14_ok : ConOk Tryz.prog 14 con14 := lendCon_ok (List.all_eq_true.1 rfl) (fun _ => rfl) (fun x vals X Y hI hv hF => by
  obtain ⟨u, rfl, h1⟩ := args1 (t := .str) hv
  obtain ⟨hc, rfl⟩ := some_bif (show (bif decide (X.size ≤ 9223372036854775807) then some (Lib.validD X.data.toList) else none) = some Y from hF)
  rw [of_str' h1]
  refine calls_does Tryz.func14 body14.1 body14.2 ((YtiolbhmbobelcaaGreatDoor.validString X x.w (of_decide_eq_true hc) (tab_utf hI)).mono (fun e w' he => ?_))
  obtain ⟨rfl, hb⟩ := he
  exact ⟨_, rfl, hb, fun y => RepV_bool _⟩)

theorem bits66 (n : Int) (w : World) : (callFunc 66 #[.int .u64 n]).run Tryz.prog w = .ok (.value (.float .f64 n.toNat)) w := by kernel_rfl
set_option maxRecDepth 100000 in
theorem con66_ok : ConOk Tryz.prog 66 con66 := lendCon_ok (List.all_eq_true.1 rfl) (fun _ => rfl) (fun x vals X Y hI hv hF => by
  obtain ⟨u, rfl, h1⟩ := args1 (t := .int .u64) hv
  rw [of_int h1]
  cases hF
  exact Does.value (bits66 X x.w) ⟨Below.refl _ _, fun y => RepV_float _ _⟩)
theorem body36 : (Tryz.f36.name == "runtime.NumGoroutine") = false ∧ Tryz.f36.body.isSome = true := ⟨by kernel_rfl, by kernel_rfl⟩
set_option maxRecDepth 100000 in
theorem con36_ok : ConOk Tryz.prog 36 con36 := lendCon_ok (List.all_eq_true.1 rfl) (fun _ => rfl) (fun x vals X Y hI hv hF => by
  obtain ⟨u, v, rfl, h1, h2⟩ := args2 (t := .str) (s := .str) hv
  rw [of_str' h1, of_str' h2]
  cases hF
  refine calls_does Tryz.func36 body36.1 body36.2 ((YtiolbhmbobelcaaGreatDoor.strings_Compare X.1 X.2 x.w).mono (fun e w' he => ?_))
  obtain ⟨rfl, rfl⟩ := he
  exact ⟨_, rfl, Below.refl _ _, fun y => RepV_int _ _⟩)


/-! ### Rows that are written in place -/
/-! ### A text that spells an int -/
/-! ### A sum of two words with a carry -/
theorem args3 {x : Cx} {t s r : Ty} {X : t.den × s.den × r.den} {vals : Array Value} (h : RepVs x (argsL [(false, t), (false, s), (false, r)] X) vals.toList) : ∃ u v q, vals = #[u, v, q] ∧ RepV x (.val false (t.cells X.1)) u ∧ RepV x (.val false (s.cells X.2.1)) v ∧ RepV x (.val false (r.cells X.2.2)) q := by
  obtain ⟨u, r1, hu, h1, v, r2, hr, h2, q, r3, hr2, h3, h4⟩ := h
  have h4' : r3 = [] := h4
  subst h4'
  subst hr2
  subst hr
  exact ⟨u, v, q, by cases vals; simp_all, h1, h2, h3⟩
theorem add49 (x y c : Int) (hx : 0 ≤ x) (hy : 0 ≤ y) (h0 : 0 ≤ c) (hc : c ≤ 1) (w : World) :
    (callFunc 49 #[.int .u64 x, .int .u64 y, .int .u64 c]).run Tryz.prog w = .ok (.value (.tuple #[.int .u64 ((x + y + c) % 18446744073709551616), .int .u64 ((x + y + c) / 18446744073709551616)])) w := by
  rw [run_callFunc_extern Tryz.func49 (by kernel_rfl) (by kernel_rfl) (by kernel_rfl) (e := add64Entry) (by kernel_rfl), run_add64 x y c hx hy h0 hc]
  rfl
set_option maxRecDepth 100000 in
theorem con49_ok : ConOk Tryz.prog 49 con49 := lendCon_ok (List.all_eq_true.1 rfl) (fun _ => rfl) (fun x vals X Y hI hv hF => by
  obtain ⟨u, v, q, rfl, h1, h2, h3⟩ := args3 (t := .int .u64) (s := .int .u64) (r := .int .u64) hv
  rw [of_int h1, of_int h2, of_int h3]
  obtain ⟨hc, rfl⟩ := some_bif (show (bif addB X then some (addW X) else none) = some Y from hF)
  unfold addB at hc
  simp only [Bool.and_eq_true, decide_eq_true_eq] at hc
  exact Does.value (add49 X.1 X.2.1 X.2.2 hc.1.1 hc.1.2 hc.2.1 hc.2.2 x.w) ⟨Below.refl _ _, fun y => ⟨_, rfl, _, _, rfl, ⟨_, [], rfl, ⟨rfl, rfl⟩, rfl⟩, _, _, rfl, ⟨_, [], rfl, ⟨rfl, rfl⟩, rfl⟩, rfl⟩⟩)
/-! ### What is never asked here -/
theorem con85_ok : ConOk Tryz.prog 85 con85 := lendCon_ok (List.all_eq_true.1 rfl) (fun _ => rfl) (fun x vals X Y hI hv hF => by cases hF)
theorem con26_ok : ConOk Tryz.prog 26 con26 := lendCon_ok (List.all_eq_true.1 rfl) (fun _ => rfl) (fun x vals X Y hI hv hF => by cases hF)
theorem con27_ok : ConOk Tryz.prog 27 con27 := lendCon_ok (List.all_eq_true.1 rfl) (fun _ => rfl) (fun x vals X Y hI hv hF => by cases hF)
end Go.Proofs.YtiolbhmbobelcaaGreatDoor.AI
/- The plain laws of the runs: loops over lists; names. -/
set_option linter.unusedVariables false
set_option linter.unusedSimpArgs false
namespace Go.Proofs.YtiolbhmbobelcaaGreatDoor.AI
open Go

/-! ### Loops over lists -/
theorem wrap_ok {n : Int} (h1 : -9223372036854775808 ≤ n) (h2 : n ≤ 9223372036854775807) : IntKind.wrap .i64 n = n := by
  simp [IntKind.wrap, IntKind.min, IntKind.max, IntKind.signed, IntKind.bits]
  omega
theorem nx {i : Nat} (h : i ≤ 140737488355328) : IntKind.wrap .i64 ((i : Int) + (1 : Int)) = ((i + 1 : Nat) : Int) := by
  rw [wrap_ok (by omega) (by omega)]; simp

theorem iter_list {α σ β R : Type} {step : (β → Option R) → β → Option R} (l : List α) (enc : Nat → σ → β) (I : Nat → σ → Prop) (f : Nat → σ → List α → Option R)
    (hend : ∀ S a, I l.length a → step S (enc l.length a) = f l.length a [])
    (hstep : ∀ S i a v r, i < l.length → l[i]? = some v → l.drop (i + 1) = r → I i a → (∀ a', I (i + 1) a' → S (enc (i + 1) a') = f (i + 1) a' r) → step S (enc i a) = f i a (v :: r)) :
    ∀ (r : List α) (i : Nat), l.drop i = r → i ≤ l.length → ∀ m a, I i a → r.length < m → iter step m (enc i a) = f i a r
  | [], i, hd, hi, m, a, hI, hm => by
    have hl : l.length ≤ i := List.drop_eq_nil_iff.1 hd
    have : i = l.length := by omega
    subst this
    cases m with
    | zero => simp at hm
    | succ m => exact hend _ a hI
  | v :: r, i, hd, hi, m, a, hI, hm => by
    have hlt : i < l.length := by
      rcases Nat.lt_or_ge i l.length with h | h
      · exact h
      · rw [List.drop_eq_nil_iff.2 h] at hd; cases hd
    have hv : l[i]? = some v := by
      have := congrArg List.head? hd
      rw [List.head?_drop] at this
      simpa using this
    have hr : l.drop (i + 1) = r := by
      have := congrArg List.tail hd
      rw [List.tail_drop] at this
      simpa using this
    cases m with
    | zero => simp at hm
    | succ m => exact hstep _ i a v r hlt hv hr hI (fun a' hI' => iter_list l enc I f hend hstep r (i + 1) hr (by omega) m a' hI' (by simp at hm; omega))

theorem iter_all {α σ β R : Type} {step : (β → Option R) → β → Option R} (l : List α) (enc : Nat → σ → β) (I : Nat → σ → Prop) (f : Nat → σ → List α → Option R)
    (hend : ∀ S a, I l.length a → step S (enc l.length a) = f l.length a [])
    (hstep : ∀ S i a v r, i < l.length → l[i]? = some v → l.drop (i + 1) = r → I i a → (∀ a', I (i + 1) a' → S (enc (i + 1) a') = f (i + 1) a' r) → step S (enc i a) = f i a (v :: r))
    (m : Nat) (hm : l.length < m) (a : σ) (hI : I 0 a) : iter step m (enc 0 a) = f 0 a l :=
  iter_list l enc I f hend hstep l 0 rfl (Nat.zero_le _) m a hI hm

theorem okB_iff {α : Type} {b : Nat} {l : List α} : okB b l = true ↔ l.length * b ≤ 140737488355328 := by
  unfold okB
  rw [decide_eq_true_iff]
theorem okB_len {α : Type} {b : Nat} {l : List α} (hb : 1 ≤ b) (h : okB b l = true) : l.length ≤ 140737488355328 := by
  have h1 := okB_iff.1 h
  have : l.length * 1 ≤ l.length * b := Nat.mul_le_mul_left _ hb
  omega
theorem okB_take {α : Type} {b : Nat} {l : List α} (h : okB b l = true) (i : Nat) : okB b (l.take i) = true := by
  have h1 := okB_iff.1 h
  refine okB_iff.2 ?_
  have : (l.take i).length * b ≤ l.length * b := Nat.mul_le_mul_right _ (by rw [List.length_take]; exact Nat.min_le_right _ _)
  omega

theorem at_lt {α : Type} {l : List α} {i : Nat} (h : i < l.length) : decide ((i : Int) < (l.length : Int)) = true := by simp; exact h
theorem at_end {α : Type} (l : List α) : decide ((l.length : Int) < (l.length : Int)) = false := by simp
theorem at_ge (i : Nat) : decide (0 ≤ (i : Int)) = true := by simp
theorem at_le {α : Type} {l : List α} {i : Nat} (h : i < l.length) : decide ((i : Int) ≤ (l.length : Int)) = true := by simp; omega
theorem at_get {α : Type} {l : List α} {i : Nat} {v d : α} (h : l[i]? = some v) : l.getD (i : Int).toNat d = v := by simp [List.getD, h]
theorem at_take {α : Type} (l : List α) (i : Nat) : List.take (i : Int).toNat l = l.take i := by simp
theorem take_next {α : Type} {l : List α} {i : Nat} {v : α} (h : l[i]? = some v) : l.take i ++ [v] = l.take (i + 1) := by
  obtain ⟨hlt, rfl⟩ := List.getElem?_eq_some_iff.1 h
  simp
theorem lt_of {α : Type} {l : List α} {i : Nat} {v : α} (h : l[i]? = some v) : i < l.length := (List.getElem?_eq_some_iff.1 h).1

/-- Whether one is there. -/
theorem any_loop {α : Type} {l : List α} (p : α → Bool) {step : (Int → Option Bool) → Int → Option Bool} {m : Nat} (hm : l.length < m)
    (hend : ∀ S, step S (l.length : Int) = some false)
    (hstep : ∀ S i v, i < l.length → l[i]? = some v → step S (i : Int) = bif p v then some true else S ((i + 1 : Nat) : Int)) :
    iter step m 0 = some (l.any p) :=
  iter_all (step := step) l (fun i (_ : Unit) => (i : Int)) (fun _ _ => True) (fun i _ r => some (r.any p))
    (fun S a _ => by simp [hend]) (fun S i a v r hi hv hr _ ih => by
      rw [hstep S i v hi hv, List.any_cons, ih () trivial]
      cases p v <;> rfl) m hm () trivial
/-- Whether all are so. -/
theorem all_loop {α : Type} {l : List α} (p : α → Bool) {step : (Int → Option Bool) → Int → Option Bool} {m : Nat} (hm : l.length < m)
    (hend : ∀ S, step S (l.length : Int) = some true)
    (hstep : ∀ S i v, i < l.length → l[i]? = some v → step S (i : Int) = bif p v then S ((i + 1 : Nat) : Int) else some false) :
    iter step m 0 = some (l.all p) :=
  iter_all (step := step) l (fun i (_ : Unit) => (i : Int)) (fun _ _ => True) (fun i _ r => some (r.all p))
    (fun S a _ => by simp [hend]) (fun S i a v r hi hv hr _ ih => by
      rw [hstep S i v hi hv, List.all_cons, ih () trivial]
      cases p v <;> rfl) m hm () trivial
/-! ### First places -/
/-! ### Columns of a table -/
end Go.Proofs.YtiolbhmbobelcaaGreatDoor.AI
/- The plain laws of the runs: names, and values that may be. -/
set_option linter.unusedVariables false
set_option linter.unusedSimpArgs false
namespace Go.Proofs.YtiolbhmbobelcaaGreatDoor.AI
open Go

/-! ### Words in a text, each between two blanks -/
/-! ### Bytes -/
theorem strEq_iff (a b : ByteArray) : strEq a b = true ↔ a = b := by
  unfold strEq
  rw [beq_iff_eq]
  constructor
  · intro h
    cases a with
    | mk d => cases b with
      | mk e =>
        have h1 : d.toList = e.toList := by simpa [ByteArray.toList_eq] using h
        exact congrArg ByteArray.mk (Array.ext' h1)
  · intro h; rw [h]
theorem strEq_dec (a b : ByteArray) : strEq a b = decide (b.data.toList = a.data.toList) := by
  rw [Bool.eq_iff_iff, strEq_iff, decide_eq_true_iff]
  constructor
  · intro h; rw [h]
  · intro h
    cases a with
    | mk d => cases b with
      | mk e => exact congrArg ByteArray.mk (Array.ext' h.symm)
/-! ### Values -/
theorem nat_beq (a b : Nat) : (((a : Int)) == ((b : Int))) = (a == b) := by
  rw [Bool.eq_iff_iff, beq_iff_eq, beq_iff_eq]; omega
theorem int_ne (a b : Int) : (a != b) = !(a == b) := rfl
theorem nat_ne (a b : Nat) : (((a : Int)) != ((b : Int))) = !(a == b) := by rw [int_ne, nat_beq]
theorem okV_size {x : dValue} (h : okV x = true) : x.2.2.2.size ≤ 140737488355328 := of_decide_eq_true (show decide (x.2.2.2.size ≤ 140737488355328) = true from h)
theorem check_ok (x : dValue) (q : okV x = true) : f15.g 0 x = some (checkV x) ∧ f5.g 0 x = some (checkV x) := by
  have hq := okV_size q
  have e21 : F14 x.2.2.2 = some (Lib.validD x.2.2.2.data.toList) := by
    show (bif decide (x.2.2.2.size ≤ 9223372036854775807) then _ else _) = _
    rw [decide_eq_true (by omega)]; rfl
  have e0 : (((x.2.2.1 : Nat) : Int) != 0) = (x.2.2.1 != 0) := nat_ne _ 0
  simp only [f15.g, f5.g, F13, e21, Option.bind_some, e0, checkV, noS]
  simp only [bne]
  generalize decide (x.1 < 0) = k0
  generalize decide (x.1 > 5) = k9
  generalize (x.1 == 1) = k1
  generalize (x.1 == 2) = k2
  generalize (x.1 == 3) = k3
  generalize (x.1 == 4) = k4
  generalize (x.1 == 5) = k5
  generalize (x.2.1 == 0) = n0
  generalize (x.2.1 == 1) = n1
  generalize (x.2.2.1 == 0) = z
  generalize strEq x.2.2.2 ⟨#[]⟩ = e
  generalize Lib.validD x.2.2.2.data.toList = v
  generalize decide ((x.2.2.2.size : Int) > 65536) = g
  constructor
  · cases k0
    · cases k9
      · cases k1 <;> cases n0 <;> cases n1 <;> first | rfl | (cases k2 <;> cases k3 <;> cases z <;> first | rfl | (cases k4 <;> cases k5 <;> cases e <;> cases v <;> cases g <;> rfl))
      · rfl
    · rfl
  · cases k0
    · cases k9
      · cases k1 <;> cases n0 <;> cases n1 <;> first | rfl | (cases k2 <;> cases k3 <;> cases z <;> first | rfl | (cases k4 <;> cases k5 <;> cases e <;> cases v <;> cases g <;> rfl))
      · rfl
    · rfl
theorem F15_some {x : dValue} (h : okV x = true) : F15 x = some (checkV x) := by unfold F15; rw [h]; rfl
theorem F5_some {x : dValue} (h : okV x = true) : F5 x = some (checkV x) := F15_some h
theorem con15_ok : ConOk Tryz.prog 15 con15 := f15.ok (fun x y h => ⟨0, by
  obtain ⟨q, rfl⟩ := some_bif (show (bif okV x then some (checkV x) else none) = some y from h)
  exact (check_ok x q).1⟩) con13_ok con14_ok
theorem con5_ok : ConOk Tryz.prog 5 con5 := f5.ok (fun x y h => ⟨0, by
  obtain ⟨q, rfl⟩ := some_bif (show (bif okV x then some (checkV x) else none) = some y from h)
  exact (check_ok x q).2⟩) con13_ok con14_ok
theorem con12_ok : ConOk Tryz.prog 12 con12 := f12.ok (fun x y h => ⟨0, by
  cases h
  simp only [f12.g, F13, Option.bind_some, nat_beq, sameV]
  cases x.1.1 == x.2.1 <;> cases x.1.2.1 == x.2.2.1 <;> cases x.1.2.2.1 == x.2.2.2.1 <;> rfl⟩) con13_ok

end Go.Proofs.YtiolbhmbobelcaaGreatDoor.AI
/- The plain laws of the runs: what awake asks. -/
set_option linter.unusedVariables false
set_option linter.unusedSimpArgs false
namespace Go.Proofs.YtiolbhmbobelcaaGreatDoor.AI
open Go

theorem some_bif' {α : Type} {c : Bool} {x y : α} (h : (bif c then some x else none) = some y) : c = true ∧ x = y := by
  cases c with
  | true => exact ⟨rfl, Option.some.inj h⟩
  | false => cases h

theorem con33_ok : ConOk Tryz.prog 33 con33 := f33.ok (fun x y h => ⟨0, by
  cases h
  have e : ∀ n : Int, (n != n) = false := fun n => by simp
  simp only [f33.g, e, cond_false, intS]
  cases decide (x.1 < x.2) <;> cases decide (x.1 > x.2) <;> rfl⟩)
theorem con34_ok : ConOk Tryz.prog 34 con34 := f34.ok (fun x y h => ⟨0, by
  cases h
  have e : ∀ n : Int, (n != n) = false := fun n => by simp
  simp only [f34.g, e, cond_false, intS]
  cases decide (x.1 < x.2) <;> cases decide (x.1 > x.2) <;> rfl⟩)
theorem con18_ok : ConOk Tryz.prog 18 con18 := f18.ok (fun x y h => ⟨0, by
  cases h
  simp only [f18.g, intS]
  cases decide (x.1 < x.2) <;> cases decide (x.1 > x.2) <;> rfl⟩)
theorem con35_ok : ConOk Tryz.prog 35 con35 := f35.ok (fun x y h => ⟨0, by
  cases h
  simp only [f35.g, fltS, fo]
  cases FloatKind.f64.format.order x.1 x.1 != some .eq <;> cases FloatKind.f64.format.order x.2 x.2 != some .eq <;> cases FloatKind.f64.format.order x.1 x.2 == some .lt <;> cases FloatKind.f64.format.order x.1 x.2 == some .gt <;> rfl⟩)
theorem con19_ok : ConOk Tryz.prog 19 con19 := f19.ok (fun x y h => ⟨0, by
  cases h
  simp only [f19.g, fltS, fo]
  cases FloatKind.f64.format.order x.1 x.1 != some .eq <;> cases FloatKind.f64.format.order x.2 x.2 != some .eq <;> cases FloatKind.f64.format.order x.1 x.2 == some .lt <;> cases FloatKind.f64.format.order x.1 x.2 == some .gt <;> rfl⟩)

theorem val_eq {x : dValue} {k n : Int} {f : Nat} {s : ByteArray} (h : (x.1 == k && x.2.1 == n && (x.2.2.1 == f) && strEq x.2.2.2 s) = true) : x = (k, (n, (f, s))) := by
  simp only [Bool.and_eq_true] at h
  obtain ⟨⟨⟨h1, h2⟩, h3⟩, h4⟩ := h
  exact Prod.ext (eq_of_beq h1) (Prod.ext (eq_of_beq h2) (Prod.ext (eq_of_beq h3) ((strEq_iff _ _).1 h4)))

/-! ### Texts -/
theorem less_cmp : ∀ (a b : List UInt8), (Op.bytesLess a b = true ↔ Lib.compareBytes a b = -1) ∧ (a = b ↔ Lib.compareBytes a b = 0)
  | [], [] => ⟨⟨fun h => (by cases h), fun h => (by cases h)⟩, ⟨fun _ => rfl, fun _ => rfl⟩⟩
  | [], _ :: _ => ⟨⟨fun _ => rfl, fun _ => rfl⟩, ⟨fun h => (by cases h), fun h => (by cases h)⟩⟩
  | _ :: _, [] => ⟨⟨fun h => (by cases h), fun h => (by cases h)⟩, ⟨fun h => (by cases h), fun h => (by cases h)⟩⟩
  | a :: l, b :: m => by
    obtain ⟨h1, h2⟩ := less_cmp l m
    simp only [Op.bytesLess, Lib.compareBytes]
    by_cases hab : a < b
    · have hne : a ≠ b := fun e => by subst e; exact absurd hab (UInt8.lt_irrefl a)
      rw [if_pos hab]
      simp [hab, hne]
    · rw [if_neg hab]
      by_cases hba : b < a
      · have hne : a ≠ b := fun e => by subst e; exact absurd hba (UInt8.lt_irrefl a)
        rw [if_pos hba]
        simp [hab, hne]
      · have he : a = b := UInt8.le_antisymm (UInt8.not_lt.1 hba) (UInt8.not_lt.1 hab)
        subst he
        rw [if_neg hba, ← h1, ← h2]
        simp [hab]

theorem str_cmp (a b : ByteArray) : strLt a b = decide (strS a b = -1) ∧ strEq a b = decide (strS a b = 0) := by
  obtain ⟨h1, h2⟩ := less_cmp a.data.toList b.data.toList
  unfold strLt strEq strS
  rw [ByteArray.toList_eq, ByteArray.toList_eq]
  refine ⟨?_, ?_⟩
  · rw [Bool.eq_iff_iff, decide_eq_true_iff]; exact h1
  · rw [Bool.eq_iff_iff, decide_eq_true_iff, beq_iff_eq]; exact h2

theorem cmp_range : ∀ (a b : List UInt8), Lib.compareBytes a b = -1 ∨ Lib.compareBytes a b = 0 ∨ Lib.compareBytes a b = 1
  | [], [] => .inr (.inl rfl)
  | [], _ :: _ => .inl rfl
  | _ :: _, [] => .inr (.inr rfl)
  | a :: l, b :: m => by
    simp only [Lib.compareBytes]
    split
    · exact .inl rfl
    · split
      · exact .inr (.inr rfl)
      · exact cmp_range l m

theorem con20_ok : ConOk Tryz.prog 20 con20 := f20.ok (fun x y h => ⟨0, by
  cases h
  obtain ⟨h1, h2⟩ := str_cmp x.1 x.2
  simp only [f20.g, h1, h2]
  have := cmp_range x.1.data.toList x.2.data.toList
  change strS x.1 x.2 = -1 ∨ strS x.1 x.2 = 0 ∨ strS x.1 x.2 = 1 at this
  rcases this with e | e | e <;> rw [e] <;> rfl⟩)

theorem intS_ne {a b : Int} : (intS a b != 0) = (a != b) := by
  unfold intS
  by_cases h1 : a < b
  · rw [decide_eq_true h1]
    have : (a != b) = true := by simp; omega
    rw [this]; rfl
  · rw [decide_eq_false h1]
    by_cases h2 : a > b
    · rw [decide_eq_true h2]
      have : (a != b) = true := by simp; omega
      rw [this]; rfl
    · rw [decide_eq_false h2]
      have : (a != b) = false := by simp; omega
      rw [this]; rfl

theorem spec17 (x : dValue × dValue) : f17.g 0 x = some (cmpV x.1 x.2) := by
  simp only [f17.g, F33, F34, F35, F36, Option.bind_some, intS_ne, cmpV]
  cases x.1.1 != x.2.1 <;> cases x.1.1 == 1 <;> cases x.1.1 == 2 <;> cases x.1.1 == 3 <;> cases x.1.1 == 4 <;> cases x.1.1 == 5 <;> rfl
theorem con17_ok : ConOk Tryz.prog 17 con17 := f17.ok (fun x y h => ⟨0, by cases h; exact spec17 x⟩) con33_ok con34_ok con35_ok con36_ok
theorem con8_ok : ConOk Tryz.prog 8 con8 := f8.ok (fun x y h => ⟨0, by
  cases h
  simp only [f8.g, F18, F19, F20, Option.bind_some, cmpV]
  cases x.1.1 != x.2.1 <;> cases x.1.1 == 1 <;> cases x.1.1 == 2 <;> cases x.1.1 == 3 <;> cases x.1.1 == 4 <;> cases x.1.1 == 5 <;> rfl⟩) con18_ok con19_ok con20_ok

end Go.Proofs.YtiolbhmbobelcaaGreatDoor.AI
/- Doubles as numbers: whole parts, and what is written and read again. -/
set_option linter.unusedVariables false
set_option linter.unusedSimpArgs false
namespace Go.Proofs.YtiolbhmbobelcaaGreatDoor.AI
open Go

theorem cut_zero (neg : Bool) (n drop : Nat) : Ieee.Toward.zero.cut neg n drop = n / 2 ^ drop := by
  simp only [Ieee.Toward.cut, Bool.toNat_false, Nat.add_zero, Nat.one_shiftLeft]
  rcases Nat.le_total drop (n.log2 + 2) with h | h
  · rw [Nat.min_eq_left h]
  · rw [Nat.min_eq_right h]
    have h1 : n < 2 ^ (n.log2 + 1) := Nat.lt_log2_self
    have h2 : n < 2 ^ (n.log2 + 2) := Nat.lt_of_lt_of_le h1 (Nat.pow_le_pow_right (by decide) (by omega))
    have h3 : n < 2 ^ drop := Nat.lt_of_lt_of_le h2 (Nat.pow_le_pow_right (by decide) h)
    rw [Nat.div_eq_of_lt h2, Nat.div_eq_of_lt h3]

/-- The whole part of 'm * 2 ^ i'. -/
def whole (m : Nat) (i : Int) : Nat := (m <<< i.toNat) / 2 ^ (-i).toNat

theorem integral_num (s : Bool) (m : Nat) (i : Int) : (Ieee.Datum.number s m i).integral .zero = .number s (whole m i) 0 := by
  simp only [Ieee.Datum.integral, cut_zero, whole]
theorem toInt_num (s : Bool) (m : Nat) (i : Int) : (Ieee.Datum.number s m i).toInt .zero = some (Ieee.signed s (whole m i) 0) := by
  simp only [Ieee.Datum.toInt, integral_num]

theorem signed_zero (s : Bool) (m : Nat) : Ieee.signed s m 0 = if s then -(m : Int) else (m : Int) := by
  unfold Ieee.signed
  simp

theorem read_shape {b : Nat} {s : Bool} {m : Nat} {i : Int} (h : Ieee.double.read b = .number s m i) : m < 2 ^ 53 ∧ -1074 ≤ i := by
  unfold Ieee.Format.read at h
  have e1 : Ieee.double.leastPlace = -1074 := by decide
  have e2 : Ieee.double.binade = 2 ^ 52 := by decide
  simp only [e1, e2] at h
  split at h
  · rename_i hr
    cases h
    exact ⟨by omega, Int.le_refl _⟩
  · split at h
    · cases h
      have := Nat.mod_lt (b % Ieee.double.signWeight) (show 2 ^ 52 > 0 by decide)
      refine ⟨by omega, by omega⟩
    · split at h <;> cases h

/-- Numbers of at most 53 digits are written as they are. -/
def Fits (w : Nat) : Prop := w.log2 ≤ 52 ∨ 2 ^ (w.log2 - 52) ∣ w

theorem log2_mul_pow {m : Nat} (hm : m ≠ 0) (k : Nat) : (m * 2 ^ k).log2 = m.log2 + k := by
  have hp : 0 < 2 ^ k := Nat.two_pow_pos k
  have h0 : m * 2 ^ k ≠ 0 := Nat.mul_ne_zero hm (by omega)
  apply Nat.le_antisymm
  · have : (m * 2 ^ k).log2 < m.log2 + k + 1 := by
      rw [Nat.log2_lt h0]
      have := @Nat.lt_log2_self m
      calc m * 2 ^ k < 2 ^ (m.log2 + 1) * 2 ^ k := Nat.mul_lt_mul_of_pos_right this hp
        _ = 2 ^ (m.log2 + k + 1) := by rw [← Nat.pow_add]; congr 1; omega
    omega
  · rw [Nat.le_log2 h0, Nat.pow_add]
    exact Nat.mul_le_mul_right _ (Nat.log2_self_le hm)

theorem fits_whole {m : Nat} {i : Int} (hm : m < 2 ^ 53) : Fits (whole m i) := by
  unfold whole Fits
  by_cases hi : 0 ≤ i
  · have e : (-i).toNat = 0 := by omega
    rw [e, Nat.pow_zero, Nat.div_one, Nat.shiftLeft_eq]
    by_cases h0 : m = 0
    · subst h0; left; simp
    · rw [log2_mul_pow h0]
      have hl : m.log2 < 53 := (Nat.log2_lt h0).2 hm
      by_cases hc : m.log2 + i.toNat ≤ 52
      · exact .inl hc
      · right
        refine Nat.dvd_trans (Nat.pow_dvd_pow 2 (show m.log2 + i.toNat - 52 ≤ i.toNat by omega)) (Nat.dvd_mul_left _ _)
  · have e : i.toNat = 0 := by omega
    rw [e, Nat.shiftLeft_zero]
    left
    by_cases h0 : m / 2 ^ (-i).toNat = 0
    · rw [h0]; decide
    · have h1 : m / 2 ^ (-i).toNat ≤ m := Nat.div_le_self _ _
      have : (m / 2 ^ (-i).toNat).log2 < 53 := (Nat.log2_lt h0).2 (Nat.lt_of_le_of_lt h1 hm)
      omega

theorem even_cut {neg : Bool} {n drop : Nat} (h : drop ≤ n.log2 + 2) (hd : 2 ^ drop ∣ n) : Ieee.Toward.even.cut neg n drop = n / 2 ^ drop := by
  simp only [Ieee.Toward.cut, Nat.one_shiftLeft, Nat.min_eq_left h, Nat.mod_eq_zero_of_dvd hd]
  have hp : 0 < 2 ^ drop := Nat.two_pow_pos drop
  have e1 : decide (2 ^ drop < 2 * 0) = false := by simp
  have e2 : (2 ^ drop == 2 * 0) = false := by simp
  simp only [e1, e2, Bool.false_and, Bool.or_self, Bool.toNat_false, Nat.add_zero]

theorem word_read {neg : Bool} {R k L : Nat} (hR : R = (L + 1022) * 4503599627370496 + k) (h1 : 4503599627370496 ≤ k) (h2 : k < 9007199254740992) (hL : L ≤ 64) :
    Ieee.double.read (Ieee.double.word neg (min R Ieee.double.infRung)) = .number neg k ((L : Int) - 52) := by
  have e0 : Ieee.double.infRung = 9218868437227405312 := by decide
  have e1 : Ieee.double.leastPlace = -1074 := by decide
  have e2 : Ieee.double.binade = 4503599627370496 := by decide
  have e3 : Ieee.double.signWeight = 9223372036854775808 := by decide
  have hm : min R Ieee.double.infRung = R := by rw [e0]; omega
  rw [hm]
  have hw : Ieee.double.word neg R = if neg then 9223372036854775808 + R else R := by unfold Ieee.Format.word; rw [e3]
  rw [hw]
  unfold Ieee.Format.read
  simp only [e0, e1, e2, e3]
  have hmod : (if neg = true then 9223372036854775808 + R else R) % 9223372036854775808 = R := by
    cases neg
    · simp only [Bool.false_eq_true, if_false]; omega
    · simp only [if_true]; omega
  have hdiv : ((if neg = true then 9223372036854775808 + R else R) / 9223372036854775808 % 2 == 1) = neg := by
    cases neg
    · simp only [Bool.false_eq_true, if_false]
      have : R / 9223372036854775808 = 0 := Nat.div_eq_of_lt (by omega)
      rw [this]; rfl
    · simp only [if_true]
      have : (9223372036854775808 + R) / 9223372036854775808 = 1 := by omega
      rw [this]; rfl
  rw [hmod, hdiv, if_neg (by omega), if_pos (by omega)]
  have h3 : R % 4503599627370496 = k - 4503599627370496 := by omega
  have h4 : R / 4503599627370496 = L + 1023 := by omega
  have h5 : 4503599627370496 + (k - 4503599627370496) = k := by omega
  have h6 : (-1074 : Int) + ((L + 1023 - 1 : Nat) : Int) = (L : Int) - 52 := by omega
  rw [h3, h4, h5, h6]

theorem read_nearest {neg : Bool} {w : Nat} (h0 : w ≠ 0) (hw : w < 2 ^ 64) (hf : Fits w) : ∃ k l, Ieee.double.read (Ieee.double.nearest neg w 0) = .number neg k l ∧ whole k l = w := by
  have hL : w.log2 < 64 := (Nat.log2_lt h0).2 hw
  have lo : 2 ^ w.log2 ≤ w := Nat.log2_self_le h0
  have hi : w < 2 ^ (w.log2 + 1) := Nat.lt_log2_self
  have e1 : Ieee.double.leastPlace = -1074 := by decide
  have e2 : Ieee.double.binade = 4503599627370496 := by decide
  have e4 : Ieee.double.fractionBits = 52 := rfl
  have hlast : max ((0 : Int) + (w.log2 : Int) - ((52 : Nat) : Int)) (-1074) = (w.log2 : Int) - 52 := by omega
  unfold Ieee.Format.nearest
  rw [if_neg h0]
  simp only [e1, e2, e4, hlast]
  have e5 : ((w.log2 : Int) - 52 - -1074).toNat = w.log2 + 1022 := by omega
  rw [e5]
  by_cases hc : w.log2 ≤ 52
  · have a1 : ((0 : Int) - ((w.log2 : Int) - 52)).toNat = 52 - w.log2 := by omega
    have a2 : ((w.log2 : Int) - 52 - 0).toNat = 0 := by omega
    rw [a1, a2, even_cut (Nat.zero_le _) (by simp), Nat.pow_zero, Nat.div_one, Nat.shiftLeft_eq]
    have hp : 2 ^ w.log2 * 2 ^ (52 - w.log2) = 4503599627370496 := by rw [← Nat.pow_add, show w.log2 + (52 - w.log2) = 52 by omega]
    have hp2 : 2 ^ (w.log2 + 1) * 2 ^ (52 - w.log2) = 9007199254740992 := by rw [← Nat.pow_add, show w.log2 + 1 + (52 - w.log2) = 53 by omega]
    have b1 : 4503599627370496 ≤ w * 2 ^ (52 - w.log2) := by rw [← hp]; exact Nat.mul_le_mul_right _ lo
    have b2 : w * 2 ^ (52 - w.log2) < 9007199254740992 := by rw [← hp2]; exact Nat.mul_lt_mul_of_pos_right hi (Nat.two_pow_pos _)
    refine ⟨w * 2 ^ (52 - w.log2), (w.log2 : Int) - 52, word_read rfl b1 b2 (by omega), ?_⟩
    unfold whole
    have c1 : ((w.log2 : Int) - 52).toNat = 0 := by omega
    have c2 : (-((w.log2 : Int) - 52)).toNat = 52 - w.log2 := by omega
    rw [c1, c2, Nat.shiftLeft_zero]
    exact Nat.mul_div_cancel _ (Nat.two_pow_pos _)
  · have hd : 2 ^ (w.log2 - 52) ∣ w := by
      rcases hf with h | h
      · exact absurd h hc
      · exact h
    have a1 : ((0 : Int) - ((w.log2 : Int) - 52)).toNat = 0 := by omega
    have a2 : ((w.log2 : Int) - 52 - 0).toNat = w.log2 - 52 := by omega
    rw [a1, a2, Nat.shiftLeft_zero, even_cut (by omega) hd]
    obtain ⟨q, hq⟩ := hd
    have hpos : 0 < 2 ^ (w.log2 - 52) := Nat.two_pow_pos _
    have hdq : w / 2 ^ (w.log2 - 52) = q := by
      conv => lhs; lhs; rw [hq]
      exact Nat.mul_div_cancel_left _ hpos
    rw [hdq]
    have hp : 2 ^ (w.log2 - 52) * 4503599627370496 = 2 ^ w.log2 := by
      rw [show (4503599627370496 : Nat) = 2 ^ 52 by decide, ← Nat.pow_add, show w.log2 - 52 + 52 = w.log2 by omega]
    have hp2 : 2 ^ (w.log2 - 52) * 9007199254740992 = 2 ^ (w.log2 + 1) := by
      rw [show (9007199254740992 : Nat) = 2 ^ 53 by decide, ← Nat.pow_add, show w.log2 - 52 + 53 = w.log2 + 1 by omega]
    have b1 : 4503599627370496 ≤ q := by
      refine Nat.le_of_mul_le_mul_left ?_ hpos
      rw [hp, ← hq]; exact lo
    have b2 : q < 9007199254740992 := by
      refine Nat.lt_of_mul_lt_mul_left (a := 2 ^ (w.log2 - 52)) ?_
      rw [hp2, ← hq]; exact hi
    refine ⟨q, (w.log2 : Int) - 52, word_read rfl b1 b2 (by omega), ?_⟩
    unfold whole
    have c1 : ((w.log2 : Int) - 52).toNat = w.log2 - 52 := by omega
    have c2 : (-((w.log2 : Int) - 52)).toNat = 0 := by omega
    rw [c1, c2, Nat.pow_zero, Nat.div_one, Nat.shiftLeft_eq, Nat.mul_comm]
    exact hq.symm

theorem read_zero (neg : Bool) : Ieee.double.read (Ieee.double.nearest neg 0 0) = .number neg 0 (-1074) := by
  cases neg <;> decide

/-! ### Whole parts between minus and plus two to the 63 -/
theorem whole_le {m : Nat} {i : Int} {Q : Nat} (h : (m : Nat) * 2 ^ (i - min i 11).toNat ≤ Q * 2 ^ ((11 : Int) - min i 11).toNat) : whole m i ≤ Q * 2048 := by
  unfold whole
  by_cases hi : 11 ≤ i
  · have a1 : (i - min i 11).toNat = (i - 11).toNat := by omega
    have a2 : ((11 : Int) - min i 11).toNat = 0 := by omega
    have a3 : (-i).toNat = 0 := by omega
    rw [a1, a2, Nat.pow_zero, Nat.mul_one] at h
    rw [a3, Nat.pow_zero, Nat.div_one, Nat.shiftLeft_eq]
    have : i.toNat = (i - 11).toNat + 11 := by omega
    rw [this, Nat.pow_add, ← Nat.mul_assoc]
    exact Nat.mul_le_mul_right 2048 h
  · have a1 : (i - min i 11).toNat = 0 := by omega
    have a2 : ((11 : Int) - min i 11).toNat = (11 - i).toNat := by omega
    rw [a1, a2, Nat.pow_zero, Nat.mul_one] at h
    by_cases h0 : 0 ≤ i
    · have a3 : (-i).toNat = 0 := by omega
      rw [a3, Nat.pow_zero, Nat.div_one, Nat.shiftLeft_eq]
      have e : 2 ^ (11 - i).toNat * 2 ^ i.toNat = 2048 := by rw [← Nat.pow_add, show (11 - i).toNat + i.toNat = 11 by omega]
      calc m * 2 ^ i.toNat ≤ Q * 2 ^ (11 - i).toNat * 2 ^ i.toNat := Nat.mul_le_mul_right _ h
        _ = Q * 2048 := by rw [Nat.mul_assoc, e]
    · have a3 : i.toNat = 0 := by omega
      rw [a3, Nat.shiftLeft_zero]
      have e : 2 ^ (11 - i).toNat = 2048 * 2 ^ (-i).toNat := by rw [show (2048 : Nat) = 2 ^ 11 by decide, ← Nat.pow_add, show 11 + (-i).toNat = (11 - i).toNat by omega]
      rw [e, ← Nat.mul_assoc] at h
      exact Nat.div_le_of_le_mul (by rw [Nat.mul_comm]; exact h)

theorem signed_eq (s : Bool) (m u : Nat) : Ieee.signed s m u = if s then -((m * 2 ^ u : Nat) : Int) else ((m * 2 ^ u : Nat) : Int) := by
  unfold Ieee.signed
  rw [Nat.shiftLeft_eq]

def D63 : Ieee.Datum := .number false 4503599627370496 11
def N63 : Ieee.Datum := .number true 4503599627370496 11

theorem cmp3 (x y : Int) : (x < y ∧ compare x y = .lt) ∨ (x = y ∧ compare x y = .eq) ∨ (y < x ∧ compare x y = .gt) := by
  show (x < y ∧ compareOfLessAndEq x y = .lt) ∨ (x = y ∧ compareOfLessAndEq x y = .eq) ∨ (y < x ∧ compareOfLessAndEq x y = .gt)
  unfold compareOfLessAndEq
  by_cases h1 : x < y
  · exact .inl ⟨h1, if_pos h1⟩
  · by_cases h2 : x = y
    · exact .inr (.inl ⟨h2, by rw [if_neg h1, if_pos h2]⟩)
    · exact .inr (.inr ⟨by omega, by rw [if_neg h1, if_neg h2]⟩)

/-- A double that is no NaN, below 2 to the 63, and not below minus that, is a number whose whole part an int64 holds. -/
theorem in_range {d : Ieee.Datum} (hn : (d.order d != some .eq) = false) (h1 : (d.order D63 == some .gt || d.order D63 == some .eq) = false) (h2 : (d.order N63 == some .lt) = false) :
    ∃ s m i, d = .number s m i ∧ whole m i < 2 ^ 64 ∧ -9223372036854775808 ≤ Ieee.signed s (whole m i) 0 ∧ Ieee.signed s (whole m i) 0 ≤ 9223372036854775807 := by
  cases d with
  | nan s t => cases hn
  | infinity s =>
    cases s
    · cases h1
    · cases h2
  | number s m i =>
    refine ⟨s, m, i, rfl, ?_⟩
    have q1 : Ieee.signed s m (i - min i 11).toNat < Ieee.signed false 4503599627370496 ((11 : Int) - min i 11).toNat := by
      simp only [D63, Ieee.Datum.order] at h1
      rcases cmp3 (Ieee.signed s m (i - min i 11).toNat) (Ieee.signed false 4503599627370496 ((11 : Int) - min i 11).toNat) with ⟨q, _⟩ | ⟨_, q⟩ | ⟨_, q⟩
      · exact q
      · rw [q] at h1; cases h1
      · rw [q] at h1; cases h1
    have q2 : Ieee.signed true 4503599627370496 ((11 : Int) - min i 11).toNat ≤ Ieee.signed s m (i - min i 11).toNat := by
      simp only [N63, Ieee.Datum.order] at h2
      rcases cmp3 (Ieee.signed s m (i - min i 11).toNat) (Ieee.signed true 4503599627370496 ((11 : Int) - min i 11).toNat) with ⟨_, q⟩ | ⟨q, _⟩ | ⟨q, _⟩
      · rw [q] at h2; cases h2
      · omega
      · omega
    rw [signed_eq, signed_eq] at q1 q2
    rw [signed_zero]
    cases s with
    | false =>
      simp only [Bool.false_eq_true, if_false] at q1 q2 ⊢
      have q3 : m * 2 ^ (i - min i 11).toNat < 4503599627370496 * 2 ^ ((11 : Int) - min i 11).toNat := by exact Int.ofNat_lt.1 q1
      have hlt : whole m i < 9223372036854775808 := by
        have hp : 0 < 2 ^ ((11 : Int) - min i 11).toNat := Nat.two_pow_pos _
        -- strictness by the same bound of one less, where it is whole; else by division
        unfold whole
        by_cases hi : 11 ≤ i
        · have a1 : (i - min i 11).toNat = (i - 11).toNat := by omega
          have a2 : ((11 : Int) - min i 11).toNat = 0 := by omega
          have a3 : (-i).toNat = 0 := by omega
          rw [a1, a2, Nat.pow_zero, Nat.mul_one] at q3
          rw [a3, Nat.pow_zero, Nat.div_one, Nat.shiftLeft_eq]
          have : i.toNat = (i - 11).toNat + 11 := by omega
          rw [this, Nat.pow_add, ← Nat.mul_assoc]
          exact Nat.mul_lt_mul_of_pos_right q3 (by decide : 0 < 2048)
        · have a1 : (i - min i 11).toNat = 0 := by omega
          have a2 : ((11 : Int) - min i 11).toNat = (11 - i).toNat := by omega
          rw [a1, a2, Nat.pow_zero, Nat.mul_one] at q3
          by_cases h0 : 0 ≤ i
          · have a3 : (-i).toNat = 0 := by omega
            rw [a3, Nat.pow_zero, Nat.div_one, Nat.shiftLeft_eq]
            have e : 2 ^ (11 - i).toNat * 2 ^ i.toNat = 2048 := by rw [← Nat.pow_add, show (11 - i).toNat + i.toNat = 11 by omega]
            calc m * 2 ^ i.toNat < 4503599627370496 * 2 ^ (11 - i).toNat * 2 ^ i.toNat := Nat.mul_lt_mul_of_pos_right q3 (Nat.two_pow_pos _)
              _ = 4503599627370496 * 2048 := by rw [Nat.mul_assoc, e]
          · have a3 : i.toNat = 0 := by omega
            rw [a3, Nat.shiftLeft_zero]
            have e : 2 ^ (11 - i).toNat = 2048 * 2 ^ (-i).toNat := by rw [show (2048 : Nat) = 2 ^ 11 by decide, ← Nat.pow_add, show 11 + (-i).toNat = (11 - i).toNat by omega]
            rw [e, ← Nat.mul_assoc] at q3
            exact Nat.div_lt_of_lt_mul (by rw [Nat.mul_comm]; exact q3)
      refine ⟨by omega, by omega, by omega⟩
    | true =>
      simp only [if_true] at q1 q2 ⊢
      have q3 : m * 2 ^ (i - min i 11).toNat ≤ 4503599627370496 * 2 ^ ((11 : Int) - min i 11).toNat := by
        have := Int.neg_le_neg_iff.1 q2
        exact Int.ofNat_le.1 this
      have hle := whole_le q3
      refine ⟨by omega, by omega, by omega⟩

/-! ### What is left behind the point -/
theorem not_nan_nearest (s : Bool) (m : Nat) (p : Int) : ((Ieee.double.read (Ieee.double.nearest s m p)).order (Ieee.double.read (Ieee.double.nearest s m p)) != some .eq) = false := by
  have key : ∀ (neg : Bool) (R : Nat), R ≤ Ieee.double.infRung → ((Ieee.double.read (Ieee.double.word neg R)).order (Ieee.double.read (Ieee.double.word neg R)) != some .eq) = false := by
    intro neg R hR
    have e0 : Ieee.double.infRung = 9218868437227405312 := by decide
    have e3 : Ieee.double.signWeight = 9223372036854775808 := by decide
    rw [e0] at hR
    have hw : Ieee.double.word neg R = if neg then 9223372036854775808 + R else R := by unfold Ieee.Format.word; rw [e3]
    have hmod : Ieee.double.word neg R % Ieee.double.signWeight = R := by
      rw [hw, e3]
      cases neg
      · simp only [Bool.false_eq_true, if_false]; omega
      · simp only [if_true]; omega
    unfold Ieee.Format.read
    simp only [hmod]
    split
    · rename_i hr
      simp only [Ieee.Datum.order]
      rcases cmp3 (Ieee.signed (Ieee.double.word neg R / Ieee.double.signWeight % 2 == 1) R (Ieee.double.leastPlace - min Ieee.double.leastPlace Ieee.double.leastPlace).toNat) (Ieee.signed (Ieee.double.word neg R / Ieee.double.signWeight % 2 == 1) R (Ieee.double.leastPlace - min Ieee.double.leastPlace Ieee.double.leastPlace).toNat) with h | h | h
      · omega
      · rw [h.2]; rfl
      · omega
    · split
      · generalize Ieee.double.binade + R % Ieee.double.binade = k
        generalize Ieee.double.leastPlace + ((R / Ieee.double.binade - 1 : Nat) : Int) = l
        generalize (Ieee.double.word neg R / Ieee.double.signWeight % 2 == 1) = sg
        simp only [Ieee.Datum.order]
        rcases cmp3 (Ieee.signed sg k (l - min l l).toNat) (Ieee.signed sg k (l - min l l).toNat) with h | h | h
        · omega
        · rw [h.2]; rfl
        · omega
      · split
        · generalize (Ieee.double.word neg R / Ieee.double.signWeight % 2 == 1) = sg
          cases sg <;> rfl
        · rename_i h1 h2 h3
          rw [e0] at h2 h3
          omega
  unfold Ieee.Format.nearest
  split
  · exact key s 0 (Nat.zero_le _)
  · exact key s _ (Nat.min_le_right _ _)

end Go.Proofs.YtiolbhmbobelcaaGreatDoor.AI
/- The plain laws of doubles: their order; an int beside a double. -/
set_option linter.unusedVariables false
set_option linter.unusedSimpArgs false
namespace Go.Proofs.YtiolbhmbobelcaaGreatDoor.AI
open Go

/-! ### Floats -/
def rk : Ieee.Datum → Int
  | .infinity s => if s then -1 else 1
  | .number _ _ _ => 0
  | .nan _ _ => 2
def kv (B : Int) : Ieee.Datum → Int
  | .number s m i => Ieee.signed s m (i - B).toNat
  | _ => 0
def lowD : Ieee.Datum → Int
  | .number _ _ i => i
  | _ => 0

theorem signed_more (s : Bool) (m u v : Nat) : Ieee.signed s m (u + v) = Ieee.signed s m u * (2 : Int) ^ v := by
  unfold Ieee.signed
  have h : ((m <<< (u + v) : Nat) : Int) = ((m <<< u : Nat) : Int) * (2 : Int) ^ v := by
    rw [Nat.shiftLeft_eq, Nat.shiftLeft_eq, Nat.pow_add, ← Nat.mul_assoc]
    simp
  cases s with
  | true => simp only [if_true]; rw [h, Int.neg_mul]
  | false => simp only [Bool.false_eq_true, if_false]; rw [h]

theorem cmp_cases (x y : Int) : (x < y ∧ compare x y = .lt) ∨ (x = y ∧ compare x y = .eq) ∨ (y < x ∧ compare x y = .gt) := by
  show (x < y ∧ compareOfLessAndEq x y = .lt) ∨ (x = y ∧ compareOfLessAndEq x y = .eq) ∨ (y < x ∧ compareOfLessAndEq x y = .gt)
  unfold compareOfLessAndEq
  by_cases h1 : x < y
  · exact .inl ⟨h1, if_pos h1⟩
  · by_cases h2 : x = y
    · exact .inr (.inl ⟨h2, by rw [if_neg h1, if_pos h2]⟩)
    · exact .inr (.inr ⟨by omega, by rw [if_neg h1, if_neg h2]⟩)

def lexI (r k r' k' : Int) : Int := if r < r' ∨ (r = r' ∧ k < k') then -1 else if r' < r ∨ (r = r' ∧ k' < k) then 1 else 0

theorem lex_anti (r k r' k' : Int) : lexI r' k' r k = 0 - lexI r k r' k' := by
  unfold lexI
  repeat' split
  all_goals omega
theorem lex_range (r k r' k' : Int) : lexI r k r' k' = -1 ∨ lexI r k r' k' = 0 ∨ lexI r k r' k' = 1 := by
  unfold lexI
  repeat' split
  all_goals simp
theorem lex_le {r k r' k' : Int} : lexI r k r' k' ≤ 0 ↔ ¬ (r' < r ∨ (r = r' ∧ k' < k)) := by
  unfold lexI
  repeat' split
  all_goals omega

theorem order_self (d : Ieee.Datum) : (d.order d != some .eq) = decide (rk d = 2) := by
  cases d with
  | number s m i =>
    have : (Ieee.Datum.number s m i).order (.number s m i) = some .eq := by
      simp only [Ieee.Datum.order]
      rcases cmp_cases (Ieee.signed s m (i - min i i).toNat) (Ieee.signed s m (i - min i i).toNat) with h | h | h
      · omega
      · rw [h.2]
      · omega
    rw [this]; rfl
  | infinity s => cases s <;> rfl
  | nan s t => rfl

theorem num_scale {s : Bool} {m : Nat} {i b B : Int} (h1 : b ≤ i) (h2 : B ≤ b) : Ieee.signed s m (i - B).toNat = Ieee.signed s m (i - b).toNat * (2 : Int) ^ (b - B).toNat := by
  rw [← signed_more]
  congr 1
  omega

theorem pow_pos' (v : Nat) : (0 : Int) < (2 : Int) ^ v := Int.pow_pos (by decide)

def fltD (d e : Ieee.Datum) : Int :=
  bif d.order d != some .eq then (bif e.order e != some .eq then 0 else 1)
  else bif e.order e != some .eq then -1 else bif d.order e == some .lt then -1 else bif d.order e == some .gt then 1 else 0

theorem fltD_key (d e : Ieee.Datum) (B : Int) (h1 : B ≤ lowD d) (h2 : B ≤ lowD e) : fltD d e = lexI (rk d) (kv B d) (rk e) (kv B e) := by
  unfold fltD
  rw [order_self, order_self]
  cases d with
  | nan s t => cases e with
    | nan s' t' => rfl
    | infinity s' => cases s' <;> rfl
    | number s' m' i' => rfl
  | infinity s => cases e with
    | nan s' t' => cases s <;> rfl
    | infinity s' => cases s <;> cases s' <;> rfl
    | number s' m' i' => cases s <;> rfl
  | number s m i => cases e with
    | nan s' t' => rfl
    | infinity s' => cases s' <;> rfl
    | number t n j =>
      have h1' : B ≤ i := h1
      have h2' : B ≤ j := h2
      have e1 := num_scale (s := s) (m := m) (i := i) (b := min i j) (B := B) (Int.min_le_left i j) (by omega)
      have e2 := num_scale (s := t) (m := n) (i := j) (b := min i j) (B := B) (Int.min_le_right i j) (by omega)
      have hp := pow_pos' (min i j - B).toNat
      simp only [rk, kv, e1, e2, Ieee.Datum.order]
      generalize Ieee.signed s m (i - min i j).toNat = x
      generalize Ieee.signed t n (j - min i j).toNat = y
      generalize (2 : Int) ^ (min i j - B).toNat = p at hp
      rcases cmp_cases x y with ⟨q1, q2⟩ | ⟨q1, q2⟩ | ⟨q1, q2⟩
      · rw [q2]
        have : x * p < y * p := Int.mul_lt_mul_of_pos_right q1 hp
        unfold lexI
        rw [if_pos (.inr ⟨rfl, this⟩)]; rfl
      · rw [q2, q1]
        unfold lexI
        rw [if_neg (by omega), if_neg (by omega)]; rfl
      · rw [q2]
        have : y * p < x * p := Int.mul_lt_mul_of_pos_right q1 hp
        unfold lexI
        rw [if_neg (by omega), if_pos (.inr ⟨rfl, this⟩)]; rfl

def dat (a : Nat) : Ieee.Datum := FloatKind.f64.format.read a
theorem fltS_eq (a b : Nat) : fltS a b = fltD (dat a) (dat b) := rfl

theorem flt_anti (a b : Nat) : fltS b a = 0 - fltS a b := by
  rw [fltS_eq, fltS_eq, fltD_key _ _ (min (lowD (dat a)) (lowD (dat b))) (by omega) (by omega), fltD_key _ _ (min (lowD (dat a)) (lowD (dat b))) (by omega) (by omega)]
  exact lex_anti _ _ _ _
theorem flt_range (a b : Nat) : fltS a b = -1 ∨ fltS a b = 0 ∨ fltS a b = 1 := by
  rw [fltS_eq, fltD_key _ _ (min (lowD (dat a)) (lowD (dat b))) (by omega) (by omega)]
  exact lex_range _ _ _ _
theorem flt_trans {a b c : Nat} (h1 : fltS a b ≤ 0) (h2 : fltS b c ≤ 0) : fltS a c ≤ 0 := by
  have B : ∃ B, B ≤ lowD (dat a) ∧ B ≤ lowD (dat b) ∧ B ≤ lowD (dat c) := ⟨min (lowD (dat a)) (min (lowD (dat b)) (lowD (dat c))), by omega, by omega, by omega⟩
  obtain ⟨B, b1, b2, b3⟩ := B
  rw [fltS_eq, fltD_key _ _ B (by assumption) (by assumption), lex_le] at h1 h2 ⊢
  omega


/-! ### An int beside a double -/
theorem zero_zero : (FloatKind.f64.format.order 0 0 != some .eq) = false := by kernel_rfl
theorem flt_z0 : fltS 0 (Ieee.double.word false 0) = 0 := by kernel_rfl
theorem flt_z1 : fltS 0 (Ieee.double.word true 0) = 0 := by kernel_rfl
theorem flt_zeros (b : Bool) (p : Int) : fltS 0 (Ieee.double.nearest b 0 p) = 0 := by
  have e : Ieee.double.nearest b 0 p = Ieee.double.word b 0 := by unfold Ieee.Format.nearest; rw [if_pos rfl]
  rw [e]
  cases b
  · exact flt_z0
  · exact flt_z1

theorem dat63 : dat 4890909195324358656 = D63 := by kernel_rfl
theorem datN63 : dat 14114281232179134464 = N63 := by kernel_rfl

theorem nearest_int (s : Bool) (W : Nat) (h : W ≠ 0) : FloatKind.f64.nearest (Ieee.signed s W 0) = Ieee.double.nearest s W 0 := by
  rw [signed_zero]
  show Ieee.double.nearest (decide ((if s then -(W : Int) else (W : Int)) < 0)) (if s then -(W : Int) else (W : Int)).natAbs 0 = _
  cases s with
  | true =>
    simp only [if_true]
    rw [decide_eq_true (show -(W : Int) < 0 by omega), Int.natAbs_neg, Int.natAbs_natCast]
  | false =>
    simp only [Bool.false_eq_true, if_false]
    rw [decide_eq_false (show ¬ (W : Int) < 0 by omega), Int.natAbs_natCast]

theorem signed_nil (s : Bool) (u : Nat) : Ieee.signed s 0 u = 0 := by
  rw [signed_eq]; simp

/-- A number less a zero. -/
theorem sum_zero (s x : Bool) (m : Nat) (i : Int) (hi : -1074 ≤ i) : (Ieee.Datum.number s m i).sum (.number x 0 (-1074)) =
    some (.number (if Ieee.signed s m (i - -1074).toNat = 0 then s && x else decide (Ieee.signed s m (i - -1074).toNat < 0)) (Ieee.signed s m (i - -1074).toNat).natAbs (-1074)) := by
  have e : min i (-1074) = -1074 := by omega
  simp only [Ieee.Datum.sum, e, signed_nil, Int.add_zero]

theorem order_refl_write (s : Bool) (m : Nat) (p : Int) : (fo (Ieee.double.nearest s m p) (Ieee.double.nearest s m p) != some .eq) = false := not_nan_nearest s m p

structure MixOk (f : Nat) (s : Bool) (m : Nat) (i : Int) : Prop where
  d : dat f = .number s m i
  fits : whole m i < 2 ^ 64
  lo : -9223372036854775808 ≤ Ieee.signed s (whole m i) 0
  hi : Ieee.signed s (whole m i) 0 ≤ 9223372036854775807

theorem whole_nil (l : Int) : whole 0 l = 0 := by unfold whole; simp

theorem mix_whole {f : Nat} {s : Bool} {m : Nat} {i : Int} (h : MixOk f s m i) : wholeI f = Ieee.signed s (whole m i) 0 := by
  unfold wholeI
  have : FloatKind.f64.decode f = .number s m i := h.d
  rw [this, toInt_num]

theorem mix_toI {f : Nat} {s : Bool} {m : Nat} {i : Int} (h : MixOk f s m i) : fToI .f64 .i64 f = some (wholeI f) := by
  rw [mix_whole h]
  unfold fToI
  have : FloatKind.f64.decode f = .number s m i := h.d
  rw [this, toInt_num]
  simp only
  rw [decide_eq_true (show IntKind.min .i64 ≤ Ieee.signed s (whole m i) 0 from h.lo), decide_eq_true (show Ieee.signed s (whole m i) 0 ≤ IntKind.max .i64 from h.hi)]
  rfl

theorem mix_range (n : Int) (f : Nat) : mixS n f = -1 ∨ mixS n f = 0 ∨ mixS n f = 1 := by
  unfold mixS
  cases (fo f f != some .eq || (fo f 4890909195324358656 == some .gt || fo f 4890909195324358656 == some .eq)) with
  | true => exact .inl rfl
  | false =>
    cases fo f 14114281232179134464 == some .lt with
    | true => exact .inr (.inr rfl)
    | false =>
      cases n != wholeI f with
      | true =>
        show intS _ _ = -1 ∨ intS _ _ = 0 ∨ intS _ _ = 1
        unfold intS
        cases decide (n < wholeI f) <;> cases decide (n > wholeI f) <;> simp
      | false =>
        simp only [cond_false]
        split
        · exact flt_range _ _
        · exact .inr (.inl rfl)
theorem wrap_neg {n : Int} (h : n = -1 ∨ n = 0 ∨ n = 1) : IntKind.wrap .i64 (0 - n) = 0 - n := by
  rcases h with rfl | rfl | rfl <;> rfl

end Go.Proofs.YtiolbhmbobelcaaGreatDoor.AI
/- The plain laws of values: one order of all of them. -/
set_option linter.unusedVariables false
set_option linter.unusedSimpArgs false
namespace Go.Proofs.YtiolbhmbobelcaaGreatDoor.AI
open Go

/-! ### Whole numbers, texts -/
theorem intS_eq (a b : Int) : intS a b = lexI 0 a 0 b := by
  unfold intS lexI
  by_cases h1 : a < b
  · rw [decide_eq_true h1, if_pos (.inr ⟨rfl, h1⟩)]; rfl
  · rw [decide_eq_false h1, if_neg (by omega)]
    by_cases h2 : a > b
    · rw [decide_eq_true h2, if_pos (.inr ⟨rfl, h2⟩)]; rfl
    · rw [decide_eq_false h2, if_neg (by omega)]; rfl

theorem bytes_anti : ∀ (a b : List UInt8), Lib.compareBytes b a = 0 - Lib.compareBytes a b
  | [], [] => rfl
  | [], _ :: _ => rfl
  | _ :: _, [] => rfl
  | a :: l, b :: m => by
    have ih := bytes_anti l m
    simp only [Lib.compareBytes]
    by_cases h1 : a < b
    · have h2 : ¬ b < a := by rw [UInt8.lt_iff_toNat_lt] at *; omega
      rw [if_pos h1, if_neg h2, if_pos h1]; rfl
    · by_cases h2 : b < a
      · rw [if_pos h2, if_neg h1, if_pos h2]; rfl
      · rw [if_neg h2, if_neg h1, if_neg h1, if_neg h2]; exact ih
theorem bytes_trans : ∀ {a b c : List UInt8}, Lib.compareBytes a b ≤ 0 → Lib.compareBytes b c ≤ 0 → Lib.compareBytes a c ≤ 0
  | [], _, [], _, _ => by simp [Lib.compareBytes]
  | [], _, _ :: _, _, _ => by simp [Lib.compareBytes]
  | _ :: _, [], _, h, _ => by simp [Lib.compareBytes] at h
  | _ :: _, _ :: _, [], _, h => by simp [Lib.compareBytes] at h
  | a :: l, b :: m, c :: n, h1, h2 => by
    simp only [Lib.compareBytes] at h1 h2 ⊢
    simp only [UInt8.lt_iff_toNat_lt] at h1 h2 ⊢
    have ih := @bytes_trans l m n
    by_cases q1 : a.toNat < b.toNat
    · by_cases q2 : b.toNat < c.toNat
      · rw [if_pos (by omega)]; omega
      · rw [if_neg q2] at h2
        by_cases q3 : c.toNat < b.toNat
        · rw [if_pos q3] at h2; omega
        · rw [if_pos (by omega)]; omega
    · rw [if_neg q1] at h1
      by_cases q2 : b.toNat < a.toNat
      · rw [if_pos q2] at h1; omega
      · rw [if_neg q2] at h1
        by_cases q3 : b.toNat < c.toNat
        · rw [if_pos (by omega)]; omega
        · rw [if_neg q3] at h2
          by_cases q4 : c.toNat < b.toNat
          · rw [if_pos q4] at h2; omega
          · rw [if_neg q4] at h2
            rw [if_neg (by omega), if_neg (by omega)]
            exact ih h1 h2

/-! ### Values -/
def subV (a b : dValue) : Int :=
  bif a.1 == 1 || a.1 == 2 then intS a.2.1 b.2.1
  else bif a.1 == 3 then fltS a.2.2.1 b.2.2.1
  else bif a.1 == 4 || a.1 == 5 then strS a.2.2.2 b.2.2.2 else 0

theorem cmp_ne {a b : dValue} (h : a.1 ≠ b.1) : cmpV a b = intS a.1 b.1 := by
  unfold cmpV
  rw [show (a.1 != b.1) = true by simp; exact h]; rfl
theorem cmp_eq {a b : dValue} (h : a.1 = b.1) : cmpV a b = subV a b := by
  unfold cmpV subV
  rw [show (a.1 != b.1) = false by simp; exact h]; rfl

theorem str_anti (a b : ByteArray) : strS b a = 0 - strS a b := bytes_anti _ _
theorem sub_anti {a b : dValue} (h : a.1 = b.1) : subV b a = 0 - subV a b := by
  unfold subV
  rw [← h]
  cases (a.1 == 1 || a.1 == 2) with
  | true => simp only [cond_true, intS_eq]; exact lex_anti _ _ _ _
  | false =>
    cases a.1 == 3 with
    | true => exact flt_anti _ _
    | false =>
      cases (a.1 == 4 || a.1 == 5) with
      | true => exact str_anti _ _
      | false => rfl
theorem cmp_anti (a b : dValue) : cmpV b a = 0 - cmpV a b := by
  by_cases h : a.1 = b.1
  · rw [cmp_eq h, cmp_eq h.symm]; exact sub_anti h
  · rw [cmp_ne h, cmp_ne (Ne.symm h), intS_eq, intS_eq]; exact lex_anti _ _ _ _
theorem cmp_range' (a b : dValue) : cmpV a b = -1 ∨ cmpV a b = 0 ∨ cmpV a b = 1 := by
  by_cases h : a.1 = b.1
  · rw [cmp_eq h]
    unfold subV
    cases (a.1 == 1 || a.1 == 2) with
    | true => simp only [cond_true, intS_eq]; exact lex_range _ _ _ _
    | false =>
      cases a.1 == 3 with
      | true => exact flt_range _ _
      | false =>
        cases (a.1 == 4 || a.1 == 5) with
        | true => exact cmp_range _ _
        | false => exact .inr (.inl rfl)
  · rw [cmp_ne h, intS_eq]; exact lex_range _ _ _ _
theorem cmp_self (a : dValue) : cmpV a a = 0 := by
  have := cmp_anti a a
  omega
theorem sub_trans {a b c : dValue} (h1 : a.1 = b.1) (h2 : b.1 = c.1) (q1 : subV a b ≤ 0) (q2 : subV b c ≤ 0) : subV a c ≤ 0 := by
  unfold subV at *
  rw [← h1] at q2
  cases hk : (a.1 == 1 || a.1 == 2) with
  | true =>
    simp only [hk, cond_true, intS_eq] at q1 q2 ⊢
    have r1 := lex_le.1 q1
    have r2 := lex_le.1 q2
    refine lex_le.2 ?_
    omega
  | false =>
    cases hf : a.1 == 3 with
    | true =>
      simp only [hk, hf, cond_true, cond_false] at q1 q2 ⊢
      exact flt_trans q1 q2
    | false =>
      cases ht : (a.1 == 4 || a.1 == 5) with
      | true =>
        simp only [hk, hf, ht, cond_true, cond_false] at q1 q2 ⊢
        exact bytes_trans q1 q2
      | false => simp only [cond_false]; omega
theorem cmp_trans {a b c : dValue} (q1 : cmpV a b ≤ 0) (q2 : cmpV b c ≤ 0) : cmpV a c ≤ 0 := by
  by_cases h1 : a.1 = b.1
  · by_cases h2 : b.1 = c.1
    · rw [cmp_eq h1] at q1
      rw [cmp_eq h2] at q2
      rw [cmp_eq (h1.trans h2)]
      exact sub_trans h1 h2 q1 q2
    · have h3 : a.1 ≠ c.1 := by rw [h1]; exact h2
      rw [cmp_ne h2] at q2
      rw [cmp_ne h3, h1]; exact q2
  · rw [cmp_ne h1, intS_eq, lex_le] at q1
    by_cases h2 : b.1 = c.1
    · have h3 : a.1 ≠ c.1 := by rw [← h2]; exact h1
      rw [cmp_ne h3, intS_eq, lex_le]; omega
    · rw [cmp_ne h2, intS_eq, lex_le] at q2
      have h3 : a.1 ≠ c.1 := by omega
      rw [cmp_ne h3, intS_eq, lex_le]; omega

theorem same_eq {a b : dValue} (h : sameV a b = true) : a = b := by
  unfold sameV at h
  simp only [Bool.and_eq_true] at h
  obtain ⟨⟨⟨h1, h2⟩, h3⟩, h4⟩ := h
  exact Prod.ext (eq_of_beq h1) (Prod.ext (eq_of_beq h2) (Prod.ext (eq_of_beq h3) ((strEq_iff _ _).1 h4)))

/-! ### The laws -/
/-! ### Plain -/
theorem nan_zero0 : (FloatKind.f64.format.order nanN 0 == some .eq) = false := by kernel_rfl
theorem nan_nan : (FloatKind.f64.format.order nanN nanN != some .eq) = true := by kernel_rfl
theorem zero_eq : (FloatKind.f64.format.order 0 0 == some .eq) = true := by kernel_rfl
theorem nan_not {a b : Nat} (h : (fo a a != some .eq) = true) : fo a b = none := by
  have h1 : ((dat a).order (dat a) != some .eq) = true := h
  rw [order_self] at h1
  have h2 := of_decide_eq_true h1
  show (dat a).order (dat b) = none
  cases hd : dat a with
  | number s m i => rw [hd] at h2; cases h2
  | infinity s => rw [hd] at h2; cases s <;> cases h2
  | nan s t => cases dat b <;> rfl

theorem spec52 (x : dValue) : f52.g 0 x = some (plainD x) := by
  have e : F66 9221120237041090560 = some nanN := rfl
  simp only [f52.g, plainD, fo, zero_zero, e, Option.bind_some, cond_false]
  cases x.1 != 3 <;> cases FloatKind.f64.format.order x.2.2.1 0 == some .eq <;> cases FloatKind.f64.format.order x.2.2.1 x.2.2.1 != some .eq <;> rfl
theorem con52_ok : ConOk Tryz.prog 52 con52 := f52.ok (fun x y h => ⟨0, by cases h; exact spec52 x⟩) con66_ok

theorem spec46 (x : dValue) : f46.g 0 x = some (plainD x) := by
  have e : F66 9221120237041090560 = some nanN := rfl
  have hn : (fo x.2.2.1 x.2.2.1 != some .eq) = true → (FloatKind.f64.format.order x.2.2.1 0 == some .eq) = false := fun h => by
    have := nan_not (b := 0) h
    show (fo x.2.2.1 0 == some .eq) = false
    rw [this]; rfl
  have hb : (x.1 != 3) = !(x.1 == 3) := rfl
  simp only [f46.g, plainD, e, Option.bind_some, nan_zero0, hb]
  show _ = some (bif !(x.1 == 3) then x else bif FloatKind.f64.format.order x.2.2.1 0 == some .eq then (x.1, x.2.1, 0, x.2.2.2) else bif FloatKind.f64.format.order x.2.2.1 x.2.2.1 != some .eq then (x.1, x.2.1, nanN, x.2.2.2) else x)
  cases hq : FloatKind.f64.format.order x.2.2.1 x.2.2.1 != some .eq with
  | true =>
    rw [hn hq]
    cases x.1 == 3 <;> rfl
  | false => cases x.1 == 3 <;> cases FloatKind.f64.format.order x.2.2.1 0 == some .eq <;> rfl
theorem con46_ok : ConOk Tryz.prog 46 con46 := f46.ok (fun x y h => ⟨0, by cases h; exact spec46 x⟩) con66_ok

theorem plain_cases (x : dValue) : (plainD x = x) ∨ (x.1 = 3 ∧ fo x.2.2.1 0 = some .eq ∧ plainD x = (x.1, x.2.1, 0, x.2.2.2)) ∨ (x.1 = 3 ∧ (fo x.2.2.1 x.2.2.1 != some .eq) = true ∧ plainD x = (x.1, x.2.1, nanN, x.2.2.2)) := by
  unfold plainD
  by_cases h : x.1 = 3
  · rw [show (x.1 != 3) = false by simp; exact h]
    cases h1 : fo x.2.2.1 0 == some .eq with
    | true => exact .inr (.inl ⟨h, eq_of_beq h1, rfl⟩)
    | false =>
      cases h2 : fo x.2.2.1 x.2.2.1 != some .eq with
      | true => exact .inr (.inr ⟨h, rfl, rfl⟩)
      | false => exact .inl rfl
  · rw [show (x.1 != 3) = true by simp; exact h]
    exact .inl rfl

theorem plain_twice (x : dValue) : plainD (plainD x) = plainD x := by
  rcases plain_cases x with h | ⟨h1, h2, h3⟩ | ⟨h1, h2, h3⟩
  · rw [h]; exact h
  · rw [h3]
    unfold plainD
    have e : (fo 0 0 == some .eq) = true := zero_eq
    simp only [e, cond_true]
    cases x.1 != 3 <;> rfl
  · rw [h3]
    unfold plainD
    have e1 : (fo nanN 0 == some .eq) = false := nan_zero0
    have e2 : (fo nanN nanN != some .eq) = true := nan_nan
    simp only [e1, e2, cond_true, cond_false]
    cases x.1 != 3 <;> rfl

theorem cmp_plain (x : dValue) : cmpV x (plainD x) = 0 := by
  rcases plain_cases x with h | ⟨h1, h2, h3⟩ | ⟨h1, h2, h3⟩
  · rw [h]; exact cmp_self x
  · rw [h3, cmp_eq (a := x) (b := (x.1, x.2.1, (0 : Nat), x.2.2.2)) rfl]
    unfold subV
    rw [h1]
    show fltS x.2.2.1 0 = 0
    unfold fltS
    have e0 : (fo 0 0 != some .eq) = false := zero_zero
    have e1 : (fo x.2.2.1 x.2.2.1 != some .eq) = false := by
      cases hq : fo x.2.2.1 x.2.2.1 != some .eq with
      | false => rfl
      | true =>
        have := nan_not (b := 0) hq
        rw [h2] at this; cases this
    rw [e0, e1, h2]; rfl
  · rw [h3, cmp_eq (a := x) (b := (x.1, x.2.1, nanN, x.2.2.2)) rfl]
    unfold subV
    rw [h1]
    show fltS x.2.2.1 nanN = 0
    unfold fltS
    have e2 : (fo nanN nanN != some .eq) = true := nan_nan
    rw [h2, e2]; rfl

/-! ### Values as numbers -/
theorem k_true {a k : Int} (h : a = k) : (a == k) = true := by rw [h]; simp
theorem k_false {a k : Int} (h : a ≠ k) : (a == k) = false := by simp; exact h

theorem num_kinds (a b : dValue) : (a.1 = 2 ∧ b.1 = 2 ∧ numS a b = (intS a.2.1 b.2.1, true)) ∨ (a.1 = 3 ∧ b.1 = 3 ∧ numS a b = (fltS a.2.2.1 b.2.2.1, true)) ∨ (a.1 = 2 ∧ b.1 = 3 ∧ numS a b = (mixS a.2.1 b.2.2.1, true)) ∨
    (a.1 = 3 ∧ b.1 = 2 ∧ numS a b = (0 - mixS b.2.1 a.2.2.1, true)) ∨ (¬ ((a.1 = 2 ∨ a.1 = 3) ∧ (b.1 = 2 ∨ b.1 = 3)) ∧ numS a b = (0, false)) := by
  unfold numS
  by_cases a2 : a.1 = 2
  · by_cases b2 : b.1 = 2
    · exact .inl ⟨a2, b2, by rw [k_true a2, k_true b2]; rfl⟩
    · by_cases b3 : b.1 = 3
      · exact .inr (.inr (.inl ⟨a2, b3, by rw [k_true a2, k_false b2, k_false (show a.1 ≠ 3 by omega), k_true b3]; rfl⟩))
      · exact .inr (.inr (.inr (.inr ⟨by omega, by rw [k_true a2, k_false b2, k_false (show a.1 ≠ 3 by omega), k_false b3]; rfl⟩)))
  · by_cases a3 : a.1 = 3
    · by_cases b2 : b.1 = 2
      · exact .inr (.inr (.inr (.inl ⟨a3, b2, by rw [k_false a2, k_true a3, k_true b2, k_false (show b.1 ≠ 3 by omega)]; rfl⟩)))
      · by_cases b3 : b.1 = 3
        · exact .inr (.inl ⟨a3, b3, by rw [k_false a2, k_true a3, k_false b2, k_true b3]; rfl⟩)
        · exact .inr (.inr (.inr (.inr ⟨by omega, by rw [k_false a2, k_true a3, k_false b2, k_false b3]; rfl⟩)))
    · exact .inr (.inr (.inr (.inr ⟨by omega, by rw [k_false a2, k_false a3]; rfl⟩)))

theorem num_range (a b : dValue) : (numS a b).1 = -1 ∨ (numS a b).1 = 0 ∨ (numS a b).1 = 1 := by
  rcases num_kinds a b with ⟨_, _, h⟩ | ⟨_, _, h⟩ | ⟨_, _, h⟩ | ⟨_, _, h⟩ | ⟨_, h⟩ <;> rw [h]
  · show intS _ _ = -1 ∨ intS _ _ = 0 ∨ intS _ _ = 1
    rw [intS_eq]; exact lex_range _ _ _ _
  · exact flt_range _ _
  · exact mix_range _ _
  · have := mix_range b.2.1 a.2.2.1
    show 0 - mixS b.2.1 a.2.2.1 = -1 ∨ 0 - mixS b.2.1 a.2.2.1 = 0 ∨ 0 - mixS b.2.1 a.2.2.1 = 1
    omega
  · exact .inr (.inl rfl)

theorem num_anti (a b : dValue) : numS b a = (0 - (numS a b).1, (numS a b).2) := by
  rcases num_kinds a b with ⟨p, q, h⟩ | ⟨p, q, h⟩ | ⟨p, q, h⟩ | ⟨p, q, h⟩ | ⟨p, h⟩ <;> rcases num_kinds b a with ⟨p', q', h'⟩ | ⟨p', q', h'⟩ | ⟨p', q', h'⟩ | ⟨p', q', h'⟩ | ⟨p', h'⟩ <;> first
    | (exfalso; omega)
    | (rw [h, h']; simp only [intS_eq]; rw [lex_anti]; done)
    | (rw [h, h']; simp only []; rw [flt_anti]; done)
    | (rw [h, h']; refine Prod.ext ?_ rfl; show _ = _; simp only []; omega)
    | (rw [h, h']; done)
    | (rw [h, h']; rfl)

end Go.Proofs.YtiolbhmbobelcaaGreatDoor.AI
