import Derived.Test.YtfccofgchjieeaaGreatDoorSz
import Derived.Test.YtfccofgchjieeaaGreatDoorBv
import Derived.KernelRfl
import GoSem.Op.Unary
import Derived.Test.YtfccofgchjieeaaGreatDoorBw
import Derived.Laws.FloatBits
/- The plain laws of the runs: nodes, what may be, kinds. -/
set_option linter.unusedVariables false
set_option linter.unusedSimpArgs false
namespace Go.Proofs.YtfccofgchjieeaaGreatDoor.AI
open Go

/-! ### Contracts by size -/
theorem mkCon_none {P : Program} {f : FuncId} {s rs : Sig} {b : Bool} {F : s.den → Option rs.den} (h : ∀ X, F X = none) : ConOk P f (mkCon s rs b F) := by
  cases b with
  | true => exact ⟨fun x args vals X Y hI hv hl hF => (by have := h X; rw [show F X = some Y from hF] at this; cases this), fun h => (by cases h), fun _ args H l X h => lookL_more H l s args X h⟩
  | false => exact ⟨fun x args vals X Y hI hv hl hF => (by have := h X; rw [show F X = some Y from hF] at this; cases this), fun _ => ⟨fun _ _ _ => rfl, fun _ _ => rfl, fun _ _ _ => rfl⟩, fun h => by cases h⟩
theorem mkCon_union {P : Program} {f : FuncId} {s rs : Sig} {b : Bool} {F : s.den → Option rs.den} {Fn : Nat → s.den → Option rs.den} (hn : ∀ k, ConOk P f (mkCon s rs b (Fn k))) (h : ∀ X Y, F X = some Y → ∃ k, Fn k X = some Y) : ConOk P f (mkCon s rs b F) :=
  ⟨fun x args vals X Y hI hv hl hF => (h X Y hF).elim fun k hk => (hn k).1 x args vals X Y hI hv hl hk, (hn 0).2, (hn 0).3⟩
theorem mkConP_none {P : Program} {f : FuncId} {t0 : Ty} {s rs : Sig} {F : t0.den × s.den → Option (t0.den × rs.den)} (h : ∀ X, F X = none) : ConOk P f (mkConP t0 s rs F) :=
  ⟨fun x args vals X Y hI hv hl hF => (by have := h (X.2.1, X.2.2); rw [show F (X.2.1, X.2.2) = some Y from hF] at this; cases this), fun h => (by cases h), fun h => by cases h⟩
theorem mkConP_union {P : Program} {f : FuncId} {t0 : Ty} {s rs : Sig} {F : t0.den × s.den → Option (t0.den × rs.den)} {Fn : Nat → t0.den × s.den → Option (t0.den × rs.den)} (hn : ∀ k, ConOk P f (mkConP t0 s rs (Fn k))) (h : ∀ X Y, F X = some Y → ∃ k, Fn k X = some Y) : ConOk P f (mkConP t0 s rs F) :=
  ⟨fun x args vals X Y hI hv hl hF => (h (X.2.1, X.2.2) Y hF).elim fun k hk => (hn k).1 x args vals X Y hI hv hl hk, (hn 0).2, (hn 0).3⟩

theorem wrap1 {n : Int} (h0 : 0 ≤ n) (h1 : n ≤ 140737488355328) : IntKind.wrap .i64 (n + (1 : Int)) = n + 1 := wrap_ok (by omega) (by omega)
theorem kids_len {a : Int × ByteArray × Int × dValue} {ks : List dExpr} (h : bigE (.node a ks) = true) : ks.length ≤ 140737488355328 ∧ bigL ks = true := by
  simp only [bigE, Bool.and_eq_true] at h
  exact ⟨okB_len (by omega) h.2.2.1, h.2.2.2⟩
/-! What a node is, told of it whole. -/
theorem count_at (e : dExpr) (h : Int) : countS e h = countL e.kids (h + 1) := by cases e; rfl
theorem size_at (e : dExpr) : sizeE e = sizeL e.kids + 1 := by cases e; rfl
theorem big_at {e : dExpr} (h : bigE e = true) : e.kids.length ≤ 140737488355328 ∧ bigL e.kids = true := by cases e; exact kids_len h
theorem okE_at {e : dExpr} (h : okE e = true) : okS e.lab.2.1 = true ∧ okZ e.lab.2.2.2 = true ∧ okB 96 e.kids = true ∧ bigL e.kids = true ∧ sizeL e.kids + 1 ≤ 1048576 := by cases e; exact okE_node h
theorem okE_kid' {e : dExpr} (h : okE e = true) {k : dExpr} (hk : k ∈ e.kids) : okE k = true ∧ sizeE k < sizeL e.kids + 1 := by cases e; exact okE_kid h hk
theorem may_at (n : Nat) (e : dExpr) (left deep : Int) : mayS n e left deep = bif decide (left - 1 < 0) || decide (deep > 100) then (left - 1, false)
    else bif e.lab.1 == 1 || e.lab.1 == 2 then (left - 1, leafB n e.lab e.kids.length)
    else bif !innerB e.lab e.kids.length then (left - 1, false) else mayL n e.kids (left - 1) (deep + 1) := by cases e; rfl
theorem nodes_at (e : dExpr) (had deep : Int) : nodesS e had deep = bif decide (had + 1 > 1024) || decide (deep > 100) then (had + 1, false) else nodesL e.kids (had + 1) (deep + 1) := by cases e; rfl
theorem fine_at (n : Nat) (e : dExpr) : fineE n e = (nodeB n e.lab e.kids.length && fineL n e.kids) := by cases e; rfl
theorem kind_at (cs : List Int) (e : dExpr) : kindS cs e = (match kindL cs e.kids with | none => (0, false) | some l => kindN cs e.lab l) := by cases e; rfl

/-! ### How many there are -/
theorem spec48 (k : Nat) : ∀ X Y, F48n (k + 1) X = some Y → ∃ n, @f48.g ⟨F48n k⟩ n X = some Y := by
  rintro ⟨e, h⟩ y hh
  obtain ⟨ho, rfl⟩ := bifG_some hh
  simp only [Bool.and_eq_true, decide_eq_true_eq] at ho
  obtain ⟨hb, hi, h0, h1, hs⟩ := ho
  obtain ⟨hl, hbl⟩ := big_at hb
  letI : Rec48 := ⟨F48n k⟩
  refine ⟨e.kids.length + 1, ?_⟩
  show f48.g (e.kids.length + 1) (e, h) = some (countS e h)
  rw [count_at]
  have e0 : f48.g (e.kids.length + 1) (e, h) = iter (f48.s1 (e.kids.length + 1) (e, h)) (e.kids.length + 1) (h + 1, (0 : Int)) := by
    simp only [f48.g, wrap1 h0 (show h ≤ _ by omega)]
  rw [e0]
  refine iter_all (step := f48.s1 (e.kids.length + 1) (e, h)) e.kids (fun i (c : Int) => (c, (i : Int))) (fun i c => 0 ≤ c ∧ c ≤ 262145) (fun i c r => some (countL r c)) (fun S c _ => ?_) (fun S i c v r hi hv hr hc ih => ?_) (e.kids.length + 1) (Nat.lt_succ_self _) (h + 1) ⟨by omega, by omega⟩
  · simp only [f48.s1, at_end, cond_false, countL]
  · simp only [f48.s1, at_lt hi, at_ge, at_get hv, Bool.and_self, cond_true, nx (show i ≤ _ by omega), Rose.eta, countL]
    cases hd : decide (c ≤ 262144) with
    | false => rfl
    | true =>
      have hd' := of_decide_eq_true hd
      have hm := size_mem (List.mem_of_getElem? hv)
      have hbv := bigL_mem hbl v (List.mem_of_getElem? hv)
      have hsz : sizeE v < k := by rw [size_at] at hs; omega
      have g : (Rec48.F (v, c) : Option Int) = some (countS v c) := bifG_true (by
        simp only [hbv, okI, decide_eq_true hc.1, decide_eq_true hd', decide_eq_true (show (-9223372036854775808 : Int) ≤ c by omega), decide_eq_true (show c ≤ 9223372036854775807 by omega), decide_eq_true hsz, Bool.and_self])
      obtain ⟨q1, q2, _⟩ := countS_spec v c hc.1 hd'
      simp only [cond_true, g, Option.bind_some]
      exact ih (countS v c) ⟨by omega, q2⟩
theorem con48n_ok : ∀ k, ConOk Tryz.prog 48 (mkCon [(true, tExpr), (false, .int .i64)] [(false, .int .i64)] true (F48n k))
  | 0 => mkCon_none fun X => by unfold F48n; simp [bifG]
  | k + 1 => @f48.ok ⟨F48n k⟩ (F48n (k + 1)) (spec48 k) (con48n_ok k)
theorem con48_ok : ConOk Tryz.prog 48 con48 := mkCon_union con48n_ok fun X Y h => by
  obtain ⟨ho, rfl⟩ := bifG_some h
  refine ⟨sizeE X.1 + 1, bifG_true ?_⟩
  simp only [Bool.and_eq_true] at ho ⊢
  exact ⟨ho.1, ho.2.1, ho.2.2.1, ho.2.2.2, decide_eq_true (Nat.lt_succ_self _)⟩
theorem con24_ok : ConOk Tryz.prog 24 con24 := f24.ok (fun x y h => by
  obtain ⟨ho, rfl⟩ := bifG_some h
  have e : F48 (x, 0) = some (countS x 0) := bifG_true (by simp only [ho]; rfl)
  exact ⟨0, by simp only [f24.g, Rose.eta, e, Option.bind_some]⟩) con48_ok
theorem con7_ok : ConOk Tryz.prog 7 con7 := f7.ok (fun x y h => by
  obtain ⟨ho, rfl⟩ := bifG_some h
  have e : F24 x = some (decide (countS x 0 > 262144)) := bifG_true ho
  refine ⟨0, ?_⟩
  simp only [f7.g, Rose.eta, e, Option.bind_some, cutS]
  cases decide (countS x 0 > 262144) <;> rfl) con24_ok

/-! ### Copies -/
theorem spec16 (k : Nat) : ∀ X Y, F16n (k + 1) X = some Y → ∃ n, @f16.g ⟨F16n k⟩ n X = some Y := by
  intro e y hh
  obtain ⟨ho, rfl⟩ := bifG_some hh
  simp only [Bool.and_eq_true, decide_eq_true_eq] at ho
  obtain ⟨hok, hs⟩ := ho
  obtain ⟨_, _, hB, hbl, hsz⟩ := okE_at hok
  have hl := size_len e.kids
  letI : Rec16 := ⟨F16n k⟩
  refine ⟨e.kids.length + 1, ?_⟩
  show f16.g (e.kids.length + 1) e = some e
  have := iter_all (step := f16.s1 (e.kids.length + 1) e) e.kids (fun i (_ : Unit) => ((i : Int), (i, e.kids.take i))) (fun _ _ => True) (fun _ _ _ => some e) (fun S c _ => by
    simp only [f16.s1, at_end, cond_false, List.take_length, Rose.eta]) (fun S i c v r hi hv hr hc ih => by
    obtain ⟨q1, q2⟩ := okE_kid' hok (List.mem_of_getElem? hv)
    have g : (Rec16.F v : Option dExpr) = some v := bifG_true (by
      simp only [q1, Bool.true_and, decide_eq_true_eq]
      rw [size_at] at hs; omega)
    have hroom : decide ((i + 1) * 96 ≤ boundN) = true := decide_eq_true (by have : boundN = 140737488355328 := rfl; omega)
    simp only [f16.s1, at_lt hi, at_ge, at_get hv, Bool.and_self, cond_true, nx (show i ≤ _ by omega), Rose.eta, g, Option.bind_some, hroom]
    have e1 : List.take i (e.kids.take i) ++ [v] = e.kids.take (i + 1) := by rw [List.take_take, Nat.min_self, take_next hv]
    rw [e1]
    exact ih () trivial) (e.kids.length + 1) (Nat.lt_succ_self _) () trivial
  exact this
theorem con16n_ok : ∀ k, ConOk Tryz.prog 16 (mkCon [(true, tExpr)] [(true, tExpr)] false (F16n k))
  | 0 => mkCon_none fun X => by unfold F16n; simp [bifG]
  | k + 1 => @f16.ok ⟨F16n k⟩ (F16n (k + 1)) (spec16 k) (con16n_ok k)
theorem con16_ok : ConOk Tryz.prog 16 con16 := mkCon_union con16n_ok fun X Y h => by
  obtain ⟨ho, rfl⟩ := bifG_some h
  exact ⟨sizeE X + 1, bifG_true (by simp only [ho, Bool.true_and]; exact decide_eq_true (Nat.lt_succ_self _))⟩
theorem spec18 : ∀ X Y, F18 X = some Y → ∃ n, f18.g n X = some Y := by
  rintro ⟨a, b⟩ y h
  obtain ⟨ho, rfl⟩ := bifG_some h
  have hl : a.length ≤ 140737488355328 := okB_len (by omega) ho
  refine ⟨a.length + 1, ?_⟩
  simp only [f18.g]
  cases hne : ((a.length : Int) != (b.length : Int)) with
  | true =>
    have : ¬ a.length = b.length := by intro e; rw [e] at hne; simp at hne
    simp only [cond_true]
    rw [show (a == b) = false from by rw [beq_eq_false_iff_ne]; intro e; exact this (by rw [e])]
  | false =>
    have hlen : a.length = b.length := by simp at hne; omega
    simp only [cond_false]
    refine (iter_all (step := f18.s1 (a.length + 1) (a, b)) a (fun i (_ : Unit) => (i : Int)) (fun _ _ => True) (fun i _ r => some (r == b.drop i)) (fun S c _ => ?_) (fun S i c v r hi hv hr hc ih => ?_) (a.length + 1) (Nat.lt_succ_self _) () trivial).trans (by simp)
    · simp only [f18.s1, at_end, cond_false]
      rw [hlen, List.drop_length]; rfl
    · have hib : i < b.length := by omega
      have hvb : b[i]? = some b[i] := List.getElem?_eq_getElem hib
      have eb : b.drop i = b[i] :: b.drop (i + 1) := List.drop_eq_getElem_cons hib
      simp only [f18.s1, at_lt hi, at_lt hib, at_ge, at_get hv, at_get hvb, Bool.and_self, cond_true, nx (show i ≤ _ by omega)]
      rw [eb, ih () trivial]
      show _ = some ((v == b[i]) && (r == b.drop (i + 1)))
      cases hq : v == b[i] <;> simp only [bne, hq] <;> rfl
theorem con18_ok : ConOk Tryz.prog 18 con18 := f18.ok spec18

/-! ### Words of operators -/
theorem str_comm (a b : ByteArray) : strEq a b = strEq b a := by
  rw [Bool.eq_iff_iff, strEq_iff, strEq_iff]; exact eq_comm
theorem spec102 : ∀ X Y, F102 X = some Y → ∃ n, f102.g n X = some Y := by
  intro x y h
  obtain ⟨ho, rfl⟩ := bifG_some h
  have hl := okB_len (by omega) ho
  refine ⟨x.1.length + 1, idx_loop _ (Nat.lt_succ_self _) (fun S => ?_) (fun S i v hi hv => ?_)⟩
  · simp only [f102.s1, at_end, cond_false]
  · simp only [f102.s1, at_lt hi, at_ge, at_get hv, nx (show i ≤ _ by omega), Bool.and_self, cond_true, str_comm x.2 v]
theorem con102_ok : ConOk Tryz.prog 102 con102 := f102.ok spec102
theorem con55_ok : ConOk Tryz.prog 55 con55 := f55.ok (fun x y h => by
  obtain ⟨ho, rfl⟩ := bifG_some h
  have e : F102 x = some (idxI (fun w => strEq w x.2) x.1) := bifG_true ho
  exact ⟨0, by simp only [f55.g, e, Option.bind_some, idx_any]; rfl⟩) con102_ok
theorem spec80 : ∀ X Y, F80 X = some Y → ∃ n, f80.g n X = some Y := by
  intro x y h
  obtain ⟨ho, rfl⟩ := bifG_some h
  have hl := okB_len (by omega) ho
  refine ⟨x.1.length + 1, any_loop _ (Nat.lt_succ_self _) (fun S => ?_) (fun S i v hi hv => ?_)⟩
  · simp only [f80.s1, at_end, cond_false]
  · simp only [f80.s1, at_lt hi, at_ge, at_get hv, nx (show i ≤ _ by omega), Bool.and_self, cond_true]
theorem con80_ok : ConOk Tryz.prog 80 con80 := f80.ok spec80
theorem con81_ok : ConOk Tryz.prog 81 con81 := f81.ok (fun x y h => ⟨0, by cases h; rfl⟩)
theorem con82_ok : ConOk Tryz.prog 82 con82 := f82.ok (fun x y h => ⟨0, by cases h; rfl⟩)
theorem has_un (s : ByteArray) : F55 (unL, s) = some (inS unL s) := bifG_true rfl
theorem has_ar (s : ByteArray) : F55 (arL, s) = some (inS arL s) := bifG_true rfl
theorem has_cp (s : ByteArray) : F55 (cpL, s) = some (inS cpL s) := bifG_true rfl
theorem in_un (s : ByteArray) : F80 (unL, s) = some (inS unL s) := bifG_true rfl
theorem in_bi (s : ByteArray) : F80 (biL, s) = some (inS biL s) := bifG_true rfl
theorem con88_ok : ConOk Tryz.prog 88 con88 := f88.ok (fun x y h => ⟨0, by
  cases h
  have e : F80 (cpL, x) = some (inS cpL x) := bifG_true rfl
  show (F80 (cpL, x)).bind (fun r => some r) = _
  rw [e]; rfl⟩) con80_ok
theorem con86_ok : ConOk Tryz.prog 86 con86 := f86.ok (fun x y h => ⟨0, by
  cases h
  have e : F80 (arL, x) = some (inS arL x) := bifG_true rfl
  show (F80 (arL, x)).bind (fun r => some r) = _
  rw [e]; rfl⟩) con80_ok

/-! ### What may be -/
theorem zero_same (v : dValue) : sameV v (0, (0, (0, noS))) = zeroVB v := by
  unfold sameV zeroVB
  cases v.1 == 0 <;> cases v.2.1 == 0 <;> rfl
theorem con79_ok : ConOk Tryz.prog 79 con79 := f79.ok (fun x y h => ⟨0, by
  cases h
  show (F12 (x, (0, (0, (0, noS))))).bind (fun r => some r) = _
  rw [F12_eq, Option.bind_some, zero_same]⟩) con12_ok
theorem con69_ok : ConOk Tryz.prog 69 con69 := f69.ok (fun x y h => ⟨0, by
  cases h
  simp only [f69.g, F29, Option.bind_some, cond_and2, zeroVB]
  have e : (((x.2.2.1 : Nat) : Int) == 0) = (x.2.2.1 == 0) := by rw [Bool.eq_iff_iff, beq_iff_eq, beq_iff_eq]; omega
  cases x.1 == 0 <;> cases x.2.1 == 0 <;> simp [e] <;> rfl⟩) con29_ok

theorem len_beq {α : Type} (l : List α) (m : Nat) : (((l.length : Nat) : Int) == (m : Int)) = (l.length == m) := by
  rw [Bool.eq_iff_iff, beq_iff_eq, beq_iff_eq]; omega
theorem len_beq0 {α : Type} (l : List α) : (((l.length : Nat) : Int) == (0 : Int)) = (l.length == 0) := len_beq l 0
theorem len_beq1 {α : Type} (l : List α) : (((l.length : Nat) : Int) == (1 : Int)) = (l.length == 1) := len_beq l 1
theorem len_beq2 {α : Type} (l : List α) : (((l.length : Nat) : Int) == (2 : Int)) = (l.length == 2) := len_beq l 2
theorem len_ge2 {α : Type} (l : List α) : decide (((l.length : Nat) : Int) ≥ (2 : Int)) = decide (l.length ≥ 2) := by
  rw [Bool.eq_iff_iff, decide_eq_true_iff, decide_eq_true_iff]; omega
theorem kid_goW {t : dTable} {e : dExpr} {left deep : Int} (ht : okT t = true) (hok : okE e = true) (h1 : 0 ≤ left ∧ left ≤ 1024) (h2 : 0 ≤ deep ∧ deep ≤ 101) {v : dExpr} (hv : v ∈ e.kids) {k : Nat} (hs : sizeE e < k + 1) :
    F34n k ((t, left), (v, deep)) = some ((t, (mayS t.2.1.length v left deep).1), (mayS t.2.1.length v left deep).2) := by
  obtain ⟨q1, q2⟩ := okE_kid' hok hv
  refine bifG_true ?_
  simp only [goW, ht, q1, decide_eq_true h1.1, decide_eq_true h1.2, decide_eq_true h2.1, decide_eq_true h2.2, Bool.true_and, decide_eq_true_eq]
  rw [size_at] at hs; omega
theorem mayS_low (n : Nat) : ∀ (e : dExpr) (left deep : Int), 0 ≤ left → -1 ≤ (mayS n e left deep).1 ∧ (mayS n e left deep).1 ≤ left ∧ ((mayS n e left deep).2 = true → 0 ≤ (mayS n e left deep).1)
  | .node a ks, left, deep, h => by
    simp only [mayS]
    cases hc : decide (left - 1 < 0) || decide (deep > 100) with
    | true => simp only [cond_true]; exact ⟨by omega, by omega, fun h => by cases h⟩
    | false =>
      simp only [Bool.or_eq_false_iff, decide_eq_false_iff_not] at hc
      simp only [cond_false]
      cases a.1 == 1 || a.1 == 2 with
      | true => simp only [cond_true]; exact ⟨by omega, by omega, fun _ => by omega⟩
      | false =>
        simp only [cond_false]
        cases innerB a ks.length with
        | false => simp only [Bool.not_false, cond_true]; exact ⟨by omega, by omega, fun h => by cases h⟩
        | true =>
          simp only [Bool.not_true, cond_false]
          obtain ⟨r1, r2, r3⟩ := mayL_low n ks (left - 1) (deep + 1) (by omega)
          exact ⟨r1, by omega, r3⟩
where
  mayL_low (n : Nat) : ∀ (ks : List dExpr) (left deep : Int), 0 ≤ left → -1 ≤ (mayL n ks left deep).1 ∧ (mayL n ks left deep).1 ≤ left ∧ ((mayL n ks left deep).2 = true → 0 ≤ (mayL n ks left deep).1)
  | [], left, deep, h => by simp only [mayL]; exact ⟨by omega, by omega, fun _ => h⟩
  | k :: r, left, deep, h => by
    obtain ⟨q1, q2, q3⟩ := mayS_low n k left deep h
    simp only [mayL]
    cases hk : (mayS n k left deep).2 with
    | false => simp only [Bool.not_false, cond_true]; exact ⟨q1, q2, fun h => by cases h⟩
    | true =>
      simp only [Bool.not_true, cond_false]
      obtain ⟨r1, r2, r3⟩ := mayL_low n r (mayS n k left deep).1 deep (q3 hk)
      exact ⟨r1, by omega, r3⟩

/-- The walk over the kids, whichever loop it is. -/
theorem may_loop {t : dTable} {e : dExpr} {deep : Int} {k : Nat} (ht : okT t = true) (hok : okE e = true) (h2 : 0 ≤ deep ∧ deep ≤ 100) (hs : sizeE e < k + 1)
    {step : ((Int × ByteArray × (List dColumn) × (List Int) × (List dIndex) × (List dRef) × Int) → Option ((dTable × Int) × Bool)) → (Int × ByteArray × (List dColumn) × (List Int) × (List dIndex) × (List dRef) × Int) → Option ((dTable × Int) × Bool)}
    (hstep : ∀ S y, step S y = bif decide (y.1 < (e.kids.length : Int)) then
      (bif decide (0 ≤ y.1) && decide (y.1 < (e.kids.length : Int)) then
        ((F34n k (((y.2.1, (y.2.2.1, (y.2.2.2.1, (y.2.2.2.2.1, y.2.2.2.2.2.1)))), y.2.2.2.2.2.2), ((Rose.node ((e.kids.getD y.1.toNat tExpr.dflt).lab) ((e.kids.getD y.1.toNat tExpr.dflt).kids)), IntKind.wrap .i64 (deep + (1 : Int))))).bind fun r6 =>
          bif !r6.2 then (some (r6.1, false))
          else (S (IntKind.wrap .i64 (y.1 + (1 : Int)), (r6.1.1.1, (r6.1.1.2.1, (r6.1.1.2.2.1, (r6.1.1.2.2.2.1, (r6.1.1.2.2.2.2, r6.1.2))))))))
      else none)
    else (some (((y.2.1, (y.2.2.1, (y.2.2.2.1, (y.2.2.2.2.1, y.2.2.2.2.2.1)))), y.2.2.2.2.2.2), true)))
    {left : Int} (hl : 0 ≤ left ∧ left ≤ 1024) :
    iter step (e.kids.length + 1) ((0 : Int), (t.1, (t.2.1, (t.2.2.1, (t.2.2.2.1, (t.2.2.2.2, left)))))) = some ((t, (mayL t.2.1.length e.kids left (deep + 1)).1), (mayL t.2.1.length e.kids left (deep + 1)).2) := by
  have hlen := size_len e.kids
  have hsz := (okE_at hok).2.2.2.2
  refine iter_all (step := step) e.kids (fun i (l : Int) => ((i : Int), (t.1, (t.2.1, (t.2.2.1, (t.2.2.2.1, (t.2.2.2.2, l))))))) (fun i l => 0 ≤ l ∧ l ≤ 1024) (fun i l r => some ((t, (mayL t.2.1.length r l (deep + 1)).1), (mayL t.2.1.length r l (deep + 1)).2)) (fun S l _ => ?_) (fun S i l v r hi hv hr hc ih => ?_) (e.kids.length + 1) (Nat.lt_succ_self _) left hl
  · rw [hstep]
    simp only [at_end, cond_false, mayL]
  · rw [hstep]
    have g := kid_goW (k := k) (left := l) (deep := deep + 1) ht hok hc ⟨by omega, by omega⟩ (List.mem_of_getElem? hv) hs
    simp only [at_lt hi, at_ge, at_get hv, Bool.and_self, cond_true, nx (show i ≤ _ by omega), Rose.eta, wrap1 h2.1 (show deep ≤ _ by omega), g, Option.bind_some, mayL]
    obtain ⟨q1, q2, q3⟩ := mayS_low t.2.1.length v l (deep + 1) hc.1
    cases hm : (mayS t.2.1.length v l (deep + 1)).2 with
    | false => rfl
    | true =>
      simp only [Bool.not_true, cond_false]
      exact ih (mayS t.2.1.length v l (deep + 1)).1 ⟨q3 hm, by omega⟩
theorem spec34 (k : Nat) : ∀ X Y, F34n (k + 1) X = some Y → ∃ n, @f34.g ⟨F34n k⟩ n X = some Y := by
  rintro ⟨⟨t, left⟩, e, deep⟩ y hh
  obtain ⟨ho, rfl⟩ := bifG_some hh
  simp only [goW, Bool.and_eq_true, decide_eq_true_eq] at ho
  obtain ⟨⟨ht, hok, l0, l1, d0, d1⟩, hs⟩ := ho
  obtain ⟨_, hv, _, _, _⟩ := okE_at hok
  letI : Rec34 := ⟨F34n k⟩
  refine ⟨e.kids.length + 1, ?_⟩
  have hw : IntKind.wrap .i64 (left - (1 : Int)) = left - 1 := wrap_ok (by omega) (by omega)
  have hchk : F50 e.lab.2.2.2 = some (checkV e.lab.2.2.2) := F50_some (by
    simp only [okZ, Bool.and_eq_true] at hv
    exact hv.1)
  show f34.g (e.kids.length + 1) ((t, left), (e, deep)) = some ((t, (mayS t.2.1.length e left deep).1), (mayS t.2.1.length e left deep).2)
  have hl1 : 0 ≤ left - 1 → (0 ≤ left - 1 ∧ left - 1 ≤ 1024) := fun h => ⟨h, by omega⟩
  simp only [f34.g, hw, cond_or2, cond_and2, may_at]
  cases hc : decide (left - 1 < 0) || decide (deep > 100) with
  | true => rfl
  | false =>
    simp only [Bool.or_eq_false_iff, decide_eq_false_iff_not] at hc
    have hl : 0 ≤ left - 1 ∧ left - 1 ≤ 1024 := ⟨by omega, by omega⟩
    have hd : 0 ≤ deep ∧ deep ≤ 100 := ⟨d0, by omega⟩
    have L1 := fun r3 r4 => may_loop (step := f34.s1 (e.kids.length + 1) ((t, left), (e, deep)) r3 r4) ht hok hd hs (fun S y => rfl) hl
    have L2 := fun r3 r4 => may_loop (step := f34.s2 (e.kids.length + 1) ((t, left), (e, deep)) r3 r4) ht hok hd hs (fun S y => rfl) hl
    have L3 := fun r3 r4 r5 => may_loop (step := f34.s3 (e.kids.length + 1) ((t, left), (e, deep)) r3 r4 r5) ht hok hd hs (fun S y => rfl) hl
    have L4 := fun r3 => may_loop (step := f34.s4 (e.kids.length + 1) ((t, left), (e, deep)) r3) ht hok hd hs (fun S y => rfl) hl
    simp only [cond_false, hchk, Option.bind_some, len_beq0, len_beq1, len_beq2, len_ge2, has_un, has_ar, has_cp, F69, leafB, innerB, armB, L1, L2, L3, L4]
    generalize mayL t.2.1.length e.kids (left - 1) (deep + 1) = M
    generalize e.kids.length = m
    obtain ⟨k0, op, c, v⟩ := e.lab
    simp only
    have ea : strEq op (⟨#[97, 110, 100]⟩ : ByteArray) = strEq op andS := rfl
    have eo : strEq op (⟨#[111, 114]⟩ : ByteArray) = strEq op orS := rfl
    have en : strEq op (⟨#[]⟩ : ByteArray) = strEq op noS := rfl
    simp only [ea, eo, en]
    by_cases e1 : k0 = 1
    · subst e1
      simp only [show ((1 : Int) == 1) = true from rfl, show ((1 : Int) == 2) = false from rfl, Bool.true_or, cond_true]
      cases m == 0 <;> cases strEq op noS <;> cases c == 0 <;> rfl
    by_cases e2 : k0 = 2
    · subst e2
      simp only [show ((2 : Int) == 1) = false from rfl, show ((2 : Int) == 2) = true from rfl, Bool.or_true, cond_true, cond_false]
      cases m == 0 <;> cases strEq op noS <;> cases decide (c ≥ 0) <;> cases decide (c < (t.2.1.length : Int)) <;> rfl
    have f1 : (k0 == 1) = false := by simpa using e1
    have f2 : (k0 == 2) = false := by simpa using e2
    simp only [f1, f2, Bool.or_self, cond_false]
    by_cases e3 : k0 = 3
    · subst e3
      simp only [show ((3 : Int) == 3) = true from rfl, cond_true, bne]
      cases m == 1 <;> cases inS unL op <;> cases c == 0 <;> cases zeroVB v <;> rfl
    by_cases e4 : k0 = 4
    · subst e4
      simp only [show ((4 : Int) == 3) = false from rfl, show ((4 : Int) == 4) = true from rfl, cond_true, cond_false, bne]
      cases m == 2 <;> cases inS arL op <;> cases inS cpL op <;> cases strEq op andS <;> cases strEq op orS <;> cases c == 0 <;> cases zeroVB v <;> rfl
    by_cases e5 : k0 = 5
    · subst e5
      simp only [show ((5 : Int) == 3) = false from rfl, show ((5 : Int) == 4) = false from rfl, show ((5 : Int) == 5) = true from rfl, cond_true, cond_false, bne]
      cases decide (m ≥ 2) <;> cases strEq op noS <;> cases c == 0 <;> cases zeroVB v <;> rfl
    · have f3 : (k0 == 3) = false := by simpa using e3
      have f4 : (k0 == 4) = false := by simpa using e4
      have f5 : (k0 == 5) = false := by simpa using e5
      simp only [f3, f4, f5, cond_false, Bool.false_and, Bool.not_false, cond_true]
theorem con34n_ok : ∀ k, ConOk Tryz.prog 34 (mkConP (.pair tTable (.int .i64)) [(true, tExpr), (false, .int .i64)] [(false, .bool)] (F34n k))
  | 0 => mkConP_none fun X => by unfold F34n; simp [bifG]
  | k + 1 => @f34.ok ⟨F34n k⟩ (F34n (k + 1)) (spec34 k) (con34n_ok k) con50_ok con55_ok con69_ok
theorem con34_ok : ConOk Tryz.prog 34 con34 := mkConP_union con34n_ok fun X Y h => by
  obtain ⟨ho, rfl⟩ := bifG_some h
  exact ⟨sizeE X.2.1 + 1, bifG_true (by rw [ho]; exact decide_eq_true (Nat.lt_succ_self _))⟩
end Go.Proofs.YtfccofgchjieeaaGreatDoor.AI
/- The plain laws of the runs: nodes of the reference, kinds, checks. -/
set_option linter.unusedVariables false
set_option linter.unusedSimpArgs false
namespace Go.Proofs.YtfccofgchjieeaaGreatDoor.AI
open Go

theorem spec38 (k : Nat) : ∀ X Y, F38n (k + 1) X = some Y → ∃ n, @f38.g ⟨F38n k⟩ n X = some Y := by
  rintro ⟨e, had, deep⟩ y hh
  obtain ⟨ho, rfl⟩ := bifG_some hh
  simp only [goN, Bool.and_eq_true, decide_eq_true_eq] at ho
  obtain ⟨⟨hok, h0, h1, d0, d1⟩, hs⟩ := ho
  have hsz := (okE_at hok).2.2.2.2
  have hlen := size_len e.kids
  letI : Rec38 := ⟨F38n k⟩
  refine ⟨e.kids.length + 1, ?_⟩
  show f38.g (e.kids.length + 1) (e, had, deep) = some (nodesS e had deep)
  rw [nodes_at]
  simp only [f38.g, wrap1 h0 (show had ≤ _ by omega), cond_or2]
  cases hc : decide (had + 1 > 1024) || decide (deep > 100) with
  | true => rfl
  | false =>
    simp only [Bool.or_eq_false_iff, decide_eq_false_iff_not] at hc
    simp only [cond_false]
    refine iter_all (step := f38.s1 (e.kids.length + 1) (e, had, deep)) e.kids (fun i (p : Int × Bool) => (p.1, (p.2, (i : Int)))) (fun i p => p.2 = true → 0 ≤ p.1 ∧ p.1 ≤ 1024) (fun i p r => some (bif p.2 then nodesL r p.1 (deep + 1) else (p.1, false))) (fun S p _ => ?_) (fun S i p v r hi hv hr hp ih => ?_) (e.kids.length + 1) (Nat.lt_succ_self _) (had + 1, true) (fun _ => ⟨by omega, by omega⟩)
    · obtain ⟨p, b⟩ := p
      cases b <;> simp only [f38.s1, at_end, cond_false, cond_true, nodesL]
    · obtain ⟨p, b⟩ := p
      cases b with
      | false => simp only [f38.s1, at_lt hi, cond_false, cond_true]
      | true =>
        obtain ⟨p0, p1⟩ := hp rfl
        obtain ⟨q1, q2⟩ := okE_kid' hok (List.mem_of_getElem? hv)
        have g : (Rec38.F (v, p, deep + 1) : Option (Int × Bool)) = some (nodesS v p (deep + 1)) := bifG_true (by
          have hd : sizeE v < k := by rw [size_at] at hs; omega
          simp only [goN, q1, decide_eq_true p0, decide_eq_true p1, decide_eq_true (show 0 ≤ deep + 1 by omega), decide_eq_true (show deep + 1 ≤ 101 by omega), decide_eq_true hd, Bool.and_self])
        simp only [f38.s1, at_lt hi, at_ge, at_get hv, Bool.and_self, cond_true, nx (show i ≤ _ by omega), Rose.eta, wrap1 d0 (show deep ≤ _ by omega), g, Option.bind_some, nodesL]
        obtain ⟨w1, _⟩ := nodesS_spec v p (deep + 1)
        refine (ih (nodesS v p (deep + 1)) (fun h => ?_)).trans ?_
        · obtain ⟨a1, a2, a3⟩ := w1 h
          omega
        · cases (nodesS v p (deep + 1)).2 <;> rfl
theorem con38n_ok : ∀ k, ConOk Tryz.prog 38 (mkCon [(true, tExpr), (false, .int .i64), (false, .int .i64)] [(false, .int .i64), (false, .bool)] true (F38n k))
  | 0 => mkCon_none fun X => by unfold F38n; simp [bifG]
  | k + 1 => @f38.ok ⟨F38n k⟩ (F38n (k + 1)) (spec38 k) (con38n_ok k)
theorem con38_ok : ConOk Tryz.prog 38 con38 := mkCon_union con38n_ok fun X Y h => by
  obtain ⟨ho, rfl⟩ := bifG_some h
  exact ⟨sizeE X.1 + 1, bifG_true (by rw [ho]; exact decide_eq_true (Nat.lt_succ_self _))⟩

/-! ### What may be, in the reference -/
theorem bi_parts (op : ByteArray) : inS biL op = (inS arL op || (inS cpL op || (strEq op andS || strEq op orS))) := by
  have : inS biL op = inS (arL ++ (cpL ++ [andS, orS])) op := rfl
  rw [this, str_comm op andS, str_comm op orS]
  unfold inS
  simp only [List.any_append, List.any_cons, List.any_nil, Bool.or_false]
theorem spec39 (k : Nat) : ∀ X Y, F39n (k + 1) X = some Y → ∃ n, @f39.g ⟨F39n k⟩ n X = some Y := by
  rintro ⟨t, e⟩ y hh
  obtain ⟨ho, rfl⟩ := bifG_some hh
  simp only [Bool.and_eq_true, decide_eq_true_eq] at ho
  obtain ⟨ht, hok, hs⟩ := ho
  have hsz := (okE_at hok).2.2.2.2
  have hv := (okE_at hok).2.1
  have hlen := size_len e.kids
  letI : Rec39 := ⟨F39n k⟩
  refine ⟨e.kids.length + 1, ?_⟩
  show f39.g (e.kids.length + 1) (t, e) = some (fineE t.2.1.length e)
  have hchk : F78 e.lab.2.2.2 = some (checkV e.lab.2.2.2) := F78_some (by
    simp only [okZ, Bool.and_eq_true] at hv
    exact hv.1)
  have := iter_all (step := f39.s1 (e.kids.length + 1) (t, e)) e.kids (fun i (_ : Unit) => (i : Int)) (fun _ _ => True) (fun i _ r => some (bif fineL t.2.1.length r then nodeB t.2.1.length e.lab e.kids.length else false)) (fun S c _ => by
    simp only [f39.s1, at_end, cond_false, cond_or2, cond_and2, hchk, Option.bind_some, len_beq0, len_beq1, len_beq2, len_ge2, F79, F81, F82, in_un, in_bi, bi_parts, nodeB, leafB, innerB, armB, fineL, cond_true]
    generalize e.kids.length = m
    obtain ⟨k0, op, c, v⟩ := e.lab
    simp only
    have en : strEq op (⟨#[]⟩ : ByteArray) = strEq op noS := rfl
    simp only [en]
    by_cases e1 : k0 = 1
    · subst e1
      simp only [show ((1 : Int) == 1) = true from rfl, show ((1 : Int) == 2) = false from rfl, Bool.true_or, cond_true]
      cases m == 0 <;> cases strEq op noS <;> cases c == 0 <;> rfl
    by_cases e2 : k0 = 2
    · subst e2
      simp only [show ((2 : Int) == 1) = false from rfl, show ((2 : Int) == 2) = true from rfl, Bool.or_true, cond_true, cond_false]
      cases m == 0 <;> cases strEq op noS <;> cases decide (c ≥ 0) <;> cases decide (c < (t.2.1.length : Int)) <;> cases zeroVB v <;> rfl
    have f1 : (k0 == 1) = false := by simpa using e1
    have f2 : (k0 == 2) = false := by simpa using e2
    simp only [f1, f2, Bool.or_self, cond_false]
    by_cases e3 : k0 = 3
    · subst e3
      simp only [show ((3 : Int) == 3) = true from rfl, cond_true]
      cases m == 1 <;> cases inS unL op <;> cases c == 0 <;> cases zeroVB v <;> rfl
    by_cases e4 : k0 = 4
    · subst e4
      simp only [show ((4 : Int) == 3) = false from rfl, show ((4 : Int) == 4) = true from rfl, cond_true, cond_false]
      cases m == 2 <;> cases inS arL op <;> cases inS cpL op <;> cases strEq op andS <;> cases strEq op orS <;> cases c == 0 <;> cases zeroVB v <;> rfl
    by_cases e5 : k0 = 5
    · subst e5
      simp only [show ((5 : Int) == 3) = false from rfl, show ((5 : Int) == 4) = false from rfl, show ((5 : Int) == 5) = true from rfl, cond_true, cond_false]
      cases decide (m ≥ 2) <;> cases strEq op noS <;> cases c == 0 <;> cases zeroVB v <;> rfl
    · have f3 : (k0 == 3) = false := by simpa using e3
      have f4 : (k0 == 4) = false := by simpa using e4
      have f5 : (k0 == 5) = false := by simpa using e5
      simp only [f3, f4, f5, cond_false, Bool.false_and]) (fun S i c v r hi hv hr hc ih => by
    obtain ⟨q1, q2⟩ := okE_kid' hok (List.mem_of_getElem? hv)
    have hd : sizeE v < k := by rw [size_at] at hs; omega
    have g : (Rec39.F (t, v) : Option Bool) = some (fineE t.2.1.length v) := bifG_true (by simp only [ht, q1, decide_eq_true hd, Bool.and_self])
    simp only [f39.s1, at_lt hi, at_ge, at_get hv, Bool.and_self, cond_true, nx (show i ≤ _ by omega), Rose.eta, g, Option.bind_some, fineL]
    cases fineE t.2.1.length v with
    | false => rfl
    | true => exact ih () trivial) (e.kids.length + 1) (Nat.lt_succ_self _) () trivial
  refine (show f39.g (e.kids.length + 1) (t, e) = _ from this).trans ?_
  rw [fine_at]
  cases fineL t.2.1.length e.kids <;> simp
theorem con39n_ok : ∀ k, ConOk Tryz.prog 39 (mkCon [(true, tTable), (true, tExpr)] [(false, .bool)] true (F39n k))
  | 0 => mkCon_none fun X => by unfold F39n; simp [bifG]
  | k + 1 => @f39.ok ⟨F39n k⟩ (F39n (k + 1)) (spec39 k) (con39n_ok k) con78_ok con79_ok con80_ok con81_ok con82_ok
theorem con39_ok : ConOk Tryz.prog 39 con39 := mkCon_union con39n_ok fun X Y h => by
  obtain ⟨ho, rfl⟩ := bifG_some h
  simp only [Bool.and_eq_true] at ho
  exact ⟨sizeE X.2 + 1, bifG_true (by simp only [ho.1, ho.2, Bool.true_and]; exact decide_eq_true (Nat.lt_succ_self _))⟩

/-! ### Kinds -/
theorem con83_ok : ConOk Tryz.prog 83 con83 := f83.ok (fun x y h => ⟨0, by cases h; simp only [f83.g, cond_or2, numK]⟩)
theorem con84_ok : ConOk Tryz.prog 84 con84 := f84.ok (fun x y h => ⟨0, by cases h; simp only [f84.g, cond_or2, logK]⟩)
theorem spec85 : ∀ X Y, F85 X = some Y → ∃ n, f85.g n X = some Y := by
  rintro ⟨a, b⟩ y h
  cases h
  refine ⟨0, ?_⟩
  simp only [f85.g, F83, Option.bind_some, fitK, cond_or2, cond_and2]
  cases a == b <;> cases numK a <;> cases numK b <;> cases a == 0 <;> cases b == 0 <;> rfl
theorem con85_ok : ConOk Tryz.prog 85 con85 := f85.ok spec85 con83_ok
theorem spec73 : ∀ X Y, F73 X = some Y → ∃ n, f73.g n X = some Y := by
  rintro ⟨op, a, b⟩ y h
  cases h
  refine ⟨0, ?_⟩
  have er : strEq op (⟨#[37]⟩ : ByteArray) = strEq op remS := rfl
  simp only [f73.g, F72, Option.bind_some, reckK, recK, cond_or2, cond_and2, er, bne]
  by_cases ha : a = 0
  · subst ha
    simp only [show ((0 : Int) == 0) = true from rfl, cond_true, Bool.not_true, Bool.and_false, cond_false, Bool.or_false]
    cases hb : b == 0 with
    | true => rfl
    | false => cases numK b <;> cases numK 0 <;> cases strEq op remS <;> cases b == 3 <;> cases (0 : Int) == 3 <;> rfl
  · have ea : (a == 0) = false := by simpa using ha
    simp only [ea, cond_false]
    cases numK a <;> cases numK b <;> cases strEq op remS <;> cases a == 3 <;> cases b == 3 <;> cases b == 0 <;> rfl
theorem con73_ok : ConOk Tryz.prog 73 con73 := f73.ok spec73 con72_ok
theorem spec87 : ∀ X Y, F87 X = some Y → ∃ n, f87.g n X = some Y := by
  rintro ⟨op, a, b⟩ y h
  cases h
  refine ⟨0, ?_⟩
  have er : strEq op (⟨#[37]⟩ : ByteArray) = strEq op remS := rfl
  simp only [f87.g, F83, Option.bind_some, reckR, recR, cond_or2, cond_and2, er]
  cases ha : a == 0 with
  | true =>
    simp only [cond_true]
    cases b == 0 <;> cases strEq op remS <;> cases numK b <;> cases numK a <;> cases b == 2 <;> cases a == 2 <;> rfl
  | false =>
    simp only [cond_false]
    cases strEq op remS <;> cases numK b <;> cases numK a <;> cases b == 2 <;> cases a == 2 <;> cases b == 0 <;> rfl
theorem con87_ok : ConOk Tryz.prog 87 con87 := f87.ok spec87 con83_ok

theorem kindL_len (cs : List Int) : ∀ (ks : List dExpr) (l : List Int), kindL cs ks = some l → l.length = ks.length
  | [], l, h => by simp only [kindL, Option.some.injEq] at h; subst h; rfl
  | k :: r, l, h => by
    simp only [kindL] at h
    cases hk : (kindS cs k).2 with
    | false => rw [hk] at h; cases h
    | true =>
      rw [hk] at h
      simp only [Bool.not_true, cond_false] at h
      cases hr : kindL cs r with
      | none => rw [hr] at h; cases h
      | some l' =>
        rw [hr] at h
        cases h
        simp [kindL_len cs r l' hr]
theorem kindR_spec {n : Nat} {cs : List Int} {e : dExpr} (hf : fineE n e = true) : (kindR cs e).2 = (kindS cs e).2 ∧ ((kindS cs e).2 = true → (kindR cs e).1 = (kindS cs e).1) := by
  rw [fine_at] at hf
  simp only [Bool.and_eq_true] at hf
  rw [kind_at]
  unfold kindR
  cases hl : kindL cs e.kids with
  | none => exact ⟨rfl, fun _ => rfl⟩
  | some l => exact two_kinds hf.1 (kindL_len cs _ _ hl)

theorem colK_get (t : dTable) (c : Int) (h0 : 0 ≤ c) (h1 : c < (t.2.1.length : Int)) : (colK t).getD c.toNat 0 = (t.2.1.getD c.toNat tColumn.dflt).2.1 := by
  have hlt : c.toNat < t.2.1.length := by omega
  simp [colK, List.getD, List.getElem?_eq_getElem hlt]
theorem pos_lt {m : Nat} (h : 0 < m) : (decide (0 ≤ (0 : Int)) && decide ((0 : Int) < ((m : Nat) : Int))) = true := by simp; omega
theorem one_lt {m : Nat} (h : 1 < m) : (decide (0 ≤ (1 : Int)) && decide ((1 : Int) < ((m : Nat) : Int))) = true := by simp; omega
theorem one_le {m : Nat} (h : 1 ≤ m) : (decide (0 ≤ (1 : Int)) && decide ((1 : Int) ≤ ((m : Nat) : Int))) = true := by simp; omega
theorem nat_beq1 (m : Nat) : (((m : Nat) : Int) == (1 : Int)) = (m == 1) := by rw [Bool.eq_iff_iff, beq_iff_eq, beq_iff_eq]; omega

/-- A node's kind out of its kids', as the code has it. -/
theorem kind_end {n : Nat} {t : dTable} {e : dExpr} {l : List Int} (hn : nodeB t.2.1.length e.lab l.length = true) (hl : okB 8 l = true) (S : Int × Nat × List Int → Option (Int × Bool)) [Rec35] (hk : l.length = e.kids.length) :
    f35.s1 n (t, e) S ((e.kids.length : Int), (l.length, l)) = some (kindN (colK t) e.lab l) := by
  simp only [f35.s1, at_end, cond_false, cond_or2, cond_and2, List.take_length, has_cp, F72, F49, F71, F73, Option.bind_some, nat_beq1]
  generalize e.lab = a at hn ⊢
  obtain ⟨k0, op, c, v⟩ := a
  simp only [kindN]
  have e1 : strEq op (⟨#[45]⟩ : ByteArray) = strEq op subS := rfl
  have e2 : strEq op (⟨#[110, 111, 116]⟩ : ByteArray) = strEq op notS := rfl
  have e3 : strEq op (⟨#[97, 110, 100]⟩ : ByteArray) = strEq op andS := rfl
  have e4 : strEq op (⟨#[111, 114]⟩ : ByteArray) = strEq op orS := rfl
  simp only [e1, e2, e3, e4]
  by_cases h1 : k0 = 1
  · subst h1; rfl
  by_cases h2 : k0 = 2
  · subst h2
    simp only [nodeB, leafB, show ((2 : Int) == 1) = false from rfl, show ((2 : Int) == 2) = true from rfl, Bool.or_true, cond_true, cond_false, Bool.and_eq_true, decide_eq_true_eq] at hn ⊢
    have hc : (decide (0 ≤ c) && decide (c < (t.2.1.length : Int))) = true := by simp only [Bool.and_eq_true, decide_eq_true_eq]; exact ⟨hn.2.2.1, hn.2.2.2.1⟩
    rw [hc, colK_get t c hn.2.2.1 hn.2.2.2.1]; rfl
  have f1 : (k0 == 1) = false := by simpa using h1
  have f2 : (k0 == 2) = false := by simpa using h2
  simp only [nodeB, f1, f2, Bool.or_self, cond_false, innerB, Bool.and_eq_true] at hn
  simp only [f1, f2, cond_false]
  rcases arm_cases hn.1 with ⟨q1, q2, q3⟩ | ⟨q1, q2, q3⟩ | ⟨q1, q2, q3⟩ <;> simp only at q1 q3 <;> subst q1
  · simp only [show ((3 : Int) == 5) = false from rfl, show ((3 : Int) == 3) = true from rfl, cond_true, cond_false, q2, show ((1 : Nat) == 1) = true from rfl, Bool.and_true, pos_lt (show 0 < 1 by omega)]
    cases strEq op subS with
    | true =>
      simp only [cond_true]
      show (bif numK (l.getD 0 0) then some (l.getD 0 0, true) else some (l.getD 0 0, l.getD 0 0 == 0)) = _
      cases numK (l.getD 0 0) <;> rfl
    | false =>
      simp only [cond_false]
      cases strEq op notS <;> rfl
  · simp only [show ((4 : Int) == 5) = false from rfl, show ((4 : Int) == 3) = false from rfl, cond_true, cond_false, q2, show ((2 : Nat) == 1) = false from rfl, Bool.and_false, pos_lt (show 0 < 2 by omega), one_lt (show 1 < 2 by omega)]
    show (bif strEq op notS then some (1, logK (l.getD 0 0)) else bif inS cpL op then some (1, fitK (l.getD 0 0) (l.getD 1 0)) else bif strEq op andS || strEq op orS then (bif logK (l.getD 0 0) then some (1, logK (l.getD 1 0)) else some (1, false)) else some (reckK op (l.getD 0 0) (l.getD 1 0))) = _
    cases strEq op notS with
    | true => rfl
    | false =>
      cases inS cpL op with
      | true => rfl
      | false =>
        cases strEq op andS || strEq op orS with
        | true => simp only [cond_false, cond_true]; cases logK (l.getD 0 0) <;> rfl
        | false => rfl
  · simp only [show ((5 : Int) == 5) = true from rfl, cond_true, one_le (show 1 ≤ l.length by omega)]
    have g : F65b (List.drop 1 l, l) = some ((l.drop 1).any fun y => !fitK (l.getD 0 0) y) := by
      show (bif okB 8 (List.drop 1 l) && decide (0 < l.length) then _ else _) = _
      have h8 : okB 8 (List.drop 1 l) = true := by
        have := okB_iff.1 hl
        refine okB_iff.2 ?_
        have h3 : (List.drop 1 l).length * 8 ≤ l.length * 8 := Nat.mul_le_mul_right _ (by rw [List.length_drop]; exact Nat.sub_le _ _)
        omega
      rw [h8, decide_eq_true (show 0 < l.length by omega)]; rfl
    rw [g]; rfl
theorem kinds_room {m : Nat} (h : m ≤ 1048576) : decide ((m + 1) * 8 ≤ boundN) = true := decide_eq_true (by have : boundN = 140737488355328 := rfl; omega)
theorem kinds_okB {l : List Int} (h : l.length ≤ 1048576) : okB 8 l = true := okB_iff.2 (by omega)
theorem spec35 (k : Nat) : ∀ X Y, F35n (k + 1) X = some Y → ∃ n, @f35.g ⟨F35n k⟩ n X = some Y := by
  rintro ⟨t, e⟩ y hh
  obtain ⟨ho, rfl⟩ := bifG_some hh
  simp only [Bool.and_eq_true, decide_eq_true_eq] at ho
  obtain ⟨ht, hok, hf, hs⟩ := ho
  have hsz := (okE_at hok).2.2.2.2
  have hlen := size_len e.kids
  have hf' := hf
  rw [fine_at] at hf'
  simp only [Bool.and_eq_true] at hf'
  letI : Rec35 := ⟨F35n k⟩
  refine ⟨e.kids.length + 1, ?_⟩
  show f35.g (e.kids.length + 1) (t, e) = some (kindS (colK t) e)
  have := iter_all (step := f35.s1 (e.kids.length + 1) (t, e)) e.kids (fun i (acc : List Int) => ((i : Int), (acc.length, acc))) (fun i acc => acc.length = i) (fun i acc r => some (match kindL (colK t) r with | none => (0, false) | some l => kindN (colK t) e.lab (acc ++ l))) (fun S acc hacc => by
    rw [kind_end (by rw [hacc]; exact hf'.1) (kinds_okB (by omega)) S hacc]
    simp only [kindL, List.append_nil]) (fun S i acc v r hi hv hr hacc ih => by
    obtain ⟨q1, q2⟩ := okE_kid' hok (List.mem_of_getElem? hv)
    have hd : sizeE v < k := by rw [size_at] at hs; omega
    have hfv := fineL_mem hf'.2 v (List.mem_of_getElem? hv)
    have g : (Rec35.F (t, v) : Option (Int × Bool)) = some (kindS (colK t) v) := bifG_true (by simp only [ht, q1, hfv, decide_eq_true hd, Bool.and_self])
    simp only [f35.s1, at_lt hi, at_ge, at_get hv, Bool.and_self, cond_true, nx (show i ≤ _ by omega), Rose.eta, g, Option.bind_some, kindL, kinds_room (show acc.length ≤ 1048576 by omega), List.take_length]
    cases hk : (kindS (colK t) v).2 with
    | false => rfl
    | true =>
      simp only [Bool.not_true, cond_false]
      have e1 : acc.length + 1 = (acc ++ [(kindS (colK t) v).1]).length := by simp
      rw [e1, ih (acc ++ [(kindS (colK t) v).1]) (by simp [hacc])]
      cases kindL (colK t) r with
      | none => rfl
      | some l => simp only [List.append_assoc, List.singleton_append]) (e.kids.length + 1) (Nat.lt_succ_self _) [] rfl
  refine (show f35.g (e.kids.length + 1) (t, e) = _ from this).trans ?_
  rw [kind_at]
  cases kindL (colK t) e.kids <;> rfl
theorem con35n_ok : ∀ k, ConOk Tryz.prog 35 (mkCon [(true, tTable), (true, tExpr)] [(false, .int .i64), (false, .bool)] true (F35n k))
  | 0 => mkCon_none fun X => by unfold F35n; simp [bifG]
  | k + 1 => @f35.ok ⟨F35n k⟩ (F35n (k + 1)) (spec35 k) (con35n_ok k) con49_ok con55_ok con65_ok con71_ok con72_ok con73_ok
theorem con35_ok : ConOk Tryz.prog 35 con35 := mkCon_union con35n_ok fun X Y h => by
  obtain ⟨ho, rfl⟩ := bifG_some h
  simp only [Bool.and_eq_true] at ho
  exact ⟨sizeE X.2 + 1, bifG_true (by simp only [ho.1, ho.2.1, ho.2.2, Bool.true_and]; exact decide_eq_true (Nat.lt_succ_self _))⟩
end Go.Proofs.YtfccofgchjieeaaGreatDoor.AI
/- The plain laws of the runs: kinds in the reference, checks. -/
set_option linter.unusedVariables false
set_option linter.unusedSimpArgs false
namespace Go.Proofs.YtfccofgchjieeaaGreatDoor.AI
open Go

theorem has_ar' (op : ByteArray) : F86 op = some (inS arL op) := rfl
/-- All kinds behind the first one fit it. -/
theorem fits_loop [Rec40] (m : Nat) (x : dTable × dExpr) (l : List Int) (i0 : Int) (hl : 1 ≤ l.length) (hb : l.length ≤ 1048576) (hm : l.length ≤ m) :
    iter (f40.s1 m x (l.length, (i0, l))) m (1 : Int) = some (bif (l.drop 1).any fun y => !fitK (l.getD 0 0) y then (0, false) else (1, true)) := by
  have hd : (l.drop 1).length = l.length - 1 := by simp
  have := iter_all (step := f40.s1 m x (l.length, (i0, l))) (l.drop 1) (fun i (_ : Unit) => ((i + 1 : Nat) : Int)) (fun _ _ => True) (fun _ _ r => some (bif r.any fun y => !fitK (l.getD 0 0) y then ((0 : Int), false) else (1, true))) (fun S _ _ => by
    have e : decide ((((l.drop 1).length + 1 : Nat) : Int) < (l.length : Int)) = false := by rw [hd]; simp; omega
    simp only [f40.s1, e, cond_false, List.any_nil]) (fun S i _ v r hi hv hr _ ih => by
    have e1 : decide (((i + 1 : Nat) : Int) < (l.length : Int)) = true := decide_eq_true (by omega)
    have e2 : decide (0 ≤ ((i + 1 : Nat) : Int)) = true := decide_eq_true (by omega)
    have e3 : l.getD ((i + 1 : Nat) : Int).toNat (Ty.dflt (.int .i64)) = v := by
      have : l[i + 1]? = some v := by rw [List.getElem?_drop] at hv; rw [Nat.add_comm]; exact hv
      exact at_get this
    simp only [f40.s1, e1, e2, e3, pos_lt (show 0 < l.length by omega), Bool.and_self, cond_true, F85, Option.bind_some, nx (show i + 1 ≤ _ by omega), List.any_cons]
    show (bif !fitK (l.getD 0 0) v then _ else _) = _
    cases fitK (l.getD 0 0) v with
    | false => rfl
    | true => exact ih () trivial) m (by omega) () trivial
  exact this
theorem kindr_end [Rec40] {m : Nat} {t : dTable} {e : dExpr} {l : List Int} (hn : nodeB t.2.1.length e.lab l.length = true) (hb : l.length ≤ 1048576) (hm : l.length ≤ m) (S : Nat × Int × List Int → Option (Int × Bool)) (hk : l.length = e.kids.length) :
    f40.s2 m (t, e) S (l.length, ((e.kids.length : Int), l)) = some (kindM (colK t) e.lab l) := by
  simp only [f40.s2, at_end, cond_false, F88, F83, F84, F85, F87, has_ar', Option.bind_some]
  generalize hlab : e.lab = a at hn ⊢
  obtain ⟨k0, op, c, v⟩ := a
  simp only [kindM]
  have e1 : strEq op (⟨#[45]⟩ : ByteArray) = strEq op subS := rfl
  have e2 : strEq op (⟨#[110, 111, 116]⟩ : ByteArray) = strEq op notS := rfl
  simp only [e1, e2]
  by_cases h1 : k0 = 1
  · subst h1; rfl
  by_cases h2 : k0 = 2
  · subst h2
    simp only [nodeB, leafB, show ((2 : Int) == 1) = false from rfl, show ((2 : Int) == 2) = true from rfl, Bool.or_true, cond_true, cond_false, Bool.and_eq_true, decide_eq_true_eq] at hn ⊢
    have hc : (decide (0 ≤ c) && decide (c < (t.2.1.length : Int))) = true := by simp only [Bool.and_eq_true, decide_eq_true_eq]; exact ⟨hn.2.2.1, hn.2.2.2.1⟩
    rw [hc, colK_get t c hn.2.2.1 hn.2.2.2.1]; rfl
  have f1 : (k0 == 1) = false := by simpa using h1
  have f2 : (k0 == 2) = false := by simpa using h2
  simp only [nodeB, f1, f2, Bool.or_self, cond_false, innerB, Bool.and_eq_true] at hn
  simp only [f1, f2, cond_false]
  rcases arm_cases hn.1 with ⟨q1, q2, q3⟩ | ⟨q1, q2, q3⟩ | ⟨q1, q2, q3⟩ <;> simp only at q1 q3 <;> subst q1
  · simp only [show ((3 : Int) == 3) = true from rfl, cond_true, cond_false, pos_lt (show 0 < l.length by omega)]
    cases strEq op subS with
    | true =>
      simp only [cond_true]
      show (bif numK (l.getD 0 0) then some (l.getD 0 0, true) else some (l.getD 0 0, l.getD 0 0 == 0)) = _
      cases numK (l.getD 0 0) <;> rfl
    | false =>
      simp only [cond_false]
      cases strEq op notS <;> rfl
  · simp only [show ((4 : Int) == 5) = false from rfl, show ((4 : Int) == 3) = false from rfl, cond_true, cond_false, pos_lt (show 0 < l.length by omega), one_lt (show 1 < l.length by omega)]
    show (bif inS arL op then some (reckR op (l.getD 0 0) (l.getD 1 0)) else bif inS cpL op then some (1, fitK (l.getD 0 0) (l.getD 1 0)) else (bif logK (l.getD 0 0) then some (1, logK (l.getD 1 0)) else some (1, false))) = _
    cases inS arL op with
    | true => rfl
    | false =>
      cases inS cpL op with
      | true => rfl
      | false => simp only [cond_false]; cases logK (l.getD 0 0) <;> rfl
  · simp only [show ((5 : Int) == 5) = true from rfl, show ((5 : Int) == 3) = false from rfl, cond_true, cond_false]
    exact fits_loop m (t, e) l _ (by omega) hb hm
theorem spec40 (k : Nat) : ∀ X Y, F40n (k + 1) X = some Y → ∃ n, @f40.g ⟨F40n k⟩ n X = some Y := by
  rintro ⟨t, e⟩ y hh
  obtain ⟨ho, rfl⟩ := bifG_some hh
  simp only [Bool.and_eq_true, decide_eq_true_eq] at ho
  obtain ⟨ht, hok, hf, hs⟩ := ho
  have hsz := (okE_at hok).2.2.2.2
  have hlen := size_len e.kids
  have hf' := hf
  rw [fine_at] at hf'
  simp only [Bool.and_eq_true] at hf'
  letI : Rec40 := ⟨F40n k⟩
  refine ⟨e.kids.length + 1, ?_⟩
  show f40.g (e.kids.length + 1) (t, e) = some (kindR (colK t) e)
  have := iter_all (step := f40.s2 (e.kids.length + 1) (t, e)) e.kids (fun i (acc : List Int) => (acc.length, ((i : Int), acc))) (fun i acc => acc.length = i) (fun i acc r => some (match kindL (colK t) r with | none => (0, false) | some l => kindM (colK t) e.lab (acc ++ l))) (fun S acc hacc => by
    rw [kindr_end (by rw [hacc]; exact hf'.1) (by omega) (by omega) S hacc]
    simp only [kindL, List.append_nil]) (fun S i acc v r hi hv hr hacc ih => by
    obtain ⟨q1, q2⟩ := okE_kid' hok (List.mem_of_getElem? hv)
    have hd : sizeE v < k := by rw [size_at] at hs; omega
    have hfv := fineL_mem hf'.2 v (List.mem_of_getElem? hv)
    have g : (Rec40.F (t, v) : Option (Int × Bool)) = some (kindR (colK t) v) := bifG_true (by simp only [ht, q1, hfv, decide_eq_true hd, Bool.and_self])
    obtain ⟨w1, w2⟩ := kindR_spec (cs := colK t) hfv
    simp only [f40.s2, at_lt hi, at_ge, at_get hv, Bool.and_self, cond_true, nx (show i ≤ _ by omega), Rose.eta, g, Option.bind_some, kindL, kinds_room (show acc.length ≤ 1048576 by omega), List.take_length, w1]
    cases hk : (kindS (colK t) v).2 with
    | false => rfl
    | true =>
      simp only [Bool.not_true, cond_false, w2 hk]
      have e1 : acc.length + 1 = (acc ++ [(kindS (colK t) v).1]).length := by simp
      rw [e1, ih (acc ++ [(kindS (colK t) v).1]) (by simp [hacc])]
      cases kindL (colK t) r with
      | none => rfl
      | some l => simp only [List.append_assoc, List.singleton_append]) (e.kids.length + 1) (Nat.lt_succ_self _) [] rfl
  refine (show f40.g (e.kids.length + 1) (t, e) = _ from this).trans ?_
  unfold kindR
  cases kindL (colK t) e.kids <;> rfl
theorem con40n_ok : ∀ k, ConOk Tryz.prog 40 (mkCon [(true, tTable), (true, tExpr)] [(false, .int .i64), (false, .bool)] true (F40n k))
  | 0 => mkCon_none fun X => by unfold F40n; simp [bifG]
  | k + 1 => @f40.ok ⟨F40n k⟩ (F40n (k + 1)) (spec40 k) (con40n_ok k) con83_ok con84_ok con85_ok con86_ok con87_ok con88_ok
theorem con40_ok : ConOk Tryz.prog 40 con40 := mkCon_union con40n_ok fun X Y h => by
  obtain ⟨ho, rfl⟩ := bifG_some h
  simp only [Bool.and_eq_true] at ho
  exact ⟨sizeE X.2 + 1, bifG_true (by simp only [ho.1, ho.2.1, ho.2.2, Bool.true_and]; exact decide_eq_true (Nat.lt_succ_self _))⟩

/-! ### Checks -/
theorem spec14 : ∀ X Y, F14 X = some Y → ∃ n, f14.g n X = some Y := by
  rintro ⟨t, e⟩ y hh
  obtain ⟨ho, rfl⟩ := bifG_some hh
  simp only [Bool.and_eq_true] at ho
  obtain ⟨ht, hok⟩ := ho
  refine ⟨0, ?_⟩
  have g1 : F33 t = some (checkT t) := by show (bif okT t then _ else _) = _; rw [ht]; rfl
  have g2 : F34 ((t, 1024), e, 1) = some ((t, (mayS t.2.1.length e 1024 1).1), (mayS t.2.1.length e 1024 1).2) := bifG_true (by simp [goW, ht, hok])
  simp only [f14.g, Rose.eta, g1, g2, Option.bind_some, checkE, may_top]
  cases hc : checkT t != 0 with
  | true => rfl
  | false =>
    simp only [cond_false]
    cases hm : mayB t e with
    | false => rfl
    | true =>
      have hf : fineE t.2.1.length e = true := by unfold mayB at hm; simp only [Bool.and_eq_true] at hm; exact hm.2.2
      have g3 : F35 (t, e) = some (kindS (colK t) e) := bifG_true (by simp only [ht, hok, hf, Bool.and_self])
      simp only [Bool.not_true, cond_false, g3, Option.bind_some]
      cases (kindS (colK t) e).2 <;> rfl
theorem con14_ok : ConOk Tryz.prog 14 con14 := f14.ok spec14 con33_ok con34_ok con35_ok
theorem spec17 : ∀ X Y, F17 X = some Y → ∃ n, f17.g n X = some Y := by
  rintro ⟨t, e⟩ y hh
  obtain ⟨ho, rfl⟩ := bifG_some hh
  simp only [Bool.and_eq_true] at ho
  obtain ⟨ht, hok⟩ := ho
  refine ⟨0, ?_⟩
  have g1 : F37 t = some (checkT t) := by show (bif okT t then _ else _) = _; rw [ht]; rfl
  have g2 : F38 (e, 0, 1) = some (nodesS e 0 1) := bifG_true (by simp [goN, hok])
  have g4 : F39 (t, e) = some (fineE t.2.1.length e) := bifG_true (by simp only [ht, hok, Bool.and_self])
  have hn := nodes_top t e
  simp only [f17.g, Rose.eta, g1, g2, g4, Option.bind_some, checkE, ← hn]
  cases hc : checkT t != 0 with
  | true => rfl
  | false =>
    simp only [cond_false]
    cases (nodesS e 0 1).2 with
    | false => rfl
    | true =>
      cases hf : fineE t.2.1.length e with
      | false => rfl
      | true =>
        have g3 : F40 (t, e) = some (kindR (colK t) e) := bifG_true (by simp only [ht, hok, hf, Bool.and_self])
        obtain ⟨w1, w2⟩ := kindR_spec (cs := colK t) hf
        simp only [Bool.not_true, Bool.and_self, cond_false, g3, Option.bind_some, w1]
        cases hk : (kindS (colK t) e).2 with
        | false => rfl
        | true => simp only [Bool.not_true, cond_false, w2 hk]
theorem con17_ok : ConOk Tryz.prog 17 con17 := f17.ok spec17 con37_ok con38_ok con39_ok con40_ok
end Go.Proofs.YtfccofgchjieeaaGreatDoor.AI
/- Plain laws of floats: nought less a number, a nought times minus one. -/
set_option linter.unusedVariables false
namespace Go.Proofs.YtfccofgchjieeaaGreatDoor.AI
open Go

theorem xor_top {x : Nat} (h : x < 9223372036854775808) : x ^^^ 9223372036854775808 = x + 9223372036854775808 := by
  have e : x + 9223372036854775808 = 2 ^ 63 * 1 + x := by omega
  rw [e, Nat.two_pow_add_eq_or_of_lt (by omega) 1, Nat.mul_one, Nat.or_comm]
  refine Nat.eq_of_testBit_eq fun i => ?_
  rw [Nat.testBit_xor, Nat.testBit_or, show (9223372036854775808 : Nat) = 2 ^ 63 from rfl, Nat.testBit_two_pow]
  by_cases hi : 63 = i
  · subst hi
    rw [Nat.testBit_lt_two_pow (show x < 2 ^ 63 by omega)]; rfl
  · rw [decide_eq_false hi]; cases x.testBit i <;> rfl
theorem xor_low {x : Nat} (h0 : 9223372036854775808 ≤ x) (h : x < 18446744073709551616) : x ^^^ 9223372036854775808 = x - 9223372036854775808 := by
  have h1 := xor_top (x := x - 9223372036854775808) (by omega)
  have h2 : x - 9223372036854775808 + 9223372036854775808 = x := by omega
  rw [h2] at h1
  calc x ^^^ 9223372036854775808 = ((x - 9223372036854775808) ^^^ 9223372036854775808) ^^^ 9223372036854775808 := by rw [h1]
    _ = x - 9223372036854775808 := by rw [Nat.xor_assoc, Nat.xor_self, Nat.xor_zero]
theorem top_bit : 2 ^ (FloatKind.f64.format.exponentBits + FloatKind.f64.format.fractionBits) = 9223372036854775808 := by kernel_rfl
theorem neg_xor (x : Nat) : Op.negFloat .f64 x = x ^^^ 9223372036854775808 := by unfold Op.negFloat; rw [top_bit]
end Go.Proofs.YtfccofgchjieeaaGreatDoor.AI
/- The plain laws of the runs: what is reckoned of values. -/
set_option linter.unusedVariables false
set_option linter.unusedSimpArgs false
namespace Go.Proofs.YtfccofgchjieeaaGreatDoor.AI
open Go

/-! ### Small ones -/
theorem con54_ok : ConOk Tryz.prog 54 con54 := f54.ok (fun x y h => ⟨0, by cases h; rfl⟩)
theorem con26_ok : ConOk Tryz.prog 26 con26 := f26.ok (fun x y h => ⟨0, by cases h; simp only [f26.g, cond_and2, isT]⟩)
theorem con99_ok : ConOk Tryz.prog 99 con99 := f99.ok (fun x y h => ⟨0, by cases h; simp only [f99.g, cond_and2, isF]⟩)
theorem con56_ok : ConOk Tryz.prog 56 con56 := f56.ok (fun x y h => ⟨0, by cases h; cases x <;> rfl⟩)
theorem con101_ok : ConOk Tryz.prog 101 con101 := f101.ok (fun x y h => ⟨0, by cases h; rfl⟩)
theorem con106_ok : ConOk Tryz.prog 106 con106 := f106.ok (fun x y h => ⟨0, by cases h; simp only [f106.g, asF]; cases x.1 == 2 <;> rfl⟩)
theorem spec57 (x : ByteArray × Int) : f57.g 0 x = some (toldB x.1 x.2) := by
  simp only [f57.g, toldB]
  cases strEq x.1 (⟨#[61]⟩ : ByteArray) <;> cases strEq x.1 (⟨#[60, 62]⟩ : ByteArray) <;> cases strEq x.1 (⟨#[60]⟩ : ByteArray) <;> cases strEq x.1 (⟨#[60, 61]⟩ : ByteArray) <;> cases strEq x.1 (⟨#[62]⟩ : ByteArray) <;> rfl
theorem con57_ok : ConOk Tryz.prog 57 con57 := f57.ok (fun x y h => ⟨0, by cases h; exact spec57 x⟩)
theorem spec58 (x : dValue × dValue) : f58.g 0 x = some (ordV x.1 x.2) := by
  simp only [f58.g, F103, F104, Option.bind_some, ordV]
  cases (numS x.1 x.2).2 <;> rfl
theorem con58_ok : ConOk Tryz.prog 58 con58 := f58.ok (fun x y h => ⟨0, by cases h; exact spec58 x⟩) con103_ok con104_ok
/-! ### Whole numbers -/
theorem ar_add_add : strEq (⟨#[43]⟩ : ByteArray) (⟨#[43]⟩ : ByteArray) = true := by kernel_rfl
theorem ar_add_sub : strEq (⟨#[43]⟩ : ByteArray) (⟨#[45]⟩ : ByteArray) = false := by kernel_rfl
theorem ar_add_mul : strEq (⟨#[43]⟩ : ByteArray) (⟨#[42]⟩ : ByteArray) = false := by kernel_rfl
theorem ar_add_div : strEq (⟨#[43]⟩ : ByteArray) (⟨#[47]⟩ : ByteArray) = false := by kernel_rfl
theorem ar_add_rem : strEq (⟨#[43]⟩ : ByteArray) (⟨#[37]⟩ : ByteArray) = false := by kernel_rfl
theorem ar_sub_add : strEq (⟨#[45]⟩ : ByteArray) (⟨#[43]⟩ : ByteArray) = false := by kernel_rfl
theorem ar_sub_sub : strEq (⟨#[45]⟩ : ByteArray) (⟨#[45]⟩ : ByteArray) = true := by kernel_rfl
theorem ar_sub_mul : strEq (⟨#[45]⟩ : ByteArray) (⟨#[42]⟩ : ByteArray) = false := by kernel_rfl
theorem ar_sub_div : strEq (⟨#[45]⟩ : ByteArray) (⟨#[47]⟩ : ByteArray) = false := by kernel_rfl
theorem ar_sub_rem : strEq (⟨#[45]⟩ : ByteArray) (⟨#[37]⟩ : ByteArray) = false := by kernel_rfl
theorem ar_mul_add : strEq (⟨#[42]⟩ : ByteArray) (⟨#[43]⟩ : ByteArray) = false := by kernel_rfl
theorem ar_mul_sub : strEq (⟨#[42]⟩ : ByteArray) (⟨#[45]⟩ : ByteArray) = false := by kernel_rfl
theorem ar_mul_mul : strEq (⟨#[42]⟩ : ByteArray) (⟨#[42]⟩ : ByteArray) = true := by kernel_rfl
theorem ar_mul_div : strEq (⟨#[42]⟩ : ByteArray) (⟨#[47]⟩ : ByteArray) = false := by kernel_rfl
theorem ar_mul_rem : strEq (⟨#[42]⟩ : ByteArray) (⟨#[37]⟩ : ByteArray) = false := by kernel_rfl
theorem ar_div_add : strEq (⟨#[47]⟩ : ByteArray) (⟨#[43]⟩ : ByteArray) = false := by kernel_rfl
theorem ar_div_sub : strEq (⟨#[47]⟩ : ByteArray) (⟨#[45]⟩ : ByteArray) = false := by kernel_rfl
theorem ar_div_mul : strEq (⟨#[47]⟩ : ByteArray) (⟨#[42]⟩ : ByteArray) = false := by kernel_rfl
theorem ar_div_div : strEq (⟨#[47]⟩ : ByteArray) (⟨#[47]⟩ : ByteArray) = true := by kernel_rfl
theorem ar_div_rem : strEq (⟨#[47]⟩ : ByteArray) (⟨#[37]⟩ : ByteArray) = false := by kernel_rfl
theorem ar_rem_add : strEq (⟨#[37]⟩ : ByteArray) (⟨#[43]⟩ : ByteArray) = false := by kernel_rfl
theorem ar_rem_sub : strEq (⟨#[37]⟩ : ByteArray) (⟨#[45]⟩ : ByteArray) = false := by kernel_rfl
theorem ar_rem_mul : strEq (⟨#[37]⟩ : ByteArray) (⟨#[42]⟩ : ByteArray) = false := by kernel_rfl
theorem ar_rem_div : strEq (⟨#[37]⟩ : ByteArray) (⟨#[47]⟩ : ByteArray) = false := by kernel_rfl
theorem ar_rem_rem : strEq (⟨#[37]⟩ : ByteArray) (⟨#[37]⟩ : ByteArray) = true := by kernel_rfl
theorem arith_cases {op : ByteArray} (h : arith op = true) : op = ⟨#[43]⟩ ∨ op = ⟨#[45]⟩ ∨ op = ⟨#[42]⟩ ∨ op = ⟨#[47]⟩ ∨ op = ⟨#[37]⟩ := by
  have := inS_mem h
  simp only [arL, List.mem_cons, List.not_mem_nil, or_false] at this
  exact this
theorem okI_iff {n : Int} : okI n = true ↔ -9223372036854775808 ≤ n ∧ n ≤ 9223372036854775807 := by
  simp only [okI, Bool.and_eq_true, decide_eq_true_eq]
theorem wrap_okI (n : Int) : okI (wrapI n) = true := by
  refine okI_iff.2 ?_
  unfold wrapI
  simp only [IntKind.wrap, IntKind.min, IntKind.max, IntKind.signed, IntKind.bits, if_true]
  simp
  omega
/-! ### Floats -/
theorem nan_bits : F184 (9221120237041090560 : Int) = some nanN := rfl
theorem plain_flt (r : Nat) (h : (FloatKind.f64.format.order r r != some .eq) = true) : plainD (3, (0, (r, noS))) = (3, (0, (nanN, noS))) := by
  have h0 : (fo r 0 == some .eq) = false := by rw [nan_not h]; rfl
  have h1 : (fo r r != some .eq) = true := h
  unfold plainD
  simp only [h0, h1, cond_true, cond_false]
  rfl
theorem flt_code (o : Option Nat) : fltB o (fun r => bif FloatKind.f64.format.order r r != some .eq then (bif FloatKind.f64.format.order r 0 == some .eq then (bif FloatKind.f64.format.order 0 0 != some .eq then ((F184 (9221120237041090560 : Int)).bind fun r5 => some (((3 : Int), ((0 : Int), (r5, (⟨#[]⟩ : ByteArray)))), (0 : Int))) else (some (((3 : Int), ((0 : Int), (0, (⟨#[]⟩ : ByteArray)))), (0 : Int)))) else (bif FloatKind.f64.format.order r r != some .eq then ((F184 (9221120237041090560 : Int)).bind fun r6 => some (((3 : Int), ((0 : Int), (r6, (⟨#[]⟩ : ByteArray)))), (0 : Int))) else (some (((3 : Int), ((0 : Int), (r, (⟨#[]⟩ : ByteArray)))), (0 : Int))))) else (some (((3 : Int), ((0 : Int), (r, (⟨#[]⟩ : ByteArray)))), (0 : Int)))) ((F184 (9221120237041090560 : Int)).bind fun r7 => some (((3 : Int), ((0 : Int), (r7, (⟨#[]⟩ : ByteArray)))), (0 : Int))) = some (fltV' o, 0) := by
  cases o with
  | none => rfl
  | some r =>
    show (bif FloatKind.f64.format.order r r != some .eq then (bif FloatKind.f64.format.order r 0 == some .eq then (bif FloatKind.f64.format.order 0 0 != some .eq then ((F184 (9221120237041090560 : Int)).bind fun r5 => some (((3 : Int), ((0 : Int), (r5, (⟨#[]⟩ : ByteArray)))), (0 : Int))) else (some (((3 : Int), ((0 : Int), (0, (⟨#[]⟩ : ByteArray)))), (0 : Int)))) else (bif FloatKind.f64.format.order r r != some .eq then ((F184 (9221120237041090560 : Int)).bind fun r6 => some (((3 : Int), ((0 : Int), (r6, (⟨#[]⟩ : ByteArray)))), (0 : Int))) else (some (((3 : Int), ((0 : Int), (r, (⟨#[]⟩ : ByteArray)))), (0 : Int))))) else (some (((3 : Int), ((0 : Int), (r, (⟨#[]⟩ : ByteArray)))), (0 : Int)))) = _
    unfold fltV'
    simp only [nan_bits, Option.bind_some, fo]
    cases h : FloatKind.f64.format.order r r != some .eq with
    | true =>
      have h0 : (FloatKind.f64.format.order r 0 == some .eq) = false := by
        have : (fo r 0 == some .eq) = false := by rw [nan_not h]; rfl
        exact this
      rw [plain_flt r h, h0]
      rfl
    | false => rfl
theorem spec59 : ∀ X Y, F59 X = some Y → ∃ n, f59.g n X = some Y := by
  rintro ⟨op, a, b⟩ y hh
  obtain ⟨ho, rfl⟩ := bifG_some hh
  simp only [okO, Bool.and_eq_true] at ho
  obtain ⟨hop, ka, kb, ca, cb, za, zb, hr⟩ := ho
  refine ⟨0, ?_⟩
  have ia : okI a.2.1 = true := by simp only [okZ, Bool.and_eq_true] at za; exact za.2.1
  have ib : okI b.2.1 = true := by simp only [okZ, Bool.and_eq_true] at zb; exact zb.2.1
  rcases arith_cases hop with rfl | rfl | rfl | rfl | rfl
  · simp only [f59.g, reckV, ar_add_add, ar_add_sub, ar_add_mul, ar_add_div, ar_add_rem, ar_sub_add, ar_sub_sub, ar_sub_mul, ar_sub_div, ar_sub_rem, ar_mul_add, ar_mul_sub, ar_mul_mul, ar_mul_div, ar_mul_rem, ar_div_add, ar_div_sub, ar_div_mul, ar_div_div, ar_div_rem, ar_rem_add, ar_rem_sub, ar_rem_mul, ar_rem_div, ar_rem_rem, cond_true, cond_false, cond_and2, F101, F106, Option.bind_some, intO, fltO]
    cases a.1 == 2 && b.1 == 2 with
    | true =>
      simp only [cond_true]
      cases h : (decide (wrapI (a.2.1 + b.2.1) > a.2.1)) == (decide (b.2.1 > (0 : Int))) with
      | true => have h' : ((decide (IntKind.wrap .i64 (a.2.1 + b.2.1) > a.2.1)) == (decide (b.2.1 > (0 : Int)))) = true := h; rw [h']; rfl
      | false => have h' : ((decide (IntKind.wrap .i64 (a.2.1 + b.2.1) > a.2.1)) == (decide (b.2.1 > (0 : Int)))) = false := h; rw [h']; rfl
    | false => exact flt_code _
  · simp only [f59.g, reckV, ar_add_add, ar_add_sub, ar_add_mul, ar_add_div, ar_add_rem, ar_sub_add, ar_sub_sub, ar_sub_mul, ar_sub_div, ar_sub_rem, ar_mul_add, ar_mul_sub, ar_mul_mul, ar_mul_div, ar_mul_rem, ar_div_add, ar_div_sub, ar_div_mul, ar_div_div, ar_div_rem, ar_rem_add, ar_rem_sub, ar_rem_mul, ar_rem_div, ar_rem_rem, cond_true, cond_false, cond_and2, F101, F106, Option.bind_some, intO, fltO]
    cases a.1 == 2 && b.1 == 2 with
    | true =>
      simp only [cond_true]
      cases h : (decide (wrapI (a.2.1 - b.2.1) < a.2.1)) == (decide (b.2.1 > (0 : Int))) with
      | true => have h' : ((decide (IntKind.wrap .i64 (a.2.1 - b.2.1) < a.2.1)) == (decide (b.2.1 > (0 : Int)))) = true := h; rw [h']; rfl
      | false => have h' : ((decide (IntKind.wrap .i64 (a.2.1 - b.2.1) < a.2.1)) == (decide (b.2.1 > (0 : Int)))) = false := h; rw [h']; rfl
    | false => exact flt_code _
  · simp only [f59.g, reckV, ar_add_add, ar_add_sub, ar_add_mul, ar_add_div, ar_add_rem, ar_sub_add, ar_sub_sub, ar_sub_mul, ar_sub_div, ar_sub_rem, ar_mul_add, ar_mul_sub, ar_mul_mul, ar_mul_div, ar_mul_rem, ar_div_add, ar_div_sub, ar_div_mul, ar_div_div, ar_div_rem, ar_rem_add, ar_rem_sub, ar_rem_mul, ar_rem_div, ar_rem_rem, cond_true, cond_false, cond_and2, cond_or2, F101, F106, Option.bind_some, intO, fltO]
    cases a.1 == 2 && b.1 == 2 with
    | true =>
      simp only [cond_true]
      cases h0 : a.2.1 == 0 || b.2.1 == 0 with
      | true => rfl
      | false =>
        rw [Bool.or_eq_false_iff] at h0
        simp only [cond_false, h0.2]
        show (bif (wrapI (Int.tdiv (wrapI (a.2.1 * b.2.1)) b.2.1) != a.2.1 || (a.2.1 == -9223372036854775808 && b.2.1 == -1)) || (b.2.1 == -9223372036854775808 && a.2.1 == -1) then some (zeroV, 152) else some (intV (wrapI (a.2.1 * b.2.1)), 0)) = _
        rw [Bool.or_assoc]
        cases wrapI (Int.tdiv (wrapI (a.2.1 * b.2.1)) b.2.1) != a.2.1 || (a.2.1 == -9223372036854775808 && b.2.1 == -1 || b.2.1 == -9223372036854775808 && a.2.1 == -1) <;> rfl
    | false => exact flt_code _
  · simp only [f59.g, reckV, ar_add_add, ar_add_sub, ar_add_mul, ar_add_div, ar_add_rem, ar_sub_add, ar_sub_sub, ar_sub_mul, ar_sub_div, ar_sub_rem, ar_mul_add, ar_mul_sub, ar_mul_mul, ar_mul_div, ar_mul_rem, ar_div_add, ar_div_sub, ar_div_mul, ar_div_div, ar_div_rem, ar_rem_add, ar_rem_sub, ar_rem_mul, ar_rem_div, ar_rem_rem, cond_true, cond_false, cond_and2, F101, F106, Option.bind_some, intO, fltO]
    cases a.1 == 2 && b.1 == 2 with
    | true =>
      simp only [cond_true]
      cases h0 : b.2.1 == 0 with
      | true => rfl
      | false =>
        simp only [cond_false]
        cases a.2.1 == -9223372036854775808 && b.2.1 == -1 <;> rfl
    | false => exact flt_code _
  · have e : (a.1 == 2 && b.1 == 2) = true := by
      have er : strEq (⟨#[37]⟩ : ByteArray) remS = true := ar_rem_rem
      rw [er] at hr
      simpa using hr
    simp only [f59.g, reckV, ar_add_add, ar_add_sub, ar_add_mul, ar_add_div, ar_add_rem, ar_sub_add, ar_sub_sub, ar_sub_mul, ar_sub_div, ar_sub_rem, ar_mul_add, ar_mul_sub, ar_mul_mul, ar_mul_div, ar_mul_rem, ar_div_add, ar_div_sub, ar_div_mul, ar_div_div, ar_div_rem, ar_rem_add, ar_rem_sub, ar_rem_mul, ar_rem_div, ar_rem_rem, cond_true, cond_false, cond_and2, F101, F106, Option.bind_some, intO, fltO, e]
    cases h0 : b.2.1 == 0 with
    | true => rfl
    | false =>
      simp only [cond_false]
      cases b.2.1 == -1 <;> rfl
theorem con59_ok : ConOk Tryz.prog 59 con59 := f59.ok spec59 con101_ok con106_ok con184_ok
end Go.Proofs.YtfccofgchjieeaaGreatDoor.AI
/- The plain laws of the runs: unary operators; what values an expression may have. -/
set_option linter.unusedVariables false
set_option linter.unusedSimpArgs false
namespace Go.Proofs.YtfccofgchjieeaaGreatDoor.AI
open Go

theorem un_neg_neg : strEq (⟨#[45]⟩ : ByteArray) (⟨#[45]⟩ : ByteArray) = true := by kernel_rfl
theorem un_neg_not : strEq (⟨#[45]⟩ : ByteArray) (⟨#[110, 111, 116]⟩ : ByteArray) = false := by kernel_rfl
theorem un_neg_isn : strEq (⟨#[45]⟩ : ByteArray) (⟨#[105, 115, 32, 110, 117, 108, 108]⟩ : ByteArray) = false := by kernel_rfl
theorem un_neg_inn : strEq (⟨#[45]⟩ : ByteArray) (⟨#[105, 115, 32, 110, 111, 116, 32, 110, 117, 108, 108]⟩ : ByteArray) = false := by kernel_rfl
theorem un_not_neg : strEq (⟨#[110, 111, 116]⟩ : ByteArray) (⟨#[45]⟩ : ByteArray) = false := by kernel_rfl
theorem un_not_not : strEq (⟨#[110, 111, 116]⟩ : ByteArray) (⟨#[110, 111, 116]⟩ : ByteArray) = true := by kernel_rfl
theorem un_not_isn : strEq (⟨#[110, 111, 116]⟩ : ByteArray) (⟨#[105, 115, 32, 110, 117, 108, 108]⟩ : ByteArray) = false := by kernel_rfl
theorem un_not_inn : strEq (⟨#[110, 111, 116]⟩ : ByteArray) (⟨#[105, 115, 32, 110, 111, 116, 32, 110, 117, 108, 108]⟩ : ByteArray) = false := by kernel_rfl
theorem un_isn_neg : strEq (⟨#[105, 115, 32, 110, 117, 108, 108]⟩ : ByteArray) (⟨#[45]⟩ : ByteArray) = false := by kernel_rfl
theorem un_isn_not : strEq (⟨#[105, 115, 32, 110, 117, 108, 108]⟩ : ByteArray) (⟨#[110, 111, 116]⟩ : ByteArray) = false := by kernel_rfl
theorem un_isn_isn : strEq (⟨#[105, 115, 32, 110, 117, 108, 108]⟩ : ByteArray) (⟨#[105, 115, 32, 110, 117, 108, 108]⟩ : ByteArray) = true := by kernel_rfl
theorem un_inn_neg : strEq (⟨#[105, 115, 32, 110, 111, 116, 32, 110, 117, 108, 108]⟩ : ByteArray) (⟨#[45]⟩ : ByteArray) = false := by kernel_rfl
theorem un_inn_not : strEq (⟨#[105, 115, 32, 110, 111, 116, 32, 110, 117, 108, 108]⟩ : ByteArray) (⟨#[110, 111, 116]⟩ : ByteArray) = false := by kernel_rfl
theorem un_inn_isn : strEq (⟨#[105, 115, 32, 110, 111, 116, 32, 110, 117, 108, 108]⟩ : ByteArray) (⟨#[105, 115, 32, 110, 117, 108, 108]⟩ : ByteArray) = false := by kernel_rfl
theorem un_inn_inn : strEq (⟨#[105, 115, 32, 110, 111, 116, 32, 110, 117, 108, 108]⟩ : ByteArray) (⟨#[105, 115, 32, 110, 111, 116, 32, 110, 117, 108, 108]⟩ : ByteArray) = true := by kernel_rfl
theorem un_cases {op : ByteArray} (h : inS unL op = true) : op = ⟨#[45]⟩ ∨ op = ⟨#[110, 111, 116]⟩ ∨ op = ⟨#[105, 115, 32, 110, 117, 108, 108]⟩ ∨ op = ⟨#[105, 115, 32, 110, 111, 116, 32, 110, 117, 108, 108]⟩ := by
  have := inS_mem h
  simp only [unL, List.mem_cons, List.not_mem_nil, or_false] at this
  rcases this with h | h | h | h <;> simp [h]

/-! ### Values that are told -/
theorem beqI {a b : Int} (h : a ≠ b) : (a == b) = false := by simpa using h
theorem beqT {a b : Int} (h : a = b) : (a == b) = true := by simpa using h

/-! ### Unary operators -/
theorem spec53 : ∀ X Y, F53 X = some Y → ∃ n, f53.g n X = some Y := by
  rintro ⟨op, v⟩ y hh
  obtain ⟨ho, rfl⟩ := bifG_some hh
  refine ⟨0, ?_⟩
  have e1 : strEq op (⟨#[110, 111, 116]⟩ : ByteArray) = strEq op notS := rfl
  simp only [f53.g, unV, F54, F56, F99, F101, Option.bind_some, e1]
  cases strEq op (⟨#[105, 115, 32, 110, 117, 108, 108]⟩ : ByteArray) with
  | true => rfl
  | false =>
    cases strEq op (⟨#[105, 115, 32, 110, 111, 116, 32, 110, 117, 108, 108]⟩ : ByteArray) with
    | true => rfl
    | false =>
      cases v.1 == 0 with
      | true => rfl
      | false =>
        cases strEq op notS with
        | true => rfl
        | false =>
          cases v.1 == 3 with
          | true => exact flt_code (some (Op.negFloat .f64 v.2.2.1))
          | false => cases v.2.1 == -9223372036854775808 <;> rfl
theorem con53_ok : ConOk Tryz.prog 53 con53 := f53.ok spec53 con54_ok con56_ok con99_ok con101_ok con184_ok
theorem num_cases {k : Int} (h : numK k = true) : k = 2 ∨ k = 3 := by
  simpa [numK] using h
end Go.Proofs.YtfccofgchjieeaaGreatDoor.AI
/- The plain laws of expressions: what values one may have. -/
set_option linter.unusedVariables false
set_option linter.unusedSimpArgs false
namespace Go.Proofs.YtfccofgchjieeaaGreatDoor.AI
open Go

/-- A value of a kind, or none. -/
def okA (k : Int) (v : dValue) : Prop := (v.1 = k ∨ v.1 = 0) ∧ checkV v = 0 ∧ okZ v = true
theorem check_zero : checkV zeroV = 0 := by kernel_rfl
theorem okZ_zero : okZ zeroV = true := by kernel_rfl
theorem okA_zero (k : Int) : okA k zeroV := ⟨.inr rfl, check_zero, okZ_zero⟩
theorem check_true : checkV (boolV true) = 0 ∧ okZ (boolV true) = true := ⟨by kernel_rfl, by kernel_rfl⟩
theorem check_false : checkV (boolV false) = 0 ∧ okZ (boolV false) = true := ⟨by kernel_rfl, by kernel_rfl⟩
theorem okA_bool (b : Bool) : okA 1 (boolV b) := by
  cases b
  · exact ⟨.inl rfl, check_false⟩
  · exact ⟨.inl rfl, check_true⟩
theorem check_int (n : Int) : checkV (intV n) = 0 := by kernel_rfl
theorem okA_int {n : Int} (h : okI n = true) : okA 2 (intV n) := ⟨.inl rfl, check_int n, by
  have : okZ (intV n) = (true && (okI n && true)) := rfl
  rw [this, h]; rfl⟩
theorem check_flt (r : Nat) : checkV (3, (0, (r, noS))) = 0 := by kernel_rfl
theorem flt_shape (o : Option Nat) (h : ∀ r, o = some r → r < 18446744073709551616) : ∃ r, fltV' o = (3, (0, (r, noS))) ∧ r < 18446744073709551616 := by
  have hn : nanN < 18446744073709551616 := by decide
  cases o with
  | none => exact ⟨nanN, rfl, hn⟩
  | some r =>
    have hr := h r rfl
    cases hq : fo r r != some .eq with
    | true =>
      refine ⟨nanN, ?_, hn⟩
      unfold fltV'
      simp only [hq, cond_true, plain_flt r hq]
    | false =>
      refine ⟨r, ?_, hr⟩
      unfold fltV'
      simp only [hq, cond_false]
theorem okA_flt (o : Option Nat) (h : ∀ r, o = some r → r < 18446744073709551616) : okA 3 (fltV' o) := by
  obtain ⟨r, e, hr⟩ := flt_shape o h
  rw [e]
  refine ⟨.inl rfl, check_flt r, ?_⟩
  have : okZ (3, (0, (r, noS))) = (true && (true && decide (r < 18446744073709551616))) := rfl
  rw [this, decide_eq_true hr]; rfl
theorem width_f64 : (2 : Nat) ^ FloatKind.f64.format.width = 18446744073709551616 := by kernel_rfl
theorem fltO_lt (op : ByteArray) (x y : Nat) : ∀ r, fltO op x y = some r → r < 18446744073709551616 := by
  intro r h
  rw [← width_f64]
  unfold fltO at h
  cases h1 : strEq op (⟨#[43]⟩ : ByteArray) with
  | true => rw [h1] at h; exact Ieee.Format.add_lt _ h
  | false =>
    rw [h1] at h
    cases h2 : strEq op (⟨#[45]⟩ : ByteArray) with
    | true => rw [h2] at h; exact Ieee.Format.sub_lt _ h
    | false =>
      rw [h2] at h
      cases h3 : strEq op (⟨#[42]⟩ : ByteArray) with
      | true => rw [h3] at h; exact Ieee.Format.mul_lt _ h
      | false => rw [h3] at h; exact Ieee.Format.div_lt _ h
theorem neg_lt {x : Nat} (h : x < 18446744073709551616) : Op.negFloat .f64 x < 18446744073709551616 := by
  rw [neg_xor]
  by_cases hx : x < 9223372036854775808
  · rw [xor_top hx]; omega
  · rw [xor_low (by omega) h]; omega
theorem tmod_okI {a b : Int} (ha : okI a = true) (hb : okI b = true) (b0 : (b == 0) = false) : okI (Int.tmod a b) = true := by
  obtain ⟨b1, b2⟩ := okI_iff.1 hb
  have hb0 : b ≠ 0 := by simpa using b0
  have h : (Int.tmod a b).natAbs = a.natAbs % b.natAbs := Int.natAbs_tmod a b
  have hlt : a.natAbs % b.natAbs < b.natAbs := Nat.mod_lt _ (by omega)
  refine okI_iff.2 ?_
  omega
theorem intO_ok (op : ByteArray) {a b : Int} (ha : okI a = true) (hb : okI b = true) : okI (intO op a b).1 = true := by
  have z : okI 0 = true := rfl
  unfold intO
  cases strEq op (⟨#[43]⟩ : ByteArray) with
  | true => simp only [cond_true]; cases decide (wrapI (a + b) > a) == decide (b > 0) <;> first | exact z | exact wrap_okI _
  | false =>
  cases strEq op (⟨#[45]⟩ : ByteArray) with
  | true => simp only [cond_true, cond_false]; cases decide (wrapI (a - b) < a) == decide (b > 0) <;> first | exact z | exact wrap_okI _
  | false =>
  cases strEq op (⟨#[42]⟩ : ByteArray) with
  | true =>
    simp only [cond_true, cond_false]
    cases a == 0 || b == 0 with
    | true => exact z
    | false =>
      simp only [cond_false]
      cases wrapI (Int.tdiv (wrapI (a * b)) b) != a || (a == -9223372036854775808 && b == -1 || b == -9223372036854775808 && a == -1) <;> first | exact z | exact wrap_okI _
  | false =>
  cases strEq op (⟨#[47]⟩ : ByteArray) with
  | true =>
    simp only [cond_true, cond_false]
    cases b == 0 with
    | true => exact z
    | false =>
      simp only [cond_false]
      cases a == -9223372036854775808 && b == -1 <;> first | exact z | exact wrap_okI _
  | false =>
    simp only [cond_false]
    cases h0 : b == 0 with
    | true => exact z
    | false =>
      simp only [cond_false]
      cases b == -1 with
      | true => exact z
      | false => exact tmod_okI ha hb h0
theorem okZ_I {v : dValue} (h : okZ v = true) : okI v.2.1 = true ∧ v.2.2.1 < 18446744073709551616 := by
  simp only [okZ, Bool.and_eq_true, decide_eq_true_eq] at h
  exact h.2
theorem max_22 : maxI true 2 2 = 2 := by kernel_rfl
theorem max_23 : maxI true 2 3 = 3 := by kernel_rfl
theorem max_32 : maxI true 3 2 = 3 := by kernel_rfl
theorem max_33 : maxI true 3 3 = 3 := by kernel_rfl

/-- What is reckoned of two values of two kinds. -/
theorem reck_ok {op : ByteArray} {a b : dValue} {k0 k1 : Int} (hop : arith op = true) (h : (reckK op k0 k1).2 = true) (ha : okA k0 a) (hb : okA k1 b) (a0 : a.1 ≠ 0) (b0 : b.1 ≠ 0) :
    okO op a b = true ∧ ((reckV op a b).2 = 0 → okA (reckK op k0 k1).1 (reckV op a b).1) := by
  obtain ⟨ha1, ha2, ha3⟩ := ha
  obtain ⟨hb1, hb2, hb3⟩ := hb
  have ea : a.1 = k0 := by omega
  have eb : b.1 = k1 := by omega
  have n0 : (k0 == 0) = false := beqI (by omega)
  have n1 : (k1 == 0) = false := beqI (by omega)
  have hk : numK k0 = true ∧ numK k1 = true ∧ (strEq op remS && (k0 == 3 || k1 == 3)) = false ∧ (reckK op k0 k1).1 = maxI true k0 k1 := by
    unfold reckK recK at h ⊢
    simp only [n0, n1, cond_false, bne, Bool.not_false, Bool.and_true] at h ⊢
    cases h1 : numK k0 <;> cases h2 : numK k1 <;> cases h3 : (strEq op remS && (k0 == 3 || k1 == 3)) <;> simp only [h1, h2, h3, Bool.not_true, Bool.not_false, Bool.or_true, Bool.true_or, Bool.or_false, Bool.or_self, cond_true, cond_false] at h ⊢ <;> first | exact ⟨trivial, trivial, trivial, trivial⟩ | cases h
  obtain ⟨h1, h2, h3, h4⟩ := hk
  have hrem : (!(strEq op remS) || (a.1 == 2 && b.1 == 2)) = true := by
    cases hr : strEq op remS with
    | false => rfl
    | true =>
      rw [hr, Bool.true_and, Bool.or_eq_false_iff] at h3
      have q0 : k0 = 2 := by rcases num_cases h1 with h | h; exact h; rw [h] at h3; cases h3.1
      have q1 : k1 = 2 := by rcases num_cases h2 with h | h; exact h; rw [h] at h3; cases h3.2
      rw [beqT (ea.trans q0), beqT (eb.trans q1)]; rfl
  refine ⟨?_, fun hz => ?_⟩
  · unfold okO
    rw [hop, ea, eb, h1, h2, ha2, hb2, ha3, hb3]
    rw [ea, eb] at hrem
    rw [hrem]; rfl
  · rw [h4]
    unfold reckV at hz ⊢
    rcases num_cases h1 with q0 | q0 <;> rcases num_cases h2 with q1 | q1 <;> subst q0 <;> subst q1
    · rw [max_22]
      simp only [beqT ea, beqT eb, Bool.and_self, cond_true] at hz ⊢
      cases hi : (intO op a.2.1 b.2.1).2 != 0 with
      | true =>
        rw [hi, cond_true] at hz
        simp only at hz
        rw [hz] at hi; cases hi
      | false =>
        rw [cond_false]
        exact okA_int (intO_ok op (okZ_I ha3).1 (okZ_I hb3).1)
    · rw [max_23]
      simp only [beqT ea, beqI (show b.1 ≠ 2 by omega), Bool.and_false, cond_false]
      exact okA_flt _ (fltO_lt op _ _)
    · rw [max_32]
      simp only [beqI (show a.1 ≠ 2 by omega), Bool.false_and, cond_false]
      exact okA_flt _ (fltO_lt op _ _)
    · rw [max_33]
      simp only [beqI (show a.1 ≠ 2 by omega), Bool.false_and, cond_false]
      exact okA_flt _ (fltO_lt op _ _)

/-! ### Operators by their classes -/
theorem una_neg : (strEq (⟨#[45]⟩ : ByteArray) andS || strEq (⟨#[45]⟩ : ByteArray) orS) = false := by kernel_rfl
theorem una_not : (strEq (⟨#[110, 111, 116]⟩ : ByteArray) andS || strEq (⟨#[110, 111, 116]⟩ : ByteArray) orS) = false := by kernel_rfl
theorem una_isn : (strEq (⟨#[105, 115, 32, 110, 117, 108, 108]⟩ : ByteArray) andS || strEq (⟨#[105, 115, 32, 110, 117, 108, 108]⟩ : ByteArray) orS) = false := by kernel_rfl
theorem una_inn : (strEq (⟨#[105, 115, 32, 110, 111, 116, 32, 110, 117, 108, 108]⟩ : ByteArray) andS || strEq (⟨#[105, 115, 32, 110, 111, 116, 32, 110, 117, 108, 108]⟩ : ByteArray) orS) = false := by kernel_rfl
theorem bic_0 : (inS arL ⟨#[43]⟩ = true ∧ inS cpL ⟨#[43]⟩ = false) ∧ (strEq ⟨#[43]⟩ andS || strEq ⟨#[43]⟩ orS) = false ∧ strEq ⟨#[43]⟩ notS = false := ⟨⟨by kernel_rfl, by kernel_rfl⟩, by kernel_rfl, by kernel_rfl⟩
theorem bic_1 : (inS arL ⟨#[45]⟩ = true ∧ inS cpL ⟨#[45]⟩ = false) ∧ (strEq ⟨#[45]⟩ andS || strEq ⟨#[45]⟩ orS) = false ∧ strEq ⟨#[45]⟩ notS = false := ⟨⟨by kernel_rfl, by kernel_rfl⟩, by kernel_rfl, by kernel_rfl⟩
theorem bic_2 : (inS arL ⟨#[42]⟩ = true ∧ inS cpL ⟨#[42]⟩ = false) ∧ (strEq ⟨#[42]⟩ andS || strEq ⟨#[42]⟩ orS) = false ∧ strEq ⟨#[42]⟩ notS = false := ⟨⟨by kernel_rfl, by kernel_rfl⟩, by kernel_rfl, by kernel_rfl⟩
theorem bic_3 : (inS arL ⟨#[47]⟩ = true ∧ inS cpL ⟨#[47]⟩ = false) ∧ (strEq ⟨#[47]⟩ andS || strEq ⟨#[47]⟩ orS) = false ∧ strEq ⟨#[47]⟩ notS = false := ⟨⟨by kernel_rfl, by kernel_rfl⟩, by kernel_rfl, by kernel_rfl⟩
theorem bic_4 : (inS arL ⟨#[37]⟩ = true ∧ inS cpL ⟨#[37]⟩ = false) ∧ (strEq ⟨#[37]⟩ andS || strEq ⟨#[37]⟩ orS) = false ∧ strEq ⟨#[37]⟩ notS = false := ⟨⟨by kernel_rfl, by kernel_rfl⟩, by kernel_rfl, by kernel_rfl⟩
theorem bic_5 : (inS arL ⟨#[61]⟩ = false ∧ inS cpL ⟨#[61]⟩ = true) ∧ (strEq ⟨#[61]⟩ andS || strEq ⟨#[61]⟩ orS) = false ∧ strEq ⟨#[61]⟩ notS = false := ⟨⟨by kernel_rfl, by kernel_rfl⟩, by kernel_rfl, by kernel_rfl⟩
theorem bic_6 : (inS arL ⟨#[60, 62]⟩ = false ∧ inS cpL ⟨#[60, 62]⟩ = true) ∧ (strEq ⟨#[60, 62]⟩ andS || strEq ⟨#[60, 62]⟩ orS) = false ∧ strEq ⟨#[60, 62]⟩ notS = false := ⟨⟨by kernel_rfl, by kernel_rfl⟩, by kernel_rfl, by kernel_rfl⟩
theorem bic_7 : (inS arL ⟨#[60]⟩ = false ∧ inS cpL ⟨#[60]⟩ = true) ∧ (strEq ⟨#[60]⟩ andS || strEq ⟨#[60]⟩ orS) = false ∧ strEq ⟨#[60]⟩ notS = false := ⟨⟨by kernel_rfl, by kernel_rfl⟩, by kernel_rfl, by kernel_rfl⟩
theorem bic_8 : (inS arL ⟨#[60, 61]⟩ = false ∧ inS cpL ⟨#[60, 61]⟩ = true) ∧ (strEq ⟨#[60, 61]⟩ andS || strEq ⟨#[60, 61]⟩ orS) = false ∧ strEq ⟨#[60, 61]⟩ notS = false := ⟨⟨by kernel_rfl, by kernel_rfl⟩, by kernel_rfl, by kernel_rfl⟩
theorem bic_9 : (inS arL ⟨#[62]⟩ = false ∧ inS cpL ⟨#[62]⟩ = true) ∧ (strEq ⟨#[62]⟩ andS || strEq ⟨#[62]⟩ orS) = false ∧ strEq ⟨#[62]⟩ notS = false := ⟨⟨by kernel_rfl, by kernel_rfl⟩, by kernel_rfl, by kernel_rfl⟩
theorem bic_10 : (inS arL ⟨#[62, 61]⟩ = false ∧ inS cpL ⟨#[62, 61]⟩ = true) ∧ (strEq ⟨#[62, 61]⟩ andS || strEq ⟨#[62, 61]⟩ orS) = false ∧ strEq ⟨#[62, 61]⟩ notS = false := ⟨⟨by kernel_rfl, by kernel_rfl⟩, by kernel_rfl, by kernel_rfl⟩
theorem un_no {op : ByteArray} (h : inS unL op = true) : (strEq op andS || strEq op orS) = false := by
  rcases un_cases h with rfl | rfl | rfl | rfl
  · exact una_neg
  · exact una_not
  · exact una_isn
  · exact una_inn
theorem bi_class {op : ByteArray} (h : op ∈ biL) : (op = andS ∨ op = orS) ∨ ((inS arL op = false ∧ inS cpL op = true) ∧ (strEq op andS || strEq op orS) = false ∧ strEq op notS = false) ∨ ((inS arL op = true ∧ inS cpL op = false) ∧ (strEq op andS || strEq op orS) = false ∧ strEq op notS = false) := by
  simp only [biL, List.mem_cons, List.not_mem_nil, or_false] at h
  rcases h with rfl | rfl | rfl | rfl | rfl | rfl | rfl | rfl | rfl | rfl | rfl | rfl | rfl
  · exact .inr (.inr bic_0)
  · exact .inr (.inr bic_1)
  · exact .inr (.inr bic_2)
  · exact .inr (.inr bic_3)
  · exact .inr (.inr bic_4)
  · exact .inr (.inl bic_5)
  · exact .inr (.inl bic_6)
  · exact .inr (.inl bic_7)
  · exact .inr (.inl bic_8)
  · exact .inr (.inl bic_9)
  · exact .inr (.inl bic_10)
  · exact .inl (.inl rfl)
  · exact .inl (.inr rfl)

/-- A unary operator over a value of a kind. -/
theorem unary_ok {cs : List Int} {op : ByteArray} {c : Int} {x v : dValue} {l : List Int} (hop : inS unL op = true) (hl : l.length = 1) (hk : (kindN cs (3, op, c, x) l).2 = true) (hv : okA (l.getD 0 0) v) :
    okU op v = true ∧ ((unV op v).2 = 0 → okA (kindN cs (3, op, c, x) l).1 (unV op v).1) := by
  obtain ⟨v1, v2, v3⟩ := hv
  have z := (okZ_I v3)
  generalize hl0 : l.getD 0 0 = k0 at v1
  have kn : kindN cs (3, op, c, x) l = bif strEq op subS then (k0, numK k0 || k0 == 0) else bif strEq op notS then (1, logK k0) else (1, true) := by
    unfold kindN
    simp only [hl0, hl, show ((3 : Int) == 1) = false from rfl, show ((3 : Int) == 2) = false from rfl, show ((3 : Int) == 5) = false from rfl, show ((3 : Int) == 3) = true from rfl, show ((1 : Nat) == 1) = true from rfl, Bool.and_true, cond_true, cond_false]
  rw [kn] at hk ⊢
  have s1 : ∀ q : ByteArray, strEq q subS = strEq q ⟨#[45]⟩ := fun _ => rfl
  have s2 : ∀ q : ByteArray, strEq q notS = strEq q ⟨#[110, 111, 116]⟩ := fun _ => rfl
  have nul : ∀ {k : Int}, v.1 = 0 → okA k zeroV := fun _ => okA_zero _
  unfold okU
  rw [hop, v3]
  rcases un_cases hop with rfl | rfl | rfl | rfl
  · simp only [s1, s2, un_neg_neg, un_neg_not, cond_true, cond_false, Bool.not_true, Bool.not_false, Bool.false_or, Bool.true_or, Bool.and_true, Bool.true_and] at hk ⊢
    have hn : (v.1 == 0 || numK v.1) = true := by
      rcases v1 with h | h
      · rw [h, Bool.or_comm]; exact hk
      · rw [h]; rfl
    refine ⟨hn, fun hz => ?_⟩
    simp only [unV, s2, un_neg_isn, un_neg_inn, un_neg_not, cond_false] at hz ⊢
    by_cases h0 : v.1 = 0
    · rw [beqT h0]; exact okA_zero _
    · have hk0 : v.1 = k0 := by omega
      have hnum : numK v.1 = true := by rw [beqI h0] at hn; exact hn
      rw [beqI h0] at hz ⊢
      rcases num_cases hnum with h2 | h3
      · rw [beqI (show v.1 ≠ 3 by omega)] at hz ⊢
        simp only [cond_false] at hz ⊢
        cases hm : v.2.1 == -9223372036854775808 with
        | true => rw [hm] at hz; cases hz
        | false => rw [← hk0, h2]; exact okA_int (wrap_okI _)
      · rw [beqT h3]
        simp only [cond_true, cond_false]
        rw [← hk0, h3]
        exact okA_flt _ (fun r hr => by cases hr; exact neg_lt z.2)
  · simp only [s1, s2, un_not_neg, un_not_not, cond_true, cond_false, Bool.not_true, Bool.not_false, Bool.false_or, Bool.true_or, Bool.and_true, Bool.true_and] at hk ⊢
    have hn : logK v.1 = true := by
      rcases v1 with h | h
      · rw [h]; exact hk
      · rw [h]; rfl
    refine ⟨hn, fun hz => ?_⟩
    simp only [unV, s2, un_not_isn, un_not_inn, un_not_not, cond_true, cond_false] at hz ⊢
    cases v.1 == 0 with
    | true => exact okA_zero _
    | false => exact okA_bool _
  · simp only [s1, s2, un_isn_neg, un_isn_not, un_isn_isn, cond_true, cond_false, Bool.not_true, Bool.not_false, Bool.false_or, Bool.true_or, Bool.and_true, Bool.true_and, unV]
    exact ⟨trivial, fun _ => okA_bool _⟩
  · simp only [s1, s2, un_inn_neg, un_inn_not, un_inn_isn, un_inn_inn, cond_true, cond_false, Bool.not_true, Bool.not_false, Bool.false_or, Bool.true_or, Bool.and_true, Bool.true_and, unV]
    exact ⟨trivial, fun _ => okA_bool _⟩
theorem okA_log {k : Int} {v : dValue} (h : okA k v) (hk : logK k = true) : okA 1 v := by
  have : k = 1 ∨ k = 0 := by simpa [logK] using hk
  exact ⟨by have := h.1; omega, h.2⟩
theorem both_ok {op : ByteArray} {p q : dValue × Int} (hp : p.2 = 0 → okA 1 p.1) (hq : q.2 = 0 → okA 1 q.1) (h : (bothV op p q).2 = 0) : okA 1 (bothV op p q).1 := by
  unfold bothV at h ⊢
  cases h1 : p.2 != 0 || (bif strEq op orS then isT p.1 else isF p.1) with
  | true => rw [h1, cond_true] at h; rw [cond_true]; exact hp h
  | false =>
    rw [h1, cond_false] at h; rw [cond_false]
    cases h2 : q.2 != 0 || (bif strEq op orS then isT q.1 else isF q.1) || !(p.1.1 == 0) with
    | true => rw [h2, cond_true] at h; rw [cond_true]; exact hq h
    | false => exact okA_zero _
theorem in_ok (a : dValue) : ∀ (u : Bool) (rs : List (dValue × Int)), okA 1 (inL a u rs).1
  | u, [] => by
    unfold inL
    cases u
    · exact okA_bool _
    · exact okA_zero _
  | u, b :: r => by
    unfold inL
    cases b.2 != 0 with
    | true => exact okA_zero _
    | false =>
      cases a.1 == 0 || b.1.1 == 0 with
      | true => exact in_ok a true r
      | false =>
        cases ordV a b.1 == 0 with
        | true => exact okA_bool _
        | false => exact in_ok a u r
theorem inV_ok (rs : List (dValue × Int)) : okA 1 (inV rs).1 := by
  unfold inV
  split
  · exact okA_zero _
  · rename_i a r
    cases a.2 != 0 with
    | true => exact okA_zero _
    | false => exact in_ok _ _ _
/-- A binary operator over two values of two kinds. -/
theorem binary_ok {op : ByteArray} {k0 k1 : Int} {p q : dValue × Int} (hop : op ∈ biL) (hk : (binN op k0 k1).2 = true) (hp : p.2 = 0 → okA k0 p.1) (hq : q.2 = 0 → okA k1 q.1) :
    ((strEq op andS || strEq op orS) = true → logK k0 = true ∧ logK k1 = true) ∧
    ((strEq op andS || strEq op orS) = false → inS cpL op = false → p.2 = 0 → q.2 = 0 → p.1.1 ≠ 0 → q.1.1 ≠ 0 → okO op p.1 q.1 = true) ∧
    (((bif strEq op andS || strEq op orS then bothV op p q else binV op p q)).2 = 0 → okA (binN op k0 k1).1 (bif strEq op andS || strEq op orS then bothV op p q else binV op p q).1) := by
  rcases bi_class hop with h | ⟨⟨h1, h2⟩, h3, h4⟩ | ⟨⟨h1, h2⟩, h3, h4⟩
  · have lo : (strEq op andS || strEq op orS) = true ∧ strEq op notS = false ∧ inS cpL op = false := by
      rcases h with rfl | rfl
      · exact ⟨by kernel_rfl, by kernel_rfl, by kernel_rfl⟩
      · exact ⟨by kernel_rfl, by kernel_rfl, by kernel_rfl⟩
    obtain ⟨l1, l2, l3⟩ := lo
    have kb : binN op k0 k1 = (1, logK k0 && logK k1) := by unfold binN; rw [l2, l3, l1]; rfl
    rw [kb] at hk ⊢
    simp only [Bool.and_eq_true] at hk
    rw [l1]
    refine ⟨fun _ => hk, fun h => (by cases h), fun h => ?_⟩
    exact both_ok (fun e => okA_log (hp e) hk.1) (fun e => okA_log (hq e) hk.2) h
  · have kb : binN op k0 k1 = (1, fitK k0 k1) := by unfold binN; rw [h4, h2]; rfl
    rw [kb, h3]
    refine ⟨fun h => (by cases h), fun _ e => (by rw [h2] at e; cases e), fun h => ?_⟩
    simp only [cond_false] at h ⊢
    unfold binV at h ⊢
    cases p.2 != 0 with
    | true => exact okA_zero _
    | false =>
      cases q.2 != 0 with
      | true => exact okA_zero _
      | false =>
        cases p.1.1 == 0 || q.1.1 == 0 with
        | true => exact okA_zero _
        | false =>
          simp only [cond_false, h2, cond_true]
          exact okA_bool _
  · have kb : binN op k0 k1 = reckK op k0 k1 := by unfold binN; rw [h4, h2, h3]; rfl
    rw [kb] at hk ⊢
    rw [h3]
    refine ⟨fun h => (by cases h), fun _ _ e1 e2 n1 n2 => (reck_ok h1 hk (hp e1) (hq e2) n1 n2).1, fun h => ?_⟩
    simp only [cond_false] at h ⊢
    unfold binV at h ⊢
    cases e1 : p.2 != 0 with
    | true => exact okA_zero _
    | false =>
      cases e2 : q.2 != 0 with
      | true => exact okA_zero _
      | false =>
        cases e3 : p.1.1 == 0 || q.1.1 == 0 with
        | true => exact okA_zero _
        | false =>
          rw [e1, e2, e3] at h
          simp only [cond_false, h2] at h ⊢
          rw [Bool.or_eq_false_iff] at e3
          exact (reck_ok h1 hk (hp (by simpa using e1)) (hq (by simpa using e2)) (by simpa using e3.1) (by simpa using e3.2)).2 h

/-! ### The value of an expression that has a kind -/
def okL : List Int → List (dValue × Int) → Prop
  | [], [] => True
  | k :: l, r :: rs => (r.2 = 0 → okA k r.1) ∧ okL l rs
  | _, _ => False
theorem okL_get : ∀ {l : List Int} {rs : List (dValue × Int)}, okL l rs → ∀ i, i < l.length → (rs.getD i noR).2 = 0 → okA (l.getD i 0) (rs.getD i noR).1
  | [], [], _, i, hi, _ => by simp at hi
  | k :: l, r :: rs, h, 0, _, he => h.1 he
  | k :: l, r :: rs, h, i + 1, hi, he => okL_get h.2 i (by simpa using hi) he
theorem fits_len : ∀ {cs : List Int} {row : List dValue}, fitsB cs row = true → row.length = cs.length
  | [], [], _ => rfl
  | k :: cs, v :: row, h => by
    simp only [fitsB, Bool.and_eq_true] at h
    simp [fits_len h.2.2.2]
  | [], v :: row, h => by cases h
  | k :: cs, [], h => by cases h
theorem fits_get : ∀ {cs : List Int} {row : List dValue}, fitsB cs row = true → ∀ i, i < cs.length → okA (cs.getD i 0) (row.getD i zeroV)
  | k :: cs, v :: row, h, 0, _ => by
    simp only [fitsB, Bool.and_eq_true, Bool.or_eq_true, beq_iff_eq] at h
    exact ⟨h.1, h.2.1, h.2.2.1⟩
  | k :: cs, v :: row, h, i + 1, hi => by
    simp only [fitsB, Bool.and_eq_true] at h
    exact fits_get h.2.2.2 i (by simpa using hi)
  | [], _, h, i, hi => by simp at hi
  | k :: cs, [], h, i, hi => by cases h
theorem node_ok {cs : List Int} {row : List dValue} {a : Int × ByteArray × Int × dValue} {l : List Int} {rs : List (dValue × Int)} (hfit : fitsB cs row = true) (hn : nodeB cs.length a l.length = true) (hz : okZ a.2.2.2 = true)
    (hk : (kindN cs a l).2 = true) (hl : okL l rs) (h : (nodeV row a rs).2 = 0) : okA (kindN cs a l).1 (nodeV row a rs).1 := by
  obtain ⟨k0, op, c, v⟩ := a
  by_cases h1 : k0 = 1
  · subst h1
    simp only [nodeB, leafB, show ((1 : Int) == 1) = true from rfl, Bool.true_or, cond_true, Bool.and_eq_true, beq_iff_eq] at hn
    exact ⟨.inl rfl, hn.2.2.2, hz⟩
  by_cases h2 : k0 = 2
  · subst h2
    simp only [nodeB, leafB, show ((2 : Int) == 1) = false from rfl, show ((2 : Int) == 2) = true from rfl, Bool.or_true, cond_true, cond_false, Bool.and_eq_true, decide_eq_true_eq] at hn
    exact fits_get hfit c.toNat (by omega)
  have f1 := beqI h1
  have f2 := beqI h2
  simp only [nodeB, f1, f2, Bool.or_self, cond_false, innerB, Bool.and_eq_true] at hn
  rcases arm_cases hn.1 with ⟨q1, q2, q3⟩ | ⟨q1, q2, q3⟩ | ⟨q1, q2, q3⟩ <;> simp only at q1 q3 <;> subst q1
  · have hop : inS unL op = true := List.any_eq_true.2 ⟨op, q3, (strEq_iff _ _).2 rfl⟩
    have e : nodeV row (3, op, c, v) rs = bif (rs.getD 0 noR).2 != 0 then (zeroV, (rs.getD 0 noR).2) else unV op (rs.getD 0 noR).1 := by
      unfold nodeV
      simp only [show ((3 : Int) == 1) = false from rfl, show ((3 : Int) == 2) = false from rfl, show ((3 : Int) == 5) = false from rfl, show ((3 : Int) == 3) = true from rfl, un_no hop, cond_true, cond_false]
    rw [e] at h ⊢
    cases h0 : (rs.getD 0 noR).2 != 0 with
    | true => exact okA_zero _
    | false =>
      rw [h0, cond_false] at h
      rw [cond_false]
      exact (unary_ok hop q2 hk (okL_get hl 0 (by omega) (by simpa using h0))).2 h
  · have e : nodeV row (4, op, c, v) rs = bif strEq op andS || strEq op orS then bothV op (rs.getD 0 noR) (rs.getD 1 noR) else binV op (rs.getD 0 noR) (rs.getD 1 noR) := rfl
    have kn : kindN cs (4, op, c, v) l = binN op (l.getD 0 0) (l.getD 1 0) := by
      unfold kindN
      simp only [q2, show ((4 : Int) == 1) = false from rfl, show ((4 : Int) == 2) = false from rfl, show ((4 : Int) == 5) = false from rfl, show ((4 : Int) == 3) = false from rfl, show ((2 : Nat) == 1) = false from rfl, Bool.and_false, cond_false]
      rfl
    rw [e] at h ⊢
    rw [kn] at hk ⊢
    exact (binary_ok q3 hk (okL_get hl 0 (by omega)) (okL_get hl 1 (by omega))).2.2 h
  · exact inV_ok rs
theorem eval_at (row : List dValue) (e : dExpr) : evalS row e = nodeV row e.lab (evalL row e.kids) := by cases e; rfl
theorem evalL_map (row : List dValue) : ∀ ks : List dExpr, evalL row ks = ks.map (evalS row)
  | [] => rfl
  | k :: r => by simp only [evalL, List.map_cons, evalL_map row r]
mutual
theorem evalS_ok {cs : List Int} {row : List dValue} (hfit : fitsB cs row = true) : ∀ e : dExpr, bigE e = true → fineE cs.length e = true → (kindS cs e).2 = true → (evalS row e).2 = 0 → okA (kindS cs e).1 (evalS row e).1
  | .node a ks, hb, hf, hk, h => by
    simp only [bigE, Bool.and_eq_true] at hb
    simp only [fineE, Bool.and_eq_true] at hf
    simp only [kindS] at hk ⊢
    simp only [evalS] at h ⊢
    cases hl : kindL cs ks with
    | none => rw [hl] at hk; cases hk
    | some l =>
      rw [hl] at hk
      exact node_ok hfit (by rw [kindL_len cs ks l hl]; exact hf.1) hb.2.1 hk (evalL_ok hfit ks l hb.2.2.2 hf.2 hl) h
theorem evalL_ok {cs : List Int} {row : List dValue} (hfit : fitsB cs row = true) : ∀ (ks : List dExpr) (l : List Int), bigL ks = true → fineL cs.length ks = true → kindL cs ks = some l → okL l (evalL row ks)
  | [], l, _, _, hl => by simp only [kindL, Option.some.injEq] at hl; subst hl; trivial
  | k :: r, l, hb, hf, hl => by
    simp only [bigL, Bool.and_eq_true] at hb
    simp only [fineL, Bool.and_eq_true] at hf
    simp only [kindL] at hl
    cases hk : (kindS cs k).2 with
    | false => rw [hk] at hl; cases hl
    | true =>
      rw [hk] at hl
      simp only [Bool.not_true, cond_false] at hl
      cases hr : kindL cs r with
      | none => rw [hr] at hl; cases hl
      | some l' =>
        rw [hr] at hl
        cases hl
        exact ⟨evalS_ok hfit k hb.1 hf.1 hk, evalL_ok hfit r l' hb.2 hf.2 hr⟩
end
end Go.Proofs.YtfccofgchjieeaaGreatDoor.AI
/- The plain laws of the runs: what an expression is worth. -/
set_option linter.unusedVariables false
set_option linter.unusedSimpArgs false
namespace Go.Proofs.YtfccofgchjieeaaGreatDoor.AI
open Go

theorem kindL_kid (cs : List Int) : ∀ (ks : List dExpr) (l : List Int), kindL cs ks = some l → ∀ v ∈ ks, (kindS cs v).2 = true
  | k :: r, l, h, v, hv => by
    simp only [kindL] at h
    cases hk : (kindS cs k).2 with
    | false => rw [hk] at h; cases h
    | true =>
      rw [hk] at h
      simp only [Bool.not_true, cond_false] at h
      cases hr : kindL cs r with
      | none => rw [hr] at h; cases h
      | some l' =>
        rcases List.mem_cons.1 hv with rfl | hv
        · exact hk
        · exact kindL_kid cs r l' hr v hv
theorem typed_at {e : dExpr} {row : List dValue} (h : Typed (e, row)) : ∃ cs l : List Int, okE e = true ∧ fitsB cs row = true ∧ okB 40 row = true ∧ nodeB cs.length e.lab e.kids.length = true ∧ l.length = e.kids.length ∧ (kindN cs e.lab l).2 = true ∧ okL l (e.kids.map (evalS row)) ∧ ∀ v ∈ e.kids, Typed (v, row) := by
  obtain ⟨cs, hok, hf, hk, hfit, hb⟩ := h
  simp only at hok hf hk hfit hb
  have hf' := hf
  rw [fine_at, Bool.and_eq_true] at hf'
  rw [kind_at] at hk
  cases hl : kindL cs e.kids with
  | none => rw [hl] at hk; cases hk
  | some l =>
    rw [hl] at hk
    have hbig := (okE_at hok).2.2.2.1
    have := evalL_ok hfit e.kids l hbig hf'.2 hl
    rw [evalL_map] at this
    refine ⟨cs, l, hok, hfit, hb, hf'.1, kindL_len cs _ _ hl, hk, this, fun v hv => ⟨cs, (okE_kid' hok hv).1, fineL_mem hf'.2 v hv, kindL_kid cs _ _ hl v hv, hfit, hb⟩⟩
theorem nodeV_un {row : List dValue} {op : ByteArray} {c : Int} {v : dValue} {rs : List (dValue × Int)} (hop : inS unL op = true) : nodeV row (3, op, c, v) rs = bif (rs.getD 0 noR).2 != 0 then (zeroV, (rs.getD 0 noR).2) else unV op (rs.getD 0 noR).1 := by
  unfold nodeV
  simp only [show ((3 : Int) == 1) = false from rfl, show ((3 : Int) == 2) = false from rfl, show ((3 : Int) == 5) = false from rfl, show ((3 : Int) == 3) = true from rfl, un_no hop, cond_true, cond_false]
theorem kindN_bi {cs : List Int} {op : ByteArray} {c : Int} {v : dValue} {l : List Int} (h : l.length = 2) : kindN cs (4, op, c, v) l = binN op (l.getD 0 0) (l.getD 1 0) := by
  unfold kindN
  simp only [h, show ((4 : Int) == 1) = false from rfl, show ((4 : Int) == 2) = false from rfl, show ((4 : Int) == 5) = false from rfl, show ((4 : Int) == 3) = false from rfl, show ((2 : Nat) == 1) = false from rfl, Bool.and_false, cond_false]
  rfl
theorem get_kid {ks : List dExpr} {i : Nat} {v : dExpr} (h : ks[i]? = some v) (f : dExpr → dValue × Int) : ks.getD i tExpr.dflt = v ∧ (ks.map f).getD i noR = f v := by
  simp [List.getD, h]
theorem get_int {ks : List dExpr} {i : Nat} (h : i < ks.length) : ∃ v, ks[i]? = some v := ⟨_, List.getElem?_eq_getElem h⟩
theorem head_kid {ks : List dExpr} {v : dExpr} (h : ks[0]? = some v) : ks = v :: ks.drop 1 := by
  cases ks with
  | nil => cases h
  | cons a r => simp at h; subst h; rfl
theorem fits_row {cs : List Int} {row : List dValue} {c : Int} (hfit : fitsB cs row = true) (h0 : 0 ≤ c) (h1 : c < (cs.length : Int)) : (decide (0 ≤ c) && decide (c < (row.length : Int))) = true := by
  rw [fits_len hfit]
  simp [h0, h1]

theorem spec28 (k : Nat) : ∀ X Y, F28n (k + 1) X = some Y → ∃ n, @f28.g ⟨F28n k⟩ n X = some Y := by
  rintro ⟨e, row⟩ y hh
  obtain ⟨⟨hty, hs⟩, rfl⟩ := ifG_some hh
  obtain ⟨cs, l, hok, hfit, hrow, hn, hl, hk, hv, hkids⟩ := typed_at hty
  letI : Rec28 := ⟨F28n k⟩
  have hsz := (okE_at hok).2.2.2.2
  have hlen := size_len e.kids
  have hkid : ∀ {v : dExpr}, v ∈ e.kids → (Rec28.F (v, row) : Option (dValue × Int)) = some (evalS row v) := fun {v} hm => ifG_true ⟨hkids v hm, by
    have := (okE_kid' hok hm).2
    simp only at hs ⊢
    rw [size_at] at hs
    omega⟩
  have hz := (okE_at hok).2.1
  refine ⟨e.kids.length + 1, ?_⟩
  show f28.g (e.kids.length + 1) (e, row) = some (evalS row e)
  rw [eval_at, evalL_map]
  simp only [f28.g, Rose.eta, cond_or2]
  generalize e.lab = a at hn hk hz ⊢
  obtain ⟨k0, op, c, v⟩ := a
  simp only at hz ⊢
  by_cases h1 : k0 = 1
  · subst h1; rfl
  by_cases h2 : k0 = 2
  · subst h2
    simp only [nodeB, leafB, show ((2 : Int) == 1) = false from rfl, show ((2 : Int) == 2) = true from rfl, Bool.or_true, cond_true, cond_false, Bool.and_eq_true, decide_eq_true_eq] at hn ⊢
    rw [fits_row hfit hn.2.2.1 hn.2.2.2.1]
    rfl
  have f1 := beqI h1
  have f2 := beqI h2
  simp only [nodeB, f1, f2, Bool.or_self, cond_false, innerB, Bool.and_eq_true] at hn
  simp only [f1, f2, cond_false]
  have a1 : strEq op (⟨#[97, 110, 100]⟩ : ByteArray) = strEq op andS := rfl
  have a2 : strEq op (⟨#[111, 114]⟩ : ByteArray) = strEq op orS := rfl
  have hpos : 0 < e.kids.length := by rcases arm_cases hn.1 with h | h | h <;> omega
  obtain ⟨v0, hv0⟩ := get_int hpos
  obtain ⟨g0, r0⟩ := get_kid hv0 (evalS row)
  have k0' := hkid (List.mem_of_getElem? hv0)
  have o0 := okL_get hv 0 (by omega)
  rw [r0] at o0
  rcases arm_cases hn.1 with ⟨q1, q2, q3⟩ | ⟨q1, q2, q3⟩ | ⟨q1, q2, q3⟩ <;> simp only at q1 q3 <;> subst q1
  · have hop : inS unL op = true := List.any_eq_true.2 ⟨op, q3, (strEq_iff _ _).2 rfl⟩
    rw [nodeV_un hop, r0]
    simp only [show ((3 : Int) == 5) = false from rfl, show ((3 : Int) == 3) = true from rfl, cond_true, cond_false, a1, a2, un_no hop, pos_lt hpos, g0, k0', Option.bind_some]
    cases he : (evalS row v0).2 != 0 with
    | true => rfl
    | false =>
      have hu := (unary_ok hop (by omega) hk (o0 (by simpa using he))).1
      have g : F53 (op, (evalS row v0).1) = some (unV op (evalS row v0).1) := bifG_true hu
      simp only [cond_false, g, Option.bind_some]
  · have hp1 : 1 < e.kids.length := by omega
    obtain ⟨v1, hv1⟩ := get_int hp1
    obtain ⟨g1, r1⟩ := get_kid hv1 (evalS row)
    have k1' := hkid (List.mem_of_getElem? hv1)
    have o1 := okL_get hv 1 (by omega)
    rw [r1] at o1
    rw [kindN_bi (by omega)] at hk
    obtain ⟨b1, b2, _⟩ := binary_ok q3 hk o0 o1
    have en : nodeV row (4, op, c, v) (e.kids.map (evalS row)) = bif strEq op andS || strEq op orS then bothV op (evalS row v0) (evalS row v1) else binV op (evalS row v0) (evalS row v1) := by
      have : nodeV row (4, op, c, v) (e.kids.map (evalS row)) = bif strEq op andS || strEq op orS then bothV op ((e.kids.map (evalS row)).getD 0 noR) ((e.kids.map (evalS row)).getD 1 noR) else binV op ((e.kids.map (evalS row)).getD 0 noR) ((e.kids.map (evalS row)).getD 1 noR) := rfl
      rw [this, r0, r1]
    rw [en]
    simp only [show ((4 : Int) == 5) = false from rfl, show ((4 : Int) == 3) = false from rfl, cond_true, cond_false, a1, a2, pos_lt hpos, one_lt hp1, g0, g1, k0', k1', Option.bind_some, F26, F99, F54, F58, F57, F56]
    generalize evalS row v0 = p at o0 b2 ⊢
    generalize evalS row v1 = q at o1 b2 ⊢
    cases hao : strEq op andS || strEq op orS with
    | true =>
      simp only [cond_true, bothV]
      cases strEq op orS with
      | true =>
        simp only [cond_true]
        cases p.2 != 0 <;> cases isT p.1 <;> cases q.2 != 0 <;> cases isT q.1 <;> cases p.1.1 == 0 <;> rfl
      | false =>
        simp only [cond_false]
        cases p.2 != 0 <;> cases isF p.1 <;> cases q.2 != 0 <;> cases isF q.1 <;> cases p.1.1 == 0 <;> rfl
    | false =>
      simp only [cond_false, binV]
      have gc : F55 (cpL, op) = some (inS cpL op) := bifG_true rfl
      simp only [gc, Option.bind_some]
      cases e1 : p.2 != 0 with
      | true => rfl
      | false =>
        cases e2 : q.2 != 0 with
        | true => rfl
        | false =>
          cases e3 : p.1.1 == 0 with
          | true => rfl
          | false =>
            cases e4 : q.1.1 == 0 with
            | true => rfl
            | false =>
              cases e5 : inS cpL op with
              | true => rfl
              | false =>
                have g : F59 (op, p.1, q.1) = some (reckV op p.1 q.1) := bifG_true (b2 hao e5 (by simpa using e1) (by simpa using e2) (by simpa using e3) (by simpa using e4))
                simp only [cond_false, Bool.or_self, g, Option.bind_some]
  · have en : nodeV row (5, op, c, v) (e.kids.map (evalS row)) = inV (e.kids.map (evalS row)) := rfl
    rw [en, head_kid hv0, List.map_cons, ← head_kid hv0]
    simp only [show ((5 : Int) == 5) = true from rfl, cond_true, cond_false, pos_lt hpos, one_le (show 1 ≤ e.kids.length by omega), g0, k0', Option.bind_some, F54, inV]
    cases he : (evalS row v0).2 != 0 with
    | true => rfl
    | false =>
      simp only [cond_false]
      have hd : (e.kids.drop 1).length ≤ e.kids.length := by rw [List.length_drop]; exact Nat.sub_le _ _
      refine iter_all (step := f28.s1 (e.kids.length + 1) (e, row) (evalS row v0) ((evalS row v0).1.1 == 0)) (e.kids.drop 1) (fun i (u : Bool) => (u, (i : Int))) (fun _ _ => True) (fun i u r => some (inL (evalS row v0).1 u (r.map (evalS row)))) (fun S u _ => ?_) (fun S i u w r hi hw hr _ ih => ?_) (e.kids.length + 1) (by omega) ((evalS row v0).1.1 == 0) trivial
      · simp only [f28.s1, at_end, cond_false, F56, Option.bind_some, List.map_nil, inL]
        cases u <;> rfl
      · have kw := hkid (List.mem_of_mem_drop (List.mem_of_getElem? hw))
        simp only [f28.s1, at_lt hi, at_ge, at_get hw, Bool.and_self, cond_true, Rose.eta, kw, Option.bind_some, nx (show i ≤ _ by omega), F54, F58, F56, List.map_cons, inL]
        cases (evalS row w).2 != 0 with
        | true => rfl
        | false =>
          simp only [cond_false]
          cases (evalS row v0).1.1 == 0 with
          | true => exact ih true trivial
          | false =>
            cases (evalS row w).1.1 == 0 with
            | true => exact ih true trivial
            | false =>
              simp only [cond_false, Bool.or_self]
              cases ordV (evalS row v0).1 (evalS row w).1 == 0 with
              | true => rfl
              | false => exact ih u trivial
theorem con28n_ok : ∀ k, ConOk Tryz.prog 28 (mkCon [(true, tExpr), (false, .sl tValue)] [(true, tValue), (false, .int .i64)] true (F28n k))
  | 0 => mkCon_none fun X => by unfold F28n ifG; simp
  | k + 1 => @f28.ok ⟨F28n k⟩ (F28n (k + 1)) (spec28 k) con26_ok (con28n_ok k) con53_ok con54_ok con55_ok con56_ok con57_ok con58_ok con59_ok con99_ok
theorem con28_ok : ConOk Tryz.prog 28 con28 := mkCon_union con28n_ok fun X Y h => by
  obtain ⟨ho, rfl⟩ := ifG_some h
  exact ⟨sizeE X.1 + 1, ifG_true ⟨ho, Nat.lt_succ_self _⟩⟩

/-! ### The reference -/
end Go.Proofs.YtfccofgchjieeaaGreatDoor.AI
