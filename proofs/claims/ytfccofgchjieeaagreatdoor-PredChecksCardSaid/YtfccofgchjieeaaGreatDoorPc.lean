/- The plain laws of Columns; the law PredChecks. -/
import Derived.Test.YtfccofgchjieeaaGreatDoorPm
import Derived.Test.YtfccofgchjieeaaGreatDoorBy
set_option linter.unusedVariables false
set_option linter.unusedSimpArgs false
namespace Go.Proofs.YtfccofgchjieeaaGreatDoor.AI
open Go

/-! ### Rising rows -/
theorem incr_ext : ∀ (l m : List Int), l.Pairwise (· < ·) → m.Pairwise (· < ·) → (∀ x, x ∈ l ↔ x ∈ m) → l = m
  | [], [], _, _, _ => rfl
  | [], b :: m, _, _, h => by have := (h b).2 (by simp); simp at this
  | a :: l, [], _, _, h => by have := (h a).1 (by simp); simp at this
  | a :: l, b :: m, hl, hm, h => by
    obtain ⟨h1, h2⟩ := List.pairwise_cons.1 hl
    obtain ⟨h3, h4⟩ := List.pairwise_cons.1 hm
    have hab : a = b := by
      rcases List.mem_cons.1 ((h a).1 (by simp)) with e | e
      · exact e
      · rcases List.mem_cons.1 ((h b).2 (by simp)) with e' | e'
        · exact e'.symm
        · have := h3 a e; have := h1 b e'; omega
    subst hab
    rw [incr_ext l m h2 h4 fun x => ?_]
    constructor
    · intro hx
      rcases List.mem_cons.1 ((h x).1 (by simp [hx])) with e | e
      · have := h1 x hx; omega
      · exact e
    · intro hx
      rcases List.mem_cons.1 ((h x).2 (by simp [hx])) with e | e
      · have := h3 x hx; omega
      · exact e

theorem compact_upto {d : Array Int} (hs : ∀ i j, i ≤ j → j < d.size → d[i]! ≤ d[j]!) : ∀ m, m ≤ d.size → (Lib.compactUpTo d m).Pairwise (· < ·) ∧ (∀ x, x ∈ Lib.compactUpTo d m ↔ ∃ j, j < m ∧ d[j]! = x)
  | 0, _ => by
    refine ⟨by simp [Lib.compactUpTo], fun x => ?_⟩
    simp [Lib.compactUpTo]
  | m + 1, hm => by
    obtain ⟨h1, h2⟩ := compact_upto hs m (by omega)
    rw [Lib.compactUpTo_succ]
    cases hk : Lib.keeps d m with
    | true =>
      simp only [if_true]
      have hlt : ∀ x ∈ Lib.compactUpTo d m, x < d[m]! := fun x hx => by
        obtain ⟨j, hj, rfl⟩ := (h2 x).1 hx
        simp only [Lib.keeps, decide_eq_true_eq] at hk
        rcases hk with hk | hk
        · omega
        · have a1 := hs j (m - 1) (by omega) (by omega)
          have a2 := hs (m - 1) m (by omega) (by omega)
          omega
      refine ⟨List.pairwise_append.2 ⟨h1, by simp, fun a ha b hb => by simp at hb; rw [hb]; exact hlt a ha⟩, fun x => ?_⟩
      rw [List.mem_append, h2, List.mem_singleton]
      constructor
      · rintro (⟨j, hj, e⟩ | e)
        · exact ⟨j, by omega, e⟩
        · exact ⟨m, by omega, e.symm⟩
      · rintro ⟨j, hj, e⟩
        rcases Nat.lt_or_ge j m with h | h
        · exact .inl ⟨j, h, e⟩
        · exact .inr (by rw [← e, show j = m by omega])
    | false =>
      simp only [Bool.false_eq_true, if_false, List.append_nil]
      refine ⟨h1, fun x => ?_⟩
      rw [h2]
      simp only [Lib.keeps, decide_eq_false_iff_not, not_or, Decidable.not_not] at hk
      constructor
      · rintro ⟨j, hj, e⟩; exact ⟨j, by omega, e⟩
      · rintro ⟨j, hj, e⟩
        rcases Nat.lt_or_ge j m with h | h
        · exact ⟨j, h, e⟩
        · exact ⟨m - 1, by omega, by rw [← hk.2, ← e, show j = m by omega]⟩

theorem sort_le (l : List Int) : (sortI l).Pairwise (fun a b => a ≤ b) := by
  have h := List.pairwise_mergeSort (le := fun x y : Int => decide (x ≤ y)) (fun a b c h1 h2 => by simp at *; omega) (fun a b => by simp; omega) l
  exact h.imp fun h => by simpa using h
theorem sort_mem (l : List Int) (x : Int) : x ∈ sortI l ↔ x ∈ l := List.mem_mergeSort
theorem uni_both (l : List Int) : (uniI l).Pairwise (· < ·) ∧ ∀ x, x ∈ uniI l ↔ x ∈ l := by
  have hp := List.pairwise_iff_getElem.1 (sort_le l)
  have hs : ∀ i j, i ≤ j → j < (sortI l).toArray.size → (sortI l).toArray[i]! ≤ (sortI l).toArray[j]! := fun i j hij hj => by
    simp only [List.size_toArray] at hj
    rw [getElem!_pos _ i (by simpa using (by omega : i < (sortI l).length)), getElem!_pos _ j (by simpa using hj)]
    rcases Nat.lt_or_ge i j with h | h
    · simpa using hp i j (by omega) hj h
    · have : i = j := by omega
      subst this; exact Int.le_refl _
  obtain ⟨h1, h2⟩ := compact_upto hs (sortI l).length (by simp)
  refine ⟨h1, fun x => ?_⟩
  show x ∈ Lib.compactUpTo (sortI l).toArray (sortI l).length ↔ _
  rw [h2, ← sort_mem l x, List.mem_iff_getElem]
  constructor
  · rintro ⟨j, hj, e⟩
    refine ⟨j, hj, ?_⟩
    rw [getElem!_pos _ j (by simpa using hj)] at e
    simpa using e
  · rintro ⟨j, hj, e⟩
    refine ⟨j, hj, ?_⟩
    rw [getElem!_pos _ j (by simpa using hj)]
    simpa using e
theorem uni_congr {l m : List Int} (h : ∀ x, x ∈ l ↔ x ∈ m) : uniI l = uniI m := incr_ext _ _ (uni_both l).1 (uni_both m).1 fun x => by rw [(uni_both l).2, (uni_both m).2, h]

def insR (x : Int) : List Int → List Int
  | [] => [x]
  | a :: l => if a < x then a :: insR x l else if a = x then a :: l else x :: a :: l
theorem ins_len (x : Int) : ∀ l : List Int, (insR x l).length ≤ l.length + 1
  | [] => by simp [insR]
  | a :: l => by
    have := ins_len x l
    unfold insR
    split
    · simp; exact this
    · split <;> simp
theorem ins_both (x : Int) : ∀ (l : List Int), l.Pairwise (· < ·) → (insR x l).Pairwise (· < ·) ∧ ∀ y, y ∈ insR x l ↔ y = x ∨ y ∈ l
  | [], _ => ⟨by simp [insR], fun y => by simp [insR]⟩
  | a :: l, h => by
    obtain ⟨h1, h2⟩ := List.pairwise_cons.1 h
    unfold insR
    by_cases ha : a < x
    · rw [if_pos ha]
      obtain ⟨q1, q2⟩ := ins_both x l h2
      refine ⟨List.pairwise_cons.2 ⟨fun y hy => ?_, q1⟩, fun y => ?_⟩
      · rcases (q2 y).1 hy with e | e
        · rw [e]; exact ha
        · exact h1 y e
      · rw [List.mem_cons, q2, List.mem_cons]
        constructor
        · rintro (e | e | e)
          · exact .inr (.inl e)
          · exact .inl e
          · exact .inr (.inr e)
        · rintro (e | e | e)
          · exact .inr (.inl e)
          · exact .inl e
          · exact .inr (.inr e)
    · rw [if_neg ha]
      by_cases e : a = x
      · rw [if_pos e]
        subst e
        exact ⟨h, fun y => by simp⟩
      · rw [if_neg e]
        refine ⟨List.pairwise_cons.2 ⟨fun y hy => ?_, h⟩, fun y => by simp⟩
        rcases List.mem_cons.1 hy with e' | e'
        · rw [e']; omega
        · have := h1 y e'; omega
theorem fold_ins : ∀ (l out : List Int), out.Pairwise (· < ·) → (l.foldl (fun o x => insR x o) out).Pairwise (· < ·) ∧ ∀ y, y ∈ l.foldl (fun o x => insR x o) out ↔ y ∈ out ∨ y ∈ l
  | [], out, h => ⟨h, fun y => by simp⟩
  | x :: l, out, h => by
    obtain ⟨q1, q2⟩ := ins_both x out h
    obtain ⟨q3, q4⟩ := fold_ins l (insR x out) q1
    refine ⟨q3, fun y => ?_⟩
    rw [List.foldl_cons, q4, q2, List.mem_cons]
    constructor
    · rintro ((e | e) | e)
      · exact .inr (.inl e)
      · exact .inl e
      · exact .inr (.inr e)
    · rintro (e | e | e)
      · exact .inl (.inr e)
      · exact .inl (.inl e)
      · exact .inr e
theorem fold_uni (l : List Int) : l.foldl (fun o x => insR x o) [] = uniI l := by
  obtain ⟨h1, h2⟩ := fold_ins l [] (by simp)
  exact incr_ext _ _ h1 (uni_both l).1 fun x => by rw [h2, (uni_both l).2]; simp
theorem sort_len (l : List Int) : (sortI l).length = l.length := List.length_mergeSort l
theorem uni_len (l : List Int) : (uniI l).length ≤ l.length := by
  show (((List.range (sortI l).length).filter (Lib.keeps (sortI l).toArray)).map ((sortI l).toArray[·]!)).length ≤ _
  rw [List.length_map]
  refine Nat.le_trans (List.length_filter_le _ _) ?_
  rw [List.length_range, sort_len]
  exact Nat.le_refl _

/-! ### The columns of an expression -/
mutual
theorem allC_len : ∀ e : dExpr, (allC e).length ≤ sizeE e
  | .node a ks => by
    have := allL_len ks
    simp only [allC, sizeE, List.length_append]
    cases a.1 == 2 <;> simp <;> omega
theorem allL_len : ∀ ks : List dExpr, (allL ks).length ≤ sizeL ks
  | [] => Nat.le_refl _
  | k :: r => by
    have h1 := allC_len k
    have h2 := allL_len r
    simp only [allL, sizeL, List.length_append]
    omega
end
theorem cols_len (e : dExpr) : (colsE e).length ≤ sizeE e := Nat.le_trans (uni_len _) (allC_len e)
def hdC (e : dExpr) : List Int := bif e.lab.1 == 2 then [e.lab.2.2.1] else []
theorem allC_at (e : dExpr) : allC e = hdC e ++ allL e.kids := by cases e; rfl
theorem kids_of {e : dExpr} {k : Nat} (hok : okE e = true) (hs : sizeE e < k + 1) {v : dExpr} (hv : v ∈ e.kids) : okE v = true ∧ sizeE v < k := by
  obtain ⟨q1, q2⟩ := okE_kid' hok hv
  rw [size_at] at hs
  exact ⟨q1, by omega⟩
theorem drop_size {l r : List dExpr} {i : Nat} {v : dExpr} (hv : l[i]? = some v) (hr : l.drop (i + 1) = r) : sizeL (l.drop i) = sizeE v + sizeL r := by
  obtain ⟨hlt, hget⟩ := List.getElem?_eq_some_iff.1 hv
  rw [List.drop_eq_getElem_cons hlt, hr, hget]
  rfl
theorem cols_loop {e : dExpr} {k : Nat} (hok : okE e = true) (hs : sizeE e < k + 1) (acc : List Int) (ha : acc.length ≤ 1) :
    iter (@f19.s1 ⟨F19n k⟩ (e.kids.length + 1) e) (e.kids.length + 1) (acc.length, ((0 : Int), acc)) = some (uniI (acc ++ allL e.kids)) := by
  letI : Rec19 := ⟨F19n k⟩
  have hsz := (okE_at hok).2.2.2.2
  have hl := size_len e.kids
  refine iter_all (step := f19.s1 (e.kids.length + 1) e) e.kids (fun i (a : List Int) => (a.length, ((i : Int), a))) (fun i a => a.length + sizeL (e.kids.drop i) ≤ 1 + sizeL e.kids) (fun i a r => some (uniI (a ++ allL r))) (fun S a hI => ?_) (fun S i a v r hi hv hr hI ih => ?_) (e.kids.length + 1) (Nat.lt_succ_self _) acc (by rw [List.drop_zero]; omega)
  · have hb : a.length ≤ 1048576 := by omega
    have g1 : F41 a = some (sortI a, 0) := bifG_true (okB_iff.2 (by omega))
    have g2 : F42 (sortI a) = some (Lib.compact (sortI a) ++ List.replicate ((sortI a).length - (Lib.compact (sortI a)).length) 0, (Lib.compact (sortI a)).length) := bifG_true (okB_iff.2 (by rw [sort_len]; omega))
    have e1 : List.take a.length (sortI a ++ List.drop a.length a) = sortI a := by
      rw [List.drop_length, List.append_nil, ← sort_len a, List.take_length]
    have e3 : allL [] = [] := rfl
    simp only [f19.s1, at_end, cond_false, List.take_length, g1, Option.bind_some, e1, g2, e3, List.append_nil]
    rw [List.append_assoc, List.take_append_of_le_length (Nat.le_refl _), List.take_length]
    rfl
  · obtain ⟨q1, q2⟩ := kids_of hok hs (List.mem_of_getElem? hv)
    have g : (Rec19.F v : Option (List Int)) = some (colsE v) := bifG_true (by
      rw [q1, decide_eq_true q2]; rfl)
    have hd := drop_size hv hr
    have hc := cols_len v
    have hroom : decide ((a.length + (colsE v).length) * 8 ≤ boundN) = true := decide_eq_true (by have : boundN = 140737488355328 := rfl; omega)
    simp only [f19.s1, at_lt hi, at_ge, at_get hv, Bool.and_self, cond_true, nx (show i ≤ _ by omega), Rose.eta, g, Option.bind_some, hroom, List.take_length]
    rw [← List.length_append, ih (a ++ colsE v) (by rw [List.length_append, hr]; omega)]
    refine congrArg some (uni_congr fun x => ?_)
    have e2 : allL (v :: r) = allC v ++ allL r := rfl
    rw [e2]
    simp only [List.mem_append, show (x ∈ colsE v ↔ x ∈ allC v) from (uni_both _).2 x, or_assoc]
theorem spec19 (k : Nat) : ∀ X Y, F19n (k + 1) X = some Y → ∃ n, @f19.g ⟨F19n k⟩ n X = some Y := by
  intro e y hh
  obtain ⟨ho, rfl⟩ := bifG_some hh
  simp only [Bool.and_eq_true, decide_eq_true_eq] at ho
  obtain ⟨hok, hs⟩ := ho
  letI : Rec19 := ⟨F19n k⟩
  refine ⟨e.kids.length + 1, ?_⟩
  show f19.g (e.kids.length + 1) e = some (colsE e)
  have e12 : f19.s2 (e.kids.length + 1) e = f19.s1 (e.kids.length + 1) e := rfl
  have ec : colsE e = uniI (hdC e ++ allL e.kids) := by unfold colsE; rw [allC_at]
  unfold f19.g
  rw [ec]
  unfold hdC
  cases e.lab.1 == (2 : Int) with
  | true =>
    simp only [cond_true, show decide (1 * 8 ≤ boundN) = true from rfl]
    exact cols_loop hok hs [e.lab.2.2.1] (Nat.le_refl _)
  | false =>
    simp only [cond_false, e12]
    exact cols_loop hok hs [] (Nat.zero_le _)
theorem con19n_ok : ∀ k, ConOk Tryz.prog 19 (mkCon [(true, tExpr)] [(false, .sl (.int .i64))] false (F19n k))
  | 0 => mkCon_none fun X => by unfold F19n; simp [bifG]
  | k + 1 => @f19.ok ⟨F19n k⟩ (F19n (k + 1)) (spec19 k) (con19n_ok k) con41_ok con42_ok
theorem con19_ok : ConOk Tryz.prog 19 con19 := mkCon_union con19n_ok fun X Y h => by
  obtain ⟨ho, rfl⟩ := bifG_some h
  exact ⟨sizeE X + 1, bifG_true (by simp only [ho, Bool.true_and]; exact decide_eq_true (Nat.lt_succ_self _))⟩

/-! ### The reference's -/
theorem mkConA_none {P : Program} {f : FuncId} {s : Sig} {e : TypeId} {t : Ty} {F : s.den × List t.den → Option (List t.den)} (h : ∀ X, F X = none) : ConOk P f (mkConA s e t F) :=
  ⟨fun x args vals X Y hI hv hl hF => (by have hF' : F X.2.2 = some Y := hF; rw [h] at hF'; cases hF'), fun h => (by cases h), fun h => (by cases h)⟩
theorem mkConA_union {P : Program} {f : FuncId} {s : Sig} {e : TypeId} {t : Ty} {F : s.den × List t.den → Option (List t.den)} {Fn : Nat → s.den × List t.den → Option (List t.den)} (hn : ∀ k, ConOk P f (mkConA s e t (Fn k))) (h : ∀ X Y, F X = some Y → ∃ k, Fn k X = some Y) : ConOk P f (mkConA s e t F) :=
  ⟨fun x args vals X Y hI hv hl hF => by
    obtain ⟨k, hk⟩ := h X.2.2 Y hF
    exact (hn k).calls x args vals X Y hI hv hl hk, fun h => (by cases h), fun h => (by cases h)⟩
theorem allc_loop {e : dExpr} {l : List Int} {k : Nat} (hok : okE e = true) (hs : sizeE e < k + 1) (acc : List Int) (ha : acc.length + sizeL e.kids ≤ 1048576) :
    iter (@f43.s1 ⟨F43n k⟩ (e.kids.length + 1) (e, l)) (e.kids.length + 1) (acc.length, ((0 : Int), acc)) = some (acc ++ allL e.kids) := by
  letI : Rec43 := ⟨F43n k⟩
  have hsz := (okE_at hok).2.2.2.2
  have hl := size_len e.kids
  refine iter_all (step := f43.s1 (e.kids.length + 1) (e, l)) e.kids (fun i (a : List Int) => (a.length, ((i : Int), a))) (fun i a => a.length + sizeL (e.kids.drop i) ≤ 1048576) (fun i a r => some (a ++ allL r)) (fun S a hI => ?_) (fun S i a v r hi hv hr hI ih => ?_) (e.kids.length + 1) (Nat.lt_succ_self _) acc (by rw [List.drop_zero]; omega)
  · have e3 : allL [] = [] := rfl
    simp only [f43.s1, at_end, cond_false, List.take_length, e3, List.append_nil]
  · obtain ⟨q1, q2⟩ := kids_of hok hs (List.mem_of_getElem? hv)
    have hd := drop_size hv hr
    have hc := allC_len v
    have g : (Rec43.F (v, a) : Option (List Int)) = some (a ++ allC v) := bifG_true (by
      rw [q1, decide_eq_true q2, decide_eq_true (show a.length + sizeE v ≤ 1048576 by omega)]; rfl)
    simp only [f43.s1, at_lt hi, at_ge, at_get hv, Bool.and_self, cond_true, nx (show i ≤ _ by omega), Rose.eta, List.take_length, g, Option.bind_some]
    rw [ih (a ++ allC v) (by rw [List.length_append, hr]; omega)]
    have e2 : allL (v :: r) = allC v ++ allL r := rfl
    rw [e2, List.append_assoc]
theorem spec43 (k : Nat) : ∀ X Y, F43n (k + 1) X = some Y → ∃ n, @f43.g ⟨F43n k⟩ n X = some Y := by
  rintro ⟨e, l⟩ y hh
  obtain ⟨ho, rfl⟩ := bifG_some hh
  simp only [Bool.and_eq_true, decide_eq_true_eq] at ho
  obtain ⟨hok, hb, hs⟩ := ho
  letI : Rec43 := ⟨F43n k⟩
  refine ⟨e.kids.length + 1, ?_⟩
  show f43.g (e.kids.length + 1) (e, l) = some (l ++ allC e)
  have e12 : f43.s2 (e.kids.length + 1) (e, l) = f43.s1 (e.kids.length + 1) (e, l) := rfl
  have hsz := size_at e
  rw [allC_at]
  unfold f43.g hdC
  cases e.lab.1 == (2 : Int) with
  | true =>
    have hroom : decide ((l.length + 1) * 8 ≤ boundN) = true := decide_eq_true (by have : boundN = 140737488355328 := rfl; omega)
    simp only [cond_true, hroom, List.take_length]
    have := allc_loop (l := l) hok hs (l ++ [e.lab.2.2.1]) (by simp; omega)
    rw [List.length_append] at this
    rw [← List.append_assoc]
    exact this
  | false =>
    simp only [cond_false, e12, List.nil_append]
    exact allc_loop hok hs l (by omega)
theorem con43n_ok : ∀ k, ConOk Tryz.prog 43 (mkConA [(true, tExpr)] 3 (.int .i64) (F43n k))
  | 0 => mkConA_none fun X => by unfold F43n; simp [bifG]
  | k + 1 => @f43.ok ⟨F43n k⟩ (F43n (k + 1)) (spec43 k) (con43n_ok k)
theorem con43_ok : ConOk Tryz.prog 43 con43 := mkConA_union con43n_ok fun X Y h => by
  obtain ⟨ho, rfl⟩ := bifG_some h
  simp only [Bool.and_eq_true] at ho
  exact ⟨sizeE X.1 + 1, bifG_true (by rw [ho.1, ho.2, decide_eq_true (Nat.lt_succ_self _)]; rfl)⟩

theorem lt_selfN (j : Nat) : decide ((j : Int) < (j : Int)) = false := by simp
theorem ltN {i j : Nat} (h : i < j) : decide ((i : Int) < (j : Int)) = true := by simp; exact h
theorem roomN {m : Nat} (h : m ≤ 1048576) : decide ((m + 1) * 8 ≤ boundN) = true := decide_eq_true (by have : boundN = 140737488355328 := rfl; omega)
theorem ctail {n : Nat} {x : dExpr} {r1 out : List Int} {z y3 : Int} {y4 : Nat × Int × List Int} (S2 : List Int × Int → Option (List Int)) (hb : out.length ≤ 1048575) (r : List Int) (i : Nat) (hd : out.drop i = r) (hi : i ≤ out.length) (m : Nat) (a : List Int) (ha : a.length = i + 1) (hm : r.length < m) :
    iter (f20.s1 n x r1 (out, z) y3 y4 S2) m (a.length, ((i : Int), a)) = S2 (a ++ r, IntKind.wrap .i64 (z + (1 : Int))) := by
  refine iter_list (step := f20.s1 n x r1 (out, z) y3 y4 S2) out (fun i (a : List Int) => (a.length, ((i : Int), a))) (fun i a => a.length = i + 1) (fun i a r => S2 (a ++ r, IntKind.wrap .i64 (z + (1 : Int)))) (fun S a hI => ?_) (fun S i a v r hi hv hr hI ih => ?_) r i hd hi m a ha hm
  · simp only [f20.s1, at_end, cond_false, List.take_length, List.append_nil]
  · have el : a.length + 1 = (a ++ [v]).length := by simp
    simp only [f20.s1, at_lt hi, at_ge, at_get hv, Bool.and_self, cond_true, nx (show i ≤ _ by omega), roomN (show a.length ≤ 1048576 by omega), List.take_length]
    rw [el, ih (a ++ [v]) (by simp; omega), List.append_assoc]
    rfl
theorem chead {n : Nat} {x : dExpr} {r1 out : List Int} {i2 j : Nat} {v : Int} (S2 : List Int × Int → Option (List Int)) (hb : out.length ≤ 1048575) (hn : out.length < n) (hv1 : r1[i2]? = some v) (hj : j ≤ out.length) (m : Nat) (hm : j < m) :
    iter (f20.s2 n x r1 (out, (i2 : Int)) (j : Int) S2) m (0, ((0 : Int), [])) = S2 (out.take j ++ v :: out.drop j, IntKind.wrap .i64 ((i2 : Int) + (1 : Int))) := by
  have hlen : (out.take j).length = j := by simp; omega
  have hi2 : i2 < r1.length := (List.getElem?_eq_some_iff.1 hv1).1
  refine iter_all (step := f20.s2 n x r1 (out, (i2 : Int)) (j : Int) S2) (out.take j) (fun i (_ : Unit) => (i, ((i : Int), out.take i))) (fun _ _ => True) (fun _ _ _ => S2 (out.take j ++ v :: out.drop j, IntKind.wrap .i64 ((i2 : Int) + (1 : Int)))) (fun S c _ => ?_) (fun S i c w r hi hw hr hc ih => ?_) m (by rw [hlen]; exact hm) () trivial
  · rw [hlen]
    have e1 : List.take j (out.take j) = out.take j := by rw [List.take_take, Nat.min_self]
    simp only [f20.s2, lt_selfN, cond_false, at_ge, at_lt hi2, Bool.and_self, cond_true, roomN (show j ≤ 1048576 by omega), at_get hv1, e1]
    have := ctail (n := n) (x := x) (r1 := r1) (z := (i2 : Int)) (y3 := (j : Int)) (y4 := (j, ((j : Int), out.take j))) S2 hb (out.drop j) j rfl hj n (out.take j ++ [v]) (by simp; omega) (by simp; omega)
    rw [show (out.take j ++ [v]).length = j + 1 by simp; omega] at this
    rw [this, List.append_assoc]
    rfl
  · have hij : i < j := by rw [hlen] at hi; exact hi
    have hw' : out[i]? = some w := by
      rw [List.getElem?_take, if_pos hij] at hw; exact hw
    have e1 : List.take i (out.take i) = out.take i := by rw [List.take_take, Nat.min_self]
    simp only [f20.s2, ltN hij, cond_true, at_ge, at_lt (show i < out.length by omega), Bool.and_self, roomN (show i ≤ 1048576 by omega), at_get hw', nx (show i ≤ _ by omega), e1]
    rw [take_next hw']
    exact ih () trivial
theorem cins {n : Nat} {x : dExpr} {r1 out : List Int} {i2 : Nat} {v : Int} (S2 : List Int × Int → Option (List Int)) (hb : out.length ≤ 1048575) (hn : out.length < n) (hv1 : r1[i2]? = some v) (m : Nat) (hm : out.length < m) :
    iter (f20.s9 n x r1 (out, (i2 : Int)) S2) m (0 : Int) = S2 (insR v out, IntKind.wrap .i64 ((i2 : Int) + (1 : Int))) := by
  have hi2 : i2 < r1.length := (List.getElem?_eq_some_iff.1 hv1).1
  have e4 : ∀ y3, f20.s4 n x r1 (out, (i2 : Int)) y3 S2 = f20.s2 n x r1 (out, (i2 : Int)) y3 S2 := fun _ => rfl
  have e6 : ∀ y3, f20.s6 n x r1 (out, (i2 : Int)) y3 S2 = f20.s2 n x r1 (out, (i2 : Int)) y3 S2 := fun _ => rfl
  have e8 : ∀ y3, f20.s8 n x r1 (out, (i2 : Int)) y3 S2 = f20.s2 n x r1 (out, (i2 : Int)) y3 S2 := fun _ => rfl
  refine iter_all (step := f20.s9 n x r1 (out, (i2 : Int)) S2) out (fun j (_ : Unit) => (j : Int)) (fun _ _ => True) (fun j _ r => S2 (out.take j ++ insR v r, IntKind.wrap .i64 ((i2 : Int) + (1 : Int)))) (fun S c _ => ?_) (fun S j c w r hj hw hr hc ih => ?_) m hm () trivial
  · simp only [f20.s9, at_end, cond_false, e8]
    rw [chead S2 hb hn hv1 (Nat.le_refl _) n hn, List.drop_length]
    rfl
  · have hd : out.drop j = w :: r := by
      obtain ⟨hlt, hget⟩ := List.getElem?_eq_some_iff.1 hw
      rw [List.drop_eq_getElem_cons hlt, hr, hget]
    simp only [f20.s9, at_lt hj, cond_true, at_ge, at_lt hi2, Bool.and_self, at_get hw, at_get hv1]
    by_cases h1 : w < v
    · rw [decide_eq_true h1, cond_true, nx (show j ≤ _ by omega), ih () trivial]
      have : insR v (w :: r) = w :: insR v r := by show (if w < v then _ else _) = _; rw [if_pos h1]
      rw [this, ← take_next hw, List.append_assoc]
      rfl
    · rw [decide_eq_false h1, cond_false]
      by_cases h2 : w = v
      · have h3 : (w == v) = true := by simpa using h2
        rw [h3, cond_true]
        have : insR v (w :: r) = w :: r := by show (if w < v then _ else if w = v then _ else _) = _; rw [if_neg h1, if_pos h2]
        rw [this, ← hd, List.take_append_drop]
      · have h3 : (w == v) = false := by simpa using h2
        rw [h3, cond_false]
        have : insR v (w :: r) = v :: w :: r := by show (if w < v then _ else if w = v then _ else _) = _; rw [if_neg h1, if_neg h2]
        rw [this, ← hd]
        exact chead S2 hb hn hv1 (Nat.le_of_lt hj) n (by omega)
theorem spec20 : ∀ X Y, F20 X = some Y → ∃ n, f20.g n X = some Y := by
  intro e y hh
  obtain ⟨ho, rfl⟩ := bifG_some hh
  have hsz := (okE_at ho).2.2.2.2
  rw [← size_at] at hsz
  have hal := allC_len e
  have g : F43 (e, []) = some (allC e) := bifG_true (by
    rw [ho, Bool.true_and]; exact decide_eq_true (by simpa using hsz))
  refine ⟨(allC e).length + 1, ?_⟩
  simp only [f20.g, Rose.eta, g, Option.bind_some, List.take_nil]
  have key := iter_all (step := f20.s10 ((allC e).length + 1) e (allC e)) (allC e) (fun i (o : List Int) => (o, (i : Int))) (fun i o => o.length ≤ i) (fun i o r => some (r.foldl (fun o x => insR x o) o)) (fun S o hI => by
    simp only [f20.s10, at_end, cond_false, List.foldl_nil]) (fun S i o v r hi hv hr hI ih => by
    simp only [f20.s10, at_lt hi, cond_true]
    have hl := ins_len v o
    rw [cins S (show o.length ≤ 1048575 by omega) (by omega) hv _ (by omega), nx (show i ≤ _ by omega), ih (insR v o) (by omega)]
    rfl) ((allC e).length + 1) (Nat.lt_succ_self _) [] (Nat.le_refl _)
  refine Eq.trans key ?_
  rw [fold_uni]
  rfl
theorem con20_ok : ConOk Tryz.prog 20 con20 := f20.ok spec20 con43_ok
theorem spec4 : ∀ (X : dGiven) (Y : Bool), FL [(true, tGiven)] X = some Y → ∃ n, f4.g n X = some Y := by
  intro x y h
  obtain ⟨hw, rfl⟩ := FL_some h
  have hw' : tTable.wf x.1 ∧ tExpr.wf x.2.1 ∧ (Ty.sl tValue).wf x.2.2 := hw
  have ht := wf_okT hw'.1
  have hb := wf_bigE hw'.2.1
  have hc := cut_ok hb
  have hsz := (okE_at hc).2.2.2.2
  rw [← size_at] at hsz
  have hcl := cols_len (cutS x.2.1)
  have g1 : F7 x.2.1 = some (cutS x.2.1) := bifG_true hb
  have g2 : F16 (cutS x.2.1) = some (cutS x.2.1) := bifG_true hc
  have g3 : F14 (x.1, cutS x.2.1) = some (checkE x.1 (cutS x.2.1)) := bifG_true (by rw [ht, hc]; rfl)
  have g4 : F17 (x.1, cutS x.2.1) = some (checkE x.1 (cutS x.2.1)) := g3
  have g5 : F19 (cutS x.2.1) = some (colsE (cutS x.2.1)) := bifG_true hc
  have g6 : F20 (cutS x.2.1) = some (colsE (cutS x.2.1)) := bifG_true hc
  have g7 : F18 (colsE (cutS x.2.1), colsE (cutS x.2.1)) = some (colsE (cutS x.2.1) == colsE (cutS x.2.1)) := bifG_true (show okB 8 (colsE (cutS x.2.1)) = true from okB_iff.2 (by omega))
  have g8 : F13 () = some true := rfl
  exact ⟨0, by simp only [f4.g, Rose.eta, g1, g2, F15_some ht, g3, g4, g5, g6, g7, g8, Option.bind_some, beq_self_eq_true, cond_true]⟩
theorem con4_ok : ConOk Tryz.prog 4 con4 := f4.ok spec4 con7_ok con13_ok con14_ok con15_ok con16_ok con17_ok con18_ok con19_ok con20_ok
end Go.Proofs.YtfccofgchjieeaaGreatDoor.AI
