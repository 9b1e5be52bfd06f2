/- The plain laws of the runs: rows, copies, fills. -/
import Derived.Test.YtfgfdpbeddnfhaaGreatDoorBf
set_option linter.unusedVariables false
set_option linter.unusedSimpArgs false
namespace Go.Proofs.YtfgfdpbeddnfhaaGreatDoor.AI
open Go

theorem drop_cons {α : Type} {l : List α} {i : Nat} {v : α} (h : l[i]? = some v) : l.drop i = v :: l.drop (i + 1) := by
  obtain ⟨hlt, rfl⟩ := List.getElem?_eq_some_iff.1 h
  exact List.drop_eq_getElem_cons hlt
theorem take_self {α : Type} (l : List α) (i : Nat) : List.take i (l.take i) = l.take i := by rw [List.take_take, Nat.min_self]
theorem pair_eta {α β : Type} (p : α × β) : (p.1, p.2) = p := rfl

/-! ### Copies -/
theorem copy_loop {α β R : Type} {l : List α} (enc : Nat → List α → β) {step : (β → Option R) → β → Option R} {m : Nat} (hm : l.length < m) {K : Option R}
    (hend : ∀ S, step S (enc l.length l) = K)
    (hstep : ∀ S i v, i < l.length → l[i]? = some v → step S (enc i (l.take i)) = S (enc (i + 1) (l.take (i + 1)))) : iter step m (enc 0 []) = K :=
  iter_all (step := step) l (fun i (_ : Unit) => enc i (l.take i)) (fun _ _ => True) (fun _ _ _ => K)
    (fun S _ _ => by show step S (enc l.length (l.take l.length)) = K; rw [List.take_length]; exact hend S) (fun S i _ v r hi hv hr _ ih => by rw [hstep S i v hi hv]; exact ih () trivial) m hm () trivial
theorem room {α : Type} {b : Nat} {l : List α} (h : okB b l = true) {i : Nat} (hi : i < l.length) : decide ((i + 1) * b ≤ boundN) = true := by
  have h1 := okB_iff.1 h
  have : (i + 1) * b ≤ l.length * b := Nat.mul_le_mul_right _ hi
  have hb : boundN = 140737488355328 := rfl
  rw [decide_eq_true_iff, hb]
  omega

theorem spec38 : ∀ X Y, F38 X = some Y → ∃ n, f38.g n X = some Y := by
  intro x y h
  obtain ⟨ho, rfl⟩ := some_bif h
  have hl := okB_len (by omega) ho
  refine ⟨x.length + 1, ?_⟩
  exact copy_loop (l := x) (fun i r => (i, ((i : Int), r))) (step := f38.s1 (x.length + 1) x) (Nat.lt_succ_self _) (fun S => by
      simp only [f38.s1, at_end, cond_false, List.take_length]) (fun S i v hi hv => by
      simp only [f38.s1, at_lt hi, at_ge, at_get hv, nx (show i ≤ _ by omega), Bool.and_self, cond_true, room ho hi, take_self, take_next hv])
theorem con38_ok : ConOk Tryz.prog 38 con38 := f38.ok spec38
theorem F38_some {l : List Int} (h : okB 8 l = true) : F38 l = some l := by unfold F38; rw [h]; rfl
theorem spec15 : ∀ X Y, F15 X = some Y → ∃ n, f15.g n X = some Y := by
  intro x y h
  obtain ⟨ho, rfl⟩ := some_bif h
  have hl := okB_len (by omega) ho
  refine ⟨x.length + 1, ?_⟩
  exact copy_loop (l := x) (fun i r => (i, ((i : Int), r))) (step := f15.s1 (x.length + 1) x) (Nat.lt_succ_self _) (fun S => by
      simp only [f15.s1, at_end, cond_false, List.take_length]) (fun S i v hi hv => by
      simp only [f15.s1, at_lt hi, at_ge, at_get hv, nx (show i ≤ _ by omega), Bool.and_self, cond_true, room ho hi, take_self, take_next hv])
theorem con15_ok : ConOk Tryz.prog 15 con15 := f15.ok spec15
theorem F15_some {l : List dValue} (h : okB 40 l = true) : F15 l = some l := by unfold F15; rw [h]; rfl

theorem refs12 {x : dTable} (h : okT x = true) {n : Nat} (hn : x.2.2.2.2.length < n) (r1 : List Int) (y2 : Int × Nat × List dColumn) (y3 : Int × Nat × List dIndex) :
    iter (f12.s1 n x r1 y2 y3) n ((0 : Int), ((0 : Nat), ([] : List dRef))) = some (x.1, (List.take y2.2.1 y2.2.2, (r1, (List.take y3.2.1 y3.2.2, x.2.2.2.2)))) := by
  obtain ⟨h1, h2, h3, h4, h5, h6, h7⟩ := okT_parts h
  have hl := okB_len (by omega) h4
  exact copy_loop (l := x.2.2.2.2) (fun i r => ((i : Int), (i, r))) (step := f12.s1 n x r1 y2 y3) hn (fun S => by
      simp only [f12.s1, at_end, cond_false, List.take_length]) (fun S i v hi hv => by
      have e : F38 v.1 = some v.1 := F38_some (h7 v (List.mem_of_getElem? hv))
      simp only [f12.s1, at_lt hi, at_ge, at_get hv, nx (show i ≤ _ by omega), Bool.and_self, cond_true, e, Option.bind_some, room h4 hi, take_self, pair_eta, take_next hv])
theorem idxs12 {x : dTable} (h : okT x = true) {n : Nat} (hn : x.2.2.2.2.length < n) (hn2 : x.2.2.2.1.length < n) (r1 : List Int) (y2 : Int × Nat × List dColumn) :
    iter (f12.s2 n x r1 y2) n ((0 : Int), ((0 : Nat), ([] : List dIndex))) = some (x.1, (List.take y2.2.1 y2.2.2, (r1, (x.2.2.2.1, x.2.2.2.2)))) := by
  obtain ⟨h1, h2, h3, h4, h5, h6, h7⟩ := okT_parts h
  have hl := okB_len (by omega) h3
  exact copy_loop (l := x.2.2.2.1) (fun i r => ((i : Int), (i, r))) (step := f12.s2 n x r1 y2) hn2 (fun S => by
      simp only [f12.s2, at_end, cond_false, refs12 h hn, List.take_length]) (fun S i v hi hv => by
      have e : F38 v.2.1 = some v.2.1 := F38_some (h6 v (List.mem_of_getElem? hv))
      simp only [f12.s2, at_lt hi, at_ge, at_get hv, nx (show i ≤ _ by omega), Bool.and_self, cond_true, e, Option.bind_some, room h3 hi, take_self, pair_eta, take_next hv])
theorem spec12 : ∀ X Y, F12 X = some Y → ∃ n, f12.g n X = some Y := by
  intro x y h
  obtain ⟨ho, rfl⟩ := some_bif h
  obtain ⟨h1, h2, h3, h4, h5, h6, h7⟩ := okT_parts ho
  have hl := okB_len (by omega) h1
  refine ⟨x.2.1.length + x.2.2.2.1.length + x.2.2.2.2.length + 1, ?_⟩
  generalize hn : x.2.1.length + x.2.2.2.1.length + x.2.2.2.2.length + 1 = n
  simp only [f12.g, F38_some h2, Option.bind_some]
  exact copy_loop (l := x.2.1) (fun i r => ((i : Int), (i, r))) (step := f12.s3 n x x.2.2.1) (by omega) (fun S => by
      simp only [f12.s3, at_end, cond_false, idxs12 ho (show x.2.2.2.2.length < n by omega) (by omega), List.take_length]) (fun S i v hi hv => by
      simp only [f12.s3, at_lt hi, at_ge, at_get hv, nx (show i ≤ _ by omega), Bool.and_self, cond_true, room h1 hi, take_self, take_next hv])
theorem con12_ok : ConOk Tryz.prog 12 con12 := f12.ok spec12 con38_ok
theorem F12_some {t : dTable} (h : okT t = true) : F12 t = some t := by unfold F12; rw [h]; rfl

/-! ### A column by its name -/
theorem F20_some {t : dTable} (h : okT t = true) (s : ByteArray) : F20 (t, s) = some (columnS t s) := by
  show (bif okT t then _ else _) = _
  rw [h]; rfl
theorem F21_some {t : dTable} (h : okT t = true) (s : ByteArray) : F21 (t, s) = some (columnS t s) := F20_some h s
theorem spec20 : ∀ X Y, F20 X = some Y → ∃ n, f20.g n X = some Y := by
  intro x y h
  obtain ⟨ho, rfl⟩ := some_bif h
  obtain ⟨h1, h2, h3, h4, h5, h6, h7⟩ := okT_parts ho
  have e : F45a (x.1.2.1, x.2) = some (idxI (fun c => strEq c.1 x.2) x.1.2.1) := by
    show (bif okB 72 x.1.2.1 then _ else _) = _
    rw [h1]; rfl
  refine ⟨0, ?_⟩
  simp only [f20.g, e, Option.bind_some, columnS, idxI]
  cases x.1.2.1.findIdx? (fun c => strEq c.1 x.2) with
  | none => rfl
  | some i =>
    have : decide ((i : Int) < 0) = false := by simp
    simp only [this, cond_false]
theorem con20_ok : ConOk Tryz.prog 20 con20 := f20.ok spec20 con45_ok
theorem spec21 : ∀ X Y, F21 X = some Y → ∃ n, f21.g n X = some Y := by
  intro x y h
  obtain ⟨ho, rfl⟩ := some_bif (show (bif okT x.1 then some (columnS x.1 x.2) else none) = some y from h)
  obtain ⟨h1, h2, h3, h4, h5, h6, h7⟩ := okT_parts ho
  have hl := okB_len (by omega) h1
  refine ⟨x.1.2.1.length + 1, ?_⟩
  have := iter_all (step := f21.s1 (x.1.2.1.length + 1) x) x.1.2.1 (fun i (_ : Unit) => (i : Int)) (fun _ _ => True) (fun i _ r => some (match r.findIdx? (fun c => strEq c.1 x.2) with | some j => (((i + j : Nat) : Int), (0 : Int)) | none => ((0 : Int), (5 : Int))))
    (fun S a _ => by simp only [f21.s1, at_end, cond_false]; rfl) (fun S i _ v r hi hv hr _ ih => by
      simp only [f21.s1, at_lt hi, at_ge, at_get hv, nx (show i ≤ _ by omega), Bool.and_self, cond_true, List.findIdx?_cons, ih () trivial]
      cases hp : strEq v.1 x.2 with
      | true => simp
      | false =>
        simp only [Bool.false_eq_true, if_false, cond_false]
        cases r.findIdx? (fun c => strEq c.1 x.2) with
        | none => rfl
        | some j => simp; omega) (x.1.2.1.length + 1) (Nat.lt_succ_self _) () trivial
  simp only [Int.natCast_zero, Nat.zero_add] at this
  exact this
theorem con21_ok : ConOk Tryz.prog 21 con21 := f21.ok spec21

/-! ### Rows -/
theorem len_ne {α β : Type} (a : List α) (b : List β) : ((a.length : Int) != (b.length : Int)) = !(a.length == b.length) := nat_ne _ _
theorem ok14 {x : dTable × List dValue} {y : Int} (h : (bif okT x.1 && (okB 40 x.2 && x.2.all okV) then some (admitS x.1 x.2) else none) = some y) : okT x.1 = true ∧ okB 40 x.2 = true ∧ (∀ v ∈ x.2, okV v = true) ∧ admitS x.1 x.2 = y := by
  obtain ⟨ho, rfl⟩ := some_bif h
  simp only [Bool.and_eq_true] at ho
  exact ⟨ho.1, ho.2.1, List.all_eq_true.1 ho.2.2, rfl⟩
theorem F14_some {t : dTable} {r : List dValue} (h : okT t = true) (h2 : okB 40 r = true) (h3 : ∀ v ∈ r, okV v = true) : F14 (t, r) = some (admitS t r) := by
  show (bif okT t && (okB 40 r && r.all okV) then _ else _) = _
  rw [h, h2, List.all_eq_true.2 h3]; rfl
theorem F16_some {t : dTable} {r : List dValue} (h : okT t = true) (h2 : okB 40 r = true) (h3 : ∀ v ∈ r, okV v = true) : F16 (t, r) = some (admitS t r) := F14_some h h2 h3
theorem admit_nil (l : List dColumn) : admitL l [] = 0 := by cases l <;> rfl
theorem spec14 : ∀ X Y, F14 X = some Y → ∃ n, f14.g n X = some Y := by
  intro x y h
  obtain ⟨ho, ho2, ho3, rfl⟩ := ok14 h
  obtain ⟨h1, h2, h3, h4, h5, h6, h7⟩ := okT_parts ho
  have hl := okB_len (by omega) h1
  refine ⟨x.1.2.1.length + 1, ?_⟩
  simp only [f14.g, F11_some ho, Option.bind_some, admitS]
  cases checkT x.1 != 0 with
  | true => rfl
  | false =>
    simp only [cond_false]
    cases hlen : ((x.2.length : Int) != (x.1.2.1.length : Int)) with
    | true => rfl
    | false =>
      have hlen' : x.2.length = x.1.2.1.length := by
        rw [len_ne] at hlen
        simpa using hlen
      simp only [cond_false]
      exact iter_all (step := f14.s1 (x.1.2.1.length + 1) x (checkT x.1)) x.1.2.1 (fun i (_ : Unit) => (i : Int)) (fun _ _ => True) (fun i _ r => some (admitL r (x.2.drop i)))
        (fun S a _ => by simp only [f14.s1, at_end, cond_false]; rfl) (fun S i _ v r hi hv hr _ ih => by
          have hw : x.2[i]? = some x.2[i] := List.getElem?_eq_getElem (by omega)
          have hiw : i < x.2.length := by omega
          generalize x.2[i] = w at hw
          simp only [f14.s1, at_lt hi, at_lt hiw, at_ge, at_get hv, at_get hw, nx (show i ≤ _ by omega), Bool.and_self, cond_true, F42_some (ho3 w (List.mem_of_getElem? hw)), Option.bind_some, ih () trivial, cond_and', drop_cons hw, admitL]
          generalize (checkV w != 0) = b1
          generalize (w.1 == 0) = b2
          generalize v.2.2.1 = b3
          generalize (w.1 != v.2.1) = b4
          cases b1 <;> cases b2 <;> cases b3 <;> cases b4 <;> rfl) (x.1.2.1.length + 1) (Nat.lt_succ_self _) () trivial
theorem con14_ok : ConOk Tryz.prog 14 con14 := f14.ok spec14 con11_ok con42_ok
theorem spec16 : ∀ X Y, F16 X = some Y → ∃ n, f16.g n X = some Y := by
  intro x y h
  obtain ⟨ho, ho2, ho3, rfl⟩ := ok14 (show (bif okT x.1 && (okB 40 x.2 && x.2.all okV) then some (admitS x.1 x.2) else none) = some y from h)
  obtain ⟨h1, h2, h3, h4, h5, h6, h7⟩ := okT_parts ho
  have hl := okB_len (by omega) ho2
  refine ⟨x.2.length + 1, ?_⟩
  simp only [f16.g, F13_some ho, Option.bind_some, admitS]
  cases checkT x.1 != 0 with
  | true => rfl
  | false =>
    simp only [cond_false]
    cases hlen : ((x.2.length : Int) != (x.1.2.1.length : Int)) with
    | true => rfl
    | false =>
      have hlen' : x.2.length = x.1.2.1.length := by
        rw [len_ne] at hlen
        simpa using hlen
      simp only [cond_false]
      exact iter_all (step := f16.s1 (x.2.length + 1) x (checkT x.1)) x.2 (fun i (_ : Unit) => (i : Int)) (fun _ _ => True) (fun i _ r => some (admitL (x.1.2.1.drop i) r))
        (fun S a _ => by simp only [f16.s1, at_end, cond_false, admit_nil]) (fun S i _ v r hi hv hr _ ih => by
          have hw : x.1.2.1[i]? = some x.1.2.1[i] := List.getElem?_eq_getElem (by omega)
          have hiw : i < x.1.2.1.length := by omega
          generalize x.1.2.1[i] = w at hw
          simp only [f16.s1, at_lt hi, at_lt hiw, at_ge, at_get hv, at_get hw, nx (show i ≤ _ by omega), Bool.and_self, cond_true, F43_some (ho3 v (List.mem_of_getElem? hv)), Option.bind_some, ih () trivial, cond_and', drop_cons hw, admitL]
          generalize (checkV v != 0) = b1
          generalize (v.1 == 0) = b2
          generalize w.2.2.1 = b3
          generalize (v.1 != w.2.1) = b4
          cases b1 <;> cases b2 <;> cases b3 <;> cases b4 <;> rfl) (x.2.length + 1) (Nat.lt_succ_self _) () trivial
theorem con16_ok : ConOk Tryz.prog 16 con16 := f16.ok spec16 con13_ok con43_ok

theorem same_len : ∀ (a b : List dValue), a.length ≠ b.length → sameR a b = false
  | [], [], h => absurd rfl h
  | [], _ :: _, _ => rfl
  | _ :: _, [], _ => rfl
  | a :: l, b :: m, h => by
    have := same_len l m (fun e => h (by simp [e]))
    rw [sameR, this, Bool.and_false]
theorem F44_eq (x : dValue × dValue) : F44 x = some (sameV x.1 x.2) := rfl
theorem spec19 : ∀ X Y, F19 X = some Y → ∃ n, f19.g n X = some Y := by
  intro x y h
  obtain ⟨ho, rfl⟩ := some_bif h
  have hl := okB_len (by omega) ho
  refine ⟨x.1.length + 1, ?_⟩
  simp only [f19.g]
  cases hlen : ((x.1.length : Int) != (x.2.length : Int)) with
  | true =>
    rw [len_ne] at hlen
    rw [same_len x.1 x.2 (by simpa using hlen)]; rfl
  | false =>
    have hlen' : x.1.length = x.2.length := by
      rw [len_ne] at hlen
      simpa using hlen
    simp only [cond_false]
    exact iter_all (step := f19.s1 (x.1.length + 1) x) x.1 (fun i (_ : Unit) => (i : Int)) (fun _ _ => True) (fun i _ r => some (sameR r (x.2.drop i)))
      (fun S a _ => by
        simp only [f19.s1, at_end, cond_false]
        rw [List.drop_eq_nil_iff.2 (by omega)]; rfl) (fun S i _ v r hi hv hr _ ih => by
        have hw : x.2[i]? = some x.2[i] := List.getElem?_eq_getElem (by omega)
        have hiw : i < x.2.length := by omega
        generalize x.2[i] = w at hw
        simp only [f19.s1, at_lt hi, at_lt hiw, at_ge, at_get hv, at_get hw, nx (show i ≤ _ by omega), Bool.and_self, cond_true, F44_eq, Option.bind_some, ih () trivial, drop_cons hw, sameR]
        cases sameV v w <;> rfl) (x.1.length + 1) (Nat.lt_succ_self _) () trivial
theorem con19_ok : ConOk Tryz.prog 19 con19 := f19.ok spec19 con44_ok
theorem F19_some {a : List dValue} (h : okB 40 a = true) (b : List dValue) : F19 (a, b) = some (sameR a b) := by
  show (bif okB 40 a then _ else _) = _
  rw [h]; rfl

end Go.Proofs.YtfgfdpbeddnfhaaGreatDoor.AI
