/- The plain laws of the runs: a row of some values and of defaults. -/
import Derived.Test.YtfgfdpbeddnfhaaGreatDoorBg
set_option linter.unusedVariables false
set_option linter.unusedSimpArgs false
namespace Go.Proofs.YtfgfdpbeddnfhaaGreatDoor.AI
open Go

/-- What becomes of a place. -/
def pickV (i : Int) : dValue → List Int → List dValue → dValue
  | d, k :: ks, v :: vs => pickV i (bif k == i then v else d) ks vs
  | d, _, _ => d

theorem get_nat {α : Type} {l : List α} {i : Nat} {v d : α} (h : l[i]? = some v) : l.getD i d = v := by simp [List.getD, h]
theorem putL_nil (row : List dValue) (vs : List dValue) : putL row [] vs = row := by cases vs <;> rfl
theorem pickV_nil (i : Int) (d : dValue) (vs : List dValue) : pickV i d [] vs = d := by cases vs <;> rfl
theorem putL_len : ∀ (ks : List Int) (vs row : List dValue), (putL row ks vs).length = row.length
  | [], vs, row => by rw [putL_nil]
  | k :: ks, [], row => rfl
  | k :: ks, v :: vs, row => by rw [putL, putL_len ks vs, List.length_set]
theorem putL_ok : ∀ (ks : List Int) (vs row : List dValue), (∀ v ∈ vs, okV v = true) → (∀ v ∈ row, okV v = true) → ∀ v ∈ putL row ks vs, okV v = true
  | [], vs, row, _, h => by rw [putL_nil]; exact h
  | k :: ks, [], row, _, h => h
  | k :: ks, v :: vs, row, h1, h2 => by
    rw [putL]
    refine putL_ok ks vs _ (fun w hw => h1 w (List.mem_cons_of_mem _ hw)) (fun w hw => ?_)
    rcases List.mem_or_eq_of_mem_set hw with hw | rfl
    · exact h2 w hw
    · exact h1 _ (List.mem_cons_self ..)
theorem putL_get {i : Nat} : ∀ (ks : List Int) (vs row : List dValue) (d : dValue), (∀ k ∈ ks, 0 ≤ k) → row[i]? = some d → (putL row ks vs)[i]? = some (pickV (i : Int) d ks vs)
  | [], vs, row, d, _, h => by rw [putL_nil, pickV_nil]; exact h
  | k :: ks, [], row, d, _, h => h
  | k :: ks, v :: vs, row, d, hk, h => by
    rw [putL, pickV]
    refine putL_get ks vs _ _ (fun j hj => hk j (List.mem_cons_of_mem _ hj)) ?_
    have h0 := hk k (List.mem_cons_self ..)
    have hlt := lt_of h
    rw [List.getElem?_set]
    by_cases he : k = (i : Int)
    · have h1 : k.toNat = i := by omega
      have h2 : (k == (i : Int)) = true := by simp [he]
      rw [if_pos h1, h2, h1, if_pos hlt]; rfl
    · have h1 : ¬ k.toNat = i := by omega
      have h2 : (k == (i : Int)) = false := by simp [he]
      rw [if_neg h1, h2]; exact h
theorem take_set_next {α : Type} {l : List α} {i : Nat} (v : α) (h : i < l.length) : (l.set i v).take (i + 1) = l.take i ++ [v] := by
  have h2 : (l.set i v)[i]? = some v := by rw [List.getElem?_set]; simp [h]
  rw [← take_next h2]
  congr 1
  rw [List.take_set]
  exact List.set_eq_of_length_le (by rw [List.length_take]; omega)

def G17 (t : dTable) (row : List dValue) : Option (List dValue × Int) :=
  (F14 (t, List.take t.2.1.length row)).bind fun r => bif r != (0 : Int) then some ([], r) else some (List.take t.2.1.length row, (0 : Int))
theorem puts17a {x : dTable × List Int × List dValue} {n : Nat} (hn : x.2.1.length < n) (hl : x.2.1.length ≤ 140737488355328) (hlen : x.2.1.length = x.2.2.length) (hk : x.2.1.all (fun k => decide (0 ≤ k) && decide (k < (x.1.2.1.length : Int))) = true)
    (r1 : Int) (r2 : Bool) (y3 : Int × List dValue) (row : List dValue) : iter (f17.s1 n x r1 r2 y3) n ((0 : Int), row) = G17 x.1 (putL row x.2.1 x.2.2) :=
  iter_all (step := f17.s1 n x r1 r2 y3) x.2.1 (fun i (a : List dValue) => ((i : Int), a)) (fun _ _ => True) (fun i a r => G17 x.1 (putL a r (x.2.2.drop i)))
    (fun S a _ => by simp only [f17.s1, at_end, cond_false, Int.toNat_natCast, putL_nil, G17]) (fun S i a v r hi hv hr _ ih => by
      have hw : x.2.2[i]? = some x.2.2[i] := List.getElem?_eq_getElem (by omega)
      have hiw : i < x.2.2.length := by omega
      generalize x.2.2[i] = w at hw
      have hv2 : (decide (0 ≤ v) && decide (v < (x.1.2.1.length : Int))) = true := List.all_eq_true.1 hk v (List.mem_of_getElem? hv)
      simp only [f17.s1, at_lt hi, at_lt hiw, at_ge, get_nat hv, get_nat hw, nx (show i ≤ _ by omega), Bool.and_self, cond_true, Int.toNat_natCast, hv2, drop_cons hw, putL]
      exact ih _ trivial) n hn row trivial
theorem puts17b {x : dTable × List Int × List dValue} {n : Nat} (hn : x.2.1.length < n) (hl : x.2.1.length ≤ 140737488355328) (hlen : x.2.1.length = x.2.2.length) (hk : x.2.1.all (fun k => decide (0 ≤ k) && decide (k < (x.1.2.1.length : Int))) = true)
    (r1 : Int) (y3 : Int × List dValue) (row : List dValue) : iter (f17.s3 n x r1 y3) n ((0 : Int), row) = G17 x.1 (putL row x.2.1 x.2.2) :=
  iter_all (step := f17.s3 n x r1 y3) x.2.1 (fun i (a : List dValue) => ((i : Int), a)) (fun _ _ => True) (fun i a r => G17 x.1 (putL a r (x.2.2.drop i)))
    (fun S a _ => by simp only [f17.s3, at_end, cond_false, Int.toNat_natCast, putL_nil, G17]) (fun S i a v r hi hv hr _ ih => by
      have hw : x.2.2[i]? = some x.2.2[i] := List.getElem?_eq_getElem (by omega)
      have hiw : i < x.2.2.length := by omega
      generalize x.2.2[i] = w at hw
      have hv2 : (decide (0 ≤ v) && decide (v < (x.1.2.1.length : Int))) = true := List.all_eq_true.1 hk v (List.mem_of_getElem? hv)
      simp only [f17.s3, at_lt hi, at_lt hiw, at_ge, get_nat hv, get_nat hw, nx (show i ≤ _ by omega), Bool.and_self, cond_true, Int.toNat_natCast, hv2, drop_cons hw, putL]
      exact ih _ trivial) n hn row trivial
theorem cols17a {x : dTable × List Int × List dValue} {n : Nat} (hn : x.2.1.length < n) (hl : x.2.1.length ≤ 140737488355328) (hlen : x.2.1.length = x.2.2.length) (hk : x.2.1.all (fun k => decide (0 ≤ k) && decide (k < (x.1.2.1.length : Int))) = true)
    (hn2 : x.1.2.1.length < n) (hl2 : x.1.2.1.length ≤ 140737488355328) (r1 : Int) (r2 : Bool) (row0 : List dValue) (hrow : row0.length = x.1.2.1.length) {K : Option (List dValue × Int)} (hK : G17 x.1 (putL (x.1.2.1.map fun c => c.2.2.2) x.2.1 x.2.2) = K) : iter (f17.s2 n x r1 r2) n ((0 : Int), row0) = K := by
  have hend : ∀ (S : Int × List dValue → Option (List dValue × Int)) (a : List dValue), (a.length = x.1.2.1.length ∧ a.take x.1.2.1.length = (x.1.2.1.take x.1.2.1.length).map fun c => c.2.2.2) → f17.s2 n x r1 r2 S ((x.1.2.1.length : Int), a) = K := by
    intro S a h
    obtain ⟨h1, h2⟩ := h
    rw [List.take_length, ← h1, List.take_length] at h2
    simp only [f17.s2, at_end, cond_false]
    rw [puts17a hn hl hlen hk, h2, hK]
  have hstep : ∀ (S : Int × List dValue → Option (List dValue × Int)) (i : Nat) (a : List dValue) (v : dColumn), i < x.1.2.1.length → x.1.2.1[i]? = some v → f17.s2 n x r1 r2 S ((i : Int), a) = S (((i + 1 : Nat) : Int), a.set i v.2.2.2) := by
    intro S i a v hi hv
    simp only [f17.s2, at_lt hi, at_ge, get_nat hv, nx (show i ≤ _ by omega), Bool.and_self, cond_true, Int.toNat_natCast]
  refine iter_all (step := f17.s2 n x r1 r2) x.1.2.1 (fun i (a : List dValue) => ((i : Int), a)) (fun i a => a.length = x.1.2.1.length ∧ a.take i = (x.1.2.1.take i).map fun c => c.2.2.2) (fun _ _ _ => K) hend ?_ n hn2 row0 ⟨hrow, ?_⟩
  · intro S i a v r hi hv hr h ih
    obtain ⟨h1, h2⟩ := h
    rw [hstep S i a v hi hv]
    refine ih _ ⟨by rw [List.length_set]; exact h1, ?_⟩
    rw [take_set_next _ (by omega), h2, ← take_next hv, List.map_append]; rfl
  · simp

theorem cols17b {x : dTable × List Int × List dValue} {n : Nat} (hn : x.2.1.length < n) (hl : x.2.1.length ≤ 140737488355328) (hlen : x.2.1.length = x.2.2.length) (hk : x.2.1.all (fun k => decide (0 ≤ k) && decide (k < (x.1.2.1.length : Int))) = true)
    (hn2 : x.1.2.1.length < n) (hl2 : x.1.2.1.length ≤ 140737488355328) (r1 : Int) (row0 : List dValue) (hrow : row0.length = x.1.2.1.length) {K : Option (List dValue × Int)} (hK : G17 x.1 (putL (x.1.2.1.map fun c => c.2.2.2) x.2.1 x.2.2) = K) : iter (f17.s4 n x r1) n ((0 : Int), row0) = K := by
  have hend : ∀ (S : Int × List dValue → Option (List dValue × Int)) (a : List dValue), (a.length = x.1.2.1.length ∧ a.take x.1.2.1.length = (x.1.2.1.take x.1.2.1.length).map fun c => c.2.2.2) → f17.s4 n x r1 S ((x.1.2.1.length : Int), a) = K := by
    intro S a h
    obtain ⟨h1, h2⟩ := h
    rw [List.take_length, ← h1, List.take_length] at h2
    simp only [f17.s4, at_end, cond_false]
    rw [puts17b hn hl hlen hk, h2, hK]
  have hstep : ∀ (S : Int × List dValue → Option (List dValue × Int)) (i : Nat) (a : List dValue) (v : dColumn), i < x.1.2.1.length → x.1.2.1[i]? = some v → f17.s4 n x r1 S ((i : Int), a) = S (((i + 1 : Nat) : Int), a.set i v.2.2.2) := by
    intro S i a v hi hv
    simp only [f17.s4, at_lt hi, at_ge, get_nat hv, nx (show i ≤ _ by omega), Bool.and_self, cond_true, Int.toNat_natCast]
  refine iter_all (step := f17.s4 n x r1) x.1.2.1 (fun i (a : List dValue) => ((i : Int), a)) (fun i a => a.length = x.1.2.1.length ∧ a.take i = (x.1.2.1.take i).map fun c => c.2.2.2) (fun _ _ _ => K) hend ?_ n hn2 row0 ⟨hrow, ?_⟩
  · intro S i a v r hi hv hr h ih
    obtain ⟨h1, h2⟩ := h
    rw [hstep S i a v hi hv]
    refine ih _ ⟨by rw [List.length_set]; exact h1, ?_⟩
    rw [take_set_next _ (by omega), h2, ← take_next hv, List.map_append]; rfl
  · simp

structure Ok17 (x : dTable × List Int × List dValue) : Prop where
  t : okT x.1 = true
  k : okB 8 x.2.1 = true
  v : okB 40 x.2.2 = true
  vs : ∀ v ∈ x.2.2, okV v = true
theorem ok17 {x : dTable × List Int × List dValue} {y : List dValue × Int} (h : (bif okT x.1 && (okB 8 x.2.1 && (okB 40 x.2.2 && x.2.2.all okV)) then some (fillS x.1 x.2.1 x.2.2) else none) = some y) : Ok17 x ∧ fillS x.1 x.2.1 x.2.2 = y := by
  obtain ⟨ho, rfl⟩ := some_bif h
  simp only [Bool.and_eq_true] at ho
  exact ⟨⟨ho.1, ho.2.1, ho.2.2.1, List.all_eq_true.1 ho.2.2.2⟩, rfl⟩
theorem F17_some {t : dTable} {k : List Int} {v : List dValue} (h : Ok17 (t, k, v)) : F17 (t, k, v) = some (fillS t k v) := by
  show (bif okT t && (okB 8 k && (okB 40 v && v.all okV)) then _ else _) = _
  rw [h.t, h.k, h.v, List.all_eq_true.2 h.vs]; rfl
theorem F18_some {t : dTable} {k : List Int} {v : List dValue} (h : Ok17 (t, k, v)) : F18 (t, k, v) = some (fillS t k v) := F17_some h
theorem row_len (x : dTable × List Int × List dValue) : (putL (x.1.2.1.map fun c => c.2.2.2) x.2.1 x.2.2).length = x.1.2.1.length := by rw [putL_len, List.length_map]
theorem row_okB {x : dTable × List Int × List dValue} (h : Ok17 x) : okB 40 (putL (x.1.2.1.map fun c => c.2.2.2) x.2.1 x.2.2) = true := by
  obtain ⟨h1, _⟩ := okT_parts h.t
  have := okB_iff.1 h1
  refine okB_iff.2 ?_
  rw [row_len]
  omega
theorem row_ok {x : dTable × List Int × List dValue} (h : Ok17 x) : ∀ v ∈ putL (x.1.2.1.map fun c => c.2.2.2) x.2.1 x.2.2, okV v = true := by
  obtain ⟨h1, h2, h3, h4, h5, h6, h7⟩ := okT_parts h.t
  refine putL_ok _ _ _ h.vs (fun v hv => ?_)
  obtain ⟨c, hc, rfl⟩ := List.mem_map.1 hv
  exact h5 c hc
theorem G17_eq {x : dTable × List Int × List dValue} (h : Ok17 x) : G17 x.1 (putL (x.1.2.1.map fun c => c.2.2.2) x.2.1 x.2.2) =
    some (bif admitS x.1 (putL (x.1.2.1.map fun c => c.2.2.2) x.2.1 x.2.2) != 0 then ([], admitS x.1 (putL (x.1.2.1.map fun c => c.2.2.2) x.2.1 x.2.2)) else (putL (x.1.2.1.map fun c => c.2.2.2) x.2.1 x.2.2, 0)) := by
  have ht : List.take x.1.2.1.length (putL (x.1.2.1.map fun c => c.2.2.2) x.2.1 x.2.2) = putL (x.1.2.1.map fun c => c.2.2.2) x.2.1 x.2.2 := List.take_of_length_le (by rw [row_len]; exact Nat.le_refl _)
  unfold G17
  rw [ht, F14_some h.t (row_okB h) (row_ok h), Option.bind_some]
  cases admitS x.1 (putL (x.1.2.1.map fun c => c.2.2.2) x.2.1 x.2.2) != 0 <;> rfl
theorem mk_ok {x : dTable × List Int × List dValue} (h : Ok17 x) : ((decide ((x.1.2.1.length : Int) = (x.1.2.1.length : Int)) && decide (0 ≤ (x.1.2.1.length : Int))) && (decide ((x.1.2.1.length : Int).toNat * 40 ≤ boundN) && decide (0 < 40))) = true := by
  obtain ⟨h1, _⟩ := okT_parts h.t
  have := okB_iff.1 h1
  have hb : boundN = 140737488355328 := rfl
  simp only [Int.toNat_natCast, decide_true, Bool.true_and, Bool.and_true, Bool.and_eq_true, decide_eq_true_eq, hb]
  exact ⟨by omega, by omega, by omega⟩
theorem ks_in {N : Nat} {ks : List Int} (h : (decide (ks.length > 0) && !someS N ks) = false) : ks.all (fun k => decide (0 ≤ k) && decide (k < (N : Int))) = true := by
  cases ks with
  | nil => rfl
  | cons k r =>
    have hs : someS N (k :: r) = true := by simpa using h
    unfold someS at hs
    cases hc : decide ((k :: r).length < 1) || decide ((k :: r).length > 64) with
    | true => rw [hc] at hs; cases hs
    | false =>
      rw [hc, cond_false] at hs
      exact someL_in _ _ _ hs
theorem spec17 : ∀ X Y, F17 X = some Y → ∃ n, f17.g n X = some Y := by
  intro x y h
  obtain ⟨ho, rfl⟩ := ok17 h
  obtain ⟨h1, h2, h3, h4, h5, h6, h7⟩ := okT_parts ho.t
  have hl := okB_len (by omega) h1
  have hl2 := okB_len (by omega) ho.k
  refine ⟨x.2.1.length + x.1.2.1.length + 1, ?_⟩
  unfold f17.g fillS
  rw [mk_ok ho]
  simp only [F11_some ho.t, Option.bind_some, cond_true, F33_some x.1 ho.k]
  cases checkT x.1 != 0 with
  | true => rfl
  | false =>
    simp only [cond_false]
    cases hlen : ((x.2.1.length : Int) != (x.2.2.length : Int)) with
    | true => rfl
    | false =>
      have hlen' : x.2.1.length = x.2.2.length := by
        rw [len_ne] at hlen
        simpa using hlen
      simp only [cond_false, Bool.false_or]
      have e : decide ((x.2.1.length : Int) > (0 : Int)) = decide (x.2.1.length > 0) := len_gt _ 0
      rw [e]
      cases hs : decide (x.2.1.length > 0) && !someS x.1.2.1.length x.2.1 with
      | true =>
        simp only [Bool.and_eq_true] at hs
        rw [hs.1, cond_true, hs.2]; rfl
      | false =>
        have hk := ks_in hs
        simp only [Int.toNat_natCast, cols17a (show x.2.1.length < x.2.1.length + x.1.2.1.length + 1 by omega) hl2 hlen' hk (show x.1.2.1.length < _ by omega) hl _ _ _ (List.length_replicate ..) (G17_eq ho), cols17b (show x.2.1.length < x.2.1.length + x.1.2.1.length + 1 by omega) hl2 hlen' hk (show x.1.2.1.length < _ by omega) hl _ _ (List.length_replicate ..) (G17_eq ho), cond_false]
        cases hz : decide (x.2.1.length > 0) with
        | false => rfl
        | true =>
          rw [hz, Bool.true_and] at hs
          rw [hs]; rfl
theorem con17_ok : ConOk Tryz.prog 17 con17 := f17.ok spec17 con11_ok con14_ok con33_ok

/-! ### The reference's -/
theorem pick18a {x : dTable × List Int × List dValue} {n : Nat} (hn : x.2.1.length < n) (hl : x.2.1.length ≤ 140737488355328) (hlen : x.2.1.length = x.2.2.length) (r1 : Int) (r2 : Bool) (y3 : Nat × Int × List dValue)
    (S3 : (Nat × Int × List dValue) → Option (List dValue × Int)) (d : dValue) : iter (f18.s1 n x r1 r2 y3 S3) n ((0 : Int), d) = bif decide ((y3.1 + 1) * 40 ≤ boundN) then S3 (y3.1 + 1, (IntKind.wrap .i64 (y3.2.1 + (1 : Int)), List.take y3.1 y3.2.2 ++ [pickV y3.2.1 d x.2.1 x.2.2])) else none :=
  iter_all (step := f18.s1 n x r1 r2 y3 S3) x.2.1 (fun i (a : dValue) => ((i : Int), a)) (fun _ _ => True) (fun i a r => bif decide ((y3.1 + 1) * 40 ≤ boundN) then S3 (y3.1 + 1, (IntKind.wrap .i64 (y3.2.1 + (1 : Int)), List.take y3.1 y3.2.2 ++ [pickV y3.2.1 a r (x.2.2.drop i)])) else none)
    (fun S a _ => by simp only [f18.s1, at_end, cond_false, pickV_nil]) (fun S i a v r hi hv hr _ ih => by
      have hw : x.2.2[i]? = some x.2.2[i] := List.getElem?_eq_getElem (by omega)
      have hiw : i < x.2.2.length := by omega
      generalize x.2.2[i] = w at hw
      simp only [f18.s1, at_lt hi, at_lt hiw, at_ge, at_get hv, at_get hw, nx (show i ≤ _ by omega), Bool.and_self, cond_true, drop_cons hw, pickV]
      cases v == y3.2.1 with
      | true => simp only [cond_true]; exact ih _ trivial
      | false => simp only [cond_false]; exact ih _ trivial) n hn d trivial
theorem pick18b {x : dTable × List Int × List dValue} {n : Nat} (hn : x.2.1.length < n) (hl : x.2.1.length ≤ 140737488355328) (hlen : x.2.1.length = x.2.2.length) (r1 : Int) (y3 : Nat × Int × List dValue)
    (S3 : (Nat × Int × List dValue) → Option (List dValue × Int)) (d : dValue) : iter (f18.s3 n x r1 y3 S3) n ((0 : Int), d) = bif decide ((y3.1 + 1) * 40 ≤ boundN) then S3 (y3.1 + 1, (IntKind.wrap .i64 (y3.2.1 + (1 : Int)), List.take y3.1 y3.2.2 ++ [pickV y3.2.1 d x.2.1 x.2.2])) else none :=
  iter_all (step := f18.s3 n x r1 y3 S3) x.2.1 (fun i (a : dValue) => ((i : Int), a)) (fun _ _ => True) (fun i a r => bif decide ((y3.1 + 1) * 40 ≤ boundN) then S3 (y3.1 + 1, (IntKind.wrap .i64 (y3.2.1 + (1 : Int)), List.take y3.1 y3.2.2 ++ [pickV y3.2.1 a r (x.2.2.drop i)])) else none)
    (fun S a _ => by simp only [f18.s3, at_end, cond_false, pickV_nil]) (fun S i a v r hi hv hr _ ih => by
      have hw : x.2.2[i]? = some x.2.2[i] := List.getElem?_eq_getElem (by omega)
      have hiw : i < x.2.2.length := by omega
      generalize x.2.2[i] = w at hw
      simp only [f18.s3, at_lt hi, at_lt hiw, at_ge, at_get hv, at_get hw, nx (show i ≤ _ by omega), Bool.and_self, cond_true, drop_cons hw, pickV]
      cases v == y3.2.1 with
      | true => simp only [cond_true]; exact ih _ trivial
      | false => simp only [cond_false]; exact ih _ trivial) n hn d trivial
theorem G18_eq {x : dTable × List Int × List dValue} (h : Ok17 x) : ((F16 (x.1, putL (x.1.2.1.map fun c => c.2.2.2) x.2.1 x.2.2)).bind fun r => bif r != (0 : Int) then some (([] : List dValue), r) else some (putL (x.1.2.1.map fun c => c.2.2.2) x.2.1 x.2.2, (0 : Int))) =
    some (bif admitS x.1 (putL (x.1.2.1.map fun c => c.2.2.2) x.2.1 x.2.2) != 0 then ([], admitS x.1 (putL (x.1.2.1.map fun c => c.2.2.2) x.2.1 x.2.2)) else (putL (x.1.2.1.map fun c => c.2.2.2) x.2.1 x.2.2, 0)) := by
  rw [F16_some h.t (row_okB h) (row_ok h), Option.bind_some]
  cases admitS x.1 (putL (x.1.2.1.map fun c => c.2.2.2) x.2.1 x.2.2) != 0 <;> rfl
theorem row_at {x : dTable × List Int × List dValue} (hk : x.2.1.all (fun k => decide (0 ≤ k) && decide (k < (x.1.2.1.length : Int))) = true) {i : Nat} {v : dValue} {c : dColumn} (hv : (putL (x.1.2.1.map fun c => c.2.2.2) x.2.1 x.2.2)[i]? = some v) (hc : x.1.2.1[i]? = some c) : pickV (i : Int) c.2.2.2 x.2.1 x.2.2 = v := by
  have := putL_get (i := i) x.2.1 x.2.2 (x.1.2.1.map fun c => c.2.2.2) c.2.2.2 (fun k hm => by
    have := List.all_eq_true.1 hk k hm
    simp only [Bool.and_eq_true, decide_eq_true_eq] at this
    exact this.1) (by rw [List.getElem?_map, hc]; rfl)
  rw [hv] at this
  exact (Option.some.inj this).symm
theorem cols18a {x : dTable × List Int × List dValue} (ho : Ok17 x) {n : Nat} (hn : x.2.1.length < n) (hlen : x.2.1.length = x.2.2.length) (hk : x.2.1.all (fun k => decide (0 ≤ k) && decide (k < (x.1.2.1.length : Int))) = true)
    (hn2 : x.1.2.1.length < n) (r1 : Int) (r2 : Bool) : iter (f18.s2 n x r1 r2) n ((0 : Nat), ((0 : Int), ([] : List dValue))) = some (bif admitS x.1 (putL (x.1.2.1.map fun c => c.2.2.2) x.2.1 x.2.2) != 0 then ([], admitS x.1 (putL (x.1.2.1.map fun c => c.2.2.2) x.2.1 x.2.2)) else (putL (x.1.2.1.map fun c => c.2.2.2) x.2.1 x.2.2, 0)) := by
  obtain ⟨h1, _⟩ := okT_parts ho.t
  have hl := okB_len (by omega) h1
  have hl2 := okB_len (by omega) ho.k
  exact copy_loop (l := putL (x.1.2.1.map fun c => c.2.2.2) x.2.1 x.2.2) (fun i r => (i, ((i : Int), r))) (step := f18.s2 n x r1 r2) (by rw [row_len]; exact hn2) (fun S => by
      have e : decide (((putL (x.1.2.1.map fun c => c.2.2.2) x.2.1 x.2.2).length : Int) < (x.1.2.1.length : Int)) = false := by rw [row_len]; simp
      simp only [f18.s2, e, cond_false, List.take_length]
      exact G18_eq ho) (fun S i v hi hv => by
      have hi2 : i < x.1.2.1.length := by rw [row_len] at hi; exact hi
      have hc : x.1.2.1[i]? = some x.1.2.1[i] := List.getElem?_eq_getElem hi2
      generalize x.1.2.1[i] = c at hc
      simp only [f18.s2, at_lt hi2, at_ge, at_get hc, Bool.and_self, cond_true, pick18a hn hl2 hlen, row_at hk hv hc, nx (show i ≤ _ by omega), room (row_okB ho) hi, take_self, take_next hv])
theorem cols18b {x : dTable × List Int × List dValue} (ho : Ok17 x) {n : Nat} (hn : x.2.1.length < n) (hlen : x.2.1.length = x.2.2.length) (hk : x.2.1.all (fun k => decide (0 ≤ k) && decide (k < (x.1.2.1.length : Int))) = true)
    (hn2 : x.1.2.1.length < n) (r1 : Int) : iter (f18.s4 n x r1) n ((0 : Nat), ((0 : Int), ([] : List dValue))) = some (bif admitS x.1 (putL (x.1.2.1.map fun c => c.2.2.2) x.2.1 x.2.2) != 0 then ([], admitS x.1 (putL (x.1.2.1.map fun c => c.2.2.2) x.2.1 x.2.2)) else (putL (x.1.2.1.map fun c => c.2.2.2) x.2.1 x.2.2, 0)) := by
  obtain ⟨h1, _⟩ := okT_parts ho.t
  have hl := okB_len (by omega) h1
  have hl2 := okB_len (by omega) ho.k
  exact copy_loop (l := putL (x.1.2.1.map fun c => c.2.2.2) x.2.1 x.2.2) (fun i r => (i, ((i : Int), r))) (step := f18.s4 n x r1) (by rw [row_len]; exact hn2) (fun S => by
      have e : decide (((putL (x.1.2.1.map fun c => c.2.2.2) x.2.1 x.2.2).length : Int) < (x.1.2.1.length : Int)) = false := by rw [row_len]; simp
      simp only [f18.s4, e, cond_false, List.take_length]
      exact G18_eq ho) (fun S i v hi hv => by
      have hi2 : i < x.1.2.1.length := by rw [row_len] at hi; exact hi
      have hc : x.1.2.1[i]? = some x.1.2.1[i] := List.getElem?_eq_getElem hi2
      generalize x.1.2.1[i] = c at hc
      simp only [f18.s4, at_lt hi2, at_ge, at_get hc, Bool.and_self, cond_true, pick18b hn hl2 hlen, row_at hk hv hc, nx (show i ≤ _ by omega), room (row_okB ho) hi, take_self, take_next hv])
theorem spec18 : ∀ X Y, F18 X = some Y → ∃ n, f18.g n X = some Y := by
  intro x y h
  obtain ⟨ho, rfl⟩ := ok17 (show (bif okT x.1 && (okB 8 x.2.1 && (okB 40 x.2.2 && x.2.2.all okV)) then some (fillS x.1 x.2.1 x.2.2) else none) = some y from h)
  obtain ⟨h1, h2, h3, h4, h5, h6, h7⟩ := okT_parts ho.t
  refine ⟨x.2.1.length + x.1.2.1.length + 1, ?_⟩
  simp only [f18.g, fillS, F13_some ho.t, Option.bind_some, F40_some x.1 ho.k]
  cases checkT x.1 != 0 with
  | true => rfl
  | false =>
    simp only [cond_false]
    cases hlen : ((x.2.1.length : Int) != (x.2.2.length : Int)) with
    | true => rfl
    | false =>
      have hlen' : x.2.1.length = x.2.2.length := by
        rw [len_ne] at hlen
        simpa using hlen
      simp only [cond_false, Bool.false_or]
      have e : decide ((x.2.1.length : Int) > (0 : Int)) = decide (x.2.1.length > 0) := len_gt _ 0
      rw [e]
      cases hs : decide (x.2.1.length > 0) && !someS x.1.2.1.length x.2.1 with
      | true =>
        simp only [Bool.and_eq_true] at hs
        rw [hs.1, cond_true, hs.2]; rfl
      | false =>
        have hk := ks_in hs
        simp only [cols18a ho (show x.2.1.length < x.2.1.length + x.1.2.1.length + 1 by omega) hlen' hk (show x.1.2.1.length < _ by omega), cols18b ho (show x.2.1.length < x.2.1.length + x.1.2.1.length + 1 by omega) hlen' hk (show x.1.2.1.length < _ by omega), cond_false]
        cases hz : decide (x.2.1.length > 0) with
        | false => rfl
        | true =>
          rw [hz, Bool.true_and] at hs
          rw [hs]; rfl
theorem con18_ok : ConOk Tryz.prog 18 con18 := f18.ok spec18 con13_ok con16_ok con40_ok

end Go.Proofs.YtfgfdpbeddnfhaaGreatDoor.AI
