/- Operations that make or write memory. -/
import Derived.Test.YtiolbhmbobelcaaGreatDoorAif
import Derived.Great.BuildSlice
set_option linter.unusedVariables false
set_option linter.unusedSimpArgs false
namespace Go.Proofs.YtiolbhmbobelcaaGreatDoor.AI
open Go

theorem rep1_cells {x : Cx} {g : Bool} {cs : List C} {v : Value} (h : Rep1 x (g, cs) v) : RepCs x cs v.cells.toList := by
  cases g with
  | true => obtain ⟨vs, rfl, h2⟩ := h; exact h2
  | false =>
    have h1 : v.oneCell' = true := (RepCs.len _ _ (show RepCs x cs [v] from h)).2 v (by simp)
    have : v.cells = #[v] := by cases v <;> simp_all [Value.cells, Value.oneCell']
    rw [this]; exact h

/-! ### fill -/
theorem foldl_splice : ∀ (vs : List Value) (off k : Nat) (cells : Array Value), off + k + vs.length ≤ cells.size →
    (vs.zipIdx k).foldl (fun cs p => cs.setIfInBounds (off + p.2) p.1) cells = (cells.toList.take (off + k) ++ vs ++ cells.toList.drop (off + k + vs.length)).toArray
  | [], off, k, cells, _ => by simp
  | v :: r, off, k, cells, h => by
    have h1 : off + (k + 1) + r.length ≤ (cells.setIfInBounds (off + k) v).size := by simp at h ⊢; omega
    rw [List.zipIdx_cons, List.foldl_cons, foldl_splice r off (k + 1) _ h1]
    congr 1
    have e := list_seg_step cells.toList (off + k) v r (by simp at h ⊢; omega)
    simpa [Array.toList_setIfInBounds, Nat.add_assoc] using e

theorem fill_step {place : Nat → Option (Nat × Nat)} {cells : Array Value} {i off size : Nat} {v : Value} {rest : List (Nat × Value)} (hp : place i = some (off, size)) (hs : v.cells.size = size) (hf : off + size ≤ cells.size) :
    Instr.fill place cells ((i, v) :: rest) = Instr.fill place (cells.toList.take off ++ v.cells.toList ++ cells.toList.drop (off + size)).toArray rest := by
  subst hs
  have e := foldl_splice v.cells.toList off 0 cells (by simpa using hf)
  simp only [Nat.add_zero, Array.length_toList] at e
  simp only [Instr.fill, hp]
  rw [if_neg (by simp; omega)]
  congr 1
  rw [← Array.foldl_toList, Array.toList_zipIdx]
  exact e

theorem fillA_sound {x : Cx} {fs : List (Nat × Nat × Bool)} {ev : Operand → AV} {ρ : Operand → Value} (hev : ∀ o, RepV x (ev o) (ρ o)) :
    ∀ (parts : List (Nat × Operand)) (cs cs' : List C) (cells : Array Value), fillA fs ev cs parts = some cs' → RepCs x cs cells.toList →
      ∃ cells', Instr.fill (((fs.map fun p => (p.1, p.2.1)).toArray)[·]?) cells (parts.map fun p => (p.1, ρ p.2)) = some cells' ∧ RepCs x cs' cells'.toList
  | [], cs, cs', cells, h, hr => by
    simp [fillA] at h; subst h
    exact ⟨cells, rfl, hr⟩
  | (j, o) :: r, cs, cs', cells, h, hr => by
    unfold fillA at h
    split at h
    · rename_i off size g g' vs hf ho
      split at h
      · rename_i hc
        have ho' := hev o
        rw [ho] at ho'
        have h1 := rep1_cells ho'
        have hl := (RepCs.len _ _ h1).1
        have hl2 := (RepCs.len _ _ hr).1
        simp only [Array.length_toList] at hl hl2
        simp only [List.map_cons]
        rw [fill_step (off := off) (size := size) (by simp [hf]) (by omega) (by omega)]
        exact fillA_sound hev r _ _ _ h (RepCs.append _ _ _ _ (RepCs.append _ _ _ _ (RepCs.take _ _ _ hr) h1) (RepCs.drop _ _ _ hr))
      · cases h
    · cases h

theorem fill_wide {fs : List (Nat × Nat)} {size : Nat} (h : ∀ i p, fs[i]? = some p → p = (i * size, size)) : ∀ (parts : List (Nat × Value)) (cells cells' : Array Value), Instr.fill (fs.toArray[·]?) cells parts = some cells' → Instr.fill (fun i => some (i * size, size)) cells parts = some cells'
  | [], cells, cells', e => e
  | (i, v) :: r, cells, cells', e => by
    unfold Instr.fill at e ⊢
    cases hp : fs.toArray[i]? with
    | none => simp only [hp] at e; cases e
    | some p =>
      have hp' := h i p (by simpa using hp)
      subst hp'
      simp only [hp] at e
      simp only
      split at e
      · cases e
      · rename_i hc
        rw [if_neg hc]
        exact fill_wide h r _ _ e

theorem zeros_sound {x : Cx} : ∀ (z : List Z), z.all Z.plain = true → RepCs x (z.map Z.cell) (z.map Z.val)
  | [], _ => rfl
  | z :: r, h => by
    simp only [List.all_cons, Bool.and_eq_true] at h
    refine ⟨_, _, rfl, ?_, zeros_sound r h.2⟩
    cases z with
    | dat t => cases t <;> first | (exact ⟨rfl, rfl⟩) | (simp [Z.plain] at h)
    | nils => exact ⟨rfl, rfl⟩
    | nilp => exact ⟨rfl, rfl⟩
    | nilf => exact ⟨rfl, rfl⟩
    | nilm => exact ⟨rfl, rfl⟩
    | nili => exact ⟨rfl, rfl⟩

/-- Cells of the parts, one behind the other. -/
theorem elems_sound {x : Cx} {t : Ty} {ev : Operand → AV} {ρ : Operand → Value} (hev : ∀ o, RepV x (ev o) (ρ o)) :
    ∀ (parts : List (Nat × Operand)) (k : Nat) (xs : List t.den), elems t ev k parts = some xs → xs.length = parts.length ∧
      ∀ (cells : Array Value), (k + parts.length) * t.size ≤ cells.size →
        ∃ cells', Instr.fill (fun i => some (i * t.size, t.size)) cells (parts.map fun p => (p.1, ρ p.2)) = some cells' ∧ cells'.size = cells.size ∧
          (∀ i, i < k * t.size → cells'[i]? = cells[i]?) ∧ ∀ i d, xs[i]? = some d → ∃ vs, RepT x.ok x.w t d vs ∧ ∀ j v, vs[j]? = some v → cells'[(k + i) * t.size + j]? = some v
  | [], k, xs, h => by
    simp [elems] at h; subst h
    exact ⟨rfl, fun cells _ => ⟨cells, rfl, rfl, fun _ _ => rfl, fun i d hi => by simp at hi⟩⟩
  | (j, o) :: r, k, xs, h => by
    unfold elems at h
    split at h
    · rename_i hj
      subst hj
      split at h
      · rename_i g cs ho
        split at h
        · rename_i d hd
          split at h
          · rename_i l hl
            cases h
            obtain ⟨h1, h2⟩ := elems_sound hev r (k + 1) l hl
            refine ⟨by simp [h1], fun cells hsz => ?_⟩
            have ho' := hev o
            rw [ho] at ho'
            have h3 := rep1_cells ho'
            have h4 := whole_sound hd h3
            have h5 := (RepT.len _ _ _ h4).1
            simp only [Array.length_toList] at h5
            simp only [List.length_cons] at hsz
            have hk : k * t.size + t.size ≤ cells.size := by
              have : (k + 1) * t.size ≤ (k + (r.length + 1)) * t.size := Nat.mul_le_mul_right _ (by omega)
              rw [Nat.add_mul, Nat.one_mul] at this
              omega
            simp only [List.map_cons]
            rw [fill_step (off := k * t.size) (size := t.size) rfl h5 hk]
            generalize hnew : (cells.toList.take (k * t.size) ++ (ρ o).cells.toList ++ cells.toList.drop (k * t.size + t.size)).toArray = new
            have hns : new.size = cells.size := by
              rw [← hnew]; simp [h5]; omega
            have hget : ∀ i, new[i]? = if i < k * t.size then cells[i]? else if i < k * t.size + t.size then (ρ o).cells[i - k * t.size]? else cells[i]? := by
              intro i
              rw [← hnew]
              simp only [List.getElem?_toArray, List.getElem?_append, List.length_append, List.length_take, Array.length_toList, h5]
              have e1 : min (k * t.size) cells.size = k * t.size := Nat.min_eq_left (by omega)
              rw [e1]
              by_cases hi1 : i < k * t.size
              · rw [if_pos (by omega), if_pos hi1, if_pos hi1, List.getElem?_take, if_pos hi1]; simp
              · by_cases hi2 : i < k * t.size + t.size
                · rw [if_pos hi2, if_neg hi1, if_neg hi1, if_pos hi2]; simp
                · rw [if_neg hi2, if_neg hi1, if_neg hi2, List.getElem?_drop]
                  simp only [Array.getElem?_toList]
                  congr 1
                  omega
            obtain ⟨cells', h6, h7, h8, h9⟩ := h2 new (by rw [hns]; rw [show k + 1 + r.length = k + (r.length + 1) by omega]; exact hsz)
            refine ⟨cells', h6, by rw [h7, hns], fun i hi => ?_, fun i d' hi => ?_⟩
            · rw [h8 i (by rw [Nat.add_mul, Nat.one_mul]; omega), hget, if_pos hi]
            · cases i with
              | zero =>
                simp at hi; subst hi
                refine ⟨_, h4, fun j v hj => ?_⟩
                have hjl : j < t.size := by
                  rw [← h5]
                  exact (Array.getElem?_eq_some_iff.1 (by simpa using hj)).1
                rw [Nat.add_zero, h8 _ (by rw [Nat.add_mul, Nat.one_mul]; omega), hget, if_neg (by omega), if_pos (by omega)]
                simpa [Nat.add_sub_cancel_left] using hj
              | succ i =>
                obtain ⟨vs, h10, h11⟩ := h9 i d' (by simpa using hi)
                refine ⟨vs, h10, fun j v hj => ?_⟩
                have := h11 j v hj
                rwa [show k + 1 + i = k + (i + 1) by omega] at this
          · cases h
        · cases h
      · cases h
    · cases h

end Go.Proofs.YtiolbhmbobelcaaGreatDoor.AI
