/- Operations that make or write memory. -/
import Derived.Test.YtfgfdpbeddnfhaaGreatDoorAif
import Derived.Great.BuildSlice
set_option linter.unusedVariables false
set_option linter.unusedSimpArgs false
namespace Go.Proofs.YtfgfdpbeddnfhaaGreatDoor.AI
open Go

/-! ### Cells that are data -/
theorem one_sound {x : Cx} {t : Ty} {c : C} {d : t.den} (h : Ty.one t c = some d) {v : Value} (hr : RepC x c v) : RepT x.ok x.w t d [v] := by
  unfold Ty.one at h
  split at h
  · rename_i u y
    split at h
    · rename_i hu
      subst hu
      cases h
      exact hr.2
    · cases h
  · split at h
    · cases h
      have h2 : v = .slice none 0 0 := hr.2
      subst h2
      exact ⟨none, 0, rfl, Nat.le_refl _, fun hne => absurd rfl hne⟩
    · cases h
  · cases h

theorem ofCells_sound {x : Cx} : ∀ (t : Ty) (cs : List C) (d : t.den) (r : List C) (vs : List Value), t.ofCells cs = some (d, r) → RepCs x cs vs →
    ∃ p q, vs = p ++ q ∧ RepT x.ok x.w t d p ∧ RepCs x r q
  | .unit, cs, d, r, vs, h, hr => by
    simp [Ty.ofCells] at h; subst h
    exact ⟨[], vs, rfl, rfl, hr⟩
  | .pair a b, cs, d, r, vs, h, hr => by
    unfold Ty.ofCells at h
    split at h
    · rename_i y r1 h1
      split at h
      · rename_i z r2 h2
        cases h
        obtain ⟨p, q, rfl, h3, h4⟩ := ofCells_sound a cs y r1 vs h1 hr
        obtain ⟨p', q', rfl, h5, h6⟩ := ofCells_sound b r1 z _ q h2 h4
        exact ⟨p ++ p', q', by simp, ⟨p, p', rfl, h3, h5⟩, h6⟩
      · cases h
    · cases h
  | .rose a, cs, d, r, vs, h, hr => by
    unfold Ty.ofCells at h
    split at h
    · rename_i y c r1 h1
      split at h
      · rename_i ks h2
        cases h
        obtain ⟨p, q, rfl, h3, v, q', rfl, h5, h6⟩ := ofCells_sound a cs y _ vs h1 hr
        obtain ⟨A, n, h7, h8, h9⟩ := one_sound h2 h5
        refine ⟨p ++ [v], q', by simp, ?_, h6⟩
        -- the kids' own readings have bounds of their own: one bound for all
        have hb : ∃ N, RowT (RoseR (RepT x.ok x.w a) x.ok x.w (a.size + 1) N) x.ok x.w (a.size + 1) A ks := by
          by_cases hk : ks = []
          · exact ⟨0, fun hne => absurd hk hne⟩
          · obtain ⟨b, off, hA, hok, hx⟩ := h9 hk
            have mono : ∀ n m (r : Rose a.den) (us : List Value), n ≤ m → RoseR (RepT x.ok x.w a) x.ok x.w (a.size + 1) n r us → RoseR (RepT x.ok x.w a) x.ok x.w (a.size + 1) m r us := by
              intro n
              induction n with
              | zero => intro m r us _ h; exact h.elim
              | succ n ih =>
                intro m r us hle h
                obtain ⟨m, rfl⟩ : ∃ k, m = k + 1 := ⟨m - 1, by omega⟩
                cases r with
                | node y ks =>
                  obtain ⟨p, A, c, h1, h2, h3, h4⟩ := h
                  exact ⟨p, A, c, h1, h2, h3, h4.imp (fun r us => ih m r us (by omega)) (fun _ h => h) (fun _ _ => rfl)⟩
            have all : ∀ k, ∃ N, ∀ i y, i < k → ks[i]? = some y → ∃ us, RoseR (RepT x.ok x.w a) x.ok x.w (a.size + 1) N y us ∧ us.length = a.size + 1 ∧ ∀ j u, us[j]? = some u → x.w.cell? ⟨b, off + i * (a.size + 1) + j, none⟩ = some u := by
              intro k
              induction k with
              | zero => exact ⟨0, fun i y hi => by omega⟩
              | succ k ih =>
                obtain ⟨N, hN⟩ := ih
                cases hy : ks[k]? with
                | none =>
                  refine ⟨N, fun i y hi hiy => hN i y ?_ hiy⟩
                  rcases Nat.lt_or_ge i k with h1 | h1
                  · exact h1
                  · have : i = k := by omega
                    subst this; rw [hy] at hiy; cases hiy
                | some y =>
                  obtain ⟨us, ⟨n, hn⟩, h1, h2⟩ := hx k y hy
                  refine ⟨max N n, fun i y' hi hiy => ?_⟩
                  by_cases e : i = k
                  · subst e; rw [hy] at hiy; cases hiy
                    exact ⟨us, mono _ _ _ _ (Nat.le_max_right _ _) hn, h1, h2⟩
                  · obtain ⟨us', h3, h4, h5⟩ := hN i y' (by omega) hiy
                    exact ⟨us', mono _ _ _ _ (Nat.le_max_left _ _) h3, h4, h5⟩
            obtain ⟨N, hN⟩ := all ks.length
            exact ⟨N, fun _ => ⟨b, off, hA, hok, fun i y hi => hN i y (List.getElem?_eq_some_iff.1 hi).1 hi⟩⟩
        obtain ⟨N, hN⟩ := hb
        simp only [List.cons.injEq, and_true] at h7
        subst h7
        exact ⟨N + 1, p, A, n, rfl, h3, h8, hN⟩
      · cases h
    · cases h
  | .bool, cs, d, r, vs, h, hr => by
    cases cs with
    | nil => simp [Ty.ofCells] at h
    | cons c l =>
      simp only [Ty.ofCells] at h
      split at h
      · rename_i y h1
        cases h
        obtain ⟨v, q, rfl, h2, h3⟩ := hr
        exact ⟨[v], q, rfl, one_sound h1 h2, h3⟩
      · cases h
  | .int k, cs, d, r, vs, h, hr => by
    cases cs with
    | nil => simp [Ty.ofCells] at h
    | cons c l =>
      simp only [Ty.ofCells] at h
      split at h
      · rename_i y h1
        cases h
        obtain ⟨v, q, rfl, h2, h3⟩ := hr
        exact ⟨[v], q, rfl, one_sound h1 h2, h3⟩
      · cases h
  | .float k, cs, d, r, vs, h, hr => by
    cases cs with
    | nil => simp [Ty.ofCells] at h
    | cons c l =>
      simp only [Ty.ofCells] at h
      split at h
      · rename_i y h1
        cases h
        obtain ⟨v, q, rfl, h2, h3⟩ := hr
        exact ⟨[v], q, rfl, one_sound h1 h2, h3⟩
      · cases h
  | .str, cs, d, r, vs, h, hr => by
    cases cs with
    | nil => simp [Ty.ofCells] at h
    | cons c l =>
      simp only [Ty.ofCells] at h
      split at h
      · rename_i y h1
        cases h
        obtain ⟨v, q, rfl, h2, h3⟩ := hr
        exact ⟨[v], q, rfl, one_sound h1 h2, h3⟩
      · cases h
  | .sl t, cs, d, r, vs, h, hr => by
    cases cs with
    | nil => simp [Ty.ofCells] at h
    | cons c l =>
      simp only [Ty.ofCells] at h
      split at h
      · rename_i y h1
        cases h
        obtain ⟨v, q, rfl, h2, h3⟩ := hr
        exact ⟨[v], q, rfl, one_sound h1 h2, h3⟩
      · cases h

theorem whole_sound {x : Cx} {t : Ty} {cs : List C} {d : t.den} {vs : List Value} (h : t.whole cs = some d) (hr : RepCs x cs vs) : RepT x.ok x.w t d vs := by
  unfold Ty.whole at h
  split at h
  · rename_i y h1
    cases h
    obtain ⟨p, q, rfl, h2, h3⟩ := ofCells_sound t cs _ _ vs h1 hr
    rw [show q = [] from h3, List.append_nil]
    exact h2
  · cases h

theorem rep1_cells {x : Cx} {g : Bool} {cs : List C} {v : Value} (h : Rep1 x (g, cs) v) : RepCs x cs v.cells.toList := by
  cases g with
  | true => obtain ⟨vs, rfl, h2⟩ := h; exact h2
  | false =>
    have h1 : v.oneCell' = true := (RepCs.len _ _ (show RepCs x cs [v] from h)).2 v (by simp)
    have : v.cells = #[v] := by cases v <;> simp_all [Value.cells, Value.oneCell']
    rw [this]; exact h

/-! ### fill -/
theorem foldl_splice : ∀ (vs : List Value) (off k : Nat) (cells : Array Value), off + k + vs.length ≤ cells.size →
    (vs.zipIdx k).foldl (fun cs p => cs.setIfInBounds (off + p.2) p.1) cells = (cells.toList.take (off + k) ++ vs ++ cells.toList.drop (off + k + vs.length)).toArray
  | [], off, k, cells, _ => by simp
  | v :: r, off, k, cells, h => by
    have h1 : off + (k + 1) + r.length ≤ (cells.setIfInBounds (off + k) v).size := by simp at h ⊢; omega
    rw [List.zipIdx_cons, List.foldl_cons, foldl_splice r off (k + 1) _ h1]
    congr 1
    have e := list_seg_step cells.toList (off + k) v r (by simp at h ⊢; omega)
    simpa [Array.toList_setIfInBounds, Nat.add_assoc] using e

theorem fill_step {place : Nat → Option (Nat × Nat)} {cells : Array Value} {i off size : Nat} {v : Value} {rest : List (Nat × Value)} (hp : place i = some (off, size)) (hs : v.cells.size = size) (hf : off + size ≤ cells.size) :
    Instr.fill place cells ((i, v) :: rest) = Instr.fill place (cells.toList.take off ++ v.cells.toList ++ cells.toList.drop (off + size)).toArray rest := by
  subst hs
  have e := foldl_splice v.cells.toList off 0 cells (by simpa using hf)
  simp only [Nat.add_zero, Array.length_toList] at e
  simp only [Instr.fill, hp]
  rw [if_neg (by simp; omega)]
  congr 1
  rw [← Array.foldl_toList, Array.toList_zipIdx]
  exact e

theorem fillA_sound {x : Cx} {fs : List (Nat × Nat × Bool)} {ev : Operand → AV} {ρ : Operand → Value} (hev : ∀ o, RepV x (ev o) (ρ o)) :
    ∀ (parts : List (Nat × Operand)) (cs cs' : List C) (cells : Array Value), fillA fs ev cs parts = some cs' → RepCs x cs cells.toList →
      ∃ cells', Instr.fill (((fs.map fun p => (p.1, p.2.1)).toArray)[·]?) cells (parts.map fun p => (p.1, ρ p.2)) = some cells' ∧ RepCs x cs' cells'.toList
  | [], cs, cs', cells, h, hr => by
    simp [fillA] at h; subst h
    exact ⟨cells, rfl, hr⟩
  | (j, o) :: r, cs, cs', cells, h, hr => by
    unfold fillA at h
    split at h
    · rename_i off size g g' vs hf ho
      split at h
      · rename_i hc
        have ho' := hev o
        rw [ho] at ho'
        have h1 := rep1_cells ho'
        have hl := (RepCs.len _ _ h1).1
        have hl2 := (RepCs.len _ _ hr).1
        simp only [Array.length_toList] at hl hl2
        simp only [List.map_cons]
        rw [fill_step (off := off) (size := size) (by simp [hf]) (by omega) (by omega)]
        exact fillA_sound hev r _ _ _ h (RepCs.append _ _ _ _ (RepCs.append _ _ _ _ (RepCs.take _ _ _ hr) h1) (RepCs.drop _ _ _ hr))
      · cases h
    · cases h

theorem fill_wide {fs : List (Nat × Nat)} {size : Nat} (h : ∀ i p, fs[i]? = some p → p = (i * size, size)) : ∀ (parts : List (Nat × Value)) (cells cells' : Array Value), Instr.fill (fs.toArray[·]?) cells parts = some cells' → Instr.fill (fun i => some (i * size, size)) cells parts = some cells'
  | [], cells, cells', e => e
  | (i, v) :: r, cells, cells', e => by
    unfold Instr.fill at e ⊢
    cases hp : fs.toArray[i]? with
    | none => simp only [hp] at e; cases e
    | some p =>
      have hp' := h i p (by simpa using hp)
      subst hp'
      simp only [hp] at e
      simp only
      split at e
      · cases e
      · rename_i hc
        rw [if_neg hc]
        exact fill_wide h r _ _ e

theorem zeros_sound {x : Cx} : ∀ (z : List Z), z.all Z.plain = true → RepCs x (z.map Z.cell) (z.map Z.val)
  | [], _ => rfl
  | z :: r, h => by
    simp only [List.all_cons, Bool.and_eq_true] at h
    refine ⟨_, _, rfl, ?_, zeros_sound r h.2⟩
    cases z with
    | dat t => cases t <;> first | (exact ⟨rfl, rfl⟩) | (simp [Z.plain] at h)
    | nils => exact ⟨rfl, rfl⟩
    | nilp => exact ⟨rfl, rfl⟩
    | nilf => exact ⟨rfl, rfl⟩

/-- Cells of the parts, one behind the other. -/
theorem elems_sound {x : Cx} {t : Ty} {ev : Operand → AV} {ρ : Operand → Value} (hev : ∀ o, RepV x (ev o) (ρ o)) :
    ∀ (parts : List (Nat × Operand)) (k : Nat) (xs : List t.den), elems t ev k parts = some xs → xs.length = parts.length ∧
      ∀ (cells : Array Value), (k + parts.length) * t.size ≤ cells.size →
        ∃ cells', Instr.fill (fun i => some (i * t.size, t.size)) cells (parts.map fun p => (p.1, ρ p.2)) = some cells' ∧ cells'.size = cells.size ∧
          (∀ i, i < k * t.size → cells'[i]? = cells[i]?) ∧ ∀ i d, xs[i]? = some d → ∃ vs, RepT x.ok x.w t d vs ∧ ∀ j v, vs[j]? = some v → cells'[(k + i) * t.size + j]? = some v
  | [], k, xs, h => by
    simp [elems] at h; subst h
    exact ⟨rfl, fun cells _ => ⟨cells, rfl, rfl, fun _ _ => rfl, fun i d hi => by simp at hi⟩⟩
  | (j, o) :: r, k, xs, h => by
    unfold elems at h
    split at h
    · rename_i hj
      subst hj
      split at h
      · rename_i g cs ho
        split at h
        · rename_i d hd
          split at h
          · rename_i l hl
            cases h
            obtain ⟨h1, h2⟩ := elems_sound hev r (k + 1) l hl
            refine ⟨by simp [h1], fun cells hsz => ?_⟩
            have ho' := hev o
            rw [ho] at ho'
            have h3 := rep1_cells ho'
            have h4 := whole_sound hd h3
            have h5 := (RepT.len _ _ _ h4).1
            simp only [Array.length_toList] at h5
            simp only [List.length_cons] at hsz
            have hk : k * t.size + t.size ≤ cells.size := by
              have : (k + 1) * t.size ≤ (k + (r.length + 1)) * t.size := Nat.mul_le_mul_right _ (by omega)
              rw [Nat.add_mul, Nat.one_mul] at this
              omega
            simp only [List.map_cons]
            rw [fill_step (off := k * t.size) (size := t.size) rfl h5 hk]
            generalize hnew : (cells.toList.take (k * t.size) ++ (ρ o).cells.toList ++ cells.toList.drop (k * t.size + t.size)).toArray = new
            have hns : new.size = cells.size := by
              rw [← hnew]; simp [h5]; omega
            have hget : ∀ i, new[i]? = if i < k * t.size then cells[i]? else if i < k * t.size + t.size then (ρ o).cells[i - k * t.size]? else cells[i]? := by
              intro i
              rw [← hnew]
              simp only [List.getElem?_toArray, List.getElem?_append, List.length_append, List.length_take, Array.length_toList, h5]
              have e1 : min (k * t.size) cells.size = k * t.size := Nat.min_eq_left (by omega)
              rw [e1]
              by_cases hi1 : i < k * t.size
              · rw [if_pos (by omega), if_pos hi1, if_pos hi1, List.getElem?_take, if_pos hi1]; simp
              · by_cases hi2 : i < k * t.size + t.size
                · rw [if_pos hi2, if_neg hi1, if_neg hi1, if_pos hi2]; simp
                · rw [if_neg hi2, if_neg hi1, if_neg hi2, List.getElem?_drop]
                  simp only [Array.getElem?_toList]
                  congr 1
                  omega
            obtain ⟨cells', h6, h7, h8, h9⟩ := h2 new (by rw [hns]; rw [show k + 1 + r.length = k + (r.length + 1) by omega]; exact hsz)
            refine ⟨cells', h6, by rw [h7, hns], fun i hi => ?_, fun i d' hi => ?_⟩
            · rw [h8 i (by rw [Nat.add_mul, Nat.one_mul]; omega), hget, if_pos hi]
            · cases i with
              | zero =>
                simp at hi; subst hi
                refine ⟨_, h4, fun j v hj => ?_⟩
                have hjl : j < t.size := by
                  rw [← h5]
                  exact (Array.getElem?_eq_some_iff.1 (by simpa using hj)).1
                rw [Nat.add_zero, h8 _ (by rw [Nat.add_mul, Nat.one_mul]; omega), hget, if_neg (by omega), if_pos (by omega)]
                simpa [Nat.add_sub_cancel_left] using hj
              | succ i =>
                obtain ⟨vs, h10, h11⟩ := h9 i d' (by simpa using hi)
                refine ⟨vs, h10, fun j v hj => ?_⟩
                have := h11 j v hj
                rwa [show k + 1 + i = k + (i + 1) by omega] at this
          · cases h
        · cases h
      · cases h
    · cases h

end Go.Proofs.YtfgfdpbeddnfhaaGreatDoor.AI
