/- Cells that are data. -/
import Derived.Test.YtiolbhmbobelcaaGreatDoorAid
set_option linter.unusedVariables false
set_option linter.unusedSimpArgs false
namespace Go.Proofs.YtiolbhmbobelcaaGreatDoor.AI
open Go

/-! ### Cells that are data -/
theorem one_sound {x : Cx} {t : Ty} {c : C} {d : t.den} (h : Ty.one t c = some d) {v : Value} (hr : RepC x c v) : RepT x.ok x.w t d [v] := by
  unfold Ty.one at h
  split at h
  · rename_i u y
    split at h
    · rename_i hu
      subst hu
      cases h
      exact hr.2
    · cases h
  · split at h
    · cases h
      have h2 : v = .slice none 0 0 := hr.2
      subst h2
      exact ⟨none, 0, rfl, Nat.le_refl _, fun hne => absurd rfl hne⟩
    · cases h
  · cases h

theorem ofCells_sound {x : Cx} : ∀ (t : Ty) (cs : List C) (d : t.den) (r : List C) (vs : List Value), t.ofCells cs = some (d, r) → RepCs x cs vs →
    ∃ p q, vs = p ++ q ∧ RepT x.ok x.w t d p ∧ RepCs x r q
  | .unit, cs, d, r, vs, h, hr => by
    simp [Ty.ofCells] at h; subst h
    exact ⟨[], vs, rfl, rfl, hr⟩
  | .pair a b, cs, d, r, vs, h, hr => by
    unfold Ty.ofCells at h
    split at h
    · rename_i y r1 h1
      split at h
      · rename_i z r2 h2
        cases h
        obtain ⟨p, q, rfl, h3, h4⟩ := ofCells_sound a cs y r1 vs h1 hr
        obtain ⟨p', q', rfl, h5, h6⟩ := ofCells_sound b r1 z _ q h2 h4
        exact ⟨p ++ p', q', by simp, ⟨p, p', rfl, h3, h5⟩, h6⟩
      · cases h
    · cases h
  | .rose a, cs, d, r, vs, h, hr => by
    unfold Ty.ofCells at h
    split at h
    · rename_i y c r1 h1
      split at h
      · rename_i ks h2
        cases h
        obtain ⟨p, q, rfl, h3, v, q', rfl, h5, h6⟩ := ofCells_sound a cs y _ vs h1 hr
        obtain ⟨A, n, h7, h8, h9⟩ := one_sound h2 h5
        refine ⟨p ++ [v], q', by simp, ?_, h6⟩
        -- the kids' own readings have bounds of their own: one bound for all
        have hb : ∃ N, RowT (RoseR (RepT x.ok x.w a) x.ok x.w (a.size + 1) N) x.ok x.w (a.size + 1) A ks := by
          by_cases hk : ks = []
          · exact ⟨0, fun hne => absurd hk hne⟩
          · obtain ⟨b, off, hA, hok, hx⟩ := h9 hk
            have mono : ∀ n m (r : Rose a.den) (us : List Value), n ≤ m → RoseR (RepT x.ok x.w a) x.ok x.w (a.size + 1) n r us → RoseR (RepT x.ok x.w a) x.ok x.w (a.size + 1) m r us := by
              intro n
              induction n with
              | zero => intro m r us _ h; exact h.elim
              | succ n ih =>
                intro m r us hle h
                obtain ⟨m, rfl⟩ : ∃ k, m = k + 1 := ⟨m - 1, by omega⟩
                cases r with
                | node y ks =>
                  obtain ⟨p, A, c, h1, h2, h3, h4⟩ := h
                  exact ⟨p, A, c, h1, h2, h3, h4.imp (fun r us => ih m r us (by omega)) (fun _ h => h) (fun _ _ => rfl)⟩
            have all : ∀ k, ∃ N, ∀ i y, i < k → ks[i]? = some y → ∃ us, RoseR (RepT x.ok x.w a) x.ok x.w (a.size + 1) N y us ∧ us.length = a.size + 1 ∧ ∀ j u, us[j]? = some u → x.w.cell? ⟨b, off + i * (a.size + 1) + j, none⟩ = some u := by
              intro k
              induction k with
              | zero => exact ⟨0, fun i y hi => by omega⟩
              | succ k ih =>
                obtain ⟨N, hN⟩ := ih
                cases hy : ks[k]? with
                | none =>
                  refine ⟨N, fun i y hi hiy => hN i y ?_ hiy⟩
                  rcases Nat.lt_or_ge i k with h1 | h1
                  · exact h1
                  · have : i = k := by omega
                    subst this; rw [hy] at hiy; cases hiy
                | some y =>
                  obtain ⟨us, ⟨n, hn⟩, h1, h2⟩ := hx k y hy
                  refine ⟨max N n, fun i y' hi hiy => ?_⟩
                  by_cases e : i = k
                  · subst e; rw [hy] at hiy; cases hiy
                    exact ⟨us, mono _ _ _ _ (Nat.le_max_right _ _) hn, h1, h2⟩
                  · obtain ⟨us', h3, h4, h5⟩ := hN i y' (by omega) hiy
                    exact ⟨us', mono _ _ _ _ (Nat.le_max_left _ _) h3, h4, h5⟩
            obtain ⟨N, hN⟩ := all ks.length
            exact ⟨N, fun _ => ⟨b, off, hA, hok, fun i y hi => hN i y (List.getElem?_eq_some_iff.1 hi).1 hi⟩⟩
        obtain ⟨N, hN⟩ := hb
        simp only [List.cons.injEq, and_true] at h7
        subst h7
        exact ⟨N + 1, p, A, n, rfl, h3, h8, hN⟩
      · cases h
    · cases h
  | .bool, cs, d, r, vs, h, hr => by
    cases cs with
    | nil => simp [Ty.ofCells] at h
    | cons c l =>
      simp only [Ty.ofCells] at h
      split at h
      · rename_i y h1
        cases h
        obtain ⟨v, q, rfl, h2, h3⟩ := hr
        exact ⟨[v], q, rfl, one_sound h1 h2, h3⟩
      · cases h
  | .int k, cs, d, r, vs, h, hr => by
    cases cs with
    | nil => simp [Ty.ofCells] at h
    | cons c l =>
      simp only [Ty.ofCells] at h
      split at h
      · rename_i y h1
        cases h
        obtain ⟨v, q, rfl, h2, h3⟩ := hr
        exact ⟨[v], q, rfl, one_sound h1 h2, h3⟩
      · cases h
  | .float k, cs, d, r, vs, h, hr => by
    cases cs with
    | nil => simp [Ty.ofCells] at h
    | cons c l =>
      simp only [Ty.ofCells] at h
      split at h
      · rename_i y h1
        cases h
        obtain ⟨v, q, rfl, h2, h3⟩ := hr
        exact ⟨[v], q, rfl, one_sound h1 h2, h3⟩
      · cases h
  | .str, cs, d, r, vs, h, hr => by
    cases cs with
    | nil => simp [Ty.ofCells] at h
    | cons c l =>
      simp only [Ty.ofCells] at h
      split at h
      · rename_i y h1
        cases h
        obtain ⟨v, q, rfl, h2, h3⟩ := hr
        exact ⟨[v], q, rfl, one_sound h1 h2, h3⟩
      · cases h
  | .sl t, cs, d, r, vs, h, hr => by
    cases cs with
    | nil => simp [Ty.ofCells] at h
    | cons c l =>
      simp only [Ty.ofCells] at h
      split at h
      · rename_i y h1
        cases h
        obtain ⟨v, q, rfl, h2, h3⟩ := hr
        exact ⟨[v], q, rfl, one_sound h1 h2, h3⟩
      · cases h
  | .set t, cs, d, r, vs, h, hr => by
    cases cs with
    | nil => simp [Ty.ofCells] at h
    | cons c l =>
      simp only [Ty.ofCells] at h
      split at h
      · rename_i y h1
        cases h
        obtain ⟨v, q, rfl, h2, h3⟩ := hr
        exact ⟨[v], q, rfl, one_sound h1 h2, h3⟩
      · cases h

theorem whole_sound {x : Cx} {t : Ty} {cs : List C} {d : t.den} {vs : List Value} (h : t.whole cs = some d) (hr : RepCs x cs vs) : RepT x.ok x.w t d vs := by
  unfold Ty.whole at h
  split at h
  · rename_i y h1
    cases h
    obtain ⟨p, q, rfl, h2, h3⟩ := ofCells_sound t cs _ _ vs h1 hr
    rw [show q = [] from h3, List.append_nil]
    exact h2
  · cases h


end Go.Proofs.YtiolbhmbobelcaaGreatDoor.AI
