/- A part of the proof. -/
import Derived.Test.YtefddghdaimklaaGreatDoorAij
set_option linter.unusedVariables false
set_option linter.unusedSimpArgs false
namespace Go.Proofs.YtefddghdaimklaaGreatDoor.AI
open Go
section
variable {P : Program} {T : TypeId → Option TI}
theorem mf {x : Cx} {t : Ty} {xs : List t.den} {A : Option Addr} {c l h : Nat} (h1 : xs.length ≤ c) (h2 : RowT (RepT x.ok x.w t) x.ok x.w t.size A xs) (hlh : l ≤ h) (hh : h ≤ xs.length) :
  RepT x.ok x.w (.sl t) ((xs.take h).drop l) [.slice (if c = l then A else A.map (·.add (l * t.size))) (h - l) (c - l)] := by
 have hlen : ((xs.take h).drop l).length = h - l := by simp [Nat.min_eq_left hh]
 refine ⟨_, c - l, by rw [hlen], by rw [hlen]; omega, fun hne => ?_⟩
 have hpos : l < h := by
  have := List.length_pos_iff.2 hne; rw [hlen] at this; omega
 obtain ⟨b, off, rfl, h3, h4⟩ := h2 (fun e => by subst e; simp at hh; omega)
 refine ⟨b, off + l * t.size, by rw [if_neg (by omega)]; simp [sC], h3, fun i d hi => ?_⟩
 rw [List.getElem?_drop, List.getElem?_take] at hi
 split at hi
 ·obtain ⟨vs, h5, h6, h7⟩ := h4 (l + i) d hi
  refine ⟨vs, h5, h6, fun j v hj => ?_⟩
  have := h7 j v hj
  rw [Nat.add_mul] at this
  rw [← this]; congr 2; omega
 ·cases hi
theorem xy {t e : TypeId} {te : TI} (hT : TOk P T) (ht : P.underlying t = some (.slice e)) (hte : T e = some te) (A : Option Addr) (len cap : Nat) (hlc : len ≤ cap) (lo hi : Option Int) (klo khi : IntKind)
  (l h : Nat) (hl : l = (lo.map Int.toNat).getD 0) (hh : h = (hi.map Int.toNat).getD len) (h0 : ∀ a, lo = some a → 0 ≤ a) (h1 : ∀ b, hi = some b → 0 ≤ b) (hlh : l ≤ h) (hhl : h ≤ cap) (w : World) :
  (Instr.sliceAt t (.slice A len cap) (lo.map (.int klo)) (hi.map (.int khi)) none).run P w = .ok (.slice (if cap = l then A else A.map (·.add (l * te.size))) (h - l) (cap - l)) w := by
 have hsz := fun w => vS (hT _ _ hte) w
 cases lo with
 | none =>
  cases hi with
  | none => simp at hl hh; subst hl hh; simp [Instr.sliceAt, Instr.slice, run_underlying ht, Instr.sliceBounds, hsz]
  | some b =>
   have := h1 b rfl
   simp at hl hh; subst hl hh
   simp [Instr.sliceAt, Instr.slice, run_underlying ht, Instr.sliceBounds, Instr.sliceBound, asIntOf, hsz, this, show b ≤ (cap : Int) by omega]
 | some a =>
  have ha := h0 a rfl
  cases hi with
  | none =>
   simp at hl hh; subst hl hh
   simp [Instr.sliceAt, Instr.slice, run_underlying ht, Instr.sliceBounds, Instr.sliceBound, asIntOf, hsz, ha, show a ≤ (h : Int) by omega]
  | some b =>
   have := h1 b rfl
   simp at hl hh; subst hl hh
   simp [Instr.sliceAt, Instr.slice, run_underlying ht, Instr.sliceBounds, Instr.sliceBound, asIntOf, hsz, this, show b ≤ (cap : Int) by omega, ha, show ¬ (max b 0 < a) by omega]
theorem kY (hT : TOk P T) {x : Cx} (hI : Inv x) {t e : TypeId} {te : TI} (ht : P.underlying t = some (.slice e)) (hte : T e = some te) {c : C} {lo hi : Option Int} {v : AV} {H' : List Ob}
  (h : uk te.size x.H c lo hi (fun v h => some (v, h)) = some (v, H')) {p : Value} (hp : RepC x c p) (klo khi : IntKind) :
  ∃ u, (Instr.sliceAt t p (lo.map (.int klo)) (hi.map (.int khi)) none).run P x.w = .ok u x.w ∧ H' = x.H ∧ RepV x v u := by
 unfold uk at h
 split at h
 ·rename_i ty xs
  split at h
  ·rename_i hs
   obtain ⟨A, cc, h1, h2, h3⟩ := hp.2
   simp only [List.cons.injEq, and_true] at h1
   subst h1
   split at h
   ·simp only [NA, NH] at h
    obtain ⟨rfl, rfl⟩ := h
    refine ⟨_, xy hT ht hte A xs.length cc h2 none none klo khi 0 xs.length rfl rfl (fun _ h => by cases h) (fun _ h => by cases h) (by omega) h2 _, rfl, zF ⟨rfl, ?_⟩⟩
    have := mf (x := x) (l := 0) (h := xs.length) h2 h3 (by omega) (NF _)
    rw [hs] at this
    show RepT x.ok x.w (.sl ty) xs [_]
    simpa using this
   ·rename_i a
    cases hb : (decide (0 ≤ a) && decide (a ≤ (xs.length : Int))) with
    | false => simp [hb] at h
    | true =>
     simp only [hb, Nv, NA, NH] at h
     obtain ⟨rfl, rfl⟩ := h
     simp only [Nt, NE] at hb
     refine ⟨_, xy hT ht hte A xs.length cc h2 (some a) none klo khi a.toNat xs.length rfl rfl (fun _ h => by cases h; exact hb.1) (fun _ h => by cases h) (by omega) h2 _, rfl, zF ⟨rfl, ?_⟩⟩
     have := mf (x := x) (l := a.toNat) (h := xs.length) h2 h3 (by omega) (NF _)
     rw [hs, NI] at this
     exact this
   ·rename_i b
    cases hb : (decide (0 ≤ b) && decide (b ≤ (xs.length : Int))) with
    | false => simp [hb] at h
    | true =>
     simp only [hb, Nv, NA, NH] at h
     obtain ⟨rfl, rfl⟩ := h
     simp only [Nt, NE] at hb
     refine ⟨_, xy hT ht hte A xs.length cc h2 none (some b) klo khi 0 b.toNat rfl rfl (fun _ h => by cases h) (fun _ h => by cases h; exact hb.1) (by omega) (by omega) _, rfl, zF ⟨rfl, ?_⟩⟩
     have := mf (x := x) (l := 0) (h := b.toNat) h2 h3 (by omega) (by omega)
     rw [hs] at this
     exact this
   ·rename_i a b
    cases hb : ((decide (0 ≤ b) && decide (b ≤ (xs.length : Int))) && (decide (0 ≤ a) && decide (a ≤ b))) with
    | false => simp [hb] at h
    | true =>
     simp only [hb, Nv, NA, NH] at h
     obtain ⟨rfl, rfl⟩ := h
     simp only [Nt, NE] at hb
     refine ⟨_, xy hT ht hte A xs.length cc h2 (some a) (some b) klo khi a.toNat b.toNat rfl rfl (fun _ h => by cases h; exact hb.2.1) (fun _ h => by cases h; exact hb.1.1) (by omega) (by omega) _, rfl, zF ⟨rfl, ?_⟩⟩
     have := mf (x := x) (l := a.toNat) (h := b.toNat) h2 h3 (by omega) (by omega)
     rw [hs] at this
     exact this
  ·cases h
 ·rename_i id n
  split at h
  ·rename_i e' ty xs hx
   split at h
   ·rename_i hs
    have hq := hp.2
    simp only [zV, hx] at hq
    obtain ⟨hn, hq⟩ := hq
    have key : ∀ (b : Nat) (hi : Option Int), b = (hi.map Int.toNat).getD n → (∀ q, hi = some q → 0 ≤ q) → b ≤ n →
      ∃ u, (Instr.sliceAt t p none (hi.map (.int khi)) none).run P x.w = .ok u x.w ∧ RepV x (.val false [.own id b]) u := by
     intro b hi hb h0 hbn
     cases hat : x.at_ id with
     | none =>
      simp only [hat] at hq
      obtain ⟨⟨A, rfl⟩, rfl⟩ := hq
      have hb0 : b = 0 := by omega
      subst hb0
      refine ⟨_, xy hT ht hte A 0 0 (NF _) none hi klo khi 0 0 rfl hb (fun _ h => by cases h) h0 (by omega) (by omega) _, zF ⟨rfl, ?_⟩⟩
      exact oZ hx hat
     | some bl =>
      simp only [hat] at hq
      obtain ⟨cc, rfl, h1, h2, h3⟩ := hq
      refine ⟨_, xy hT ht hte (some ⟨bl, 0, none⟩) n cc h1 none hi klo khi 0 b rfl hb (fun _ h => by cases h) h0 (by omega) (by omega) _, zF ⟨rfl, ?_⟩⟩
      have : (if cc = 0 then some (⟨bl, 0, none⟩ : Addr) else (some (⟨bl, 0, none⟩ : Addr)).map (·.add (0 * te.size))) = some ⟨bl, 0, none⟩ := by
       split <;> simp [Addr.add]
      rw [this, Nat.sub_zero, Nat.sub_zero]
      exact rh hx hat (by omega) (by omega) h2 h3
    split at h
    ·simp only [NA, NH] at h
     obtain ⟨rfl, rfl⟩ := h
     obtain ⟨u, h1, h2⟩ := key n none rfl (fun _ h => by cases h) (NF _)
     exact ⟨u, h1, rfl, h2⟩
    ·rename_i b
     cases hb : (decide (0 ≤ b) && decide (b ≤ (n : Int))) with
     | false => simp [hb] at h
     | true =>
      simp only [hb, Nv, NA, NH] at h
      obtain ⟨rfl, rfl⟩ := h
      simp only [Nt, NE] at hb
      obtain ⟨u, h1, h2⟩ := key b.toNat (some b) rfl (fun _ h => by cases h; exact hb.1) (by omega)
      exact ⟨u, h1, rfl, h2⟩
    ·cases h
   ·cases h
  ·cases h
 ·split at h
  ·rename_i b
   cases hb : decide (b = 0) with
   | false => simp [hb] at h
   | true =>
    simp only [hb, Nv, NA, NH] at h
    obtain ⟨rfl, rfl⟩ := h
    have hb0 : b = 0 := NK hb
    subst hb0
    have h2 : p = .slice none 0 0 := hp.2
    subst h2
    exact ⟨_, xy hT ht hte none 0 0 (NF _) none (some 0) klo khi 0 0 rfl rfl (fun _ h => by cases h) (fun _ h => by cases h; omega) (by omega) (by omega) _, rfl, zF ⟨rfl, rfl⟩⟩
  ·cases h
 ·cases h
theorem jA (hT : TOk P T) {x : Cx} (hI : Inv x) {t e : TypeId} {te : TI} (ht : P.underlying t = some (.slice e)) (hte : T e = some te) {id n : Nat} {b : Int} {v : AV} {H' : List Ob}
  (h : uk te.size x.H (.own id n) none (some b) (fun v h => some (v, h)) = some (v, H')) {p : Value} (hp : RepC x (.own id n) p) (khi kmx : IntKind) :
  ∃ u, (Instr.sliceAt t p none (some (.int khi b)) (some (.int kmx b))).run P x.w = .ok u x.w ∧ H' = x.H ∧ RepV x v u := by
 unfold uk at h
 simp only at h
 split at h
 ·rename_i e' ty xs hx
  split at h
  ·rename_i hs
   have hsz := fun w => vS (hT _ _ hte) w
   cases hb : (decide (0 ≤ b) && decide (b ≤ (n : Int))) with
   | false => simp [hb] at h
   | true =>
    simp only [hb, Nv, NA, NH] at h
    obtain ⟨rfl, rfl⟩ := h
    simp only [Nt, NE] at hb
    have hq := hp.2
    simp only [zV, hx] at hq
    obtain ⟨hn, hq⟩ := hq
    cases hat : x.at_ id with
    | none =>
     simp only [hat] at hq
     obtain ⟨⟨A, rfl⟩, rfl⟩ := hq
     have hb0 : b = 0 := by omega
     subst hb0
     refine ⟨.slice A 0 0, ?_, rfl, zF ⟨rfl, oZ hx hat⟩⟩
     cases A <;> simp [Instr.sliceAt, Instr.slice, run_underlying ht, Instr.sliceBounds, Instr.sliceBound, asIntOf, hsz]
    | some bl =>
     simp only [hat] at hq
     obtain ⟨cc, rfl, h1, h2, h3⟩ := hq
     refine ⟨.slice (some ⟨bl, 0, none⟩) b.toNat b.toNat, ?_, rfl, zF ⟨rfl, rh hx hat (by omega) (NF _) (by omega) (fun cur e2 fr hc => Nat.le_trans (NP _ (by omega)) (h3 cur e2 fr hc))⟩⟩
     have e1 : b ≤ (cc : Int) := by omega
     simp [Instr.sliceAt, Instr.slice, run_underlying ht, Instr.sliceBounds, Instr.sliceBound, asIntOf, hsz, hb.1, e1, show ¬ (max b 0 < b) by omega, Addr.add]
  ·cases h
 ·cases h
theorem jE {x : Cx} (w : World) {t e : TypeId} {te : TI} (hT : TOk P T) (ht : P.underlying t = some (.slice e)) (hte : T e = some te) {u : Ty} {xs : List u.den} {p : Value} (hp : RepC x (.sc (.sl u) xs) p) (khi kmx : IntKind) :
  ∃ A, (Instr.sliceAt t p none (some (.int khi 0)) (some (.int kmx 0))).run P w = .ok (.slice A 0 0) w := by
 obtain ⟨A, c, h1, h2, h3⟩ := hp.2
 simp only [List.cons.injEq, and_true] at h1
 subst h1
 have hsz := fun w => vS (hT _ _ hte) w
 cases A with
 | none => exact ⟨_, by simp [Instr.sliceAt, Instr.slice, run_underlying ht, Instr.sliceBounds, Instr.sliceBound, asIntOf, hsz]; rfl⟩
 | some a => exact ⟨_, by simp [Instr.sliceAt, Instr.slice, run_underlying ht, Instr.sliceBounds, Instr.sliceBound, asIntOf, hsz]; rfl⟩
theorem ku {x : Cx} {t : TypeId} (ht : P.underlying t = some .string) {s : ByteArray} {lo hi : Option Int} {v : AV} {H' : List Ob}
  (h : sB x.H s lo hi (fun v h => some (v, h)) = some (v, H')) (klo khi : IntKind) :
  ∃ u, (Instr.sliceAt t (.string s) (lo.map (.int klo)) (hi.map (.int khi)) none).run P x.w = .ok u x.w ∧ H' = x.H ∧ RepV x v u := by
 unfold sB at h
 split at h
 ·simp only [NA, NH] at h
  obtain ⟨rfl, rfl⟩ := h
  refine ⟨.string (s.extract 0 s.size), by simp [Instr.sliceAt, Instr.slice, run_underlying ht, Instr.sliceBounds], rfl, ?_⟩
  have : s.extract 0 s.size = s := by simp
  rw [this]; exact xG _
 ·rename_i a
  cases hb : (decide (0 ≤ a) && decide (a ≤ (s.size : Int))) with
  | false => simp [hb] at h
  | true =>
   simp only [hb, Nv, NA, NH] at h
   obtain ⟨rfl, rfl⟩ := h
   simp only [Nt, NE] at hb
   exact ⟨_, by simp [Instr.sliceAt, Instr.slice, run_underlying ht, Instr.sliceBounds, Instr.sliceBound, asIntOf, hb.1, hb.2], rfl, xG _⟩
 ·rename_i b
  cases hb : (decide (0 ≤ b) && decide (b ≤ (s.size : Int))) with
  | false => simp [hb] at h
  | true =>
   simp only [hb, Nv, NA, NH] at h
   obtain ⟨rfl, rfl⟩ := h
   simp only [Nt, NE] at hb
   exact ⟨_, by simp [Instr.sliceAt, Instr.slice, run_underlying ht, Instr.sliceBounds, Instr.sliceBound, asIntOf, hb.1, hb.2], rfl, xG _⟩
 ·rename_i a b
  cases hb : ((decide (0 ≤ b) && decide (b ≤ (s.size : Int))) && (decide (0 ≤ a) && decide (a ≤ b))) with
  | false => simp [hb] at h
  | true =>
   simp only [hb, Nv, NA, NH] at h
   obtain ⟨rfl, rfl⟩ := h
   simp only [Nt, NE] at hb
   have e1 : a ≤ (b.toNat : Int) := by omega
   exact ⟨_, by simp [Instr.sliceAt, Instr.slice, run_underlying ht, Instr.sliceBounds, Instr.sliceBound, asIntOf, hb.1.1, hb.1.2, hb.2.1, show ¬ (max b 0 < a) by omega], rfl, xG _⟩
theorem kz {t : TypeId} (ht : P.underlying t = some .string) {s : ByteArray} {n : Int} (h0 : 0 ≤ n) (h1 : n < (s.size : Int)) (k : IntKind) (w : World) :
  (Instr.index t (.string s) (.int k n)).run P w = .ok (.int .u8 (z7 s n)) w := by
 have hlt : n.toNat < s.size := by omega
 simp [Instr.index, asIntOf, run_underlying ht, h0, z7, hlt]
end
end Go.Proofs.YtefddghdaimklaaGreatDoor.AI
