/- A part of the proof. -/
import Derived.Test.YtefddghdaimklaaGreatDoorAiz
set_option linter.unusedVariables false
set_option linter.unusedSimpArgs false
namespace Go.Proofs.YtefddghdaimklaaGreatDoor.AI
open Go
def zB : Z → Value → Bool
 | .dat .bool, .bool b => !b
 | .dat (.int k), .int k' n => decide (k' = k) && decide (n = 0)
 | .dat (.float k), .float k' n => decide (k' = k) && Nat.beq n 0
 | .dat .str, .string s => Nat.beq s.data.size 0
 | .nils, .slice none a b => Nat.beq a 0 && Nat.beq b 0
 | .nilp, .pointer none => true
 | .nilf, .nilFunc => true
 | .nilm, .map none => true
 | .nili, .nilIface => true
 | _, _ => false
theorem fT {z : Z} {v : Value} (h : zB z v = true) : v = z.val ∧ z.plain = true ∧ v.cells = #[v] := by
 unfold zB at h
 split at h
 ·rename_i b
  cases b
  ·exact ⟨rfl, rfl, rfl⟩
  ·cases h
 ·simp only [Nt, NE] at h
  obtain ⟨rfl, rfl⟩ := h
  exact ⟨rfl, rfl, rfl⟩
 ·simp only [Nt, NE] at h
  obtain ⟨rfl, h2⟩ := h
  have := Nz h2
  subst this
  exact ⟨rfl, rfl, rfl⟩
 ·rename_i s
  have := Nz h
  have e : s = ⟨#[]⟩ := by
   cases s with
   | mk d => exact congrArg ByteArray.mk (Array.eq_empty_of_size_eq_zero this)
  subst e
  exact ⟨rfl, rfl, rfl⟩
 ·simp only [Nt] at h
  have h1 := Nz h.1
  have h2 := Nz h.2
  subst h1; subst h2
  exact ⟨rfl, rfl, rfl⟩
 ·exact ⟨rfl, rfl, rfl⟩
 ·exact ⟨rfl, rfl, rfl⟩
 ·exact ⟨rfl, rfl, rfl⟩
 ·exact ⟨rfl, rfl, rfl⟩
 ·cases h
def zsB : List Z → List Value → Bool
 | [], [] => true
 | z :: zs, v :: vs => zB z v && zsB zs vs
 | _, _ => false
theorem sy : ∀ {zs : List Z} {vs : List Value}, zsB zs vs = true → vs = zs.map Z.val ∧ zs.all Z.plain = true
 | [], [], _ => ⟨rfl, rfl⟩
 | [], _ :: _, h => by simp [zsB] at h
 | _ :: _, [], h => by simp [zsB] at h
 | z :: zs, v :: vs, h => by
  simp only [zsB, Nt] at h
  obtain ⟨h1, h2, _⟩ := fT h.1
  obtain ⟨h3, h4⟩ := sy h.2
  exact ⟨by rw [NN, ← h1, ← h3], by simp [h2, h4]⟩
def P8 (P : Program) (t : TypeId) : Option Bool :=
 (P.underlying t).map fun d => match d with
  | .struct _ | .array _ _ => true
  | _ => false
def fsB (P : Program) : List Field → List (Nat × Nat × Bool) → Bool
 | [], [] => true
 | f :: r, (off, size, g) :: s => Nat.beq f.offset off && (match P.info? f.type with | some i => Nat.beq i.size size | none => false) && (match P8 P f.type with | some b => b == g | none => false) && (g || Nat.beq size 1) && fsB P r s
 | _, _ => false
theorem kU {P : Program} : ∀ {F : List Field} {fs : List (Nat × Nat × Bool)}, fsB P F fs = true →
  F.mapM (fun f => (P.info? f.type).map fun i => (f.offset, i.size)) = some (fs.map fun p => (p.1, p.2.1)) ∧ ∀ (f off size : Nat) (g : Bool), fs[f]? = some (off, size, g) → ∃ fd, F[f]? = some fd ∧ fd.offset = off ∧ (∃ i, P.info? fd.type = some i ∧ i.size = size) ∧
    (∃ d, P.underlying fd.type = some d ∧ (match d with | .struct _ | .array _ _ => true | _ => false) = g) ∧ (g = false → size = 1)
 | [], [], _ => ⟨rfl, fun f off size g h => by simp at h⟩
 | [], _ :: _, h => by simp [fsB] at h
 | _ :: _, [], h => by simp [fsB] at h
 | f :: r, (off, size, g) :: s, h => by
  simp only [fsB, Nt, Bool.or_eq_true] at h
  obtain ⟨⟨⟨⟨h1, h2⟩, h3⟩, h4⟩, h5⟩ := h
  obtain ⟨h6, h7⟩ := kU h5
  have h1 := Nz h1
  cases hi : P.info? f.type with
  | none => rw [hi] at h2; cases h2
  | some i =>
   rw [hi] at h2
   have h2 := Nz h2
   cases hd : P.underlying f.type with
   | none => simp [P8, hd] at h3
   | some d =>
    simp only [P8, hd, Option.map_some, beq_iff_eq] at h3
    refine ⟨by simp [List.mapM_cons, hi, h6, h1, h2], fun k off' size' g' hk => ?_⟩
    cases k with
    | zero =>
     simp only [List.getElem?_cons_zero, NA, NH] at hk
     obtain ⟨rfl, rfl, rfl⟩ := hk
     refine ⟨f, rfl, h1, ⟨i, hi, h2⟩, ⟨d, hd, h3⟩, fun hg => ?_⟩
     rcases h4 with h4 | h4
     ·rw [hg] at h4; cases h4
     ·exact Nz h4
    | succ k =>
     obtain ⟨fd, q1, q2⟩ := h7 k off' size' g' (by simpa using hk)
     exact ⟨fd, by simpa using q1, q2⟩
def QA (P : Program) (t : TypeId) (d : TD) : Bool :=
 match P.underlying t with
 | some (.int k) => (match d with | .int k' => decide (k = k') | _ => false)
 | some .bool => (match d with | .bool => true | _ => false)
 | some (.float k) => (match d with | .float k' => decide (k = k') | _ => false)
 | some .string => (match d with | .str => true | _ => false)
 | some (.struct F) => (match d with | .struct fs eq => fsB P F.toList fs && (match eq with | some kt => YQ P t kt | none => true) | _ => false)
 | some (.map k e) => (match d with | .map k' kt => Nat.beq k k' && YQ P k kt && (match P.info? e with | some i => (match i.zero with | some (.agg cs) => Nat.beq cs.size 0 | _ => false) | none => false) | .tab z => (match P.underlying k with | some .string => true | _ => false) && (match P.info? e with | some i => (match i.zero with | some (.agg cs) => zsB z cs.toList && z.all (fun q => match q with | .nilf => true | _ => false) | _ => false) | none => false) | _ => false)
 | some (.slice e) => (match d with | .slice e' => Nat.beq e e' | _ => false)
 | some (.pointer _) => (match d with | .ptr => true | _ => false)
 | some (.func _ _ _) => (match d with | .func => true | _ => false)
 | some (.interface _) => (match d with | .iface => true | _ => false)
 | some (.array n e) => (match d with | .arr n' e' => Nat.beq n n' && Nat.beq e e' | _ => false)
 | _ => false
def SI (P : Program) (t : TypeId) (ti : TI) : Bool :=
 (match P.info? t with
  | none => false
  | some i => Nat.beq i.size ti.size && Nat.beq i.bytes ti.bytes && (match i.zero with
   | some (.agg cs) => ti.d.agg && zsB ti.zero cs.toList
   | some v => !ti.d.agg && zsB ti.zero [v]
   | none => false)) && Nat.beq ti.zero.length ti.size && (ti.d.agg || Nat.beq ti.size 1) &&
  (match ti.ty with
   | some ty => Nat.beq ty.size ti.size
   | none => true) && QA P t ti.d
theorem iY {P : Program} {t : TypeId} {ti : TI} (h : SI P t ti = true) : TyOk P t ti := by
 unfold SI at h
 simp only [Nt] at h
 obtain ⟨⟨⟨⟨h1, h2⟩, h3⟩, h4⟩, h5⟩ := h
 have h2 := Nz h2
 have h3' : ti.d.agg = false → ti.size = 1 := fun ha => by
  rw [ha] at h3
  exact Nz (by simpa using h3)
 refine ⟨?_, h3', fun ty hty => ?_, ?_⟩
 ·split at h1
  ·cases h1
  ·rename_i i hi
   simp only [Nt] at h1
   obtain ⟨⟨q1, q2⟩, q3⟩ := h1
   have q1 := Nz q1
   have q2 := Nz q2
   split at q3
   ·rename_i cs hz
    simp only [Nt] at q3
    obtain ⟨r1, r2⟩ := sy q3.2
    have : cs = (ti.zero.map Z.val).toArray := by rw [← r1]
    exact ⟨i, _, hi, q1, q2, hz, by rw [this]; rfl, r2, h2, fun _ => by rw [this]⟩
   ·rename_i v hna hz
    simp only [Nt, Bool.not_eq_true'] at q3
    obtain ⟨r1, r2⟩ := sy q3.2
    refine ⟨i, v, hi, q1, q2, hz, ?_, r2, h2, fun ha => by rw [q3.1] at ha; cases ha⟩
    rw [← r1]
    cases hzz : ti.zero with
    | nil => rw [hzz] at r1; cases r1
    | cons z zs =>
     rw [hzz] at q3
     simp only [zsB, Nt] at q3
     exact (fT q3.2.1).2.2
   ·cases q3
 ·rw [hty] at h4
  have h4 := Nz h4
  exact ⟨h4, fun ha => by rw [h4]; exact h3' ha⟩
 ·unfold QA at h5
  split at h5
  ·rename_i k hu
   split at h5
   ·rename_i k' hd; rw [NK h5] at hu; rw [hd]; exact hu
   ·cases h5
  ·rename_i hu
   split at h5
   ·rename_i hd; rw [hd]; exact hu
   ·cases h5
  ·rename_i k hu
   split at h5
   ·rename_i k' hd; rw [NK h5] at hu; rw [hd]; exact hu
   ·cases h5
  ·rename_i hu
   split at h5
   ·rename_i hd; rw [hd]; exact hu
   ·cases h5
  ·rename_i F hu
   split at h5
   ·rename_i fs eq hd
    rw [Nt] at h5
    obtain ⟨q1, q2⟩ := kU h5.1
    rw [hd]
    refine ⟨⟨F, hu, q1, fun f off size g hf => by
     obtain ⟨fd, r1, r2⟩ := q2 f off size g hf
     exact ⟨fd, by simpa using r1, r2⟩⟩, fun kt hkt => ?_⟩
    subst hkt
    exact oL h5.2
   ·cases h5
  ·rename_i k e hu
   split at h5
   ·rename_i k' kt hd
    simp only [Nt] at h5
    obtain ⟨⟨q1, q2⟩, q3⟩ := h5
    have q1 := Nz q1
    subst q1
    rw [hd]
    refine ⟨e, hu, oL q2, fun w => ?_⟩
    split at q3
    ·rename_i i hi
     split at q3
     ·rename_i cs hz
      have := Array.eq_empty_of_size_eq_zero (Nz q3)
      subst this
      simp [zeroValue, typeInfo, hi, hz]
     ·cases q3
    ·cases q3
   ·rename_i z hd
    simp only [Nt] at h5
    obtain ⟨q1, q3⟩ := h5
    rw [hd]
    have hks : P.underlying k = some .string := by
     split at q1
     ·assumption
     ·cases q1
    split at q3
    ·rename_i i hi
     split at q3
     ·rename_i cs hz
      simp only [Nt] at q3
      obtain ⟨r1, r2⟩ := sy q3.1
      have hall : ∀ q ∈ z, q = Z.nilf := fun q hq => by
       have := Nw.1 q3.2 q hq
       cases q <;> first | rfl | (simp at this)
      have e1 : (z.map Z.cell).map fnV = z.map Z.val := by
       rw [List.map_map]
       exact List.map_congr_left fun q hq => by rw [hall q hq]; rfl
      have e2 : (z.map Z.cell).all fnB = true := by
       rw [List.all_map, Nw]
       intro q hq
       rw [hall q hq]; rfl
      refine ⟨k, e, hu, hks, fun w => ?_, e2⟩
      rw [e1, ← r1]
      simp [zeroValue, typeInfo, hi, hz]
     ·cases q3
    ·cases q3
   ·cases h5
  ·rename_i e hu
   split at h5
   ·rename_i e' hd; rw [Nz h5] at hu; rw [hd]; exact hu
   ·cases h5
  ·rename_i e hu
   split at h5
   ·rename_i hd; rw [hd]; exact ⟨e, hu⟩
   ·cases h5
  ·rename_i a b c hu
   split at h5
   ·rename_i hd; rw [hd]; exact ⟨a, b, c, hu⟩
   ·cases h5
  ·rename_i ms hu
   split at h5
   ·rename_i hd; rw [hd]; exact ⟨ms, hu⟩
   ·cases h5
  ·rename_i n e hu
   split at h5
   ·rename_i n' e' hd
    rw [Nt] at h5
    rw [Nz h5.1, Nz h5.2] at hu
    rw [hd]; exact hu
   ·cases h5
  ·cases h5
def Q7 (l : List (TypeId × TI)) (t : TypeId) : Option TI :=
 match l with
 | [] => none
 | p :: r => bif Nat.beq p.1 t then some p.2 else Q7 r t
theorem bW {P : Program} : ∀ {l : List (TypeId × TI)}, (l.all fun p => SI P p.1 p.2) = true → TOk P (Q7 l)
 | [], _, t, ti, h => by cases h
 | p :: r, hl, t, ti, h => by
  simp only [List.all_cons, Nt] at hl
  unfold Q7 at h
  cases hb : Nat.beq p.1 t with
  | true =>
   rw [hb] at h
   have := Nz hb
   subst this
   cases h
   exact iY hl.1
  | false =>
   rw [hb] at h
   exact bW hl.2 t ti h
def xW (l : List (FuncId × Func)) (f : FuncId) : Option Func :=
 match l with
 | [] => none
 | p :: r => bif Nat.beq p.1 f then some p.2 else xW r f
def Rh (env : FuncId → Option Con) (ann : FuncId → Nat → Ann) (f : FuncId) (fn : Func) : Bool :=
 !(fn.name == "runtime.NumGoroutine") && (match fn.body with
  | some c => yv env (ann f) c
  | none => true)
theorem zm {P : Program} {env : FuncId → Option Con} {ann : FuncId → Nat → Ann} : ∀ {l : List (FuncId × Func)}, (∀ p ∈ l, P.funcs[p.1]? = some p.2) → (l.all fun p => Rh env ann p.1 p.2) = true → xc P env ann (xW l)
 | [], _, _, f, fn, h => by cases h
 | p :: r, hp, hl, f, fn, h => by
  simp only [List.all_cons, Nt] at hl
  unfold xW at h
  cases hb : Nat.beq p.1 f with
  | true =>
   rw [hb] at h
   have := Nz hb
   subst this
   cases h
   have h1 := hl.1
   simp only [Rh, Nt, Bool.not_eq_true'] at h1
   refine ⟨hp p (by simp), h1.1, ?_⟩
   have h2 := h1.2
   split at h2
   ·rename_i c hc; rw [hc]; exact h2
   ·rename_i hc; rw [hc]; trivial
  | false =>
   rw [hb] at h
   exact zm (fun q hq => hp q (by simp [hq])) hl.2 f fn h
end Go.Proofs.YtefddghdaimklaaGreatDoor.AI
