/- Keys: when two are the same, for the machine and for us. -/
import Derived.Test.YtiolbhmbobelcaaGreatDoorAib
import Derived.Laws.StructEq
import Derived.WideKeyRuns
set_option linter.unusedVariables false
set_option linter.unusedSimpArgs false
namespace Go.Proofs.YtiolbhmbobelcaaGreatDoor.AI
open Go

def Ty.prims : Ty → List Ty
  | .pair a b => a.prims ++ b.prims
  | t => [t]

/-- A value of one cell, of a kind that keys have. -/
def PV : Ty → Value → Prop
  | .bool, v => ∃ b, v = .bool b
  | .int k, v => ∃ n, v = .int k n
  | .str, v => ∃ s, v = .string s
  | _, _ => False

def PVs : List Ty → List Value → Prop
  | [], vs => vs = []
  | p :: ps, vs => ∃ v r, vs = v :: r ∧ PV p v ∧ PVs ps r

theorem PVs.append : ∀ {ps qs : List Ty} {vs us : List Value}, PVs ps vs → PVs qs us → PVs (ps ++ qs) (vs ++ us)
  | [], qs, vs, us, h, k => by rw [show vs = [] from h]; exact k
  | p :: ps, qs, vs, us, h, k => by
    obtain ⟨v, r, rfl, h1, h2⟩ := h
    exact ⟨v, r ++ us, rfl, h1, PVs.append h2 k⟩
theorem PVs.len : ∀ {ps : List Ty} {vs : List Value}, PVs ps vs → vs.length = ps.length
  | [], vs, h => by rw [show vs = [] from h]; rfl
  | p :: ps, vs, h => by
    obtain ⟨v, r, rfl, h1, h2⟩ := h
    simp [PVs.len h2]

theorem keyV_pv : ∀ (t : Ty) (d : t.den), t.keyTy = true → PVs t.prims (t.keyV d)
  | .bool, d, _ => ⟨_, [], rfl, ⟨_, rfl⟩, rfl⟩
  | .int k, d, _ => ⟨_, [], rfl, ⟨_, rfl⟩, rfl⟩
  | .str, d, _ => ⟨_, [], rfl, ⟨_, rfl⟩, rfl⟩
  | .pair a b, d, h => by
    simp only [Ty.keyTy, Bool.and_eq_true] at h
    exact PVs.append (keyV_pv a d.1 h.1) (keyV_pv b d.2 h.2)

theorem keyV_rep {ok : Nat → Prop} {w : World} : ∀ (t : Ty) (d : t.den) (vs : List Value), t.keyTy = true → RepT ok w t d vs → vs = t.keyV d
  | .bool, d, vs, _, h => h
  | .int k, d, vs, _, h => h
  | .str, d, vs, _, h => h
  | .pair a b, d, vs, h, hr => by
    simp only [Ty.keyTy, Bool.and_eq_true] at h
    obtain ⟨p, q, rfl, h1, h2⟩ := hr
    rw [keyV_rep a _ _ h.1 h1, keyV_rep b _ _ h.2 h2]; rfl

def valEq : Value → Value → Bool
  | .int _ a, .int _ b => a == b
  | .string a, .string b => a.toList == b.toList
  | .bool a, .bool b => a == b
  | _, _ => false
def listEq : List Value → List Value → Bool
  | [], [] => true
  | a :: l, b :: m => valEq a b && listEq l m
  | _, _ => false
theorem listEq_append : ∀ (a c b d : List Value), a.length = c.length → listEq (a ++ b) (c ++ d) = (listEq a c && listEq b d)
  | [], [], b, d, _ => rfl
  | [], _ :: _, b, d, h => by cases h
  | _ :: _, [], b, d, h => by cases h
  | x :: a, y :: c, b, d, h => by
    simp only [List.cons_append, listEq, listEq_append a c b d (by simpa using h), Bool.and_assoc]
theorem listEq_key : ∀ (t : Ty) (a b : t.den), t.keyTy = true → listEq (t.keyV a) (t.keyV b) = t.eqB a b
  | .bool, a, b, _ => by simp [Ty.keyV, Ty.eqB, listEq, valEq]
  | .int k, a, b, _ => by simp [Ty.keyV, Ty.eqB, listEq, valEq]
  | .str, a, b, _ => by simp [Ty.keyV, Ty.eqB, listEq, valEq, strEq]
  | .pair s t, a, b, h => by
    simp only [Ty.keyTy, Bool.and_eq_true] at h
    simp only [Ty.keyV, Ty.eqB]
    rw [listEq_append _ _ _ _ (by rw [(keyV_pv s a.1 h.1).len, (keyV_pv s b.1 h.1).len]), listEq_key s _ _ h.1, listEq_key t _ _ h.2]
theorem bytes_eq {a b : ByteArray} (h : a.toList = b.toList) : a = b := by
  cases a with
  | mk d => cases b with
    | mk e =>
      have h1 : d.toList = e.toList := by simpa [ByteArray.toList_eq] using h
      exact congrArg ByteArray.mk (Array.ext' h1)
theorem eqB_iff : ∀ (t : Ty) (a b : t.den), t.keyTy = true → (t.eqB a b = true ↔ a = b)
  | .bool, a, b, _ => by simp [Ty.eqB]
  | .int k, a, b, _ => by simp [Ty.eqB]
  | .str, a, b, _ => by
    simp only [Ty.eqB, strEq, beq_iff_eq]
    exact ⟨bytes_eq, fun h => by rw [h]⟩
  | .pair s t, a, b, h => by
    simp only [Ty.keyTy, Bool.and_eq_true] at h
    simp only [Ty.eqB, Bool.and_eq_true, eqB_iff s _ _ h.1, eqB_iff t _ _ h.2]
    exact ⟨fun h => Prod.ext h.1 h.2, fun h => by rw [h]; exact ⟨rfl, rfl⟩⟩

/-! ### A struct of such cells -/
def primB (P : Program) (t : TypeId) : Ty → Bool
  | .bool => match P.underlying t with | some .bool => true | _ => false
  | .int k => match P.underlying t with | some (.int k') => decide (k = k') | _ => false
  | .str => match P.underlying t with | some .string => true | _ => false
  | _ => false
def fieldsK (P : Program) : List Field → Nat → List Ty → Bool
  | [], _, [] => true
  | f :: fs, i, p :: ps => (f.name != "_") && Nat.beq f.offset i && primB P f.type p && fieldsK P fs (i + 1) ps
  | _, _, _ => false

section
variable {P : Program}
theorem prim_part {t : TypeId} {p : Ty} (h : primB P t p = true) {xs : Array Value} {off : Nat} {v : Value} (hx : xs[off]? = some v) (w : World) : (Go.part t xs off).run P w = .ok v w := by
  have hagg : (isAgg t).run P w = .ok false w := by
    unfold primB at h
    split at h
    · split at h
      · rename_i hu; simp [isAgg, run_underlying hu]
      · cases h
    · split at h
      · rename_i hu; simp [isAgg, run_underlying hu]
      · cases h
    · split at h
      · rename_i hu; simp [isAgg, run_underlying hu]
      · cases h
    · cases h
  simp only [Go.part, Sem.run_bind, hagg, Result.andThen_ok, Bool.false_eq_true, if_false, hx, Sem.run_pure]
theorem prim_eq {t : TypeId} {p : Ty} (h : primB P t p = true) {a b : Value} (ha : PV p a) (hb : PV p b) (n : Nat) (w : World) : (Op.equalIn (n + 1) t a b).run P w = .ok (valEq a b) w := by
  unfold primB at h
  split at h
  · split at h
    · rename_i hu
      obtain ⟨x, rfl⟩ := ha
      obtain ⟨y, rfl⟩ := hb
      exact run_equalIn_bool w n t x y hu
    · cases h
  · split at h
    · rename_i k hu
      obtain ⟨x, rfl⟩ := ha
      obtain ⟨y, rfl⟩ := hb
      rw [of_decide_eq_true h]
      exact run_equalIn_int w n t _ _ x y hu
    · cases h
  · split at h
    · rename_i hu
      obtain ⟨x, rfl⟩ := ha
      obtain ⟨y, rfl⟩ := hb
      exact run_equalIn_string w n t x y hu
    · cases h
  · cases h
theorem prim_check {t : TypeId} {p : Ty} (h : primB P t p = true) {a : Value} (ha : PV p a) (em : Bool) (n : Nat) (w : World) : (Instr.checkKey em (n + 1) t a).run P w = .ok () w := by
  unfold primB at h
  split at h
  · split at h
    · rename_i hu
      obtain ⟨x, rfl⟩ := ha
      simp [Instr.checkKey, run_underlying hu]
    · cases h
  · split at h
    · rename_i k hu
      obtain ⟨x, rfl⟩ := ha
      simp [Instr.checkKey, run_underlying hu]
    · cases h
  · split at h
    · rename_i hu
      obtain ⟨x, rfl⟩ := ha
      simp [Instr.checkKey, run_underlying hu]
    · cases h
  · cases h

theorem fields_eq (n : Nat) (xs ys : Array Value) (w : World) : ∀ (fs : List Field) (i : Nat) (ps : List Ty) (va vb : List Value), fieldsK P fs i ps = true → PVs ps va → PVs ps vb →
    (∀ (j : Nat) (v : Value), va[j]? = some v → xs[i + j]? = some v) → (∀ (j : Nat) (v : Value), vb[j]? = some v → ys[i + j]? = some v) → (Op.eqFields (n + 1) xs ys fs).run P w = .ok (listEq va vb) w
  | [], i, [], va, vb, _, ha, hb, _, _ => by
    rw [show va = [] from ha, show vb = [] from hb]
    simp [Op.eqFields, listEq]
  | [], _, _ :: _, _, _, h, _, _, _, _ => by cases h
  | _ :: _, _, [], _, _, h, _, _, _, _ => by cases h
  | f :: fs, i, p :: ps, va, vb, h, ha, hb, hx, hy => by
    simp only [fieldsK, Bool.and_eq_true] at h
    obtain ⟨⟨⟨h1, h2⟩, h3⟩, h4⟩ := h
    have h2 := Nat.eq_of_beq_eq_true h2
    have h1 : f.name ≠ "_" := by simpa using h1
    obtain ⟨a, ra, rfl, a1, a2⟩ := ha
    obtain ⟨b, rb, rfl, b1, b2⟩ := hb
    have ea := prim_part h3 (hx 0 a rfl) w
    have eb := prim_part h3 (hy 0 b rfl) w
    rw [Nat.add_zero, ← h2] at ea eb
    have ih := fields_eq n xs ys w fs (i + 1) ps ra rb h4 a2 b2 (fun j v hj => by have := hx (j + 1) v (by simpa using hj); rw [← this]; congr 1; omega) (fun j v hj => by have := hy (j + 1) v (by simpa using hj); rw [← this]; congr 1; omega)
    simp only [Op.eqFields]
    rw [if_pos h1]
    simp only [Sem.run_bind, ea, eb, prim_eq h3 a1 b1, Result.andThen_ok, listEq]
    cases valEq a b with
    | true => simpa using ih
    | false => simp

structure EqOk (P : Program) (t : TypeId) (kt : Ty) : Prop where
  key : kt.keyTy = true
  wide : ∃ F, P.underlying t = some (.struct F)
  guard : P.eqGuardType P.depth t = false
  check : ∀ (w : World) (em : Bool) (d : kt.den), (Instr.checkKey em 10000 t (.agg (kt.keyV d).toArray)).run P w = .ok () w
  eq : ∀ (w : World) (a b : kt.den), (Op.equalIn 10000 t (.agg (kt.keyV a).toArray) (.agg (kt.keyV b).toArray)).run P w = .ok (kt.eqB a b) w

def eqOkB (P : Program) (t : TypeId) (kt : Ty) : Bool :=
  kt.keyTy && (match P.underlying t with | some (.struct F) => fieldsK P F.toList 0 kt.prims | _ => false) && !P.stoodInHeld t && !P.eqGuardType P.depth t

theorem check_fields (em : Bool) (n : Nat) (cs : Array Value) (w : World) : ∀ (fs : List Field) (i : Nat) (ps : List Ty) (vs : List Value), fieldsK P fs i ps = true → PVs ps vs → (∀ (j : Nat) (v : Value), vs[j]? = some v → cs[i + j]? = some v) →
    (forIn fs PUnit.unit (fun f _ =>
      if f.name ≠ "_" then do
        let v ← Go.part f.type cs f.offset
        Instr.checkKey em (n + 1) f.type v
        pure (ForInStep.yield PUnit.unit)
      else pure (ForInStep.yield PUnit.unit)) : Sem PUnit).run P w = .ok PUnit.unit w
  | [], i, [], vs, _, _, _ => by simp
  | [], _, _ :: _, _, h, _, _ => by cases h
  | _ :: _, _, [], _, h, _, _ => by cases h
  | f :: fs, i, p :: ps, vs, h, hv, hx => by
    simp only [fieldsK, Bool.and_eq_true] at h
    obtain ⟨⟨⟨h1, h2⟩, h3⟩, h4⟩ := h
    have h2 := Nat.eq_of_beq_eq_true h2
    have h1 : f.name ≠ "_" := by simpa using h1
    obtain ⟨a, ra, rfl, a1, a2⟩ := hv
    have ea := prim_part h3 (hx 0 a rfl) w
    rw [Nat.add_zero, ← h2] at ea
    have ih := check_fields em n cs w fs (i + 1) ps ra h4 a2 (fun j v hj => by have := hx (j + 1) v (by simpa using hj); rw [← this]; congr 1; omega)
    simp only [List.forIn_cons, Sem.run_bind, if_pos h1, ea, prim_check h3 a1, Result.andThen_ok, Sem.run_pure]
    exact ih

theorem check_struct {t : TypeId} {F : Array Field} (hu : P.underlying t = some (.struct F)) (em : Bool) (n : Nat) (cs : Array Value) (w : World) {ps : List Ty} {vs : List Value} (h : fieldsK P F.toList 0 ps = true) (hv : PVs ps vs) (hx : ∀ (j : Nat) (v : Value), vs[j]? = some v → cs[0 + j]? = some v) :
    (Instr.checkKey em (n + 2) t (.agg cs)).run P w = .ok () w := by
  have := check_fields (P := P) em n cs w F.toList 0 ps vs h hv hx
  rw [Instr.checkKey]
  simp only [Sem.run_bind, run_underlying hu, Result.andThen_ok]
  rw [← Array.forIn_toList, this]
  rfl

theorem eqOkB_sound {t : TypeId} {kt : Ty} (h : eqOkB P t kt = true) : EqOk P t kt := by
  unfold eqOkB at h
  simp only [Bool.and_eq_true, Bool.not_eq_true'] at h
  obtain ⟨⟨⟨h1, h2⟩, h3⟩, h4⟩ := h
  split at h2
  · rename_i F hu
    refine ⟨h1, ⟨F, hu⟩, h4, fun w em d => ?_, fun w a b => ?_⟩
    · exact check_struct hu em 9998 _ w h2 (keyV_pv kt d h1) (fun j v hj => by simpa using hj)
    · have hf : P.fieldsOf t = F := by simp [Program.fieldsOf, hu]
      rw [run_equalIn_struct w 9999 t _ _ (by rw [hf]; exact hu) h3, hf]
      rw [fields_eq 9998 _ _ w F.toList 0 kt.prims _ _ h2 (keyV_pv kt a h1) (keyV_pv kt b h1) (fun j v hj => by simpa using hj) (fun j v hj => by simpa using hj), listEq_key kt a b h1]
  · cases h2
end
end Go.Proofs.YtiolbhmbobelcaaGreatDoor.AI
