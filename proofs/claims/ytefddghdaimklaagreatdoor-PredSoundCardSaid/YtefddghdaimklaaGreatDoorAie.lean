/- A part of the proof. -/
import Derived.Test.YtefddghdaimklaaGreatDoorAkb
import Derived.Deep.Draws
import Derived.Laws.BytesString
set_option linter.unusedVariables false
set_option linter.unusedSimpArgs false
namespace Go.Proofs.YtefddghdaimklaaGreatDoor.AI
open Go
def Ty.zeroV : Ty → Value
 | .bool => .bool false
 | .int k => .int k 0
 | .float k => .float k 0
 | .str => .string ⟨#[]⟩
 | _ => .slice none 0 0
def Z.val : Z → Value
 | .dat t => t.zeroV
 | .nils => .slice none 0 0
 | .nilp => .pointer none
 | .nilf => .nilFunc
 | .nilm => .map none
 | .nili => .nilIface
def Z.plain : Z → Bool
 | .dat t => match t with
  | .bool | .int _ | .float _ | .str => true
  | _ => false
 | _ => true
structure TyOk (P : Program) (t : TypeId) (ti : TI) : Prop where
 info : ∃ i z, P.info? t = some i ∧ i.size = ti.size ∧ i.bytes = ti.bytes ∧ i.zero = some z ∧ z.cells = (ti.zero.map Z.val).toArray ∧ ti.zero.all Z.plain = true ∧ ti.zero.length = ti.size ∧ (ti.d.agg = true → z = .agg (ti.zero.map Z.val).toArray)
 one : ti.d.agg = false → ti.size = 1
 ty : ∀ ty, ti.ty = some ty → ty.size = ti.size ∧ (ti.d.agg = false → ty.size = 1)
 desc : match ti.d with
  | .int k => P.underlying t = some (.int k)
  | .bool => P.underlying t = some .bool
  | .float k => P.underlying t = some (.float k)
  | .str => P.underlying t = some .string
  | .struct fs eq => (∃ F, P.underlying t = some (.struct F) ∧ F.toList.mapM (fun f => (P.info? f.type).map fun i => (f.offset, i.size)) = some (fs.map fun p => (p.1, p.2.1)) ∧ ∀ (f off size : Nat) (g : Bool), fs[f]? = some (off, size, g) → ∃ fd, F[f]? = some fd ∧ fd.offset = off ∧ (∃ i, P.info? fd.type = some i ∧ i.size = size) ∧
    (∃ d, P.underlying fd.type = some d ∧ (match d with | .struct _ | .array _ _ => true | _ => false) = g) ∧ (g = false → size = 1)) ∧ ∀ kt, eq = some kt → EqOk P t kt
  | .map k kt => ∃ e, P.underlying t = some (.map k e) ∧ EqOk P k kt ∧ ∀ w : World, (zeroValue e).run P w = .ok (.agg #[]) w
  | .tab z => ∃ k e, P.underlying t = some (.map k e) ∧ P.underlying k = some .string ∧ (∀ w : World, (zeroValue e).run P w = .ok (.agg ((z.map Z.cell).map fnV).toArray) w) ∧ (z.map Z.cell).all fnB = true
  | .slice e => P.underlying t = some (.slice e)
  | .ptr => ∃ e, P.underlying t = some (.pointer e)
  | .func => ∃ a b c, P.underlying t = some (.func a b c)
  | .iface => ∃ ms, P.underlying t = some (.interface ms)
  | .arr n e => P.underlying t = some (.array n e)
def TOk (P : Program) (T : TypeId → Option TI) : Prop := ∀ t ti, T t = some ti → TyOk P t ti
section
variable {P : Program} {T : TypeId → Option TI}
theorem jC {t : TypeId} {ti : TI} (h : TyOk P t ti) (w : World) : (isAgg t).run P w = .ok ti.d.agg w := by
 have hd := h.desc
 cases hti : ti.d <;> simp only [hti] at hd <;> simp only [TD.agg]
 case struct fs eq => obtain ⟨⟨F, hF, _⟩, _⟩ := hd; simp [isAgg, run_underlying hF]
 case map k kt => obtain ⟨e, he, _⟩ := hd; simp [isAgg, run_underlying he]
 case tab z => obtain ⟨k, e, he, _⟩ := hd; simp [isAgg, run_underlying he]
 case ptr => obtain ⟨e, he⟩ := hd; simp [isAgg, run_underlying he]
 case iface => obtain ⟨e, he⟩ := hd; simp [isAgg, run_underlying he]
 case func => obtain ⟨a, b, c, he⟩ := hd; simp [isAgg, run_underlying he]
 all_goals simp [isAgg, run_underlying hd]
theorem vS {t : TypeId} {ti : TI} (h : TyOk P t ti) (w : World) : (sizeOf t).run P w = .ok ti.size w := by
 obtain ⟨i, z, h1, h2, _⟩ := h.info
 simp [sizeOf, typeInfo, h1, h2]
theorem sC (b o n : Nat) : (⟨b, o, none⟩ : Addr).add n = ⟨b, o + n, none⟩ := by
 unfold Addr.add; split <;> simp_all
theorem wR {x : Cx} {t : TypeId} {ti : TI} (h : TyOk P t ti) {b o : Nat} {us : List Value} (hl : us.length = ti.size)
  (hc : ∀ j u, us[j]? = some u → x.w.cell? ⟨b, o + j, none⟩ = some u) {cs : List C} (hr : RepCs x cs us) :
  ∃ u, (loadVar t ⟨b, o, none⟩).run P x.w = .ok u x.w ∧ Rep1 x (ti.d.agg, cs) u := by
 have hcells := run_loadCells_list (P := P) x.w ⟨b, o, none⟩ us (fun j v hj => by rw [sC]; exact hc j v hj)
 cases hg : ti.d.agg with
 | true =>
  refine ⟨.agg us.toArray, ?_, us.toArray, rfl, by simpa using hr⟩
  simp [loadVar, jC h, hg, vS h, ← hl, hcells]
 | false =>
  have h1 := h.one hg
  rw [h1] at hl
  match us, hl with
  | [u], _ =>
   refine ⟨u, ?_, hr⟩
   have := hc 0 u rfl
   rw [Nat.add_zero] at this
   simp [loadVar, jC h, hg, load, Sem.run, this]
theorem s7 {α : Type} (l : List α) (o n j : Nat) (hj : j < n) : ((l.drop o).take n)[j]? = l[o + j]? := by
 rw [List.getElem?_take, if_pos hj, List.getElem?_drop]
theorem tc {x : Cx} {g : Bool} {off size : Nat} {cs : List C} {v : AV} (h : part g off size cs = some v) {us : List Value} (hr : RepCs x cs us) :
  ∃ ps qs, v = .val g ps ∧ RepCs x ps qs ∧ qs.length = size ∧ (∀ j u, qs[j]? = some u → us[off + j]? = some u) ∧ qs = (us.drop off).take size := by
 unfold part at h
 simp only at h
 split at h
 ·rename_i hl
  cases h
  have h2 := RepCs.take size _ _ (RepCs.drop off _ _ hr)
  refine ⟨_, _, rfl, h2, ?_, fun j u hj => ?_, rfl⟩
  ·rw [(RepCs.len _ _ h2).1]; exact hl
  ·have hjl : j < size := by
    rcases Nat.lt_or_ge j size with h3 | h3
    ·exact h3
    ·rw [List.getElem?_eq_none (by simp; omega)] at hj; cases hj
   rwa [s7 _ _ _ _ hjl] at hj
 ·cases h
theorem rO {α : Type} (l : List α) (i : Nat) (d : α) (h : i < l.length) : l[i]? = some (l.getD i d) := by
 simp [List.getD, NL h]
theorem oK (hT : TOk P T) {x : Cx} (hI : Inv x) {t : TypeId} {a v : AV} {u : Value} (h : uK T t x.H a = some v) (hu : RepV x a u) :
  ∃ z, (Instr.loadAt t u).run P x.w = .ok z x.w ∧ RepV x v z := by
 unfold uK at h
 split at h
 ·rename_i id off
  obtain ⟨u', r', h1, h2, h3⟩ := hu
  cases h1
  cases ht : T t with
  | none => simp [ht] at h
  | some ti =>
   simp only [ht] at h
   split at h
   ·rename_i cs hcs
    have hp := h2.2
    simp only [zV, RepP, hcs] at hp
    obtain ⟨b, hb, rfl⟩ := hp
    obtain ⟨b', vs, e, h4, h5, h6⟩ := hI.obs _ _ hcs
    rw [hb] at h4; cases h4
    obtain ⟨ps, qs, rfl, h7, h8, h9, h10⟩ := tc h h6
    obtain ⟨z, hz, hz2⟩ := wR (x := x) (hT t ti ht) (b := b) (o := off) (us := qs) h8 (fun j u hj => by
     have := h9 j u hj
     simpa [World.cell?, h5] using this) h7
    exact ⟨z, by simp [Instr.loadAt, Instr.sureAddr, hz], hz2⟩
   ·cases h
 ·rename_i ty d off
  obtain ⟨u', r', h1, h2, h3⟩ := hu
  cases h1
  cases ht : T t with
  | none => simp [ht] at h
  | some ti =>
   simp only [ht] at h
   obtain ⟨b, o, vs, rfl, h4, h5, h6⟩ := h2.2
   obtain ⟨ps, qs, rfl, h7, h8, h9, h10⟩ := tc h (RepT.cells (x := x) _ _ _ h5)
   obtain ⟨z, hz, hz2⟩ := wR (x := x) (hT t ti ht) (b := b) (o := o + off) (us := qs) h8 (fun j u hj => by
     have := h6 _ _ (h9 j u hj)
     rwa [← Nat.add_assoc] at this) h7
   exact ⟨z, by simp [Instr.loadAt, Instr.sureAddr, hz], hz2⟩
 ·rename_i id i off
  obtain ⟨u', r', h1, h2, h3⟩ := hu
  cases h1
  cases ht : T t with
  | none => simp [ht] at h
  | some ti =>
   simp only [ht] at h
   split at h
   ·rename_i e ty xs hxs
    have hp := h2.2
    simp only [zV, hxs] at hp
    obtain ⟨hi, b, hb, rfl⟩ := hp
    have ho := hI.obs _ _ hxs
    simp only [ObRep, hb] at ho
    obtain ⟨cur, h4, h5, h6⟩ := ho
    obtain ⟨vs, h7, h8⟩ := h6 i _ (rO xs i ty.dflt hi)
    obtain ⟨ps, qs, rfl, h9, h10, h11, h12⟩ := tc h (RepT.cells (x := x) _ _ _ h7)
    obtain ⟨z, hz, hz2⟩ := wR (x := x) (hT t ti ht) (b := b) (o := i * ty.size + off) (us := qs) h10 (fun j u hj => by
     have := h8 _ _ (h11 j u hj)
     rw [← Nat.add_assoc] at this
     simpa [World.cell?, h4] using this) h9
    exact ⟨z, by simp [Instr.loadAt, Instr.sureAddr, hz], hz2⟩
   ·cases h
 ·cases h
theorem sw (hT : TOk P T) {t : TypeId} {f o n : Nat} {g : Bool} (h : uv T t f = some (o, n, g)) :
  ∃ F fd, P.underlying t = some (.struct F) ∧ F[f]? = some fd ∧ fd.offset = o ∧ (∃ i, P.info? fd.type = some i ∧ i.size = n) ∧
   (∃ d, P.underlying fd.type = some d ∧ (match d with | .struct _ | .array _ _ => true | _ => false) = g) ∧ (g = false → n = 1) ∧ n ≠ 0 := by
 unfold uv at h
 split at h
 ·rename_i fs eq a b c d hti
  have hd := (hT _ _ hti).desc
  simp only at hd
  obtain ⟨⟨F, h1, h2, h3⟩, _⟩ := hd
  split at h
  ·rename_i o' n' g' hf
   split at h
   ·cases h
   ·rename_i hn
    cases h
    obtain ⟨fd, h4, h5, h6, h7, h8⟩ := h3 _ _ _ _ hf
    exact ⟨F, fd, h1, h4, h5, h6, h7, h8, hn⟩
  ·cases h
 ·cases h
theorem tH (hT : TOk P T) {s : TypeId} {f o n : Nat} {g : Bool} (h : uv T s f = some (o, n, g)) (b off : Nat) (w : World) :
  (Instr.fieldAt s (.pointer (some ⟨b, off, none⟩)) f).run P w = .ok (.pointer (some ⟨b, off + o, none⟩)) w := by
 obtain ⟨F, fd, h1, h2, h3, ⟨i, h4, h5⟩, _, _, h6⟩ := sw hT h
 have : i.size ≠ 0 := by omega
 simp [Instr.fieldAt, run_underlying h1, h2, Instr.sureAddr, fieldPlace, sizeOf, typeInfo, h4, this, sC, h3]
theorem dT (hT : TOk P T) {s : TypeId} {f o n : Nat} {g : Bool} (h : uv T s f = some (o, n, g)) {x : Cx} {cs : List C} {v : AV} (hv : part g o n cs = some v)
  {u : Value} (hu : RepV x (.val true cs) u) : ∃ z, (Instr.field s u f).run P x.w = .ok z x.w ∧ RepV x v z := by
 obtain ⟨F, fd, h1, h2, h3, ⟨i, h4, h5⟩, ⟨d, h6, h7⟩, h8, h9⟩ := sw hT h
 obtain ⟨vs, rfl, hr⟩ := hu
 obtain ⟨ps, qs, rfl, h10, h11, h12, h13⟩ := tc hv hr
 have hag : (isAgg fd.type).run P x.w = .ok g x.w := by rw [← h7]; cases d <;> simp [isAgg, run_underlying h6]
 have hex : (vs.extract o (o + n)).toList = qs := by rw [h13]; simp [List.take_drop, Nat.add_comm]
 cases g with
 | true =>
  refine ⟨.agg (vs.extract o (o + n)), ?_, vs.extract o (o + n), rfl, by rw [hex]; exact h10⟩
  simp [Instr.field, run_underlying h1, h2, asAgg, part, hag, Go.part, sizeOf, typeInfo, h4, h5, h3]
 | false =>
  have hn := h8 rfl
  subst hn
  match qs, h11 with
  | [q], _ =>
   have := h12 0 q rfl
   simp only [Array.getElem?_toList, Nat.add_zero] at this
   refine ⟨q, ?_, h10⟩
   simp [Instr.field, run_underlying h1, h2, asAgg, part, hag, Go.part, h3, this]
theorem z5 {x : Cx} (b : Bool) : RepV x (zH b) (.bool b) := ⟨_, [], rfl, ⟨rfl, rfl⟩, rfl⟩
theorem zZ {x : Cx} (k : IntKind) (n : Int) : RepV x (xn k n) (.int k n) := ⟨_, [], rfl, ⟨rfl, rfl⟩, rfl⟩
theorem xG {x : Cx} (s : ByteArray) : RepV x (rW s) (.string s) := ⟨_, [], rfl, ⟨rfl, rfl⟩, rfl⟩
theorem xM {x : Cx} {k : IntKind} {n : Int} {u : Value} (h : RepV x (.val false [.sc (.int k) n]) u) : u = .int k n := by
 obtain ⟨u', r', h1, h2, h3⟩ := h
 cases h1
 have : [u] = [Value.int k n] := h2.2
 simpa using this
theorem v4 {x : Cx} {b : Bool} {u : Value} (h : RepV x (.val false [.sc .bool b]) u) : u = .bool b := by
 obtain ⟨u', r', h1, h2, h3⟩ := h
 cases h1
 have : [u] = [Value.bool b] := h2.2
 simpa using this
theorem w9 {x : Cx} {s : ByteArray} {u : Value} (h : RepV x (.val false [.sc .str s]) u) : u = .string s := by
 obtain ⟨u', r', h1, h2, h3⟩ := h
 cases h1
 have : [u] = [Value.string s] := h2.2
 simpa using this
theorem zG {x : Cx} {c : C} {u : Value} (h : RepV x (.val false [c]) u) : RepC x c u := by
 obtain ⟨u', r', h1, h2, h3⟩ := h
 cases h1
 exact h2
theorem zF {x : Cx} {c : C} {u : Value} (h : RepC x c u) : RepV x (.val false [c]) u := ⟨u, [], rfl, h, rfl⟩
theorem ng {t : TypeId} (hu : P.underlying t = some .bool) (a b : Bool) (w : World) : (Op.equal t (.bool a) (.bool b)).run P w = .ok (a == b) w := by
 have h : ∀ d, (Op.equalIn (d + 1) t (.bool a) (.bool b)).run P w = .ok (a == b) w := fun d => by
  simp only [Op.equalIn, Sem.run_bind, run_underlying hu, Result.andThen_ok, Sem.run_pure]
 exact h 9999
theorem tB (hT : TOk P T) {t : TypeId} (h : tf T t = true) : ∃ e, P.underlying t = some (.slice e) := by
 unfold tf at h
 split at h
 ·rename_i e _ _ _ _ h1; exact ⟨e, (hT _ _ h1).desc⟩
 ·cases h
theorem v5 {t e : TypeId} (hu : P.underlying t = some (.slice e)) (u : Value) (b : Bool) (hb : (b = true ∧ ∃ l c, u = .slice none l c) ∨ (b = false ∧ ∃ a l c, u = .slice (some a) l c)) (w : World) : (Op.equal t u (.slice none 0 0)).run P w = .ok b w := by
 have h : ∀ d, (Op.equalIn (d + 1) t u (.slice none 0 0)).run P w = .ok b w := fun d => by
  rcases hb with ⟨rfl, l, c, rfl⟩ | ⟨rfl, a, l, c, rfl⟩
  ·simp only [Op.equalIn, Sem.run_bind, run_underlying hu, Result.andThen_ok, Sem.run_pure, Option.isNone_none]
  ·simp only [Op.equalIn, Sem.run_bind, run_underlying hu, Result.andThen_ok, Sem.run_pure]
 exact h 9999
theorem yS {x : Cx} {k : FloatKind} {n : Nat} {u : Value} (h : RepV x (.val false [.sc (.float k) n]) u) : u = .float k n := by
 have := (zG h).2
 have h3 : [u] = [Value.float k n] := this
 simpa using h3
theorem vG {x : Cx} (k : FloatKind) (n : Nat) : RepV x (.val false [.sc (.float k) n]) (.float k n) := ⟨_, [], rfl, ⟨rfl, rfl⟩, rfl⟩
theorem sm {x : Cx} {u : Value} (h : RepV x (.val false [.nan]) u) : ∃ n, u = .float .f64 n ∧ rU n := (zG h).2
theorem Wy {x : Cx} {n : Nat} (h : rU n) : RepV x (.val false [.nan]) (.float .f64 n) := zF ⟨rfl, n, rfl, h⟩
theorem oG {a b : Nat} (h : rU a ∨ rU b) : FloatKind.f64.format.order a b = none := by
 show (Ieee.double.read a).order (Ieee.double.read b) = none
 rcases h with ⟨s, p, h⟩ | ⟨s, p, h⟩
 ·rw [h]; rfl
 ·rw [h]; cases Ieee.double.read a <;> rfl
theorem pZ {x : Cx} {t : TypeId} {op : BinOp} {v : AV} {a b : Nat} (h : kI op = some v) (ho : FloatKind.f64.format.order a b = none) (o1 o2 : Operand) :
  ∃ z, (do eqGuard op t o1 o2 (.float .f64 a) (.float .f64 b); binOp op t (.float .f64 a) (.float .f64 b) : Sem Value).run P x.w = .ok z x.w ∧ RepV x v z := by
 unfold kI at h
 cases op <;> simp only [NA, reduceCtorEq] at h <;> subst h <;> (refine ⟨_, ?_, z5 _⟩; simp [eqGuard, binOp, Op.floatCmp, ho]; done)
theorem aO (ns : List Int) : ns.foldl (fun r n => r.push (UInt8.ofNat n.toNat)) ByteArray.empty = zC ns := by
 have : ∀ (ns : List Int) (s : ByteArray), ns.foldl (fun r n => r.push (UInt8.ofNat n.toNat)) s = ⟨s.data ++ (ns.map fun n => UInt8.ofNat n.toNat).toArray⟩ := by
  intro ns
  induction ns with
  | nil => intro s; simp
  | cons n ns ih =>
   intro s
   rw [List.foldl_cons, ih]
   simp [ByteArray.push]
 rw [this]
 simp only [zC]
 congr 1
 exact Array.empty_append
theorem TO {w : World} : ∀ (n : Nat) (b off : Nat) (xs : List Int), xs.length = n → (∀ i x, xs[i]? = some x → w.cell? ⟨b, off + i, none⟩ = some (.int .u8 x)) → (loadCells ⟨b, off, none⟩ n).run P w = .ok (xs.map fun x => Value.int .u8 x).toArray w := by
 intro n b off xs hl h
 have := run_loadCells_list (P := P) w ⟨b, off, none⟩ (xs.map fun x => Value.int .u8 x) (fun j v hj => by
  rw [List.getElem?_map] at hj
  cases hx : xs[j]? with
  | none => simp [hx] at hj
  | some x =>
   simp [hx] at hj
   subst hj
   rw [sC]
   exact h j x hx)
 rw [List.length_map, hl] at this
 exact this
theorem hP (hT : TOk P T) {x : Cx} {s d : TypeId} {a v : AV} {p : Value} (h : Zw T s d a = some v) (hp : RepV x a p) :
  ∃ z, (convert s d p).run P x.w = .ok z x.w ∧ RepV x v z := by
 unfold Zw at h
 split at h
 ·rename_i k0 n
  rw [xM hp]
  split at h
  ·rename_i k1 _ _ _ _ k _ _ _ _ h1 h2
   cases h
   have u1 : P.underlying s = some (.int k1) := (hT _ _ h1).desc
   have u2 : P.underlying d = some (.int k) := (hT _ _ h2).desc
   exact ⟨_, by simp [convert, run_underlying u1, run_underlying u2, Conv.intToInt], zZ _ _⟩
  ·rename_i k1 _ _ _ _ k _ _ _ _ h1 h2
   cases h
   have u1 : P.underlying s = some (.int k1) := (hT _ _ h1).desc
   have u2 : P.underlying d = some (.float k) := (hT _ _ h2).desc
   exact ⟨_, by simp [convert, run_underlying u1, run_underlying u2, Conv.intToFloat], vG _ _⟩
  ·cases h
 ·rename_i k0 b
  rw [yS hp]
  split at h
  ·rename_i k1 _ _ _ _ k _ _ _ _ h1 h2
   split at h
   ·rename_i n hn
    cases hb : (decide (k.min ≤ n) && decide (n ≤ k.max)) with
    | false => simp [hb] at h
    | true =>
     simp only [hb, Nv] at h
     cases h
     simp only [Nt, NE] at hb
     have u1 : P.underlying s = some (.float k1) := (hT _ _ h1).desc
     have u2 : P.underlying d = some (.int k) := (hT _ _ h2).desc
     exact ⟨_, by simp [convert, run_underlying u1, run_underlying u2, Conv.floatToInt, hn, hb.1, hb.2], zZ _ _⟩
   ·cases h
  ·cases h
 ·rename_i xs
  split at h
  ·rename_i e _ _ _ _ _ _ _ _ h1 h2
   split at h
   ·rename_i _ _ _ _ h3
    cases h
    have u1 : P.underlying s = some (.slice e) := (hT _ _ h1).desc
    have u2 : P.underlying d = some .string := (hT _ _ h2).desc
    have u3 : P.underlying e = some (.int .u8) := (hT _ _ h3).desc
    obtain ⟨A, c, hv, hlc, hrow⟩ := (zG hp).2
    obtain rfl : p = .slice A xs.length c := by simpa using hv
    refine ⟨_, ?_, xG _⟩
    rw [run_convert_bytes_string x.w s d e A _ c u1 u3 u2]
    cases xs with
    | nil =>
     cases A with
     | none => simp [Conv.bytesToString]; rfl
     | some A =>
      have h0 := run_loadCells_list (P := P) x.w A [] (fun j v hj => by simp at hj)
      simp only [List.length_nil] at h0
      rw [List.length_nil, run_bytesToString x.w A 0 c [] (by simpa using h0)]; rfl
    | cons y ys =>
     obtain ⟨b, off, rfl, hb, hx⟩ := hrow (by simp)
     have hl := TO (P := P) (w := x.w) (y :: ys).length b off (y :: ys) rfl (fun i v hi => by
      obtain ⟨us, q1, q2, q3⟩ := hx i v hi
      have q1' : us = [.int .u8 v] := q1
      have := q3 0 (.int .u8 v) (by rw [q1']; rfl)
      simpa [Ty.size] using this)
     rw [run_bytesToString x.w _ _ c (y :: ys) hl, aO]
   ·cases h
  ·cases h
 ·split at h
  ·rename_i e _ _ _ _ _ _ _ _ h1 h2
   split at h
   ·rename_i _ _ _ _ h3
    cases h
    have u1 : P.underlying s = some (.slice e) := (hT _ _ h1).desc
    have u2 : P.underlying d = some .string := (hT _ _ h2).desc
    have u3 : P.underlying e = some (.int .u8) := (hT _ _ h3).desc
    have hv : p = .slice none 0 0 := (zG hp).2
    subst hv
    exact ⟨_, by simp [convert, run_underlying u1, run_underlying u2, run_underlying u3, Conv.bytesToString]; rfl, xG _⟩
   ·cases h
  ·cases h
 ·cases h
theorem jd (hT : TOk P T) {t : TypeId} (h : oh T t = true) : ∃ e, P.underlying t = some (.pointer e) := by
 unfold oh at h
 split at h
 ·rename_i h1; exact (hT _ _ h1).desc
 ·cases h
theorem eQ (hT : TOk P T) {t : TypeId} {kt : Ty} (h : PM T t = some kt) : EqOk P t kt := by
 unfold PM at h
 split at h
 ·rename_i e _ _ _ _ h1; exact (hT _ _ h1).desc.2 kt h
 ·cases h
theorem m4 {t e : TypeId} (hu : P.underlying t = some (.pointer e)) (a : Option Addr) (w : World) : (Op.equal t (.pointer a) (.pointer none)).run P w = .ok a.isNone w := by
 have h : ∀ d, (Op.equalIn (d + 1) t (.pointer a) (.pointer none)).run P w = .ok a.isNone w := fun d => by
  cases a with
  | none => simp only [Op.equalIn, Sem.run_bind, run_underlying hu, Result.andThen_ok, Sem.run_pure, Option.isNone_none]
  | some a => simp only [Op.equalIn, Sem.run_bind, run_underlying hu, Result.andThen_ok, Sem.run_pure, Option.isNone_some]
 exact h 9999
theorem uc (hT : TOk P T) {x : Cx} {t : TypeId} {op : BinOp} {v : AV} {p q : Value} {b : Bool} (h : (bif oh T t then vD op b else none) = some v) (a : Option Addr) (hp : p = .pointer a) (hb : a.isNone = b) (hq : q = .pointer none) (o1 o2 : Operand) :
  ∃ z, (do eqGuard op t o1 o2 p q; binOp op t p q : Sem Value).run P x.w = .ok z x.w ∧ RepV x v z := by
 subst hp; subst hq; subst hb
 cases hc : oh T t with
 | false => simp [hc] at h
 | true =>
  simp only [hc, Nv] at h
  obtain ⟨e, hu⟩ := jd hT hc
  unfold vD at h
  cases op <;> simp only [NA, reduceCtorEq] at h <;> subst h <;>
   (refine ⟨_, ?_, z5 _⟩; simp [eqGuard, binOp, m4 hu]; done)
theorem mE (hT : TOk P T) {x : Cx} {t : TypeId} {op : BinOp} {a v : AV} {p q : Value} {o1 o2 : Operand} (h : j5 T t op o2 a = some v) (hp : RepV x a p) (hq : o2 = .const .nilIface → RepV x (.val false [.nili]) q) :
  ∃ z, (do eqGuard op t o1 o2 p q; binOp op t p q : Sem Value).run P x.w = .ok z x.w ∧ RepV x v z := by
 unfold j5 at h
 split at h
 ·have hp' : p = .nilIface := (zG hp).2
  have hq' : q = .nilIface := (zG (c := .nili) (hq rfl)).2
  subst hp'; subst hq'
  cases hb : mF T t with
  | false => rw [hb] at h; cases h
  | true =>
   rw [hb] at h
   obtain ⟨ms, hu⟩ : ∃ ms, P.underlying t = some (.interface ms) := by
    unfold mF at hb
    split at hb
    ·rename_i h1; exact (hT _ _ h1).desc
    ·cases hb
   have heq : (Op.equal t .nilIface .nilIface).run P x.w = .ok true x.w := by
    have h : ∀ d, (Op.equalIn (d + 1) t .nilIface .nilIface).run P x.w = .ok true x.w := fun d => by
     simp only [Op.equalIn, Sem.run_bind, run_underlying hu, Result.andThen_ok, Sem.run_pure]
    exact h 9999
   simp only [Nv] at h
   unfold vD at h
   cases op <;> simp only [NA, reduceCtorEq] at h <;> subst h <;>
    (refine ⟨_, ?_, z5 _⟩; simp [eqGuard, binOp, heq]; done)
 ·cases h
theorem nK (hT : TOk P T) {x : Cx} {t : TypeId} {op : BinOp} {a b v : AV} {p q : Value} (h : Q5 T t op a b = some v) (hp : RepV x a p) (hq : RepV x b q) (o1 o2 : Operand) :
  ∃ z, (do eqGuard op t o1 o2 p q; binOp op t p q : Sem Value).run P x.w = .ok z x.w ∧ RepV x v z := by
 unfold Q5 at h
 split at h
 ·rename_i k m k' n
  split at h
  ·rename_i hk; subst hk
   rw [xM hp, xM hq]
   unfold bE at h
   cases op <;> simp only [NA, reduceCtorEq] at h <;> subst h <;>
    first
     | (refine ⟨_, ?_, zZ _ _⟩; simp [eqGuard, binOp, Op.intArith, Op.intCmp]; done)
     | (refine ⟨_, ?_, zZ _ _⟩; simp [eqGuard, binOp, Op.intBits, sk, iv]; done)
     | (refine ⟨_, ?_, z5 _⟩; simp [eqGuard, binOp, Op.intArith, Op.intCmp]; done)
  ·cases h
 ·rename_i k m k' n
  split at h
  ·rename_i hk; subst hk
   rw [yS hp, yS hq]
   unfold fS at h
   cases op <;> simp only [NA, reduceCtorEq] at h
   all_goals subst h
   all_goals (refine ⟨_, ?_, z5 _⟩; simp [eqGuard, binOp, Op.floatCmp]; done)
  ·cases h
 ·rename_i m n
  rw [v4 hp, v4 hq]
  cases hb : jZ T t with
  | false => simp [hb] at h
  | true =>
   simp only [hb, Nv] at h
   have hu : P.underlying t = some .bool := by
    unfold jZ at hb
    split at hb
    ·rename_i h1; exact (hT _ _ h1).desc
    ·cases hb
   unfold Zn at h
   cases op <;> simp only [NA, reduceCtorEq] at h <;> subst h <;>
    (refine ⟨_, ?_, z5 _⟩; simp [eqGuard, binOp, ng hu]; done)
 ·rename_i m n
  rw [w9 hp, w9 hq]
  unfold VC at h
  cases op <;> simp only [NA, reduceCtorEq] at h <;> subst h <;>
   (refine ⟨_, ?_, z5 _⟩; simp [eqGuard, binOp, Op.stringOp, zd, yA]; done)
 ·cases hb : tf T t with
  | false => simp [hb] at h
  | true =>
   simp only [hb, Nv] at h
   obtain ⟨e, hu⟩ := tB hT hb
   have hz := (zG hp).2.2
   have hq' : q = .slice none 0 0 := (zG hq).2
   subst hq'
   unfold vD at h
   cases op <;> simp only [NA, reduceCtorEq] at h <;> subst h <;>
    (refine ⟨_, ?_, z5 _⟩; rcases hz with ⟨rfl, l, c, rfl⟩ | ⟨rfl, a, l, c, rfl⟩ <;> simp [eqGuard, binOp, v5 hu _ _ (.inl ⟨rfl, _, _, rfl⟩), v5 hu _ _ (.inr ⟨rfl, _, _, _, rfl⟩)]; done)
 ·cases hb : tf T t with
  | false => simp [hb] at h
  | true =>
   simp only [hb, Nv] at h
   obtain ⟨e, hu⟩ := tB hT hb
   have hp' : p = .slice none 0 0 := (zG hp).2
   have hq' : q = .slice none 0 0 := (zG hq).2
   subst hp'; subst hq'
   unfold vD at h
   cases op <;> simp only [NA, reduceCtorEq] at h <;> subst h <;>
    (refine ⟨_, ?_, z5 _⟩; simp [eqGuard, binOp, v5 hu (.slice none 0 0) true (.inl ⟨rfl, _, _, rfl⟩)]; done)
 ·exact uc hT h none (zG hp).2 rfl (zG hq).2 o1 o2
 ·rename_i id off
  have h2 := (zG hp).2
  simp only [zV, RepP] at h2
  split at h2
  ·obtain ⟨b, _, rfl⟩ := h2
   exact uc hT h _ rfl rfl (zG hq).2 o1 o2
  ·exact h2.elim
 ·have h2 := (zG hp).2
  obtain ⟨b, o, vs, rfl, _⟩ := h2
  exact uc hT h _ rfl rfl (zG hq).2 o1 o2
 ·obtain ⟨a, rfl, ha⟩ := sm hp
  obtain ⟨b, rfl, hb⟩ := sm hq
  exact pZ h (oG (.inl ha)) o1 o2
 ·obtain ⟨a, rfl, ha⟩ := sm hp
  rw [yS hq]
  exact pZ h (oG (.inl ha)) o1 o2
 ·obtain ⟨b, rfl, hb⟩ := sm hq
  rw [yS hp]
  exact pZ h (oG (.inr hb)) o1 o2
 ·split at h
  ·rename_i kt hk
   split at h
   ·rename_i a b ha hb
    have hE := eQ hT hk
    obtain ⟨vs, rfl, h1⟩ := hp
    obtain ⟨us, rfl, h2⟩ := hq
    have e1 : vs = (kt.keyV a).toArray := by rw [← u7 kt a _ hE.key (zQ ha h1)]
    have e2 : us = (kt.keyV b).toArray := by rw [← u7 kt b _ hE.key (zQ hb h2)]
    subst e1; subst e2
    have hg := fun op => run_eqGuard_agg (P := P) x.w op t o1 o2 (kt.keyV a).toArray (kt.keyV b).toArray hE.guard
    unfold vD at h
    cases op <;> simp only [NA, reduceCtorEq] at h <;> subst h
    ·refine ⟨_, ?_, z5 _⟩
     rw [Sem.run_bind, hg, Result.andThen_ok, run_eql_struct, hE.eq, Result.andThen_ok]
    ·refine ⟨_, ?_, z5 _⟩
     rw [Sem.run_bind, hg, Result.andThen_ok, run_neq_struct, hE.eq, Result.andThen_ok]
   ·cases h
  ·cases h
 ·cases h
theorem dc {x : Cx} {t : TypeId} {k1 k2 : IntKind} {m n : Int} {v : AV} {p q : Value} (h : (if k1 = k2 then bif n == 0 then none else some (xn k1 (k1.wrap (m.tdiv n))) else none) = some v) (hp : RepV x (.val false [.sc (.int k1) m]) p) (hq : RepV x (.val false [.sc (.int k2) n]) q) (o1 o2 : Operand) :
  ∃ z, (do eqGuard .quo t o1 o2 p q; binOp .quo t p q : Sem Value).run P x.w = .ok z x.w ∧ RepV x v z := by
 split at h
 ·rename_i hk
  subst hk
  rw [xM hp, xM hq]
  cases hn : n == 0 with
  | true => rw [hn] at h; cases h
  | false =>
   rw [hn] at h
   cases h
   have h0 : ¬ n = 0 := by simpa using hn
   refine ⟨_, ?_, zZ _ _⟩
   simp [eqGuard, binOp, Op.intDiv, h0]
 ·cases h
theorem eS {x : Cx} {t : TypeId} {a b v : AV} {p q : Value} (h : RY a b = some v) (hp : RepV x a p) (hq : RepV x b q) (o1 o2 : Operand) :
  ∃ z, (do eqGuard .rem t o1 o2 p q; binOp .rem t p q : Sem Value).run P x.w = .ok z x.w ∧ RepV x v z := by
 unfold RY at h
 split at h
 ·rename_i k1 m k2 n
  split at h
  ·rename_i hk
   subst hk
   rw [xM hp, xM hq]
   cases hn : n == 0 with
   | true => rw [hn] at h; cases h
   | false =>
    rw [hn] at h
    cases h
    have h0 : ¬ n = 0 := by simpa using hn
    refine ⟨_, ?_, zZ _ _⟩
    simp [eqGuard, binOp, Op.intDiv, h0]
  ·cases h
 ·cases h
theorem dJ {x : Cx} {t : TypeId} {m n : ByteArray} {v : AV} {p q : Value} (h : (bif decide (m.size + n.size ≤ y8) then some (rW (m ++ n)) else none) = some v) (hp : RepV x (.val false [.sc .str m]) p) (hq : RepV x (.val false [.sc .str n]) q) (o1 o2 : Operand) :
  ∃ z, (do eqGuard .add t o1 o2 p q; binOp .add t p q : Sem Value).run P x.w = .ok z x.w ∧ RepV x v z := by
 rw [w9 hp, w9 hq]
 cases hb : decide (m.size + n.size ≤ y8) with
 | false => rw [hb] at h; cases h
 | true =>
  rw [hb] at h
  cases h
  have hle := NK hb
  refine ⟨_, ?_, xG _⟩
  have hn : ¬ (((m.size + n.size : Nat) : Int) > IntKind.i64.max) := by
   have : IntKind.i64.max = 9223372036854775807 := by rfl
   have hb9 : y8 = 9223372036854775807 := rfl
   rw [hb9] at hle
   rw [this]; omega
  simp only [eqGuard, binOp, Op.stringOp]
  rw [if_neg hn]
  rfl
theorem Zy {x : Cx} {op : UnOp} {a v : AV} {p : Value} (h : unA op a = some v) (hp : RepV x a p) :
  ∃ z, (Op.unary op p).run P x.w = .ok z x.w ∧ RepV x v z := by
 unfold unA at h
 split at h
 ·rw [v4 hp]
  cases op <;> simp only [NA, reduceCtorEq] at h <;> subst h
  exact ⟨_, by simp [Op.unary], z5 _⟩
 ·rw [xM hp]
  cases op <;> simp only [NA, reduceCtorEq] at h <;> subst h
  ·exact ⟨_, by simp [Op.unary, Op.intArith], zZ _ _⟩
  ·exact ⟨_, by simp [Op.unary, Op.intBits, sk, iv], zZ _ _⟩
 ·rw [yS hp]
  cases op <;> simp only [NA, reduceCtorEq] at h <;> subst h
  exact ⟨_, by simp [Op.unary], vG _ _⟩
 ·cases h
theorem Rep1s.get {x : Cx} : ∀ (l : List (Bool × List C)) (vs : List Value) (i : Nat) (p : Bool × List C), Rep1s x l vs → l[i]? = some p → ∃ v, vs[i]? = some v ∧ Rep1 x p v
 | [], vs, i, p, h, hc => by simp at hc
 | q :: l, vs, 0, p, h, hc => by
  obtain ⟨v, r, rfl, h2, h3⟩ := h
  simp at hc; subst hc
  exact ⟨v, rfl, h2⟩
 | q :: l, vs, i + 1, p, h, hc => by
  obtain ⟨v, r, rfl, h2, h3⟩ := h
  exact Rep1s.get l r i p h3 (by simpa using hc)
theorem qp {x : Cx} {ev : Operand → AV} {ρ : Operand → Value} (hev : ∀ o, RepV x (ev o) (ρ o)) : ∀ (l : List Operand) (caps : List (Nat × Nat)), rZ ev l = some caps → RepCaps x caps (l.map ρ)
 | [], caps, h => by simp [rZ] at h; subst h; rfl
 | o :: r, caps, h => by
  unfold rZ at h
  split at h
  ·rename_i id off ho
   split at h
   ·rename_i l hl
    cases h
    have := hev o
    rw [ho] at this
    have := zG this
    exact ⟨_, _, rfl, this.1, this.2, qp hev r l hl⟩
   ·cases h
  ·cases h
theorem dv {x : Cx} {c : C} {n : Int} {u : Value} {t e : TypeId} (h : ni x.H c = some n) (hu : RepC x c u) (ht : P.underlying t = some (.slice e)) (ty : TypeId) :
  (Builtin.len_ #[t] ty #[u]).run P x.w = .ok (.int .i64 n) x.w := by
 unfold ni at h
 split at h
 ·rename_i t' xs
  cases h
  obtain ⟨A, c, h1, h2, h3⟩ := hu.2
  simp at h1; subst h1
  simp [Builtin.len_, run_underlying ht, goInt]
 ·rename_i t' xs
  cases h
  obtain ⟨A, c, h1, h2, h3⟩ := hu.2.1
  simp at h1; subst h1
  simp [Builtin.len_, run_underlying ht, goInt]
 ·cases h
  have h1 : u = .slice none 0 0 := hu.2
  subst h1
  simp [Builtin.len_, run_underlying ht, goInt]
 ·rename_i id m
  split at h
  ·rename_i e' t' xs hx
   cases h
   have h2 := hu.2
   simp only [zV, hx] at h2
   cases hat : x.at_ id with
   | none => simp only [hat] at h2; obtain ⟨_, ⟨A, rfl⟩, rfl⟩ := h2; simp [Builtin.len_, run_underlying ht, goInt]
   | some b => simp only [hat] at h2; obtain ⟨_, c, rfl, _⟩ := h2; simp [Builtin.len_, run_underlying ht, goInt]
  ·cases h
 ·cases h
theorem RF {α : Type} {a : Array α} {x : α} (h : a.toList = [x]) : a = #[x] := by cases a; simp_all
theorem Q9 {α : Type} {a : Array α} {x y : α} (h : a.toList = [x, y]) : a = #[x, y] := by cases a; simp_all
theorem ij (hT : TOk P T) {x : Cx} (hI : Inv x) {ev : Operand → AV} {ρ : Operand → Value} (hev : ∀ o, RepV x (ev o) (ρ o)) (hnil : ev (.const .nilIface) = .val false [.nili]) {o : Oper} {v : AV} (h : uI T o.op ev x.H = some v) :
  ∃ u, (execOp ρ o).run P x.w = .ok (.value u) x.w ∧ RepV x v u := by
 unfold uI at h
 split at h
 ·rename_i a ho
  cases h
  exact ⟨_, by simp [execOp, ho], hev a⟩
 ·rename_i a ho
  cases h
  exact ⟨_, by simp [execOp, ho], hev a⟩
 ·rename_i t a ho
  obtain ⟨z, h1, h2⟩ := oK hT hI h (hev a)
  exact ⟨z, by simp [execOp, ho, h1], h2⟩
 ·rename_i s a f ho
  have ha := hev a
  split at h
  ·rename_i id off he
   rw [he] at ha
   split at h
   ·rename_i o' n g hf
    cases h
    have hc := zG ha
    have hp := hc.2
    simp only [zV, RepP] at hp
    cases hx : x.H[id]? with
    | none => simp [hx] at hp
    | some ob =>
     cases ob with
     | arr e t xs => simp [hx] at hp
     | mp t xs => simp [hx] at hp
     | tb xs => simp [hx] at hp
     | box cs =>
      simp only [hx] at hp
      obtain ⟨b, h1, h2⟩ := hp
      refine ⟨.pointer (some ⟨b, off + o', none⟩), ?_, zF ⟨rfl, ?_⟩⟩
      ·simp only [execOp, ho, Sem.run_bind, h2, tH hT hf, Result.andThen_ok, Sem.run_pure]
      ·simp only [zV, RepP, hx]; exact ⟨b, h1, rfl⟩
     | dead => simp [hx] at hp
   ·cases h
  ·rename_i ty d off he
   rw [he] at ha
   split at h
   ·rename_i o' n g hf
    cases h
    have hc := zG ha
    obtain ⟨b, q, vs, h1, h2, h3, h4⟩ := hc.2
    refine ⟨.pointer (some ⟨b, q + (off + o'), none⟩), ?_, zF ⟨rfl, b, q, vs, rfl, h2, h3, h4⟩⟩
    simp only [execOp, ho, Sem.run_bind, h1, tH hT hf, Result.andThen_ok, Sem.run_pure, Nat.add_assoc]
   ·cases h
  ·rename_i id i off he
   rw [he] at ha
   split at h
   ·rename_i o' n g hf
    cases h
    have hc := zG ha
    have hp := hc.2
    simp only [zV] at hp
    split at hp
    ·rename_i e ty xs hx
     obtain ⟨h0, b, h1, h2⟩ := hp
     refine ⟨.pointer (some ⟨b, i * ty.size + (off + o'), none⟩), ?_, zF ⟨rfl, ?_⟩⟩
     ·simp only [execOp, ho, Sem.run_bind, h2, tH hT hf, Result.andThen_ok, Sem.run_pure, Nat.add_assoc]
     ·simp only [zV, hx]; exact ⟨h0, b, h1, rfl⟩
    ·exact hp.elim
   ·cases h
  ·cases h
 ·rename_i s a f ho
  have ha := hev a
  split at h
  ·rename_i cs he
   rw [he] at ha
   split at h
   ·rename_i o' n g hf
    obtain ⟨z, h1, h2⟩ := dT hT hf h ha
    exact ⟨z, by simp [execOp, ho, h1], h2⟩
   ·cases h
  ·cases h
 ·rename_i b t a c ty ho
  split at h
  ·rename_i v' hv'
   cases h
   obtain ⟨z, h1, h2⟩ := mE hT (o1 := a) (q := ρ c) hv' (hev a) (fun e => by
    have h0 := hev (.const .nilIface)
    rw [hnil] at h0
    rw [e]
    exact h0)
   refine ⟨z, ?_, h2⟩
   simp only [execOp, ho]
   rw [Sem.run_bind, h1]; rfl
  ·obtain ⟨z, h1, h2⟩ := nK hT h (hev a) (hev c) a c
   refine ⟨z, ?_, h2⟩
   simp only [execOp, ho]
   rw [Sem.run_bind, h1]; rfl
 ·rename_i u t a ho
  obtain ⟨z, h1, h2⟩ := Zy (P := P) h (hev a)
  exact ⟨z, by simp [execOp, ho, h1], h2⟩
 ·rename_i a ho
  have ha := hev a
  split at h
  ·rename_i id off he
   cases h
   rw [he] at ha
   have hp := (zG ha).2
   simp only [zV, RepP] at hp
   split at hp
   ·obtain ⟨b, _, hb⟩ := hp
    exact ⟨_, by simp [execOp, ho, hb], hb ▸ ha⟩
   ·exact hp.elim
  ·rename_i t y off he
   cases h
   rw [he] at ha
   obtain ⟨b, q, vs, hb, _⟩ := (zG ha).2
   exact ⟨_, by simp [execOp, ho, hb], hb ▸ ha⟩
  ·rename_i id i off he
   cases h
   rw [he] at ha
   have hp := (zG ha).2
   simp only [zV] at hp
   split at hp
   ·obtain ⟨_, b, _, hb⟩ := hp
    exact ⟨_, by simp [execOp, ho, hb], hb ▸ ha⟩
   ·exact hp.elim
  ·cases h
 ·rename_i a i ho
  have ha := hev a
  split at h
  ·rename_i l he
   rw [he] at ha
   split at h
   ·rename_i p hp
    cases h
    obtain ⟨vs, h1, h2⟩ := ha
    obtain ⟨z, h3, h4⟩ := Rep1s.get _ _ _ _ h2 hp
    refine ⟨z, ?_, h4⟩
    simp only [Array.getElem?_toList] at h3
    simp [execOp, ho, h1, Instr.extract, h3]
   ·cases h
  ·cases h
 ·rename_i f first captured ho
  split at h
  ·rename_i hf
   split at h
   ·rename_i l hl
    cases h
    have hcaps := qp hev _ _ hl
    have hfe : first = #[] := by cases first; simp_all
    refine ⟨.func (.func f) #[] (captured.map ρ), ?_, zF ⟨rfl, _, rfl, by simpa using hcaps⟩⟩
    simp [execOp, ho, Instr.makeFunc, hfe]
   ·cases h
  ·rename_i o0 hf
   split at h
   ·rename_i id off hc0 hov
    cases h
    have ha := hev o0
    rw [hov] at ha
    have hp := (zG ha)
    have hfe : first = #[o0] := RF hf
    have hce : captured = #[] := by cases captured; simp_all
    refine ⟨.func (.func f) #[ρ o0] #[], ?_, zF ⟨rfl, _, rfl, hp.1, hp.2⟩⟩
    simp [execOp, ho, Instr.makeFunc, hfe, hce]
   ·cases h
  ·cases h
 ·rename_i c ho
  split at h
  ·rename_i a t hc hargs hts
   have ha := hev a
   have h1 : c.args = #[a] := RF hargs
   have h2 : c.argTypes = #[t] := RF hts
   split at h
   ·rename_i cc e' b1 b2 b3 b4 hcc ht
    rw [hcc] at ha
    have hd := (hT _ _ ht).desc
    split at h
    ·rename_i n hn
     cases h
     have := dv (P := P) hn (zG ha) hd o.type
     refine ⟨_, ?_, zZ _ _⟩
     simp [execOp, ho, resolve, hc, h1, h2, invoke, builtin, this]
    ·cases h
   ·rename_i s b1 b2 b3 b4 hcc ht
    rw [hcc] at ha
    have hd := (hT _ _ ht).desc
    cases h
    refine ⟨_, ?_, zZ _ _⟩
    simp [execOp, ho, resolve, hc, h1, h2, invoke, builtin, w9 ha, Builtin.len_, run_underlying hd, goInt]
   ·cases h
  ·cases h
 ·cases h
end
end Go.Proofs.YtefddghdaimklaaGreatDoor.AI
