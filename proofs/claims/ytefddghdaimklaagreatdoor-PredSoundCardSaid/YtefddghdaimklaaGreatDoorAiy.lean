/- A part of the proof. -/
import Derived.Test.YtefddghdaimklaaGreatDoorAiw
import Derived.WalkKit
import Derived.ProofKit
import Derived.OpenShut
import Derived.ShutString
import Derived.ChangeOld
import Derived.SizedLaws
set_option linter.unusedVariables false
set_option linter.unusedSimpArgs false
namespace Go.Proofs.YtefddghdaimklaaGreatDoor.AI
open Go Go.ChangeShapes Go.WideShapes Go.ChangeAt Go.RowKit
open Go.ChangeMaps (open_string shut_string)
def Ww (k : IntKind) : Nat := (k.bits + 7) / 8
def Ty.bytes8 : Ty → Nat
 | .unit => 0
 | .pair a b => a.bytes8 + b.bytes8
 | .str => 16
 | .sl _ => 24
 | .rose a => a.bytes8 + 24
 | _ => 8
def Ty.bytes : Ty → Nat
 | .bool => 1
 | .int k => Ww k
 | t => t.bytes8
inductive RoseAll {α : Type} (p : α → Prop) (b : Nat) : Rose α → Prop where
 | mk (a : α) (ks : List (Rose α)) (ha : p a) (hb : ks.length * b ≤ reachBytes) (hk : ∀ k, k ∈ ks → RoseAll p b k) : RoseAll p b (.node a ks)
def Ty.wf : (t : Ty) → t.den → Prop
 | .bool, _ => True
 | .unit, _ => True
 | .int k, n => k.min ≤ n ∧ n ≤ k.max
 | .float k, b => (Lit.float k b).wf = true
 | .str, s => s.size ≤ reachBytes
 | .pair a b, x => a.wf x.1 ∧ b.wf x.2
 | .sl t, xs => xs.length * t.bytes ≤ reachBytes ∧ ∀ x ∈ xs, t.wf x
 | .rose a, r => RoseAll a.wf (a.bytes8 + 24) r
 | .set _, _ => True
def Ty.mass : (t : Ty) → t.den → Nat
 | .str, s => s.size + 1
 | .pair a b, x => a.mass x.1 + b.mass x.2
 | .sl t, xs => (xs.map t.mass).sum + 1
 | .bool, _ => 1
 | .int _, _ => 1
 | .float _, _ => 1
 | .unit, _ => 0
 | .rose _, _ => 0
 | .set _, _ => 0
structure Bulk {H : Type} (β : DataW H → Nat) : Prop where
 one : ∀ d, 1 ≤ β d
 str : ∀ b : List UInt8, b.length + 1 ≤ β (.lit (.string b))
 sl : ∀ es sp, (es.map β).sum + 1 ≤ β (.slice es sp)
 ag : ∀ ps, (ps.map β).sum ≤ β (.agg ps)
theorem Vp {α γ : Type} {f : α → Nat} {g : γ → Nat} : ∀ {xs : List α} {ys : List γ}, xs.length = ys.length → (∀ (i : Nat) (x : α) (y : γ), xs[i]? = some x → ys[i]? = some y → f x ≤ g y) → (xs.map f).sum ≤ (ys.map g).sum
 | [], [], _, _ => NF _
 | x :: xs, y :: ys, hl, h => by
  have h1 := h 0 x y rfl rfl
  have h2 := Vp (xs := xs) (ys := ys) (by simpa using hl) (fun i a b ha hb => h (i + 1) a b (by simpa using ha) (by simpa using hb))
  simp only [NN, List.sum_cons]
  omega
 | [], _ :: _, hl, _ => by simp at hl
 | _ :: _, [], hl, _ => by simp at hl
def uC (P : Program) (g : TypeId → Ty → Bool) : List Field → Nat → Ty → Bool
 | [], _, .unit => true
 | [f], off, t => Nat.beq f.offset off && Nat.beq (P.cellsOf f.type) t.size && g f.type t
 | f :: f' :: r, off, .pair a b => Nat.beq f.offset off && Nat.beq (P.cellsOf f.type) a.size && g f.type a && uC P g (f' :: r) (off + a.size) b
 | _, _, _ => false
def R9 (P : Program) (n : Nat) (e : TypeId) : List Field := (List.range n).map fun i => { (default : Field) with type := e, offset := i * P.cellsOf e }
def kA (P : Program) (g : TypeId → Ty → Bool) (t : TypeId) : List Field → Nat → Ty → Bool
 | [f, k], off, a => Nat.beq f.offset off && Nat.beq (P.cellsOf f.type) a.size && g f.type a && Nat.beq k.offset (off + a.size) && Nat.beq (P.cellsOf k.type) 1 && (match P.underlying k.type with | some (.slice e) => Nat.beq e t | _ => false)
 | f :: f' :: f'' :: r, off, .pair a b => Nat.beq f.offset off && Nat.beq (P.cellsOf f.type) a.size && g f.type a && kA P g t (f' :: f'' :: r) (off + a.size) b
 | _, _, _ => false
def tyB (P : Program) : Nat → TypeId → Ty → Bool
 | 0, _, _ => false
 | n + 1, t, τ => match P.underlying t with
  | some .bool => (match τ with | .bool => true | _ => false)
  | some (.int k) => (match τ with | .int k' => decide (k = k') | _ => false)
  | some (.float k) => (match τ with | .float k' => decide (k = k') | _ => false)
  | some .string => (match τ with | .str => true | _ => false)
  | some (.slice e) => (match τ with | .sl σ => Nat.beq (P.cellsOf e) σ.size && Nat.blt 0 σ.size && Nat.ble σ.bytes (P.bytesOf e) && tyB P n e σ | _ => false)
  | some (.struct fs) => Nat.beq (P.cellsOf t) τ.size && (match τ with
   | .rose a => kA P (tyB P n) t fs.toList 0 a && Nat.ble (a.bytes8 + 24) (P.bytesOf t)
   | τ => uC P (tyB P n) fs.toList 0 τ)
  | some (.array m e) => Nat.beq (P.cellsOf t) τ.size && uC P (tyB P n) (R9 P m e) 0 τ
  | _ => false
section
variable {H : Type} {enc : TypeId × Value → H} {P : Program} {w : World} {base : Nat} {spare : Nat → Bool} {held : Bool}
theorem nr {k : FloatKind} {t : TypeId} {fuel : Nat} {cs : List Value} {x : DataW H × List MemPlace} (ht : P.underlying t = some (.float k)) (h : DataW.trod enc P w base spare held fuel t cs = some x) : ∃ n, cs = [.float k n] ∧ x = (.lit (.float k n), []) ∧ (Lit.float k n).wf = true := by
 cases fuel with
 | zero => simp [DataW.trod] at h
 | succ n =>
  unfold DataW.trod at h
  rw [ht] at h
  split at h <;> simp_all
theorem ZI {a : Addr} {n : Nat} {cs : List Value} (h : w.cells? base a n = some cs) : cs.length = n ∧ ∀ j, j < n → w.cell? (a.add j) = cs[j]? := by
 unfold World.cells? at h
 split at h
 ·refine ⟨by simpa using mapM_some_length h, fun j hj => ?_⟩
  exact mapM_some_get h j j (by simp [hj])
 ·cases h
theorem R4 {k : IntKind} {n : Int} (h : (Lit.int k n).wf = true) : k.min ≤ n ∧ n ≤ k.max := by
 simpa [Lit.wf] using h
def sX (P : Program) (t : TypeId) (d : DataW H) : Prop := ∀ n ∈ d.weights P t, n ≤ reachBytes
theorem pH {e : TypeId} : ∀ {l : List (DataW H)}, (∀ n ∈ DataW.weightsAll P e l, n ≤ reachBytes) → ∀ d ∈ l, sX P e d
 | d0 :: r, h, d, hd => by
  simp only [DataW.weightsAll, NS] at h
  rcases NM.1 hd with rfl | hd
  ·exact fun n hn => h n (.inl hn)
  ·exact pH (fun n hn => h n (.inr hn)) d hd
theorem n9 : ∀ {ts : List TypeId} {l : List (DataW H)}, (∀ n ∈ DataW.weightsEach P ts l, n ≤ reachBytes) → ∀ (j : Nat) t d, ts[j]? = some t → l[j]? = some d → sX P t d := by
 intro ts l h j t d ht hd n hn
 exact h n (DataW.weights_mem_each ht hd n hn)
def okW (w : World) (b : Nat) : Prop := b < w.heap.size
theorem vn {a : Addr} {v : Value} (h : w.cell? a = some v) : okW w a.block ∧ a.spot = none := by
 unfold World.cell? at h
 split at h
 ·rename_i c _ _ hb
  refine ⟨(Array.getElem?_eq_some_iff.1 hb).1, ?_⟩
  cases hs : a.spot with
  | none => rfl
  | some s => simp [hs] at h
 ·cases h
theorem tS {g : TypeId → Ty → Bool} {m : Nat} (hg : ∀ t τ cs (x : DataW H × List MemPlace), g t τ = true → DataW.trod enc P w base spare held m t cs = some x → sX P t x.1 → ∃ d : τ.den, RepT (okW w) w τ d cs ∧ τ.wf d ∧ ∀ β : DataW H → Nat, Bulk β → τ.mass d ≤ β x.1) :
  ∀ (fs : List Field) (off : Nat) (τ : Ty) (cs : List Value) (xs : List (DataW H × List MemPlace)), uC P g fs off τ = true → xs.length = fs.length → cs.length = off + τ.size →
   (∀ (i : Nat) (f : Field), fs[i]? = some f → DataW.trod enc P w base spare held m f.type ((cs.drop f.offset).take (P.cellsOf f.type)) = xs[i]?) →
   (∀ (i : Nat) (f : Field) x, fs[i]? = some f → xs[i]? = some x → sX P f.type x.1) → ∃ d : τ.den, RepT (okW w) w τ d (cs.drop off) ∧ τ.wf d ∧ ∀ β : DataW H → Nat, Bulk β → τ.mass d ≤ (xs.map fun x => β x.1).sum
 | [], off, τ, cs, xs, h, hl, hc, ht, hs => by
  cases τ <;> simp [uC] at h
  refine ⟨(), ?_, trivial, fun β _ => Nat.zero_le _⟩
  show cs.drop off = []
  simp [Ty.size] at hc
  simp [hc]
 | [f], off, τ, cs, xs, h, hl, hc, ht, hs => by
  have h' : (Nat.beq f.offset off && Nat.beq (P.cellsOf f.type) τ.size && g f.type τ) = true := by cases τ <;> exact h
  simp only [Nt] at h'
  obtain ⟨⟨h1, h2⟩, h3⟩ := h'
  have h1 := Nz h1
  have h2 := Nz h2
  have hx := ht 0 f rfl
  cases xs with
  | nil => simp at hl
  | cons x r =>
   rw [h1, h2] at hx
   have e : ((cs.drop off).take τ.size) = cs.drop off := List.take_of_length_le (by simp; omega)
   rw [e] at hx
   obtain ⟨d, q1, q2, q3⟩ := hg _ _ _ x h3 (by simpa using hx) (hs 0 f x rfl rfl)
   exact ⟨d, q1, q2, fun β hβ => by have := q3 β hβ; simp only [NN, List.sum_cons]; omega⟩
 | f :: f' :: r, off, τ, cs, xs, h, hl, hc, ht, hs => by
  cases τ with
  | pair a b =>
   simp only [uC, Nt] at h
   obtain ⟨⟨⟨h1, h2⟩, h3⟩, h4⟩ := h
   have h1 := Nz h1
   have h2 := Nz h2
   have hx := ht 0 f rfl
   cases xs with
   | nil => simp at hl
   | cons x xs =>
    rw [h1, h2] at hx
    obtain ⟨d1, r1, w1, m1⟩ := hg _ _ _ x h3 (by simpa using hx) (hs 0 f x rfl rfl)
    simp only [Ty.size] at hc
    obtain ⟨d2, r2, w2, m2⟩ := tS hg (f' :: r) (off + a.size) b cs xs h4 (by simpa using hl) (by omega) (fun i q hq => by simpa using ht (i + 1) q (by simpa using hq)) (fun i q x hq hx => hs (i + 1) q x (by simpa using hq) (by simpa using hx))
    refine ⟨(d1, d2), ⟨_, _, ?_, r1, r2⟩, ⟨w1, w2⟩, fun β hβ => by have := m1 β hβ; have := m2 β hβ; simp only [NN, List.sum_cons, Ty.mass]; omega⟩
    rw [← List.drop_drop]
    exact (List.take_append_drop _ _).symm
  | _ => simp [uC] at h
theorem nN {D : Type} {R : D → List Value → Prop} {W : D → Prop} {M : D → Nat} {size bytes : Nat} {t e : TypeId} {fuel : Nat} {cs : List Value} {x : DataW H × List MemPlace}
  (hu : P.underlying t = some (.slice e)) (h1 : P.cellsOf e = size) (h2 : 0 < size) (h3 : bytes ≤ P.bytesOf e) (hd : DataW.trod enc P w base spare held fuel t cs = some x) (hs : sX P t x.1)
  (hel : ∀ m, m < fuel → ∀ vs y, DataW.trod enc P w base spare held m e vs = some y → sX P e y.1 → ∃ d : D, R d vs ∧ W d ∧ ∀ β : DataW H → Nat, Bulk β → M d ≤ β y.1) :
  ∃ (xs : List D) (A : Option Addr) (c : Nat), cs = [.slice A xs.length c] ∧ xs.length ≤ c ∧ RowT R (okW w) w size A xs ∧ (xs.length * bytes ≤ reachBytes ∧ ∀ d ∈ xs, W d) ∧ ∀ β : DataW H → Nat, Bulk β → (xs.map M).sum + 1 ≤ β x.1 := by
 rcases DataW.trod_slice hu hd with ⟨rfl, rfl⟩ | ⟨a, len, cap, elems, rest, m, hfm, rfl, rfl, hb, hl, hm, hlen, hel', _, _⟩
 ·exact ⟨[], none, 0, rfl, NF _, fun hne => absurd rfl hne, ⟨by show (0 : Nat) * _ ≤ _; simp, fun x hx => by cases hx⟩, fun β hβ => hβ.one _⟩
 ·have hsm : ∀ y ∈ elems, sX P e y.1 := by
   intro y hy
   refine pH (P := P) (e := e) (l := elems.map (·.1)) (fun q hq => hs q ?_) y.1 (List.mem_map_of_mem hy)
   simp only [DataW.weights, hu, NM, NS]
   exact .inr (.inl hq)
  have each : ∀ i, i < len → ∃ (d : D) (vs : List Value), R d vs ∧ W d ∧ vs.length = size ∧ (∀ j v, vs[j]? = some v → w.cell? ((a.add (i * size)).add j) = some v) ∧ ∀ β : DataW H → Nat, Bulk β → ∀ y, elems[i]? = some y → M d ≤ β y.1 := by
   intro i hi
   have he := hel' i hi
   rw [h1] at he
   have hlt : i < elems.length := by omega
   rw [NL hlt] at he
   obtain ⟨vs, hv1, hv2⟩ := NQ.1 he
   obtain ⟨c1, c2⟩ := ZI hv1
   obtain ⟨d, r1, r2, r3⟩ := hel m (by omega) vs _ hv2 (hsm _ (List.getElem_mem hlt))
   refine ⟨d, vs, r1, r2, c1, fun j v hj => ?_, fun β hβ y hy => by rw [NL hlt] at hy; cases hy; exact r3 β hβ⟩
   rw [c2 j (by rw [← c1]; exact (NB.1 hj).1), hj]
  have pick : ∀ k, k ≤ len → ∃ xs : List D, xs.length = k ∧ ∀ i d, xs[i]? = some d → ∃ vs, R d vs ∧ W d ∧ vs.length = size ∧ (∀ j v, vs[j]? = some v → w.cell? ((a.add (i * size)).add j) = some v) ∧ ∀ β : DataW H → Nat, Bulk β → ∀ y, elems[i]? = some y → M d ≤ β y.1 := by
   intro k
   induction k with
   | zero => intro _; exact ⟨[], rfl, fun i d hi => by simp at hi⟩
   | succ k ih =>
    intro hk
    obtain ⟨xs, h5, h6⟩ := ih (by omega)
    obtain ⟨d, vs, r1, r2, r3, r4, r5⟩ := each k (by omega)
    refine ⟨xs ++ [d], by simp [h5], fun i d' hi => ?_⟩
    rw [List.getElem?_append] at hi
    split at hi
    ·exact h6 i d' hi
    ·rename_i hge
     have : i - xs.length = 0 := by
      have := (NB.1 hi).1
      simp at this; omega
     rw [this] at hi
     simp at hi
     subst hi
     have : i = k := by omega
     subst this
     exact ⟨vs, r1, r2, r3, r4, r5⟩
  obtain ⟨xs, h5, h6⟩ := pick len (NF _)
  have hwt : (elems.length + rest.length) * P.bytesOf e ≤ reachBytes := by
   have := hs ((elems.length + rest.length) * P.bytesOf e) (by simp [DataW.weights, hu])
   exact this
  refine ⟨xs, some a, cap, by rw [h5], by rw [h5]; exact hl, fun hne => ?_, ⟨?_, fun d hdm => ?_⟩, fun β hβ => ?_⟩
  ·have hpos : 0 < xs.length := List.length_pos_iff.2 hne
   obtain ⟨vs, _, _, q3, q4, _⟩ := h6 0 xs[0] (NL hpos)
   have hv0 : vs[0]? = some (vs[0]'(by omega)) := NL (by omega)
   have hc := q4 0 _ hv0
   have ha0 : (a.add (0 * size)).add 0 = a := by simp [Addr.add]
   rw [ha0] at hc
   obtain ⟨o1, o2⟩ := vn hc
   refine ⟨a.block, a.off, by rw [← o2], o1, fun i d hi => ?_⟩
   obtain ⟨vs, q1, _, q3, q4, _⟩ := h6 i d hi
   refine ⟨vs, q1, q3, fun j v hj => ?_⟩
   have := q4 j v hj
   have ea : (a.add (i * size)).add j = ⟨a.block, a.off + i * size + j, none⟩ := by
    cases a with
    | mk b o s =>
     simp only at o2
     subst o2
     by_cases e1 : i * size = 0 <;> by_cases e2 : j = 0 <;> simp [Addr.add, e1, e2]
   rw [ea] at this
   exact this
  ·show xs.length * bytes ≤ reachBytes
   rw [h5]
   have e1 : len * bytes ≤ (elems.length + rest.length) * P.bytesOf e := Nat.mul_le_mul (by omega) h3
   omega
  ·obtain ⟨i, hi⟩ := List.getElem?_of_mem hdm
   obtain ⟨_, _, q2, _⟩ := h6 i d hi
   exact q2
  ·have e2 : (xs.map M).sum ≤ (elems.map fun y => β y.1).sum := Vp (by omega) (fun i d y hd hy => by
    obtain ⟨_, _, _, _, _, q5⟩ := h6 i d hd
    exact q5 β hβ y hy)
   have e3 := hβ.sl (elems.map (·.1)) (rest.map (·.1))
   rw [List.map_map] at e3
   exact Nat.le_trans (Nat.add_le_add_right e2 1) e3
theorem RoseR.mono {α : Type} {R : α → List Value → Prop} {ok : Nat → Prop} {w : World} {size : Nat} : ∀ (n m : Nat), n ≤ m → ∀ (r : Rose α) (vs : List Value), RoseR R ok w size n r vs → RoseR R ok w size m r vs
 | 0, _, _, _, _, h => h.elim
 | n + 1, 0, hm, _, _, _ => by omega
 | n + 1, m + 1, hm, .node a ks, vs, h => by
  obtain ⟨p, A, c, h1, h2, h3, h4⟩ := h
  exact ⟨p, A, c, h1, h2, h3, h4.imp (RoseR.mono n m (by omega)) (fun _ h => h) (fun _ _ => rfl)⟩
theorem cq {α : Type} {R : α → List Value → Prop} {ok : Nat → Prop} {w : World} {size : Nat} {A : Option Addr} {ks : List (Rose α)} (h : RowT (fun r vs => ∃ k, RoseR R ok w size k r vs) ok w size A ks) : ∃ K, RowT (RoseR R ok w size K) ok w size A ks := by
 by_cases hne : ks = []
 ·exact ⟨0, fun h => absurd hne h⟩
 ·obtain ⟨b, off, hA, hb, hx⟩ := h hne
  have : ∀ n, ∃ K, ∀ i x, i < n → ks[i]? = some x → ∃ vs, RoseR R ok w size K x vs ∧ vs.length = size ∧ ∀ j v, vs[j]? = some v → w.cell? ⟨b, off + i * size + j, none⟩ = some v := by
   intro n
   induction n with
   | zero => exact ⟨0, fun i x hi => by omega⟩
   | succ n ih =>
    obtain ⟨K, hK⟩ := ih
    cases hq : ks[n]? with
    | none =>
     refine ⟨K, fun i x hi hxi => ?_⟩
     by_cases e : i = n
     ·subst e; rw [hq] at hxi; cases hxi
     ·exact hK i x (by omega) hxi
    | some y =>
     obtain ⟨vs, ⟨k, h1⟩, h2, h3⟩ := hx n y hq
     refine ⟨max K k, fun i x hi hxi => ?_⟩
     by_cases e : i = n
     ·subst e
      rw [hq] at hxi; cases hxi
      exact ⟨vs, RoseR.mono _ _ (Nat.le_max_right _ _) _ _ h1, h2, h3⟩
     ·obtain ⟨vs', q1, q2, q3⟩ := hK i x (by omega) hxi
      exact ⟨vs', RoseR.mono _ _ (Nat.le_max_left _ _) _ _ q1, q2, q3⟩
  obtain ⟨K, hK⟩ := this ks.length
  exact ⟨K, fun _ => ⟨b, off, hA, hb, fun i x hi => hK i x (NB.1 hi).1 hi⟩⟩
theorem pV {g : TypeId → Ty → Bool} {m : Nat} {t : TypeId} (hg : ∀ t τ cs (x : DataW H × List MemPlace), g t τ = true → DataW.trod enc P w base spare held m t cs = some x → sX P t x.1 → ∃ d : τ.den, RepT (okW w) w τ d cs ∧ τ.wf d ∧ ∀ β : DataW H → Nat, Bulk β → τ.mass d ≤ β x.1) :
  ∀ (fs : List Field) (off : Nat) (a : Ty) (cs : List Value) (xs : List (DataW H × List MemPlace)), kA P g t fs off a = true → xs.length = fs.length → cs.length = off + (a.size + 1) →
   (∀ (i : Nat) (f : Field), fs[i]? = some f → DataW.trod enc P w base spare held m f.type ((cs.drop f.offset).take (P.cellsOf f.type)) = xs[i]?) →
   (∀ (i : Nat) (f : Field) x, fs[i]? = some f → xs[i]? = some x → sX P f.type x.1) →
   ∃ (d : a.den) (p : List Value) (v : Value) (kt : TypeId) (y : DataW H × List MemPlace), cs.drop off = p ++ [v] ∧ RepT (okW w) w a d p ∧ a.wf d ∧ P.underlying kt = some (.slice t) ∧ DataW.trod enc P w base spare held m kt [v] = some y ∧ sX P kt y.1
 | [], off, a, cs, xs, h, _, _, _, _ => by cases a <;> simp [kA] at h
 | [f], off, a, cs, xs, h, _, _, _, _ => by cases a <;> simp [kA] at h
 | [f, k], off, a, cs, xs, h, hl, hc, ht, hs => by
  have h' : (Nat.beq f.offset off && Nat.beq (P.cellsOf f.type) a.size && g f.type a && Nat.beq k.offset (off + a.size) && Nat.beq (P.cellsOf k.type) 1 && (match P.underlying k.type with | some (.slice e) => Nat.beq e t | _ => false)) = true := by cases a <;> exact h
  simp only [Nt] at h'
  obtain ⟨⟨⟨⟨⟨h1, h2⟩, h3⟩, h4⟩, h5⟩, h6⟩ := h'
  have h1 := Nz h1
  have h2 := Nz h2
  have h4 := Nz h4
  have h5 := Nz h5
  have hk : P.underlying k.type = some (.slice t) := by
   split at h6
   ·rename_i e he
    rw [he, Nz h6]
   ·cases h6
  have hx0 := ht 0 f rfl
  have hx1 := ht 1 k rfl
  match xs, hl with
  | [x0, x1], _ =>
   rw [h1, h2] at hx0
   rw [h4, h5] at hx1
   obtain ⟨d, q1, q2, _⟩ := hg _ _ _ x0 h3 (by simpa using hx0) (hs 0 f x0 rfl rfl)
   have hdl : (cs.drop (off + a.size)).length = 1 := by rw [List.length_drop]; omega
   obtain ⟨v, hv⟩ : ∃ v, cs.drop (off + a.size) = [v] := by
    match hq : cs.drop (off + a.size), hdl with
    | [v], _ => exact ⟨v, rfl⟩
   rw [hv] at hx1
   refine ⟨d, (cs.drop off).take a.size, v, k.type, x1, ?_, q1, q2, hk, by simpa using hx1, hs 1 k x1 rfl rfl⟩
   rw [← hv, ← List.drop_drop]
   exact (List.take_append_drop _ _).symm
 | f :: f' :: f'' :: r, off, a, cs, xs, h, hl, hc, ht, hs => by
  cases a with
  | pair a b =>
   simp only [kA, Nt] at h
   obtain ⟨⟨⟨h1, h2⟩, h3⟩, h4⟩ := h
   have h1 := Nz h1
   have h2 := Nz h2
   have hx := ht 0 f rfl
   cases xs with
   | nil => simp at hl
   | cons x xs =>
    rw [h1, h2] at hx
    obtain ⟨d1, r1, w1, _⟩ := hg _ _ _ x h3 (by simpa using hx) (hs 0 f x rfl rfl)
    simp only [Ty.size] at hc
    obtain ⟨d2, p, v, kt, y, e1, e2, e3, e4⟩ := pV hg (f' :: f'' :: r) (off + a.size) b cs xs h4 (by simpa using hl) (by omega) (fun i q hq => by simpa using ht (i + 1) q (by simpa using hq)) (fun i q x hq hx => hs (i + 1) q x (by simpa using hq) (by simpa using hx))
    refine ⟨(d1, d2), (cs.drop off).take a.size ++ p, v, kt, y, ?_, ⟨_, _, rfl, r1, e2⟩, ⟨w1, e3⟩, e4⟩
    rw [NU, ← e1, ← List.drop_drop]
    exact (List.take_append_drop _ _).symm
  | _ => simp [kA] at h
theorem cQ {g : TypeId → Ty → Bool} {t : TypeId} {a : Ty} {fs : Array Field} (hg : ∀ m t τ cs (x : DataW H × List MemPlace), g t τ = true → DataW.trod enc P w base spare held m t cs = some x → sX P t x.1 → ∃ d : τ.den, RepT (okW w) w τ d cs ∧ τ.wf d ∧ ∀ β : DataW H → Nat, Bulk β → τ.mass d ≤ β x.1)
  (hu : P.underlying t = some (.struct fs)) (hc : P.cellsOf t = a.size + 1) (hb : a.bytes8 + 24 ≤ P.bytesOf t) (hF : kA P g t fs.toList 0 a = true) :
  ∀ (fuel : Nat) (cs : List Value) (x : DataW H × List MemPlace), DataW.trod enc P w base spare held fuel t cs = some x → sX P t x.1 → ∃ r : Rose a.den, (∃ k, RoseR (RepT (okW w) w a) (okW w) w (a.size + 1) k r cs) ∧ RoseAll a.wf (a.bytes8 + 24) r := by
 intro fuel
 induction fuel using Nat.strongRecOn with
 | _ fuel ih =>
  intro cs x hd hs
  obtain ⟨xs, m, hm, rfl, hcl, hl, hx⟩ := DataW.trod_struct hu hd
  obtain ⟨d, p, v, kt, y, e1, e2, e3, e4, e5, e6⟩ := pV (hg m) fs.toList 0 a cs xs hF (by simpa using hl) (by omega) (fun i f hf => hx i f (by simpa using hf)) (fun i f y hf hy => by
    refine n9 (P := P) (ts := fs.toList.map (·.type)) (l := xs.map (·.1)) (fun q hq => hs q ?_) i f.type y.1 (by simp [hf]) (by simp [hy])
    simp only [DataW.weights, hu]
    exact hq)
  obtain ⟨ks, A, c, k1, k2, k3, ⟨k4, k5⟩, _⟩ := nN (D := Rose a.den) (R := fun r vs => ∃ k, RoseR (RepT (okW w) w a) (okW w) w (a.size + 1) k r vs) (W := RoseAll a.wf (a.bytes8 + 24)) (M := fun _ => 0) e4 hc (by omega) hb e5 e6
   (fun m' hm' vs z hz hsz => by
    obtain ⟨r, q1, q2⟩ := ih m' (by omega) vs z hz hsz
    exact ⟨r, q1, q2, fun _ _ => Nat.zero_le _⟩)
  obtain ⟨K, hK⟩ := cq k3
  simp only [List.cons.injEq, and_true] at k1
  rw [List.drop_zero] at e1
  exact ⟨.node d ks, ⟨K + 1, p, A, c, by rw [e1, k1], e2, k2, hK⟩, .mk d ks e3 k4 k5⟩
theorem uS : ∀ (n : Nat) (fuel : Nat) (t : TypeId) (τ : Ty) (cs : List Value) (x : DataW H × List MemPlace), tyB P n t τ = true → DataW.trod enc P w base spare held fuel t cs = some x → sX P t x.1 → ∃ d : τ.den, RepT (okW w) w τ d cs ∧ τ.wf d ∧ ∀ β : DataW H → Nat, Bulk β → τ.mass d ≤ β x.1
 | 0, fuel, t, τ, cs, x, h, hd, hs => by simp [tyB] at h
 | n + 1, fuel, t, τ, cs, x, h, hd, hs => by
  unfold tyB at h
  split at h
  ·rename_i hu
   split at h
   ·obtain ⟨b, rfl, _⟩ := DataW.trod_bool hu hd
    exact ⟨b, rfl, trivial, fun β hβ => hβ.one _⟩
   ·cases h
  ·rename_i k hu
   split at h
   ·rename_i k'
    have := NK h
    subst this
    obtain ⟨m, rfl, _, hw⟩ := DataW.trod_int hu hd
    exact ⟨m, rfl, R4 hw, fun β hβ => hβ.one _⟩
   ·cases h
  ·rename_i k hu
   split at h
   ·rename_i k'
    have := NK h
    subst this
    obtain ⟨m, rfl, _, hw⟩ := nr hu hd
    exact ⟨m, rfl, hw, fun β hβ => hβ.one _⟩
   ·cases h
  ·rename_i hu
   split at h
   ·obtain ⟨s, rfl, rfl, hw⟩ := DataW.trod_string hu hd
    refine ⟨s, rfl, ?_, fun β hβ => by have := hβ.str s.data.toList; simpa [Ty.mass] using this⟩
    have := hs s.data.toList.length (by simp [DataW.weights])
    show s.size ≤ reachBytes
    simpa using this
   ·cases h
  ·rename_i e hu
   split at h
   ·rename_i σ
    simp only [Nt] at h
    obtain ⟨⟨⟨h1, h2⟩, h3⟩, h4⟩ := h
    have h1 := Nz h1
    have h2 : 0 < σ.size := by simp [Nat.blt] at h2; omega
    have h3 := Nat.le_of_ble_eq_true h3
    obtain ⟨xs, A, c, q1, q2, q3, q4, q5⟩ := nN (D := σ.den) (R := RepT (okW w) w σ) (W := σ.wf) (M := σ.mass) hu h1 h2 h3 hd hs (fun m _ vs y hy hsy => uS n m e σ vs y h4 hy hsy)
    exact ⟨xs, ⟨A, c, q1, q2, q3⟩, q4, q5⟩
   ·cases h
  ·rename_i fs hu
   simp only [Nt] at h
   obtain ⟨h1, h2⟩ := h
   have h1 := Nz h1
   rcases (show (∃ a, τ = .rose a) ∨ uC P (tyB P n) fs.toList 0 τ = true by
    cases τ with
    | rose a => exact .inl ⟨a, rfl⟩
    | _ => exact .inr h2) with ⟨a, rfl⟩ | h2
   ·simp only [Nt] at h2
    obtain ⟨h3, h4⟩ := h2
    obtain ⟨r, q1, q2⟩ := cQ (a := a) (fun m t τ cs x hg ht hsm => uS n m t τ cs x hg ht hsm) hu h1 (Nat.le_of_ble_eq_true h4) h3 fuel cs x hd hs
    exact ⟨r, q1, q2, fun β hβ => Nat.zero_le _⟩
   obtain ⟨xs, m, _, rfl, hc, hl, hx⟩ := DataW.trod_struct hu hd
   have := tS (fun t τ cs x hg ht hsm => uS n m t τ cs x hg ht hsm) fs.toList 0 τ cs xs h2 (by simpa using hl) (by omega) (fun i f hf => hx i f (by simpa using hf)) (fun i f y hf hy => by
    refine n9 (P := P) (ts := fs.toList.map (·.type)) (l := xs.map (·.1)) (fun q hq => hs q ?_) i f.type y.1 (by simp [hf]) (by simp [hy])
    simp only [DataW.weights, hu]
    exact hq)
   obtain ⟨d, q1, q2, q3⟩ := this
   refine ⟨d, by simpa using q1, q2, fun β hβ => ?_⟩
   have e3 := hβ.ag (xs.map (·.1))
   rw [List.map_map] at e3
   exact Nat.le_trans (q3 β hβ) e3
  ·rename_i m0 e hu
   simp only [Nt] at h
   obtain ⟨h1, h2⟩ := h
   have h1 := Nz h1
   obtain ⟨xs, m, _, rfl, hc, hl, hx⟩ := DataW.trod_array hu hd
   have hfld : ∀ (i : Nat) (f : Field), (R9 P m0 e)[i]? = some f → i < m0 ∧ f.type = e ∧ f.offset = i * P.cellsOf e := by
    intro i f hf
    unfold R9 at hf
    rw [List.getElem?_map, Option.map_eq_some_iff] at hf
    obtain ⟨j, hj, rfl⟩ := hf
    rw [NB] at hj
    obtain ⟨q1, q2⟩ := hj
    simp at q1 q2
    subst q2
    exact ⟨q1, rfl, rfl⟩
   have := tS (fun t τ cs x hg ht hsm => uS n m t τ cs x hg ht hsm) (R9 P m0 e) 0 τ cs xs h2 (by simp [R9, hl]) (by omega) (fun i f hf => by
     obtain ⟨q1, q2, q3⟩ := hfld i f hf
     rw [q2, q3]; exact hx i q1) (fun i f y hf hy => by
    obtain ⟨q1, q2, q3⟩ := hfld i f hf
    rw [q2]
    refine pH (P := P) (e := e) (l := xs.map (·.1)) (fun q hq => hs q ?_) y.1 (List.mem_map_of_mem (ND hy))
    simp only [DataW.weights, hu]
    exact hq)
   obtain ⟨d, q1, q2, q3⟩ := this
   refine ⟨d, by simpa using q1, q2, fun β hβ => ?_⟩
   have e3 := hβ.ag (xs.map (·.1))
   rw [List.map_map] at e3
   exact Nat.le_trans (q3 β hβ) e3
  ·cases h
 termination_by n => n
def Pa (P : Program) (t : TypeId) : Bool :=
 match P.underlying t with
 | some (.struct _) => true
 | some (.array _ _) => true
 | _ => false
def Yw (P : Program) (t : TypeId) (p : Bool × Ty) : Bool := tyB P 8 t p.2 && (Pa P t == p.1)
def rp (P : Program) : List TypeId → Sig → Bool
 | [], [] => true
 | t :: ts, p :: s => Yw P t p && rp P ts s
 | _, _ => false
def wfL : (s : Sig) → s.den → Prop
 | [], _ => True
 | [p], x => p.2.wf x
 | p :: q :: l, x => p.2.wf x.1 ∧ wfL (q :: l) x.2
def Xl : (s : Sig) → s.den → Nat
 | [], _ => 0
 | [p], x => p.2.mass x
 | p :: q :: l, x => p.2.mass x.1 + Xl (q :: l) x.2
def cx0 (w : World) : Cx := { ok := okW w, at_ := fun _ => none, w := w, H := [] }
theorem Tp (w : World) (ht : Tabs (okW w) w) : Inv (cx0 w) :=
 ⟨fun _ h => h, fun i j b oi oj hi => by simp [cx0] at hi, fun i b o hi => by simp [cx0] at hi, fun i o hi => by simp [cx0] at hi, ht⟩
theorem dw {r : Reach} {b0 : Nat} {t : TypeId} {p : Bool × Ty} {v : Value} {d : DataW H} {ps : List MemPlace} (h : Yw P t p = true) (hval : Value.okWide P w r b0 t v) (hd : DataW.Trod enc P w base spare held t v d ps) (hs : sX P t d) :
  ∃ x : p.2.den, RepV (cx0 w) (.val p.1 (p.2.cells x)) v ∧ p.2.wf x ∧ ∀ β : DataW H → Nat, Bulk β → p.2.mass x ≤ β d := by
 simp only [Yw, Nt, beq_iff_eq] at h
 obtain ⟨h1, h2⟩ := h
 obtain ⟨fuel, hf⟩ := hd
 obtain ⟨x, r1, r2, r3⟩ := uS 8 fuel t p.2 _ _ h1 hf hs
 refine ⟨x, ?_, r2, r3⟩
 have hcells := RepT.cells (x := cx0 w) _ _ _ r1
 rw [← h2]
 have scal : (∀ c, v ≠ .agg c) → Pa P t = false → RepV (cx0 w) (.val (Pa P t) (p.2.cells x)) v := fun hna ha => by
  rw [ha]
  have : v.cells.toList = [v] := by
   cases v with
   | agg c => exact absurd rfl (hna c)
   | _ => rfl
  rw [this] at hcells
  exact hcells
 unfold Pa at scal ⊢
 cases hu : P.underlying t with
 | none => rw [show tyB P 8 t p.2 = false by simp [tyB, hu]] at h1; cases h1
 | some u =>
  rw [hu] at scal
  cases u with
  | struct fs =>
   obtain ⟨cs, rfl, _⟩ := okWide_struct hu hval
   exact ⟨cs, rfl, by simpa [Value.cells] using hcells⟩
  | array n e =>
   have hval' := hval
   simp only [Value.okWide, hu] at hval'
   obtain ⟨cs, rfl, _⟩ := hval'
   exact ⟨cs, rfl, by simpa [Value.cells] using hcells⟩
  | bool => obtain ⟨b, rfl⟩ := okWide_bool hu hval; exact scal (fun c => by simp) rfl
  | int k => obtain ⟨b, rfl⟩ := okWide_int hu hval; exact scal (fun c => by simp) rfl
  | float k =>
   refine scal (fun c hc => ?_) rfl
   simp only [Value.okWide, hu, Cell.okWide] at hval
   subst hc
   simp [Cell.ok, hu] at hval
  | string => obtain ⟨b, rfl⟩ := okWide_string hu hval; exact scal (fun c => by simp) rfl
  | slice e => obtain ⟨a, l, c, rfl⟩ := okWide_slice hu hval; exact scal (fun c => by simp) rfl
  | _ => rw [show tyB P 8 t p.2 = false by simp [tyB, hu]] at h1; cases h1
theorem pf {r : Reach} {b0 : Nat} : ∀ {ts : List TypeId} {s : Sig} {vs : List Value} {ds : List (DataW H)} {ps : List MemPlace}, rp P ts s = true → (∀ (j : Nat) t v, ts[j]? = some t → vs[j]? = some v → Value.okWide P w r b0 t v) →
  DataW.TrodAll enc P w base spare held ts vs ds ps → (∀ n ∈ DataW.weightsEach P ts ds, n ≤ reachBytes) → ∃ X : s.den, RepVs (cx0 w) (zu s X) vs ∧ wfL s X ∧ ∀ β : DataW H → Nat, Bulk β → Xl s X ≤ (ds.map β).sum
 | [], [], vs, ds, ps, h, hval, hd, hs => by
  obtain ⟨rfl, _⟩ := trodAll_nil hd
  exact ⟨(), rfl, trivial, fun β _ => Nat.zero_le _⟩
 | [], _ :: _, vs, ds, ps, h, hval, hd, hs => by simp [rp] at h
 | t :: ts, [], vs, ds, ps, h, hval, hd, hs => by simp [rp] at h
 | t :: ts, p :: s, vs, ds, ps, h, hval, hd, hs => by
  simp only [rp, Nt] at h
  obtain ⟨v, vs', d, ds', p1, q1, rfl, rfl, rfl, h3, h4⟩ := trodAll_cons hd
  simp only [DataW.weightsEach, NS] at hs
  obtain ⟨x, r1, r2, m1⟩ := dw h.1 (hval 0 t v rfl rfl) h3 (fun n hn => hs n (.inl hn))
  obtain ⟨X, r3, r4, m2⟩ := pf (s := s) h.2 (fun j t' v' ht hv => hval (j + 1) t' v' (by simpa using ht) (by simpa using hv)) h4 (fun n hn => hs n (.inr hn))
  cases s with
  | nil =>
   refine ⟨x, ⟨v, vs', rfl, r1, r3⟩, r2, fun β hβ => by have := m1 β hβ; simp only [NN, List.sum_cons, Xl]; omega⟩
  | cons q l =>
   refine ⟨(x, X), ⟨v, vs', rfl, r1, r3⟩, ⟨r2, r4⟩, fun β hβ => by have := m1 β hβ; have := m2 β hβ; simp only [NN, List.sum_cons, Xl]; omega⟩
theorem dE {f : FuncId} {fn : Func} {vals : Array Value} {S : Value → World → Prop} (hf : P.funcs[f]? = some fn) (hn : (fn.name == "runtime.NumGoroutine") = false) (hb : fn.body.isSome = true) (h : Does P (callFunc f vals) w S) :
  Calls P f vals w fun e w' => ∃ v, e = .returned v ∧ S v w' := by
 have hrun : (callFunc f vals).run P w = .ok (.enter f vals) w := by
  simp only [beq_eq_false_iff_ne, ne_eq] at hn
  obtain ⟨c, hc⟩ := Option.isSome_iff_exists.1 hb
  simp [callFunc, go_sem, hf, hc, hn]
 unfold Does at h
 rw [hrun] at h
 simp only at h
 refine Calls.mono h (fun e w' he => ?_)
 cases e with
 | returned v => exact ⟨v, rfl, he⟩
 | panicked c => exact he.elim
 | outgrown => exact he.elim
theorem Zb {f : FuncId} {fn : Func} {s : Sig} {F : s.den → Option (Sig.den [(false, .bool)])} (hC : ConOk P f (zk s [(false, .bool)] true F)) (hf : P.funcs[f]? = some fn) (hn : (fn.name == "runtime.NumGoroutine") = false) (hb : fn.body.isSome = true)
  {vals : Array Value} (htab : Tabs (okW w) w) {X : s.den} (hv : RepVs (cx0 w) (zu s X) vals.toList) (hF : F X = some true) : Calls P f vals w fun e w' => e = .returned (.bool true) ∧ Below w.heap.size w w' := by
 have hro : ∀ (l : List (Bool × List C)) (us : List Value), RepVs (cx0 w) (l.map fun p => .val p.1 p.2) us → True := fun _ _ _ => trivial
 have hlook : ∀ (s : Sig) (X : s.den), zU s ((zu s X).map (roV [])) = some X := by
  have hc : ∀ (t : Ty) (d : t.den), (t.cells d).map (roC []) = t.cells d := by
   intro t
   induction t with
   | pair a b iha ihb => intro d; simp [Ty.cells, iha, ihb]
   | rose a ih => intro d; cases d; simp [Ty.cells, ih, roC]
   | _ => intro d; simp [Ty.cells, roC]
  have h1 : ∀ (p : Bool × Ty) (d : p.2.den), nj p (roV [] (.val p.1 (p.2.cells d))) = some d := fun p d => by
   simp only [roV, hc, nj, if_true, tI]
  intro s
  induction s with
  | nil => intro X; rfl
  | cons p l ih =>
   cases l with
   | nil => intro X; exact h1 p X
   | cons q l =>
    intro X
    show (match nj p (roV [] (.val p.1 (p.2.cells X.1))) with
     | some x => match zU (q :: l) ((zu (q :: l) X.2).map (roV [])) with
      | some y => some (x, y)
      | none => none
     | none => none) = some X
    rw [h1, ih]
 have := hC.calls (cx0 w) (zu s X) vals X true (Tp w htab) hv (hlook s X) hF
 have := dE hf hn hb this
 refine this.mono (fun e w' he => ?_)
 obtain ⟨v, rfl, y, rfl, hH, hI, hk, _, _, _, hrep⟩ := he
 have hrep' : RepV y (.val false [.sc .bool true]) v := hrep
 rw [v4 hrep']
 refine ⟨rfl, hk.os, hk.tape, hk.output, hk.size, fun b hb => hk.block b hb ?_⟩
 rintro ⟨i, o, h1, _⟩
 simp [cx0] at h1
theorem g7 (hl : laidOutB P = true) {W W' : World} (hb : Below W.heap.size W W') : ∀ {ts : List TypeId} {vs : List Value} {ds : List (DataW H)} {ps : List MemPlace}, (ts.all fun t => P.readableRec t && decide (t < P.types.size)) = true →
  DataW.TrodAll enc P W 0 (fun _ => true) true ts vs ds ps → DataW.TrodAll enc P W' 0 (fun b => decide (b < W.heap.size)) true ts vs ds ps
 | [], vs, ds, ps, h, hd => by
  obtain ⟨rfl, rfl, rfl⟩ := trodAll_nil hd
  exact trodAll_mk0
 | t :: ts, vs, ds, ps, h, hd => by
  simp only [List.all_cons, Nt, NE] at h
  obtain ⟨v, vs', d, ds', p1, q1, rfl, rfl, rfl, h3, h4⟩ := trodAll_cons hd
  have hlt : ∀ x ∈ p1, x.block < W.heap.size := by
   obtain ⟨m, hm⟩ := h3
   exact DataW.trod_lt m _ _ _ hm
  exact trodAll_cons_mk (Below.trod hl h.1.1 h.1.2 h3 hb hlt) (g7 hl hb h.2 h4)
theorem W4 {Ck : Checked} {f : FuncId} {fn : Func} {sp : ChangeSpec} {s : Sig} {F : s.den → Option (Sig.den [(false, .bool)])} (hC : ConOk Ck.prog f (zk s [(false, .bool)] true F)) (hf : Ck.prog.funcs[f]? = some fn) (hn : (fn.name == "runtime.NumGoroutine") = false) (hb : fn.body.isSome = true)
    (hF : ∀ X, wfL s X → F X = some true) (hp : rp Ck.prog fn.params.toList s = true) (hl : laidOutB Ck.prog = true) (hrd : (fn.params.toList.all fun t => Ck.prog.readableRec t && decide (t < Ck.prog.types.size)) = true)
    (hvars : sp.vars = []) {rt : TypeId} (hrt : fn.resultTypes = #[rt]) (hbt : Ck.prog.underlying rt = some .bool) (hsp : ∀ ds : List (DataW H), ds.length = fn.params.toList.length → sp.fn H ds = { results := [.lit (.bool true)], args := ds })
    (W : World) (b0 : Nat) (args : Array Value) (ds gs : List (DataW H)) (before : List MemPlace) (hval : ∀ (j : Nat) t v, fn.params[j]? = some t → args[j]? = some v → Value.okWide Ck.prog W .any b0 t v)
    (hW : DataW.Whole enc Ck.prog fn.params.toList sp.vars false W args.toList ds gs before) (hsz : (DataW.weightsEach Ck.prog (fn.params.toList ++ sp.plain.varTypes Ck.prog) (ds ++ gs)).all (· ≤ reachBytes) = true) (htab : Tabs (okW W) W) :
    Calls Ck.prog f args W fun e W' => ∃ v, e = .returned v ∧ sp.post enc Ck.prog fn false true false false W args v W' := by
  have hW' := hW
  obtain ⟨p, q, hA, hV, rfl, hfz, hnd⟩ := hW
  rw [hvars] at hV
  obtain ⟨rfl, rfl⟩ := trodVars_none hV
  have hvt : sp.plain.varTypes Ck.prog = [] := by
    unfold DataSpec.varTypes
    simp [ChangeSpec.plain, hvars]
  rw [hvt, List.append_nil, List.append_nil] at hsz
  obtain ⟨X, r1, r2, _⟩ := pf (s := s) hp (fun j t v ht hv => hval j t v (by simpa using ht) (by simpa using hv)) hA (fun n hn => by simpa using Nw.1 hsz n hn)
  refine (Zb hC hf hn hb htab r1 (hF X r2)).mono (fun e W' he => ?_)
  obtain ⟨rfl, bel⟩ := he
  have hlen : ds.length = fn.params.toList.length := by
    have : ∀ {ts : List TypeId} {vs : List Value} {ds : List (DataW H)} {ps : List MemPlace}, DataW.TrodAll enc Ck.prog W 0 (fun _ => true) true ts vs ds ps → ds.length = ts.length := by
      intro ts
      induction ts with
      | nil => intro vs ds ps h; obtain ⟨_, rfl, _⟩ := trodAll_nil h; rfl
      | cons t ts ih => intro vs ds ps h; obtain ⟨v, vs', d, ds', p1, q1, rfl, rfl, rfl, h3, h4⟩ := trodAll_cons h; simp [ih h4]
    exact this hA
  refine ⟨_, rfl, ds, [], _, [], p, [], hW', ?_, ?_, ?_, bel.frame _, fun h => by cases h⟩
  · rw [List.append_nil, hsp ds hlen, hrt]
    exact trodAll_mk1 (shut_bool hbt _)
  · rw [List.append_nil, hsp ds hlen]
    exact g7 hl bel hrd hA
  · rw [List.append_nil, hsp ds hlen, hvars]
    rfl
end
end Go.Proofs.YtefddghdaimklaaGreatDoor.AI
