/- A part of the proof. -/
import Derived.RowKit3
import Derived.Shelf.Unicode.DecodeSlow
import Derived.Lib.ItoaNum
import Derived.Laws.AppendOwn
import Derived.Below
import Derived.KernelRfl
set_option linter.unusedVariables false
set_option linter.unusedSimpArgs false
namespace Go.Proofs.YtefddghdaimklaaGreatDoor.AI
theorem Nt : type_of% @Bool.and_eq_true := @Bool.and_eq_true
theorem Nu : type_of% @cond_false := @cond_false
theorem Nv : type_of% @cond_true := @cond_true
theorem Nw : type_of% @List.all_eq_true := @List.all_eq_true
theorem Nx : type_of% @Option.bind_some := @Option.bind_some
theorem Ny : type_of% @decide_eq_true := @decide_eq_true
theorem Nz : type_of% @Nat.eq_of_beq_eq_true := @Nat.eq_of_beq_eq_true
theorem NA : type_of% @Option.some.injEq := @Option.some.injEq
theorem NB : type_of% @List.getElem?_eq_some_iff := @List.getElem?_eq_some_iff
theorem NC : type_of% @Bool.and_self := @Bool.and_self
theorem ND : type_of% @List.mem_of_getElem? := @List.mem_of_getElem?
theorem NE : type_of% @decide_eq_true_eq := @decide_eq_true_eq
theorem NF : type_of% @Nat.le_refl := @Nat.le_refl
theorem NG : type_of% @Nat.lt_succ_self := @Nat.lt_succ_self
theorem NH : type_of% @Prod.mk.injEq := @Prod.mk.injEq
theorem NI : type_of% @List.take_length := @List.take_length
theorem NJ : type_of% @Bool.not_true := @Bool.not_true
theorem NK : type_of% @of_decide_eq_true := @of_decide_eq_true
theorem NL : type_of% @List.getElem?_eq_getElem := @List.getElem?_eq_getElem
theorem NM : type_of% @List.mem_cons := @List.mem_cons
theorem NN : type_of% @List.map_cons := @List.map_cons
theorem NO : type_of% @decide_eq_true_iff := @decide_eq_true_iff
theorem NP : type_of% @Nat.mul_le_mul_right := @Nat.mul_le_mul_right
theorem NQ : type_of% @Option.bind_eq_some_iff := @Option.bind_eq_some_iff
theorem NR : type_of% @decide_eq_false := @decide_eq_false
theorem NS : type_of% @List.mem_append := @List.mem_append
theorem NT : type_of% @Bool.true_and := @Bool.true_and
theorem NU : type_of% @List.append_assoc := @List.append_assoc
theorem NV : type_of% @List.length_append := @List.length_append
theorem NW : type_of% @Bool.not_false := @Bool.not_false
open Go
inductive Rose (α : Type) : Type where
 | node (a : α) (kids : List (Rose α))
def Rose.lab {α : Type} : Rose α → α
 | .node a _ => a
def Rose.kids {α : Type} : Rose α → List (Rose α)
 | .node _ k => k
theorem Rose.eta {α : Type} (r : Rose α) : Rose.node r.lab r.kids = r := by cases r; rfl
inductive Ty : Type where
 | bool | int (k : IntKind) | float (k : FloatKind) | str | sl (e : Ty) | unit | pair (a b : Ty) | rose (a : Ty) | set (t : Ty)
 deriving DecidableEq
@[reducible] def Ty.den : Ty → Type
 | .bool => Bool
 | .int _ => Int
 | .float _ => Nat
 | .str => ByteArray
 | .sl e => List e.den
 | .unit => Unit
 | .pair a b => a.den × b.den
 | .rose a => Rose a.den
 | .set t => List t.den
def Ty.size : Ty → Nat
 | .unit => 0
 | .pair a b => a.size + b.size
 | .rose a => a.size + 1
 | _ => 1
def Ty.dflt : (t : Ty) → t.den
 | .bool => false
 | .int _ => (0 : Int)
 | .float _ => (0 : Nat)
 | .str => (⟨#[]⟩ : ByteArray)
 | .sl _ => []
 | .unit => ()
 | .pair a b => (a.dflt, b.dflt)
 | .rose a => .node a.dflt []
 | .set _ => []
end Go.Proofs.YtefddghdaimklaaGreatDoor.AI
namespace Go.Proofs.YtefddghdaimklaaGreatDoor.AI
open Go
inductive TabFact : Nat → (Option Obj → Prop) → Prop where
 | first : TabFact 4 fun o => ∀ w : World, w.heap[4]? = o → ∀ c, c < 256 → w.cell? ⟨4, c, none⟩ = some (.int .u8 (Lib.firstT c))
 | accept : TabFact 5 fun o => ∀ w : World, w.heap[5]? = o → ∀ i, i < 16 → w.cell? ⟨5, 2 * i, none⟩ = some (.int .u8 (Lib.accLo i)) ∧ w.cell? ⟨5, 2 * i + 1, none⟩ = some (.int .u8 (Lib.accHi i))
 | maxLen : TabFact 9 fun o => ∀ w : World, w.heap[9]? = o → ∃ m, w.cell? ⟨9, 0, none⟩ = some (.int .i64 m)
def VW : Nat := 28
def noS : ByteArray := ⟨#[]⟩
def zeroV : Int × (Int × (Nat × ByteArray)) := (0, (0, (0, noS)))
def unL : List ByteArray := [⟨#[45]⟩, ⟨#[110, 111, 116]⟩, ⟨#[105, 115, 32, 110, 117, 108, 108]⟩, ⟨#[105, 115, 32, 110, 111, 116, 32, 110, 117, 108, 108]⟩]
def arL : List ByteArray := [⟨#[43]⟩, ⟨#[45]⟩, ⟨#[42]⟩, ⟨#[47]⟩, ⟨#[37]⟩]
def cpL : List ByteArray := [⟨#[61]⟩, ⟨#[60, 62]⟩, ⟨#[60]⟩, ⟨#[60, 61]⟩, ⟨#[62]⟩, ⟨#[62, 61]⟩]
def sgL : List ByteArray := [⟨#[60, 62]⟩, ⟨#[60, 61]⟩, ⟨#[62, 61]⟩, ⟨#[40]⟩, ⟨#[41]⟩, ⟨#[44]⟩, ⟨#[43]⟩, ⟨#[45]⟩, ⟨#[42]⟩, ⟨#[47]⟩, ⟨#[37]⟩, ⟨#[61]⟩, ⟨#[60]⟩, ⟨#[62]⟩]
def tnL : List ByteArray := [⟨#[61]⟩, ⟨#[60, 62]⟩, ⟨#[62]⟩, ⟨#[62, 61]⟩, ⟨#[60]⟩, ⟨#[60, 61]⟩]
def dI : Nat → Option ((t : Ty) × t.den)
 | 0 => some ⟨.pair (.int .i64) (.pair (.int .i64) (.pair (.float .f64) .str)), zeroV⟩
 | 1 => some ⟨.sl .str, cpL⟩
 | 6 => some ⟨.sl .str, unL⟩
 | 7 => some ⟨.sl .str, arL⟩
 | 2 => some ⟨.sl .str, tnL⟩
 | 8 => some ⟨.sl .str, sgL⟩
 | _ => none
end Go.Proofs.YtefddghdaimklaaGreatDoor.AI
namespace Go.Proofs.YtefddghdaimklaaGreatDoor.AI
open Go
inductive C : Type where
 | sc (t : Ty) (x : t.den)
 | nils
 | own (id n : Nat)
 | ptr (id off : Nat)
 | elr (t : Ty) (x : t.den) (off : Nat)
 | elo (id i off : Nat)
 | nilp
 | nilf
 | nilm
 | mp (id : Nat)
 | fn (f : FuncId) (caps : List (Nat × Nat))
 | fnr (f : FuncId) (caps : List ((t : Ty) × t.den))
 | scn (z : Bool) (t : Ty) (xs : List t.den)
 | nan
 | nf (o : Option Nat)
 | fnm (f : FuncId) (id off : Nat)
 | nili
 | undef
inductive Ob : Type where
 | box (cs : List C)
 | arr (e : TypeId) (t : Ty) (xs : List t.den)
 | mp (t : Ty) (xs : List t.den)
 | tb (rows : List (ByteArray × List C))
 | dead
inductive AV : Type where
 | val (agg : Bool) (cs : List C)
 | tup (vs : List (Bool × List C))
 | skip
 | undef
def Ty.cells : (t : Ty) → t.den → List C
 | .unit, _ => []
 | .pair a b, x => a.cells x.1 ++ b.cells x.2
 | .rose a, r => a.cells r.lab ++ [.sc (.sl (.rose a)) r.kids]
 | .bool, x => [.sc .bool x]
 | .int k, x => [.sc (.int k) x]
 | .float k, x => [.sc (.float k) x]
 | .str, x => [.sc .str x]
 | .sl t, x => [.sc (.sl t) x]
 | .set t, x => [.sc (.set t) x]
def Ty.keyTy : Ty → Bool
 | .bool => true
 | .int _ => true
 | .str => true
 | .pair a b => a.keyTy && b.keyTy
 | _ => false
def Ty.keyV : (t : Ty) → t.den → List Value
 | .bool, b => [.bool b]
 | .int k, n => [.int k n]
 | .str, s => [.string s]
 | .pair a b, x => a.keyV x.1 ++ b.keyV x.2
 | _, _ => []
def SF (t : Ty) (xs : List t.den) (o : Option Obj) : Prop :=
 ∃ es clock, o = some (.map es clock) ∧ es.toList.map (·.key) = xs.map (fun d => Value.agg (t.keyV d).toArray) ∧ ∀ e ∈ es.toList, e.val = .agg #[]
def RowT {α : Type} (R : α → List Value → Prop) (ok : Nat → Prop) (w : World) (size : Nat) (A : Option Addr) (xs : List α) : Prop :=
 xs ≠ [] → ∃ b off, A = some ⟨b, off, none⟩ ∧ ok b ∧ ∀ i x, xs[i]? = some x → ∃ vs, R x vs ∧ vs.length = size ∧ ∀ j v, vs[j]? = some v → w.cell? ⟨b, off + i * size + j, none⟩ = some v
def RoseR {α : Type} (R : α → List Value → Prop) (ok : Nat → Prop) (w : World) (size : Nat) : Nat → Rose α → List Value → Prop
 | 0, _, _ => False
 | n + 1, .node a ks, vs => ∃ p A c, vs = p ++ [.slice A ks.length c] ∧ R a p ∧ ks.length ≤ c ∧ RowT (RoseR R ok w size n) ok w size A ks
def RepT (ok : Nat → Prop) (w : World) : (t : Ty) → t.den → List Value → Prop
 | .bool, b, vs => vs = [.bool b]
 | .int k, n, vs => vs = [.int k n]
 | .float k, n, vs => vs = [.float k n]
 | .str, s, vs => vs = [.string s]
 | .unit, _, vs => vs = []
 | .pair a b, x, vs => ∃ p q, vs = p ++ q ∧ RepT ok w a x.1 p ∧ RepT ok w b x.2 q
 | .sl t, xs, vs => ∃ A c, vs = [.slice A xs.length c] ∧ xs.length ≤ c ∧ RowT (RepT ok w t) ok w t.size A xs
 | .rose a, r, vs => ∃ n, RoseR (RepT ok w a) ok w (a.size + 1) n r vs
 | .set t, xs, vs => ∃ b, vs = [.map (some b)] ∧ ok b ∧ SF t xs w.heap[b]?
theorem RowT.imp {α : Type} {R R' : α → List Value → Prop} {ok ok' : Nat → Prop} {w w' : World} {size : Nat} {A : Option Addr} {xs : List α}
  (hR : ∀ x vs, R x vs → R' x vs) (hok : ∀ b, ok b → ok' b) (hw : ∀ b, ok b → w'.heap[b]? = w.heap[b]?) (h : RowT R ok w size A xs) : RowT R' ok' w' size A xs := by
 intro hne
 obtain ⟨b, off, hA, hb, hx⟩ := h hne
 refine ⟨b, off, hA, hok b hb, fun i x hi => ?_⟩
 obtain ⟨vs, h1, h2, h3⟩ := hx i x hi
 refine ⟨vs, hR _ _ h1, h2, fun j v hj => ?_⟩
 rw [World.cell?_of_block (w := w) (w' := w') (hw b hb)]
 exact h3 j v hj
theorem RoseR.imp {α : Type} {R R' : α → List Value → Prop} {ok ok' : Nat → Prop} {w w' : World} {size : Nat}
  (hR : ∀ x vs, R x vs → R' x vs) (hok : ∀ b, ok b → ok' b) (hw : ∀ b, ok b → w'.heap[b]? = w.heap[b]?) :
  ∀ (n : Nat) (r : Rose α) (vs : List Value), RoseR R ok w size n r vs → RoseR R' ok' w' size n r vs := by
 intro n
 induction n with
 | zero => intro r vs h; exact h
 | succ n ih =>
  intro r vs h
  cases r with
  | node a ks =>
   obtain ⟨p, A, c, h1, h2, h3, h4⟩ := h
   exact ⟨p, A, c, h1, hR _ _ h2, h3, h4.imp ih hok hw⟩
theorem RepT.imp {ok ok' : Nat → Prop} {w w' : World} (hok : ∀ b, ok b → ok' b) (hw : ∀ b, ok b → w'.heap[b]? = w.heap[b]?) :
  ∀ (t : Ty) (x : t.den) (vs : List Value), RepT ok w t x vs → RepT ok' w' t x vs
 | .bool, _, _, h => h
 | .int _, _, _, h => h
 | .float _, _, _, h => h
 | .str, _, _, h => h
 | .unit, _, _, h => h
 | .pair a b, x, vs, h => by
  obtain ⟨p, q, h1, h2, h3⟩ := h
  exact ⟨p, q, h1, RepT.imp hok hw a _ _ h2, RepT.imp hok hw b _ _ h3⟩
 | .sl t, xs, vs, h => by
  obtain ⟨A, c, h1, h2, h3⟩ := h
  exact ⟨A, c, h1, h2, h3.imp (RepT.imp hok hw t) hok hw⟩
 | .rose a, r, vs, h => by
  obtain ⟨n, hn⟩ := h
  exact ⟨n, RoseR.imp (RepT.imp hok hw a) hok hw n r vs hn⟩
 | .set t, xs, vs, h => by
  obtain ⟨b, h1, h2, h3⟩ := h
  exact ⟨b, h1, hok b h2, by rw [hw b h2]; exact h3⟩
def vU (vs : List Value) : Prop := ∀ v ∈ vs, v.oneCell' = true
theorem RoseR.len {α : Type} {R : α → List Value → Prop} {ok : Nat → Prop} {w : World} {size n0 : Nat} (hR : ∀ x vs, R x vs → vs.length = n0 ∧ vU vs) :
  ∀ (n : Nat) (r : Rose α) (vs : List Value), RoseR R ok w size n r vs → vs.length = n0 + 1 ∧ vU vs := by
 intro n
 cases n with
 | zero => intro r vs h; exact h.elim
 | succ n =>
  intro r vs h
  cases r with
  | node a ks =>
   obtain ⟨p, A, c, rfl, h2, h3, h4⟩ := h
   refine ⟨by simp [(hR _ _ h2).1], fun v hv => ?_⟩
   rcases NS.1 hv with hv | hv
   ·exact (hR _ _ h2).2 v hv
   ·rw [List.mem_singleton.1 hv]; rfl
theorem RepT.len {ok : Nat → Prop} {w : World} : ∀ (t : Ty) (x : t.den) (vs : List Value), RepT ok w t x vs → vs.length = t.size ∧ vU vs
 | .bool, _, _, h => by rw [show _ = _ from h]; exact ⟨rfl, by simp [vU, Value.oneCell']⟩
 | .int _, _, _, h => by rw [show _ = _ from h]; exact ⟨rfl, by simp [vU, Value.oneCell']⟩
 | .float _, _, _, h => by rw [show _ = _ from h]; exact ⟨rfl, by simp [vU, Value.oneCell']⟩
 | .str, _, _, h => by rw [show _ = _ from h]; exact ⟨rfl, by simp [vU, Value.oneCell']⟩
 | .unit, _, _, h => by rw [show _ = _ from h]; exact ⟨rfl, by simp [vU]⟩
 | .pair a b, x, vs, h => by
  obtain ⟨p, q, rfl, h2, h3⟩ := h
  refine ⟨by simp [RepT.len a _ _ h2, RepT.len b _ _ h3, Ty.size], fun v hv => ?_⟩
  rcases NS.1 hv with hv | hv
  ·exact (RepT.len a _ _ h2).2 v hv
  ·exact (RepT.len b _ _ h3).2 v hv
 | .sl t, xs, vs, h => by
  obtain ⟨A, c, rfl, h2, h3⟩ := h
  exact ⟨rfl, by simp [vU, Value.oneCell']⟩
 | .rose a, r, vs, h => by
  obtain ⟨n, hn⟩ := h
  exact RoseR.len (RepT.len a) n r vs hn
 | .set t, xs, vs, h => by
  obtain ⟨b, rfl, h2, h3⟩ := h
  exact ⟨rfl, by simp [vU, Value.oneCell']⟩
structure Cx where
 ok : Nat → Prop
 at_ : Nat → Option Nat
 w : World
 H : List Ob
def RepP (x : Cx) (id off : Nat) (v : Value) : Prop :=
 match x.H[id]? with
 | some (.box _) => ∃ b, x.at_ id = some b ∧ v = .pointer (some ⟨b, off, none⟩)
 | _ => False
def RepCaps (x : Cx) : List (Nat × Nat) → List Value → Prop
 | [], vs => vs = []
 | (id, off) :: l, vs => ∃ v r, vs = v :: r ∧ v.oneCell' = true ∧ RepP x id off v ∧ RepCaps x l r
def RepE (x : Cx) (t : Ty) (d : t.den) (off : Nat) (v : Value) : Prop :=
 ∃ b o vs, v = .pointer (some ⟨b, o + off, none⟩) ∧ x.ok b ∧ RepT x.ok x.w t d vs ∧ ∀ j u, vs[j]? = some u → x.w.cell? ⟨b, o + j, none⟩ = some u
def RepRo (x : Cx) : List ((t : Ty) × t.den) → List Value → Prop
 | [], vs => vs = []
 | ⟨t, d⟩ :: l, vs => ∃ v r, vs = v :: r ∧ RepE x t d 0 v ∧ RepRo x l r
def rU (n : Nat) : Prop := ∃ s p, Ieee.double.read n = .nan s p
def fnB : C → Bool
 | .fn _ [] => true
 | .nilf => true
 | _ => false
def fnV : C → Value
 | .fn f _ => .func (.func f) #[] #[]
 | _ => .nilFunc
def Oj (rows : List (ByteArray × List C)) (o : Option Obj) : Prop :=
 ∃ es clock, o = some (.map es clock) ∧ es.toList.map (fun e => (e.key, e.val)) = rows.map (fun r => (Value.string r.1, Value.agg (r.2.map fnV).toArray)) ∧ ∀ r ∈ rows, r.2.all fnB = true
def zV (x : Cx) : C → Value → Prop
 | .sc t d, v => RepT x.ok x.w t d [v]
 | .nils, v => v = .slice none 0 0
 | .own id n, v => match x.H[id]? with
  | some (.arr e t xs) => n ≤ xs.length ∧ match x.at_ id with
   | none => (∃ A, v = .slice A 0 0) ∧ n = 0
   | some b => ∃ c, v = .slice (some ⟨b, 0, none⟩) n c ∧ n ≤ c ∧ c ≤ maxLen ∧ ∀ cur e' fr, x.w.heap[b]? = some (.cells cur e' fr) → c * t.size ≤ cur.size
  | _ => False
 | .ptr id off, v => RepP x id off v
 | .elr t d off, v => RepE x t d off v
 | .elo id i off, v => match x.H[id]? with
  | some (.arr e t xs) => i < xs.length ∧ ∃ b, x.at_ id = some b ∧ v = .pointer (some ⟨b, i * t.size + off, none⟩)
  | _ => False
 | .nilp, v => v = .pointer none
 | .nilf, v => v = .nilFunc
 | .nilm, v => v = .map none
 | .mp id, v => match x.H[id]? with
  | some (.mp t xs) => ∃ b, x.at_ id = some b ∧ v = .map (some b)
  | some (.tb _) => ∃ b, x.at_ id = some b ∧ v = .map (some b)
  | _ => False
 | .fn f caps, v => ∃ vs, v = .func (.func f) #[] vs ∧ RepCaps x caps vs.toList
 | .scn z t xs, v => RepT x.ok x.w (.sl t) xs [v] ∧ ((z = true ∧ ∃ l c, v = .slice none l c) ∨ (z = false ∧ ∃ a l c, v = .slice (some a) l c))
 | .fnr f caps, v => ∃ vs, v = .func (.func f) #[] vs ∧ RepRo x caps vs.toList
 | .nan, v => ∃ n, v = .float .f64 n ∧ rU n
 | .nf o, v => match o with
  | some r => v = .float .f64 r
  | none => ∃ n, v = .float .f64 n ∧ rU n
 | .fnm f id off, v => ∃ p, v = .func (.func f) #[p] #[] ∧ p.oneCell' = true ∧ RepP x id off p
 | .nili, v => v = .nilIface
 | .undef, _ => True
def RepC (x : Cx) (c : C) (v : Value) : Prop := v.oneCell' = true ∧ zV x c v
def RepCs (x : Cx) : List C → List Value → Prop
 | [], vs => vs = []
 | c :: l, vs => ∃ v r, vs = v :: r ∧ RepC x c v ∧ RepCs x l r
def Rep1 (x : Cx) (p : Bool × List C) (v : Value) : Prop :=
 match p with
 | (true, cs) => ∃ vs : Array Value, v = .agg vs ∧ RepCs x cs vs.toList
 | (false, cs) => RepCs x cs [v]
def Rep1s (x : Cx) : List (Bool × List C) → List Value → Prop
 | [], vs => vs = []
 | p :: l, vs => ∃ v r, vs = v :: r ∧ Rep1 x p v ∧ Rep1s x l r
def RepV (x : Cx) : AV → Value → Prop
 | .val g cs, v => Rep1 x (g, cs) v
 | .tup l, v => ∃ vs : Array Value, v = .tuple vs ∧ Rep1s x l vs.toList
 | .skip, v => v = Go.undef
 | .undef, _ => True
def ObRep (x : Cx) (id : Nat) : Ob → Prop
 | .box cs => ∃ b vs e, x.at_ id = some b ∧ x.w.heap[b]? = some (.cells vs e (0, 0)) ∧ RepCs x cs vs.toList
 | .arr e t xs => match x.at_ id with
  | none => xs = []
  | some b => ∃ cur, x.w.heap[b]? = some (.cells cur e (0, 0)) ∧ xs.length * t.size ≤ cur.size ∧
    ∀ i d, xs[i]? = some d → ∃ vs, RepT x.ok x.w t d vs ∧ ∀ j v, vs[j]? = some v → cur[i * t.size + j]? = some v
 | .mp t xs => ∃ b, x.at_ id = some b ∧ SF t xs x.w.heap[b]?
 | .tb rows => ∃ b, x.at_ id = some b ∧ Oj rows x.w.heap[b]?
 | .dead => True
def Pr (ok : Nat → Prop) (w : World) : Prop := ∀ b Q, TabFact b Q → ok b ∧ Q w.heap[b]?
def PI (ok : Nat → Prop) (w : World) : Prop := ∀ g p, dI g = some p → ok g ∧ ∃ vs, RepT ok w p.1 p.2 vs ∧ ∀ j u, vs[j]? = some u → w.cell? ⟨g, j, none⟩ = some u
def Tabs (ok : Nat → Prop) (w : World) : Prop := Pr ok w ∧ PI ok w
theorem Tabs.imp {ok ok' : Nat → Prop} {w w' : World} (hok : ∀ b, ok b → ok' b) (hw : ∀ b, ok b → w'.heap[b]? = w.heap[b]?) (h : Tabs ok w) : Tabs ok' w' := by
 refine ⟨fun b Q hv => ?_, fun g p hp => ?_⟩
 ·obtain ⟨h1, h2⟩ := h.1 b Q hv
  exact ⟨hok b h1, by rw [hw b h1]; exact h2⟩
 ·obtain ⟨h1, vs, h2, h3⟩ := h.2 g p hp
  refine ⟨hok g h1, vs, RepT.imp hok hw _ _ _ h2, fun j u hj => ?_⟩
  rw [World.cell?_of_block (w := w) (w' := w') (hw g h1)]
  exact h3 j u hj
structure Inv (x : Cx) : Prop where
 okb : ∀ b, x.ok b → b < x.w.heap.size
 inj : ∀ i j b oi oj, x.H[i]? = some oi → x.H[j]? = some oj → oi ≠ .dead → oj ≠ .dead → x.at_ i = some b → x.at_ j = some b → i = j
 off : ∀ i b o, x.H[i]? = some o → o ≠ .dead → x.at_ i = some b → ¬ x.ok b
 obs : ∀ i o, x.H[i]? = some o → ObRep x i o
 tab : Tabs x.ok x.w
def Cx.mine (x : Cx) (b : Nat) : Prop := ∃ i o, x.H[i]? = some o ∧ o ≠ .dead ∧ x.at_ i = some b
end Go.Proofs.YtefddghdaimklaaGreatDoor.AI
