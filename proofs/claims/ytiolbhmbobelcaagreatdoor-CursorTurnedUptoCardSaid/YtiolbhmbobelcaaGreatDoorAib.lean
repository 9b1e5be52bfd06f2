/- The plain run of a function's code over our data: what each operation does, region by region, in the way of continuations. -/
import Derived.Test.YtiolbhmbobelcaaGreatDoorAia
set_option linter.unusedVariables false
set_option linter.unusedSimpArgs false
namespace Go.Proofs.YtiolbhmbobelcaaGreatDoor.AI
open Go

/-! ### Types -/
inductive Z : Type where
  | dat (t : Ty) | nils | nilp | nilf | nilm | nili

inductive TD : Type where
  | int (k : IntKind) | bool | float (k : FloatKind) | str
  | struct (fs : List (Nat × Nat × Bool)) (eq : Option Ty)   -- offset, cells, whether it is an aggregate itself; the kind of datum, where '==' is known
  | map (k : TypeId) (t : Ty)   -- a set: of which keys
  | tab (z : List Z)   -- a map from texts to structs of functions: what it tells of a text that is none of its keys
  | slice (e : TypeId)
  | ptr | func | iface
  | arr (n : Nat) (e : TypeId)

structure TI where
  d : TD
  size : Nat
  bytes : Nat
  ty : Option Ty
  zero : List Z

def TD.agg : TD → Bool
  | .struct _ _ => true
  | .arr _ _ => true
  | _ => false

def Z.cell : Z → C
  | .dat t => .sc t t.dflt
  | .nils => .nils
  | .nilp => .nilp
  | .nilf => .nilf
  | .nilm => .nilm
  | .nili => .nili

/-! ### Cells back to data -/
def Ty.one (t : Ty) : C → Option t.den
  | .sc u x => if h : u = t then some (h ▸ x) else none
  | .nils => match t with
    | .sl _ => some []
    | _ => none
  | _ => none

def Ty.ofCells : (t : Ty) → List C → Option (t.den × List C)
  | .unit, cs => some ((), cs)
  | .pair a b, cs => match a.ofCells cs with
    | some (x, r) => match b.ofCells r with
      | some (y, r') => some ((x, y), r')
      | none => none
    | none => none
  | .rose a, cs => match a.ofCells cs with
    | some (x, c :: r) => match Ty.one (.sl (.rose a)) c with
      | some ks => some (.node x ks, r)
      | none => none
    | _ => none
  | .bool, c :: r => match Ty.one .bool c with
    | some x => some (x, r)
    | none => none
  | .int k, c :: r => match Ty.one (.int k) c with
    | some x => some (x, r)
    | none => none
  | .float k, c :: r => match Ty.one (.float k) c with
    | some x => some (x, r)
    | none => none
  | .str, c :: r => match Ty.one .str c with
    | some x => some (x, r)
    | none => none
  | .sl t, c :: r => match Ty.one (.sl t) c with
    | some x => some (x, r)
    | none => none
  | .set t, c :: r => match Ty.one (.set t) c with
    | some x => some (x, r)
    | none => none
  | _, [] => none

def Ty.whole (t : Ty) (cs : List C) : Option t.den :=
  match t.ofCells cs with
  | some (x, []) => some x
  | _ => none

/-! ### State -/
structure St where
  fr : List AV
  H : List Ob

def constV : Value → AV
  | .bool b => .val false [.sc .bool b]
  | .int k n => .val false [.sc (.int k) n]
  | .float k n => .val false [.sc (.float k) n]
  | .string s => .val false [.sc .str s]
  | .slice none 0 0 => .val false [.nils]
  | .pointer none => .val false [.nilp]
  | .nilFunc => .val false [.nilf]
  | .nilIface => .val false [.nili]
  | _ => .undef

def evA (fr : List AV) : Operand → AV
  | .tmp t => fr.getD t .undef
  | .const v => constV v
  | .func f => .val false [.fn f []]
  | .global g => match globD g with
    | some p => .val false [.elr p.1 p.2 0]
    | none => .undef

/-- What becomes of the references to one object: nothing is left of them, or what they read as. -/
inductive Sub : Type where
  | kill (id : Nat)
  | give (id : Nat) (t : Ty) (xs : List t.den)
  | above (n : Nat)

def Sub.c (s : Sub) : C → C
  | .own id n => match s with
    | .kill i => bif Nat.beq id i then .undef else .own id n
    | .give i t xs => bif Nat.beq id i then .sc (.sl t) (xs.take n) else .own id n
    | .above m => bif Nat.ble m id then .undef else .own id n
  | .ptr id off => match s with
    | .above m => bif Nat.ble m id then .undef else .ptr id off
    | _ => .ptr id off
  | .elo id i off => match s with
    | .kill j => bif Nat.beq id j then .undef else .elo id i off
    | .give j t xs => bif Nat.beq id j then .undef else .elo id i off
    | .above m => bif Nat.ble m id then .undef else .elo id i off
  | .mp id => match s with
    | .above m => bif Nat.ble m id then .undef else .mp id
    | _ => .mp id
  | .fn f caps => match s with
    | .above m => bif caps.all (fun p => Nat.blt p.1 m) then .fn f caps else .undef
    | _ => .fn f caps
  | .fnm f id off => match s with
    | .above m => bif Nat.ble m id then .undef else .fnm f id off
    | _ => .fnm f id off
  | c => c

def Sub.v (s : Sub) : AV → AV
  | .val g cs => .val g (cs.map s.c)
  | .tup l => .tup (l.map fun p => (p.1, p.2.map s.c))
  | .skip => .skip
  | .undef => .undef

def Sub.ob (s : Sub) : Ob → Ob
  | .box cs => .box (cs.map s.c)
  | .arr e t xs => .arr e t xs
  | .mp t xs => .mp t xs
  | .tb rows => .tb rows
  | .dead => .dead

def Sub.h (s : Sub) (H : List Ob) : List Ob := H.map s.ob

def St.sub (s : Sub) (st : St) : St := ⟨st.fr.map s.v, s.h st.H⟩

/-- An object of our own becomes what is only read from now on. -/
def St.give (id : Nat) (st : St) : St :=
  match st.H[id]? with
  | some (.arr e t xs) => let s := St.sub (.give id t xs) st; ⟨s.fr, s.H.set id .dead⟩
  | _ => st

def ownsC : C → List Nat
  | .own id _ => [id]
  | _ => []
def ownsV : AV → List Nat
  | .val _ cs => cs.flatMap ownsC
  | .tup l => l.flatMap fun p => p.2.flatMap ownsC
  | _ => []

def St.seals (ids : List Nat) (st : St) : St := ids.foldl (fun s i => s.give i) st

def roC (H : List Ob) : C → C
  | .own id n => match H[id]? with
    | some (.arr e t xs) => .sc (.sl t) (xs.take n)
    | _ => .undef
  | .mp id => match H[id]? with
    | some (.mp t xs) => .sc (.set t) xs
    | _ => .undef
  | c => c
def roV (H : List Ob) : AV → AV
  | .val g cs => .val g (cs.map (roC H))
  | v => v

/-! ### Contracts -/
structure Con where
  X : Type
  Y : Type
  look : List AV → List Ob → Option X
  F : X → Option Y
  outV : X → Y → AV
  outH : X → Y → List Ob → List Ob
  mode : Nat     -- 0: arguments avs they are; 1: what is owned is lent, and no object turns; 2: what is owned is given away for good
  kills : X → List AV → List Nat   -- the objects of the caller's that are spent

/-! ### Operations that always go through -/
def sliceOf (H : List Ob) : C → Option ((t : Ty) × List t.den)
  | .sc (.sl t) xs => some ⟨t, xs⟩
  | .scn _ t xs => some ⟨t, xs⟩
  | .own id n => match H[id]? with
    | some (.arr e t xs) => some ⟨t, xs.take n⟩
    | _ => none
  | _ => none

def lenC (H : List Ob) : C → Option Int
  | .sc (.sl t) xs => some (xs.length : Int)
  | .scn _ t xs => some (xs.length : Int)
  | .nils => some 0
  | .own id n => match H[id]? with
    | some (.arr _ _ _) => some (n : Int)
    | _ => none
  | _ => none

def boolAV (b : Bool) : AV := .val false [.sc .bool b]
def intAV (k : IntKind) (n : Int) : AV := .val false [.sc (.int k) n]
def strAV (s : ByteArray) : AV := .val false [.sc .str s]

/-- Bit by bit. -/
def bitsI (op : BinOp) (k : IntKind) (a b : Int) : Int :=
  match op with
  | .and => k.wrap (BitVec.ofInt k.bits a &&& BitVec.ofInt k.bits b).toNat
  | .or => k.wrap (BitVec.ofInt k.bits a ||| BitVec.ofInt k.bits b).toNat
  | .xor => k.wrap (BitVec.ofInt k.bits a ^^^ BitVec.ofInt k.bits b).toNat
  | .andNot => k.wrap (BitVec.ofInt k.bits a &&& ~~~(BitVec.ofInt k.bits b)).toNat
  | _ => 0

def binInt (op : BinOp) (k : IntKind) (a b : Int) : Option AV :=
  match op with
  | .add => some (intAV k (k.wrap (a + b)))
  | .sub => some (intAV k (k.wrap (a - b)))
  | .mul => some (intAV k (k.wrap (a * b)))
  | .eql => some (boolAV (a == b))
  | .neq => some (boolAV (a != b))
  | .lss => some (boolAV (decide (a < b)))
  | .leq => some (boolAV (decide (a ≤ b)))
  | .gtr => some (boolAV (decide (a > b)))
  | .geq => some (boolAV (decide (a ≥ b)))
  | .and => some (intAV k (bitsI .and k a b))
  | .or => some (intAV k (bitsI .or k a b))
  | .xor => some (intAV k (bitsI .xor k a b))
  | .andNot => some (intAV k (bitsI .andNot k a b))
  | _ => none

def binBool (op : BinOp) (a b : Bool) : Option AV :=
  match op with
  | .eql => some (boolAV (a == b))
  | .neq => some (boolAV (!(a == b)))
  | _ => none

def strEq (a b : ByteArray) : Bool := a.toList == b.toList
def strLt (a b : ByteArray) : Bool := Op.bytesLess a.toList b.toList

def binStr (op : BinOp) (a b : ByteArray) : Option AV :=
  match op with
  | .eql => some (boolAV (strEq a b))
  | .neq => some (boolAV (!(strEq a b)))
  | .lss => some (boolAV (strLt a b))
  | .leq => some (boolAV (strLt a b || strEq a b))
  | .gtr => some (boolAV (!(strLt a b || strEq a b)))
  | .geq => some (boolAV (!(strLt a b)))
  | _ => none

def binFloat (op : BinOp) (k : FloatKind) (a b : Nat) : Option AV :=
  match op with
  | .eql => some (boolAV (k.format.order a b == some .eq))
  | .neq => some (boolAV (k.format.order a b != some .eq))
  | .lss => some (boolAV (k.format.order a b == some .lt))
  | .leq => some (boolAV (k.format.order a b == some .lt || k.format.order a b == some .eq))
  | .gtr => some (boolAV (k.format.order a b == some .gt))
  | .geq => some (boolAV (k.format.order a b == some .gt || k.format.order a b == some .eq))
  | _ => none

/-- What is no number stands to nothing. -/
def binNan (op : BinOp) : Option AV :=
  match op with
  | .eql => some (boolAV false)
  | .neq => some (boolAV true)
  | .lss => some (boolAV false)
  | .leq => some (boolAV false)
  | .gtr => some (boolAV false)
  | .geq => some (boolAV false)
  | _ => none

/-- Bytes as a text. -/
def textOf (xs : List Int) : ByteArray := ⟨(xs.map fun n => UInt8.ofNat n.toNat).toArray⟩

def convA (T : TypeId → Option TI) (src dst : TypeId) : AV → Option AV
  | .val false [.sc (.int _) n] => match T src, T dst with
    | some ⟨.int _, _, _, _, _⟩, some ⟨.int k, _, _, _, _⟩ => some (intAV k (k.wrap n))
    | some ⟨.int _, _, _, _, _⟩, some ⟨.float k, _, _, _, _⟩ => some (.val false [.sc (.float k) (k.nearest n)])
    | _, _ => none
  | .val false [.sc (.float s) b] => match T src, T dst with
    | some ⟨.float _, _, _, _, _⟩, some ⟨.int k, _, _, _, _⟩ => match (s.decode b).toInt .zero with
      | some n => bif decide (k.min ≤ n) && decide (n ≤ k.max) then some (intAV k n) else none
      | none => none
    | _, _ => none
  | .val false [.sc (.sl (.int .u8)) xs] => match T src, T dst with
    | some ⟨.slice e, _, _, _, _⟩, some ⟨.str, _, _, _, _⟩ => match T e with
      | some ⟨.int .u8, _, _, _, _⟩ => some (strAV (textOf xs))
      | _ => none
    | _, _ => none
  | .val false [.nils] => match T src, T dst with
    | some ⟨.slice e, _, _, _, _⟩, some ⟨.str, _, _, _, _⟩ => match T e with
      | some ⟨.int .u8, _, _, _, _⟩ => some (strAV (textOf []))
      | _ => none
    | _, _ => none
  | _ => none

def fToI (s : FloatKind) (k : IntKind) (b : Nat) : Option Int :=
  match (s.decode b).toInt .zero with
  | some n => bif decide (k.min ≤ n) && decide (n ≤ k.max) then some n else none
  | none => none

def convK {R : Type} (T : TypeId → Option TI) (src dst : TypeId) (H : List Ob) (k : AV → List Ob → Option R) : AV → Option R
  | .val false [.sc (.int _) n] => match T src, T dst with
    | some ⟨.int _, _, _, _, _⟩, some ⟨.int q, _, _, _, _⟩ => k (intAV q (q.wrap n)) H
    | some ⟨.int _, _, _, _, _⟩, some ⟨.float q, _, _, _, _⟩ => k (.val false [.sc (.float q) (q.nearest n)]) H
    | _, _ => none
  | .val false [.sc (.float s) b] => match T src, T dst with
    | some ⟨.float _, _, _, _, _⟩, some ⟨.int q, _, _, _, _⟩ => (fToI s q b).bind fun n => k (intAV q n) H
    | _, _ => none
  | .val false [.sc (.sl (.int .u8)) xs] => match T src, T dst with
    | some ⟨.slice e, _, _, _, _⟩, some ⟨.str, _, _, _, _⟩ => match T e with
      | some ⟨.int .u8, _, _, _, _⟩ => k (strAV (textOf xs)) H
      | _ => none
    | _, _ => none
  | .val false [.nils] => match T src, T dst with
    | some ⟨.slice e, _, _, _, _⟩, some ⟨.str, _, _, _, _⟩ => match T e with
      | some ⟨.int .u8, _, _, _, _⟩ => k (strAV (textOf [])) H
      | _ => none
    | _, _ => none
  | _ => none

theorem convK_bind {R : Type} (T : TypeId → Option TI) (src dst : TypeId) (H : List Ob) (k : AV → List Ob → Option R) (a : AV) : convK T src dst H k a = (convA T src dst a).bind fun v => k v H := by
  unfold convK convA
  split
  · split <;> rfl
  · split
    · rename_i s b _ _ _ _ _ _ _ q _ _ _ _ _ _
      unfold fToI
      cases (s.decode b).toInt .zero with
      | none => rfl
      | some n => cases h : (decide (q.min ≤ n) && decide (n ≤ q.max)) <;> simp [h]
    · rfl
  · split
    · split <;> rfl
    · rfl
  · split
    · split <;> rfl
    · rfl
  · rfl

/-- Floats that are reckoned with: a number, or what is none. -/
def fltR (op : BinOp) (a b : Nat) : Option Nat :=
  match op with
  | .add => FloatKind.f64.format.add a b
  | .sub => FloatKind.f64.format.sub a b
  | .mul => FloatKind.f64.format.mul a b
  | _ => FloatKind.f64.format.div a b
def fltV : Option Nat → AV
  | some r => .val false [.sc (.float .f64) r]
  | none => .val false [.nan]
def fltB {R : Type} (o : Option Nat) (f : Nat → Option R) (g : Option R) : Option R :=
  match o with
  | some r => f r
  | none => g
def fltK {R : Type} (o : Option Nat) (H : List Ob) (k : AV → List Ob → Option R) : Option R := fltB o (fun r => k (.val false [.sc (.float .f64) r]) H) (k (.val false [.nan]) H)
theorem fltK_bind {R : Type} (o : Option Nat) (H : List Ob) (k : AV → List Ob → Option R) : fltK o H k = (some (fltV o)).bind fun v => k v H := by cases o <;> rfl

def subA : AV → AV → Option AV
  | .val false [.sc (.int k1) m], .val false [.sc (.int k2) n] => if k1 = k2 then some (intAV k1 (k1.wrap (m - n))) else none
  | .val false [.sc (.float .f64) m], .val false [.sc (.float .f64) n] => some (fltV (fltR .sub m n))
  | _, _ => none

def subK {R : Type} (H : List Ob) (k : AV → List Ob → Option R) : AV → AV → Option R
  | .val false [.sc (.int k1) m], .val false [.sc (.int k2) n] => if k1 = k2 then k (intAV k1 (k1.wrap (m - n))) H else none
  | .val false [.sc (.float .f64) m], .val false [.sc (.float .f64) n] => fltK (fltR .sub m n) H k
  | _, _ => none

theorem subK_bind {R : Type} (H : List Ob) (k : AV → List Ob → Option R) (a b : AV) : subK H k a b = (subA a b).bind fun v => k v H := by
  unfold subK subA
  split
  · split <;> rfl
  · exact fltK_bind _ _ _
  · rfl

/-- How long a text may be. -/
def boundS : Nat := 9223372036854775807
/-- Two texts, one behind the other; two floats. -/
def addA : AV → AV → Option AV
  | .val false [.sc .str a], .val false [.sc .str b] => bif decide (a.size + b.size ≤ boundS) then some (strAV (a ++ b)) else none
  | .val false [.sc (.float .f64) m], .val false [.sc (.float .f64) n] => some (fltV (fltR .add m n))
  | .val false [.nan], .val false [.sc (.float .f64) _] => some (.val false [.nan])
  | .val false [.sc (.float .f64) _], .val false [.nan] => some (.val false [.nan])
  | .val false [.nan], .val false [.nan] => some (.val false [.nan])
  | _, _ => none
def addK {R : Type} (H : List Ob) (k : AV → List Ob → Option R) : AV → AV → Option R
  | .val false [.sc .str a], .val false [.sc .str b] => bif decide (a.size + b.size ≤ boundS) then k (strAV (a ++ b)) H else none
  | .val false [.sc (.float .f64) m], .val false [.sc (.float .f64) n] => fltK (fltR .add m n) H k
  | .val false [.nan], .val false [.sc (.float .f64) _] => k (.val false [.nan]) H
  | .val false [.sc (.float .f64) _], .val false [.nan] => k (.val false [.nan]) H
  | .val false [.nan], .val false [.nan] => k (.val false [.nan]) H
  | _, _ => none
def mulA : AV → AV → Option AV
  | .val false [.sc (.float .f64) m], .val false [.sc (.float .f64) n] => some (fltV (fltR .mul m n))
  | _, _ => none
def mulK {R : Type} (H : List Ob) (k : AV → List Ob → Option R) : AV → AV → Option R
  | .val false [.sc (.float .f64) m], .val false [.sc (.float .f64) n] => fltK (fltR .mul m n) H k
  | _, _ => none
theorem mulK_bind {R : Type} (H : List Ob) (k : AV → List Ob → Option R) (a b : AV) : mulK H k a b = (mulA a b).bind fun v => k v H := by
  unfold mulK mulA
  split
  · exact fltK_bind _ _ _
  · rfl
/-- Shifted to the left, to the right. -/
def shiftI (op : BinOp) (k : IntKind) (a b : Int) : Int :=
  match op with
  | .shl => k.wrap (a * 2 ^ (min b.toNat k.bits))
  | _ => a.fdiv (2 ^ (min b.toNat k.bits))
def shiftA (op : BinOp) : AV → AV → Option AV
  | .val false [.sc (.int k1) m], .val false [.sc (.int _) n] => bif decide (n < 0) then none else some (intAV k1 (shiftI op k1 m n))
  | _, _ => none
def shiftK {R : Type} (op : BinOp) (H : List Ob) (k : AV → List Ob → Option R) : AV → AV → Option R
  | .val false [.sc (.int k1) m], .val false [.sc (.int _) n] => bif decide (n < 0) then none else k (intAV k1 (shiftI op k1 m n)) H
  | _, _ => none
theorem shiftK_bind {R : Type} (op : BinOp) (H : List Ob) (k : AV → List Ob → Option R) (a b : AV) : shiftK op H k a b = (shiftA op a b).bind fun v => k v H := by
  unfold shiftK shiftA
  split
  · rename_i k1 m k2 n
    cases decide (n < 0) <;> rfl
  · rfl
theorem addK_bind {R : Type} (H : List Ob) (k : AV → List Ob → Option R) (a b : AV) : addK H k a b = (addA a b).bind fun v => k v H := by
  unfold addK addA
  split
  · rename_i a b
    cases decide (a.size + b.size ≤ boundS) <;> rfl
  · exact fltK_bind _ _ _
  · rfl
  · rfl
  · rfl
  · rfl

/-- Numbers, divided. -/
def quoA : AV → AV → Option AV
  | .val false [.sc (.int k1) m], .val false [.sc (.int k2) n] => if k1 = k2 then bif n == 0 then none else some (intAV k1 (k1.wrap (m.tdiv n))) else none
  | .val false [.sc (.float .f64) m], .val false [.sc (.float .f64) n] => some (fltV (fltR .quo m n))
  | .val false [.nan], .val false [.sc (.float .f64) _] => some (.val false [.nan])
  | _, _ => none
def quoK {R : Type} (H : List Ob) (k : AV → List Ob → Option R) : AV → AV → Option R
  | .val false [.sc (.int k1) m], .val false [.sc (.int k2) n] => if k1 = k2 then bif n == 0 then none else k (intAV k1 (k1.wrap (m.tdiv n))) H else none
  | .val false [.sc (.float .f64) m], .val false [.sc (.float .f64) n] => fltK (fltR .quo m n) H k
  | .val false [.nan], .val false [.sc (.float .f64) _] => k (.val false [.nan]) H
  | _, _ => none
theorem quoK_bind {R : Type} (H : List Ob) (k : AV → List Ob → Option R) (a b : AV) : quoK H k a b = (quoA a b).bind fun v => k v H := by
  unfold quoK quoA
  split
  · rename_i k1 m k2 n
    split
    · cases n == 0 <;> rfl
    · rfl
  · exact fltK_bind _ _ _
  · rfl
  · rfl

/-- What is left of a division. -/
def remA : AV → AV → Option AV
  | .val false [.sc (.int k1) m], .val false [.sc (.int k2) n] => if k1 = k2 then bif n == 0 then none else some (intAV k1 (m.tmod n)) else none
  | _, _ => none
def remK {R : Type} (H : List Ob) (k : AV → List Ob → Option R) : AV → AV → Option R
  | .val false [.sc (.int k1) m], .val false [.sc (.int k2) n] => if k1 = k2 then bif n == 0 then none else k (intAV k1 (m.tmod n)) H else none
  | _, _ => none
theorem remK_bind {R : Type} (H : List Ob) (k : AV → List Ob → Option R) (a b : AV) : remK H k a b = (remA a b).bind fun v => k v H := by
  unfold remK remA
  split
  · rename_i k1 m k2 n
    split
    · cases n == 0 <;> rfl
    · rfl
  · rfl

/-- The greater, or the lesser one of two. -/
def maxI (mx : Bool) (a b : Int) : Int := bif mx then (bif decide (b > a) then b else a) else bif decide (b < a) then b else a
def maxS (mx : Bool) (a b : ByteArray) : ByteArray := bif mx then (bif strLt a b then b else a) else bif strLt a b || strEq a b then a else b
def maxA (mx : Bool) : AV → AV → Option AV
  | .val false [.sc (.int k1) m], .val false [.sc (.int _) n] => some (intAV k1 (maxI mx m n))
  | .val false [.sc .str a], .val false [.sc .str b] => some (strAV (maxS mx a b))
  | _, _ => none
/-- A place in an array, sought from one on. -/
def arrA : Nat → Nat → Int → Option Nat
  | 0, _, _ => none
  | m + 1, j, n => bif n == (j : Int) then some j else arrA m (j + 1) n
def arrK {R : Type} (k : Nat → Option R) : Nat → Nat → Int → Option R
  | 0, _, _ => none
  | m + 1, j, n => bif n == (j : Int) then k j else arrK k m (j + 1) n
theorem arrK_bind {R : Type} (k : Nat → Option R) : ∀ (m j : Nat) (n : Int), arrK k m j n = (arrA m j n).bind k
  | 0, _, _ => rfl
  | m + 1, j, n => by
    simp only [arrK, arrA]
    cases n == (j : Int) with
    | true => rfl
    | false => exact arrK_bind k m (j + 1) n
theorem arrA_some : ∀ (m j : Nat) (n : Int) (q : Nat), arrA m j n = some q → n = (q : Int) ∧ q < j + m
  | 0, _, _, _, h => by simp [arrA] at h
  | m + 1, j, n, q, h => by
    simp only [arrA] at h
    cases hn : n == (j : Int) with
    | true =>
      rw [hn] at h
      have h2 : j = q := Option.some.inj h
      subst h2
      exact ⟨by simpa using hn, by omega⟩
    | false =>
      rw [hn] at h
      obtain ⟨h1, h2⟩ := arrA_some m (j + 1) n q h
      exact ⟨h1, by omega⟩

def isBoolT (T : TypeId → Option TI) (t : TypeId) : Bool :=
  match T t with
  | some ⟨.bool, _, _, _, _⟩ => true
  | _ => false

def isSliceT (T : TypeId → Option TI) (t : TypeId) : Bool :=
  match T t with
  | some ⟨.slice _, _, _, _, _⟩ => true
  | _ => false

/-- Are two keys the same? -/
def Ty.eqB : (t : Ty) → t.den → t.den → Bool
  | .bool, a, b => a == b
  | .int _, a, b => a == b
  | .str, a, b => strEq a b
  | .pair s t, a, b => s.eqB a.1 b.1 && t.eqB a.2 b.2
  | _, _, _ => false

def isPtrT (T : TypeId → Option TI) (t : TypeId) : Bool :=
  match T t with
  | some ⟨.ptr, _, _, _, _⟩ => true
  | _ => false
def isIfaceT (T : TypeId → Option TI) (t : TypeId) : Bool :=
  match T t with
  | some ⟨.iface, _, _, _, _⟩ => true
  | _ => false
def eqOf (T : TypeId → Option TI) (t : TypeId) : Option Ty :=
  match T t with
  | some ⟨.struct _ e, _, _, _, _⟩ => e
  | _ => none

def binNil (op : BinOp) (b : Bool) : Option AV :=
  match op with
  | .eql => some (boolAV b)
  | .neq => some (boolAV (!b))
  | _ => none

def binA (T : TypeId → Option TI) (t : TypeId) (op : BinOp) : AV → AV → Option AV
  | .val false [.sc (.int k) a], .val false [.sc (.int k') b] => if k = k' then binInt op k a b else none
  | .val false [.sc (.float k) a], .val false [.sc (.float k') b] => if k = k' then binFloat op k a b else none
  | .val false [.sc .bool a], .val false [.sc .bool b] => bif isBoolT T t then binBool op a b else none
  | .val false [.sc .str a], .val false [.sc .str b] => binStr op a b
  | .val false [.scn z _ _], .val false [.nils] => bif isSliceT T t then binNil op z else none
  | .val false [.nils], .val false [.nils] => bif isSliceT T t then binNil op true else none
  | .val false [.nilp], .val false [.nilp] => bif isPtrT T t then binNil op true else none
  | .val false [.ptr _ _], .val false [.nilp] => bif isPtrT T t then binNil op false else none
  | .val false [.elr _ _ _], .val false [.nilp] => bif isPtrT T t then binNil op false else none
  | .val false [.nan], .val false [.nan] => binNan op
  | .val false [.nan], .val false [.sc (.float .f64) _] => binNan op
  | .val false [.sc (.float .f64) _], .val false [.nan] => binNan op
  | .val true cs, .val true ds => match eqOf T t with
    | some kt => match kt.whole cs, kt.whole ds with
      | some a, some b => binNil op (kt.eqB a b)
      | _, _ => none
    | none => none
  | _, _ => none

def unA (op : UnOp) : AV → Option AV
  | .val false [.sc .bool b] => match op with
    | .not => some (boolAV (!b))
    | _ => none
  | .val false [.sc (.int k) n] => match op with
    | .neg => some (intAV k (k.wrap (0 - n)))
    | .xor => some (intAV k (bitsI .xor k (if k.signed then -1 else k.max) n))
    | _ => none
  | .val false [.sc (.float k) n] => match op with
    | .neg => some (.val false [.sc (.float k) (Op.negFloat k n)])
    | _ => none
  | _ => none

def part (agg : Bool) (off size : Nat) (cs : List C) : Option AV :=
  let p := (cs.drop off).take size
  if p.length = size then some (.val agg p) else none

def fieldOf (T : TypeId → Option TI) (t : TypeId) (f : Nat) : Option (Nat × Nat × Bool) :=
  match T t with
  | some ⟨.struct fs _, _, _, _, _⟩ => match fs[f]? with
    | some (off, size, g) => if size = 0 then none else some (off, size, g)
    | none => none
  | _ => none

def loadA (T : TypeId → Option TI) (t : TypeId) (H : List Ob) : AV → Option AV
  | .val false [.ptr id off] => match T t with
    | some ti => match H[id]? with
      | some (.box cs) => part ti.d.agg off ti.size cs
      | _ => none
    | none => none
  | .val false [.elr ty x off] => match T t with
    | some ti => part ti.d.agg off ti.size (ty.cells x)
    | none => none
  | .val false [.elo id i off] => match T t with
    | some ti => match H[id]? with
      | some (.arr e ty xs) => part ti.d.agg off ti.size (ty.cells (xs.getD i ty.dflt))
      | _ => none
    | none => none
  | _ => none

def capsOf (ev : Operand → AV) : List Operand → Option (List (Nat × Nat))
  | [] => some []
  | o :: r => match ev o with
    | .val false [.ptr id off] => match capsOf ev r with
      | some l => some ((id, off) :: l)
      | none => none
    | _ => none

/-- An interface's value held against the literal nil. -/
def ifaceEq (T : TypeId → Option TI) (t : TypeId) (b : BinOp) (y : Operand) (a : AV) : Option AV :=
  match y, a with
  | .const .nilIface, .val false [.nili] => bif isIfaceT T t then binNil b true else none
  | _, _ => none

def softA (T : TypeId → Option TI) (op : Op) (ev : Operand → AV) (H : List Ob) : Option AV :=
  match op with
  | .move x => some (ev x)
  | .assign x => some (ev x)
  | .load t a => loadA T t H (ev a)
  | .fieldAddr s x f => match ev x with
    | .val false [.ptr id off] => match fieldOf T s f with
      | some (o, _, _) => some (.val false [.ptr id (off + o)])
      | none => none
    | .val false [.elr ty y off] => match fieldOf T s f with
      | some (o, _, _) => some (.val false [.elr ty y (off + o)])
      | none => none
    | .val false [.elo id i off] => match fieldOf T s f with
      | some (o, _, _) => some (.val false [.elo id i (off + o)])
      | none => none
    | _ => none
  | .field s x f => match ev x with
    | .val true cs => match fieldOf T s f with
      | some (o, n, g) => part g o n cs
      | none => none
    | _ => none
  | .binOp b t x y _ => match ifaceEq T t b y (ev x) with
    | some v => some v
    | none => binA T t b (ev x) (ev y)
  | .unOp u _ x => unA u (ev x)
  | .nilCheck a => match ev a with
    | .val false [.ptr id off] => some (.val false [.ptr id off])
    | .val false [.elr t y off] => some (.val false [.elr t y off])
    | .val false [.elo id i off] => some (.val false [.elo id i off])
    | _ => none
  | .extract t i => match ev t with
    | .tup l => match l[i]? with
      | some p => some (.val p.1 p.2)
      | none => none
    | _ => none
  | .makeFunc (.func f) first captured => match first.toList with
    | [] => match capsOf ev captured.toList with
      | some l => some (.val false [.fn f l])
      | none => none
    | [o] => match captured.toList, ev o with
      | [], .val false [.ptr id off] => some (.val false [.fnm f id off])
      | _, _ => none
    | _ => none
  | .call c => match c.callee, c.args.toList, c.argTypes.toList with
    | .builtin .len, [x], [t] => match ev x, T t with
      | .val false [c], some ⟨.slice _, _, _, _, _⟩ => match lenC H c with
        | some n => some (intAV .i64 n)
        | none => none
      | .val false [.sc .str s], some ⟨.str, _, _, _, _⟩ => some (intAV .i64 (s.size : Int))
      | _, _ => none
    | _, _, _ => none
  | _ => none

def isSoft : Op → Bool
  | .move _ | .assign _ | .pick _ _ _ | .load _ _ | .fieldAddr _ _ _ | .field _ _ _ | .unOp _ _ _ | .extract _ _ | .makeFunc _ _ _ | .nilCheck _ => true
  | .binOp b t _ _ _ => match b with
    | .quo | .rem | .shl | .shr | .sub => false
    | .add => !(Nat.beq t 9 || Nat.beq t floatT)
    | .mul => !(Nat.beq t floatT)
    | _ => true
  | .call c => match c.callee with
    | .builtin .len => true
    | _ => false
  | _ => false

/-! ### Operations that may fail, make or write memory, or call -/
def elems (t : Ty) (ev : Operand → AV) : Nat → List (Nat × Operand) → Option (List t.den)
  | _, [] => some []
  | i, (j, o) :: r => if i = j then match ev o with
      | .val _ cs => match t.whole cs with
        | some x => match elems t ev (i + 1) r with
          | some l => some (x :: l)
          | none => none
        | none => none
      | _ => none
    else none

def fillA (fs : List (Nat × Nat × Bool)) (ev : Operand → AV) : List C → List (Nat × Operand) → Option (List C)
  | cells, [] => some cells
  | cells, (j, o) :: r => match fs[j]?, ev o with
    | some (off, size, _), .val _ cs => if cs.length = size ∧ off + size ≤ cells.length then fillA fs ev (cells.take off ++ cs ++ cells.drop (off + size)) r else none
    | _, _ => none

def intOfA : AV → Option (IntKind × Int)
  | .val false [.sc (.int k) n] => some (k, n)
  | _ => none

def byteAt (s : ByteArray) (n : Int) : Int := match s[n.toNat]? with | some b => (b.toNat : Int) | none => 0

def optInt (ev : Operand → AV) : Option Operand → Option (Option Int)
  | none => some none
  | some o => match intOfA (ev o) with
    | some (_, n) => some (some n)
    | none => none

def argsA (ev : Operand → AV) (l : List Operand) : List AV := l.map ev

def conv (H : List Ob) (mode : Nat) (vs : List AV) : List AV := bif Nat.beq mode 1 then vs.map (roV H) else vs

def indexK {R : Type} (size : Nat) (H : List Ob) (x : C) (i : Int) (k : AV → List Ob → Option R) : Option R :=
  match x with
  | .sc (.sl t) xs => if t.size = size then bif decide (0 ≤ i) && decide (i < (xs.length : Int)) then k (.val false [.elr t (xs.getD i.toNat t.dflt) 0]) H else none else none
  | .own id n => match H[id]? with
    | some (.arr e t xs) => if t.size = size then bif decide (0 ≤ i) && decide (i < (n : Int)) then k (.val false [.elo id i.toNat 0]) H else none else none
    | _ => none
  | _ => none

def sliceK {R : Type} (size : Nat) (H : List Ob) (x : C) (lo hi : Option Int) (k : AV → List Ob → Option R) : Option R :=
  match x with
  | .sc (.sl t) xs => if t.size = size then match lo, hi with
    | none, none => k (.val false [.sc (.sl t) xs]) H
    | some a, none => bif decide (0 ≤ a) && decide (a ≤ (xs.length : Int)) then k (.val false [.sc (.sl t) (xs.drop a.toNat)]) H else none
    | none, some b => bif decide (0 ≤ b) && decide (b ≤ (xs.length : Int)) then k (.val false [.sc (.sl t) (xs.take b.toNat)]) H else none
    | some a, some b => bif (decide (0 ≤ b) && decide (b ≤ (xs.length : Int))) && (decide (0 ≤ a) && decide (a ≤ b)) then k (.val false [.sc (.sl t) ((xs.take b.toNat).drop a.toNat)]) H else none
    else none
  | .own id n => match H[id]? with
    | some (.arr e t xs) => if t.size = size then match lo, hi with
      | none, none => k (.val false [.own id n]) H
      | none, some b => bif decide (0 ≤ b) && decide (b ≤ (n : Int)) then k (.val false [.own id b.toNat]) H else none
      | _, _ => none
      else none
    | _ => none
  | .nils => match lo, hi with
    | none, some b => bif decide (b = 0) then k (.val false [.nils]) H else none
    | _, _ => none
  | _ => none

def sliceS {R : Type} (H : List Ob) (s : ByteArray) (lo hi : Option Int) (k : AV → List Ob → Option R) : Option R :=
  match lo, hi with
  | none, none => k (strAV s) H
  | some a, none => bif decide (0 ≤ a) && decide (a ≤ (s.size : Int)) then k (strAV (s.extract a.toNat s.size)) H else none
  | none, some b => bif decide (0 ≤ b) && decide (b ≤ (s.size : Int)) then k (strAV (s.extract 0 b.toNat)) H else none
  | some a, some b => bif (decide (0 ≤ b) && decide (b ≤ (s.size : Int))) && (decide (0 ≤ a) && decide (a ≤ b)) then k (strAV (s.extract a.toNat b.toNat)) H else none

/-- What is appended, as data. -/
def srcOf (H : List Ob) (t : Ty) : C → Option (List t.den)
  | .nils => some []
  | c => match sliceOf H c with
    | some ⟨u, ys⟩ => if h : u = t then some (h ▸ ys) else none
    | none => none

/-- A text's bytes; what is appended: a row, or such bytes. -/
def bytesL (s : ByteArray) : List Int := s.data.toList.map fun b => (b.toNat : Int)
def srcS (T : TypeId → Option TI) (st sc : TypeId) (H : List Ob) (t : Ty) (x : C) : Option (List t.den) :=
  if st = sc then srcOf H t x else match T sc with
    | some ⟨.str, _, _, _, _⟩ => match t, x with
      | .int .u8, .sc .str s => some (bytesL s)
      | _, _ => none
    | _ => none

def boundN : Nat := 140737488355328

def castL {u t : Ty} (xs : List u.den) : Option (List t.den) := if h : u = t then some (h ▸ xs) else none

/-- 'append': the object that grows keeps its number; all elder references to it are lost. -/
def appendK {R : Type} (T : TypeId → Option TI) (h0 : Nat) (H : List Ob) (st sc : TypeId) (s x : C) (k : AV → List Ob → Option R) : Option R :=
  match T st with
  | some ⟨.slice e, _, _, _, _⟩ => match T e with
    | some ⟨_, size, bytes, some t, _⟩ =>
      if size = 0 ∨ bytes = 0 then none else
      match srcS T st sc H t x with
      | some ys => match s with
        | .nils => bif decide (ys.length * bytes ≤ boundN) then k (.val false [.own H.length ys.length]) (H ++ [.arr e t ys]) else none
        | .own id n => match H[id]? with
          | some (.arr e' u xs) => if e' = e ∧ h0 ≤ id then match castL (t := t) xs with
              | some xs => bif decide ((n + ys.length) * bytes ≤ boundN) then
                  k (.val false [.own id (n + ys.length)]) ((Sub.h (.kill id) H).set id (.arr e t (xs.take n ++ ys))) else none
              | none => none
            else none
          | _ => none
        | _ => none
      | none => none
    | _ => none
  | _ => none

/-- 'append(nil, make([]T, n)...)': the machine is handed the number. -/
def zeroN (T : TypeId → Option TI) (sx : TypeId) : C → C → Option Int
  | .nils, .sc (.int _) n => match T sx with
    | some ⟨.int _, _, _, _, _⟩ => some n
    | _ => none
  | _, _ => none
def zerosK {R : Type} (T : TypeId → Option TI) (H : List Ob) (st : TypeId) (n : Int) (k : AV → List Ob → Option R) : Option R :=
  match T st with
  | some ⟨.slice e, _, _, _, _⟩ => match T e with
    | some ⟨_, size, bytes, some ty, z⟩ => match ty.whole (z.map Z.cell) with
      | some d => bif (decide (0 < n) && decide (0 < size)) && (decide (n.toNat * bytes ≤ boundN) && decide (0 < bytes)) then k (.val false [.own H.length n.toNat]) (H ++ [.arr e ty (List.replicate n.toNat d)]) else none
      | none => none
    | _ => none
  | _ => none
def appK {R : Type} (T : TypeId → Option TI) (h0 : Nat) (H : List Ob) (st sc : TypeId) (s x : C) (k : AV → List Ob → Option R) : Option R :=
  match zeroN T sc s x with
  | some n => zerosK T H st n k
  | none => appendK T h0 H st sc s x k

def storeA (T : TypeId → Option TI) (t : TypeId) (H : List Ob) : AV → AV → Option (List Ob)
  | .val false [.ptr id off], .val g cs => match T t with
    | some ti => if cs.length = ti.size then match H[id]? with
        | some (.box old) => if off + cs.length ≤ old.length then some (H.set id (.box (old.take off ++ cs ++ old.drop (off + cs.length)))) else none
        | _ => none
      else none
    | none => none
  | .val false [.elo id i off], .val g cs => match T t with
    | some ti => if cs.length = ti.size then match H[id]? with
        | some (.arr e ty xs) =>
          let old := ty.cells (xs.getD i ty.dflt)
          if off + cs.length ≤ old.length then match ty.whole (old.take off ++ cs ++ old.drop (off + cs.length)) with
            | some y => some (H.set id (.arr e ty (xs.set i y)))
            | none => none
          else none
        | _ => none
      else none
    | none => none
  | _, _ => none

/-- A set that is read. -/
def setOf (H : List Ob) : C → Option ((t : Ty) × List t.den)
  | .sc (.set t) xs => some ⟨t, xs⟩
  | .mp id => match H[id]? with
    | some (.mp t xs) => some ⟨t, xs⟩
    | _ => none
  | _ => none

def lookS (H : List Ob) (kt : Ty) (c : C) (cs : List C) : Option AV :=
  match setOf H c with
  | some ⟨t, xs⟩ => match castL (u := t) (t := kt) xs with
    | some xs => match kt.whole cs with
      | some d => some (.tup [(true, []), (false, [.sc .bool (xs.any fun v => kt.eqB v d)])])
      | none => none
    | none => none
  | none => none

def putS (H : List Ob) (kt : Ty) (id : Nat) (cs : List C) : Option (List Ob) :=
  match H[id]? with
  | some (.mp t xs) => match castL (u := t) (t := kt) xs with
    | some xs => match kt.whole cs with
      | some d => some (H.set id (.mp kt (bif xs.any (fun v => kt.eqB v d) then xs else xs ++ [d])))
      | none => none
    | none => none
  | _ => none

/-- A table's row more; what a table tells of a text. -/
def putT (H : List Ob) (id : Nat) (s : ByteArray) (cs : List C) : Option (List Ob) :=
  match H[id]? with
  | some (.tb rows) => bif cs.all fnB && !(rows.any fun r => strEq s r.1) then some (H.set id (.tb (rows ++ [(s, cs)]))) else none
  | _ => none
def tbA (z : List C) (s : ByteArray) : List (ByteArray × List C) → List C
  | [] => z
  | r :: l => bif strEq s r.1 then r.2 else tbA z s l
def tbK {R : Type} (z : List C) (s : ByteArray) (k : List C → Option R) : List (ByteArray × List C) → Option R
  | [] => k z
  | r :: l => bif strEq s r.1 then k r.2 else tbK z s k l
theorem tbK_bind {R : Type} (z : List C) (s : ByteArray) (k : List C → Option R) : ∀ (l : List (ByteArray × List C)), tbK z s k l = k (tbA z s l)
  | [] => rfl
  | r :: l => by
    simp only [tbK, tbA]
    cases strEq s r.1 with
    | true => rfl
    | false => exact tbK_bind z s k l
/-- How much room is asked for a map. -/
def roomB (ev : Operand → AV) : Option Operand → Bool
  | none => true
  | some o => (intOfA (ev o)).isSome

variable {R : Type} (T : TypeId → Option TI) (h0 : Nat) (env : FuncId → Option Con) (inl : FuncId → List AV → List Ob → (AV → List Ob → Option R) → Option R)

def callK (f : FuncId) (args : List AV) (H : List Ob) (k : AV → List Ob → Option R) : Option R :=
  match env f with
  | some c => match c.look (conv H c.mode args) H with
    | some x => bif Nat.beq c.mode 1 then (c.F x).bind fun y => k (c.outV x y) H
      else bif (c.kills x args).all (Nat.ble h0) then (c.F x).bind fun y => k (c.outV x y) (c.outH x y H) else none
    | none => none
  | none => inl f args H k

def hardK (op : Op) (ev : Operand → AV) (H : List Ob) (k : AV → List Ob → Option R) : Option R :=
  match op with
  | .alloc t => match T t with
    | some ti => k (.val false [.ptr H.length 0]) (H ++ [.box (ti.zero.map Z.cell)])
    | none => none
  | .box t x => match ev x with
    | .val g cs => k (.val false [.ptr H.length 0]) (H ++ [.box cs])
    | _ => none
  | .build t parts => match T t with
    | some ⟨.struct fs _, _, _, _, z⟩ => match fillA fs ev (z.map Z.cell) parts.toList with
      | some cs => k (.val true cs) H
      | none => none
    | some ⟨.arr n e, _, _, _, z⟩ => match T e with
      | some ⟨_, size, _, _, _⟩ => match fillA ((List.range n).map fun i => (i * size, size, false)) ev (z.map Z.cell) parts.toList with
        | some cs => k (.val true cs) H
        | none => none
      | none => none
    | _ => none
  | .buildSlice t len parts => match T t with
    | some ⟨.slice e, _, _, _, _⟩ => match T e with
      | some ⟨_, size, bytes, some ty, _⟩ => match elems ty ev 0 parts.toList with
        | some xs => if xs.length = len ∧ len * size ≤ 16777216 ∧ (size = 0 → len = 0) then k (.val false [.own H.length len]) (H ++ [.arr e ty xs]) else none
        | none => none
      | _ => none
    | _ => none
  | .makeSlice t l c => match T t, intOfA (ev l), intOfA (ev c) with
    | some ⟨.slice e, _, _, _, _⟩, some (_, n), some (_, m) => match T e with
      | some ⟨_, size, bytes, some ty, z⟩ => match ty.whole (z.map Z.cell) with
        | some d => bif (decide (n = m) && decide (0 ≤ n)) && (decide (n.toNat * bytes ≤ boundN) && decide (0 < bytes)) then k (.val false [.own H.length n.toNat]) (H ++ [.arr e ty (List.replicate n.toNat d)]) else none
        | none => none
      | _ => none
    | _, _, _ => none
  | .store t a x => match storeA T t H (ev a) (ev x) with
    | some H' => k .skip H'
    | none => none
  | .makeMap t r => bif roomB ev r then (match T t with
    | some ⟨.map _ kt, _, _, _, _⟩ => k (.val false [.mp H.length]) (H ++ [.mp kt []])
    | some ⟨.tab _, _, _, _, _⟩ => k (.val false [.mp H.length]) (H ++ [.tb []])
    | _ => none) else none
  | .mapUpdate t m key v => match T t, ev m, ev key, ev v with
    | some ⟨.map _ kt, _, _, _, _⟩, .val false [.mp id], .val true cs, .val true [] => match putS H kt id cs with
      | some H' => k .skip H'
      | none => none
    | some ⟨.tab _, _, _, _, _⟩, .val false [.mp id], .val false [.sc .str s], .val true cs => match putT H id s cs with
      | some H' => k .skip H'
      | none => none
    | _, _, _, _ => none
  | .insert t m key v => match T t, ev m, ev key, ev v with
    | some ⟨.tab _, _, _, _, _⟩, .val false [.mp id], .val false [.sc .str s], .val true cs => match putT H id s cs with
      | some H' => k .skip H'
      | none => none
    | _, _, _, _ => none
  | .lookup t m key ok => match T t, ev m, ev key with
    | some ⟨.map _ kt, _, _, _, _⟩, .val false [c], .val true cs => bif ok then (match lookS H kt c cs with
      | some v => k v H
      | none => none) else none
    | some ⟨.tab z, _, _, _, _⟩, .val false [.mp id], .val false [.sc .str s] => bif ok then none else (match H[id]? with
      | some (.tb rows) => tbK (z.map Z.cell) s (fun cs => k (.val true cs) H) rows
      | _ => none)
    | _, _, _ => none
  | .convert s d x => convK T s d H k (ev x)
  | .binOp b t x y _ => match b with
    | .sub => subK H k (ev x) (ev y)
    | .add => addK H k (ev x) (ev y)
    | .quo => quoK H k (ev x) (ev y)
    | .rem => remK H k (ev x) (ev y)
    | .mul => mulK H k (ev x) (ev y)
    | .shl => shiftK .shl H k (ev x) (ev y)
    | .shr => shiftK .shr H k (ev x) (ev y)
    | _ => none
  | .indexAddr t x i => match ev x, T t, intOfA (ev i) with
    | .val false [c], some ⟨.slice e, _, _, _, _⟩, some (_, n) => match T e with
      | some ⟨_, size, _, _, _⟩ => indexK size H c n k
      | none => none
    | .val false [.ptr id off], some ⟨.arr m e, _, _, _, _⟩, some (_, n) => match T e with
      | some ⟨_, size, _, _, _⟩ => arrK (fun q => k (.val false [.ptr id (off + q * size)]) H) m 0 n
      | none => none
    | _, _, _ => none
  | .index t x i => match ev x, T t, intOfA (ev i) with
    | .val false [.sc .str s], some ⟨.str, _, _, _, _⟩, some (_, n) => bif decide (0 ≤ n) && decide (n < (s.size : Int)) then k (intAV .u8 (byteAt s n)) H else none
    | _, _, _ => none
  | .slice t x lo hi mx =>
    match optInt ev lo, optInt ev hi, optInt ev mx with
    | some l, some h, some m => match ev x, T t with
      | .val false [.sc .str s], some ⟨.str, _, _, _, _⟩ => match m with
        | none => sliceS H s l h k
        | some _ => none
      | .val false [c], some ⟨.slice e, _, _, _, _⟩ => match T e with
        | some ⟨_, size, _, _, _⟩ => match m with
          | none => sliceK size H c l h k
          | some m => match c, l, h with
            | .own id n, none, some b => bif decide (m = b) then sliceK size H c none (some b) k else none
            | .sc (.sl u) _, none, some b => bif decide (m = 0) && decide (b = 0) then k (.val false [.own H.length 0]) (H ++ [.arr e u []]) else none
            | _, _, _ => none
        | none => none
      | _, _ => none
    | _, _, _ => none
  | .call c => match c.callee with
    | .builtin .append => match c.args.toList, c.argTypes.toList with
      | [s, x], [st, sx] => match ev s, ev x with
        | .val false [a], .val false [b] => appK T h0 H st sx a b k
        | _, _ => none
      | _, _ => none
    | .builtin .cap => match c.args.toList, c.argTypes.toList with
      | [s], [st] => match ev s, T st with
        | .val false [.nils], some ⟨.slice _, _, _, _, _⟩ => k (intAV .i64 0) H
        | _, _ => none
      | _, _ => none
    | .builtin .max => match c.args.toList with
      | [x, y] => match maxA true (ev x) (ev y) with
        | some v => k v H
        | none => none
      | _ => none
    | .builtin .min => match c.args.toList with
      | [x, y] => match maxA false (ev x) (ev y) with
        | some v => k v H
        | none => none
      | _ => none
    | .value f => match ev f with
      | .val false [.fn g caps] => callK h0 env inl g (argsA ev c.args.toList ++ caps.map fun p => .val false [.ptr p.1 p.2]) H k
      | .val false [.fnr g caps] => match env g with
        | some _ => none
        | none => inl g (argsA ev c.args.toList ++ caps.map fun p => .val false [.elr p.1 p.2 0]) H k
      | .val false [.fnm g id off] => match env g with
        | some _ => none
        | none => inl g (.val false [.ptr id off] :: argsA ev c.args.toList) H k
      | _ => none
    | _ => none
  | _ => none

/-- What must be given away for good ahead of an operation. -/
def sealsOf (op : Op) (ev : Operand → AV) : List Nat :=
  match op with
  | .buildSlice _ _ parts => parts.toList.flatMap fun p => ownsV (ev p.2)
  | .store _ a x => match ev a with
    | .val false [.elo _ _ _] => ownsV (ev x)
    | _ => []
  | .slice _ x lo _ _ => match lo with
    | some _ => ownsV (ev x)
    | none => []
  | .convert _ _ x => ownsV (ev x)
  | .call c => match c.callee with
    | .value f => match ev f with
      | .val false [.fn g _] => match env g with
        | some con => bif Nat.ble 2 con.mode then c.args.toList.flatMap (fun a => ownsV (ev a)) else []
        | none => []
      | _ => []
    | _ => []
  | _ => []

/-- References that are lost at an operation. -/
def killsOf (op : Op) (ev : Operand → AV) (H : List Ob) : List Nat :=
  match op with
  | .call c => match c.callee with
    | .builtin .append => match c.args.toList with
      | s :: _ => match ev s with
        | .val false [.own id _] => [id]
        | _ => []
      | _ => []
    | .value f => match ev f with
      | .val false [.fn g caps] => match env g with
        | some con =>
          let args := argsA ev c.args.toList ++ caps.map fun p => .val false [.ptr p.1 p.2]
          match con.look (conv H con.mode args) H with
          | some x => bif Nat.beq con.mode 1 then [] else con.kills x args
          | none => []
        | none => []
      | _ => []
    | _ => []
  | _ => []

def putA (fr : List AV) (dst : Option Tmp) (v : AV) : List AV :=
  match dst with
  | some d => fr.set d v
  | none => fr

/-! ### A region in the text's order -/
abbrev Lits := List (Nat × Bool)

def memL (p : Nat × Bool) : Lits → Bool
  | [] => false
  | q :: r => (Nat.beq p.1 q.1 && (p.2 == q.2)) || memL p r
def subL (ps qs : Lits) : Bool := ps.all fun p => memL p qs
def namesL (t : Nat) (ps : Lits) : Bool := ps.any fun p => Nat.beq p.1 t

structure G where
  fr : List AV
  gs : List (Nat × Lits)
  facts : Lits

def pathOf (gs : List (Nat × Lits)) (t : Nat) : Lits :=
  match gs with
  | [] => []
  | (u, p) :: r => bif Nat.beq u t then p else pathOf r t

def dropG (t : Nat) (gs : List (Nat × Lits)) : List (Nat × Lits) := gs.filter fun p => !(Nat.beq p.1 t)

/-- May an operand be read under some tests. -/
def validO (g : G) (q : Lits) : Operand → Bool
  | .tmp t => subL (pathOf g.gs t) (q ++ g.facts)
  | _ => true
def validAll (g : G) (q : Lits) (op : Op) : Bool := op.operands.toList.all (validO g q)

/-- The tests that an operation hangs on; nothing inside: it is passed over. -/
def guardPath (ops : List Oper) (g : G) (o : Oper) : Option (Option Lits) :=
  match o.guard with
  | none => some (some [])
  | some (j, want) => match ops[j]? with
    | some oj => match oj.dst with
      | some t => match g.fr.getD t .undef with
        | .val false [.sc .bool _] => some (some (pathOf g.gs t ++ [(t, want)]))
        | .skip => match pathOf g.gs t with
          | [] => some none
          | _ => none
        | _ => none
      | none => none
    | none => none

def freeQ (dst : Option Tmp) (q : Lits) : Bool :=
  match dst with
  | none => true
  | some d => !(namesL d q)

/-- May the slot be written: no test hangs on it. -/
def freeG (g : G) (dst : Option Tmp) : Bool :=
  match dst with
  | none => true
  | some d => Nat.blt d g.fr.length && !(namesL d g.facts) && g.gs.all fun p => !(namesL d p.2)

def putG (g : G) (dst : Option Tmp) (p : Lits) (v : AV) : G :=
  match dst with
  | none => g
  | some d => ⟨g.fr.set d v, match p with | [] => dropG d g.gs | _ => (d, p) :: dropG d g.gs, g.facts⟩

def pickG (g : G) (q : Lits) (c a b : Operand) : Option AV :=
  match c with
  | .tmp t => bif validO g q c then match evA g.fr c with
    | .val false [.sc .bool z] =>
      bif memL (t, true) (q ++ g.facts) then (bif validO g q a then some (evA g.fr a) else none) else
      bif memL (t, false) (q ++ g.facts) then (bif validO g q b then some (evA g.fr b) else none) else
      bif validO g ((t, true) :: q) a && validO g ((t, false) :: q) b then
        match evA g.fr a, evA g.fr b with
        | .val false [.sc .bool x], .val false [.sc .bool y] => some (boolAV (bif z then x else y))
        | _, _ => none
      else none
    | _ => none
    else none
  | _ => none

/-- 0: touches no object; 1: reads; 2: makes one; 3: all else. -/
def cls (op : Op) : Nat :=
  match op with
  | .move _ | .assign _ | .pick _ _ _ | .fieldAddr _ _ _ | .field _ _ _ | .binOp _ _ _ _ _ | .unOp _ _ _ | .convert _ _ _ | .extract _ _ | .makeFunc _ _ _ | .nilCheck _ | .build _ _ | .index _ _ _ => 0
  | .load _ _ | .indexAddr _ _ _ | .slice _ _ _ _ none => 1
  | .alloc _ | .box _ _ | .buildSlice _ _ _ | .makeSlice _ _ _ => 2
  | .call c => match c.callee with
    | .builtin .len => 1
    | .value (.func g) => match env g with
      | some con => bif Nat.beq con.mode 1 then 1 else 3
      | none => 3
    | _ => 3
  | .store _ _ _ => 4
  | _ => 3

def splitK (g : G) (q : Lits) (k : G → Bool → Option R) : Option R :=
  match q with
  | [] => k g true
  | (t, w) :: r => match g.fr.getD t .undef with
    | .val false [.sc .bool b] =>
      bif subL (pathOf g.gs t) g.facts then
        bif b then
          (bif w then splitK ⟨g.fr.set t (boolAV true), dropG t g.gs, (t, true) :: g.facts⟩ r k
            else k ⟨g.fr.set t (boolAV true), dropG t g.gs, (t, true) :: g.facts⟩ false)
        else
          (bif w then k ⟨g.fr.set t (boolAV false), dropG t g.gs, (t, false) :: g.facts⟩ false
            else splitK ⟨g.fr.set t (boolAV false), dropG t g.gs, (t, false) :: g.facts⟩ r k)
      else none
    | _ => none

/-- At a region's end: what hangs on a test is lost. -/
def endG (g : G) : List AV :=
  g.gs.foldl (fun fr p => bif subL p.2 g.facts then fr else fr.set p.1 .undef) g.fr

def killG (g : G) : List Nat → G
  | [] => g
  | id :: r => killG ⟨g.fr.map (Sub.v (.kill id)), g.gs, g.facts⟩ r

def sealG (g : G) (H : List Ob) (ids : List Nat) : G × List Ob :=
  let s := St.seals ids ⟨g.fr, H⟩
  (⟨s.fr, g.gs, g.facts⟩, s.H)

def plainC : C → Bool
  | .own _ _ => false
  | .elo _ _ _ => false
  | _ => true
def plainV : AV → Bool
  | .val _ cs => cs.all plainC
  | .tup l => l.all fun p => p.2.all plainC
  | _ => true

def memN (d : Nat) : List Nat → Bool
  | [] => false
  | e :: r => Nat.beq d e || memN d r

/-- What function a mark (1000000000, the slot times 100000, the function) says that a slot holds. -/
def markF : List Nat → Nat → Option Nat
  | [], _ => none
  | d :: r, s => bif Nat.ble 1000000000 d && Nat.beq ((d - 1000000000) / 100000) s then some ((d - 1000000000) % 100000) else markF r s
def isFn0 (g : Nat) : AV → Bool
  | .val false [.fn f []] => Nat.beq f g
  | _ => false
def slotOk (pl : List Nat) (op : Op) (ev : Operand → AV) : Bool :=
  match op with
  | .call c => match c.callee with
    | .value (.tmp s) => match markF pl s with
      | some g => isFn0 g (ev (.tmp s))
      | none => true
    | _ => true
  | _ => true

/-- Where the list asks for it: nothing of ours is named by the operands or the value. -/
def plOk (pl : List Nat) (dst : Option Tmp) (op : Op) (ev : Operand → AV) (v : AV) : Bool :=
  match dst with
  | none => true
  | some d => bif memN d pl then (match op with
      | .pick _ _ _ => false
      | op => (op.operands.toList.all (fun o => plainV (ev o)) && plainV v) && slotOk pl op ev) else true

def softG (g : G) (q : Lits) (op : Op) (H : List Ob) : Option AV :=
  match op with
  | .pick c a b => pickG g q c a b
  | op => bif validAll g q op then softA T op (evA g.fr) H else none

def regK (draw : Bool) (pl : List Nat) (ops : List Oper) : List Oper → G → List Ob → (G → List Ob → Option R) → Option R
  | [], g, H, k => k g H
  | o :: rest, g, H, k =>
    bif freeG g o.dst then
      match guardPath ops g o with
      | none => none
      | some none => regK draw pl ops rest (putG g o.dst [] .skip) H k
      | some (some q0) =>
        let q := q0.filter fun p => !(memL p g.facts)
        bif q.any (fun p => memL (p.1, !p.2) g.facts) then regK draw pl ops rest (putG g o.dst [] .skip) H k else
        bif !(freeQ o.dst q) then none else
        bif isSoft o.op then
          match softG T g q o.op H with
          | some v => bif plOk pl o.dst o.op (evA g.fr) v then regK draw pl ops rest (putG g o.dst q v) H k else none
          | none => splitK g q fun g' yes => bif yes then none else regK draw pl ops rest (putG g' o.dst [] .skip) H k
        else
          splitK g q fun g' yes =>
            bif yes then
              bif validAll g' [] o.op then
                let ids := sealsOf env o.op (evA g'.fr)
                bif (ids.all (Nat.ble h0)) && (!draw || Nat.beq (cls env o.op) 3 || ids.isEmpty) then
                  let p := sealG g' H ids
                  hardK T h0 env inl o.op (evA p.1.fr) p.2 fun v H' => bif plOk pl o.dst o.op (evA g'.fr) v then regK draw pl ops rest (putG (killG p.1 (killsOf env o.op (evA p.1.fr) p.2)) o.dst [] v) H' k else none
                else none
              else none
            else regK draw pl ops rest (putG g' o.dst [] .skip) H k
    else none

end Go.Proofs.YtiolbhmbobelcaaGreatDoor.AI
