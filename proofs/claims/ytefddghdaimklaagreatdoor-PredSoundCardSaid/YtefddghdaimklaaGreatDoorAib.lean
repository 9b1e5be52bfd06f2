/- A part of the proof. -/
import Derived.Test.YtefddghdaimklaaGreatDoorAia
set_option linter.unusedVariables false
set_option linter.unusedSimpArgs false
namespace Go.Proofs.YtefddghdaimklaaGreatDoor.AI
open Go
inductive Z : Type where
 | dat (t : Ty) | nils | nilp | nilf | nilm | nili
inductive TD : Type where
 | int (k : IntKind) | bool | float (k : FloatKind) | str
 | struct (fs : List (Nat × Nat × Bool)) (eq : Option Ty)
 | map (k : TypeId) (t : Ty)
 | tab (z : List Z)
 | slice (e : TypeId)
 | ptr | func | iface
 | arr (n : Nat) (e : TypeId)
structure TI where
 d : TD
 size : Nat
 bytes : Nat
 ty : Option Ty
 zero : List Z
def TD.agg : TD → Bool
 | .struct _ _ => true
 | .arr _ _ => true
 | _ => false
def Z.cell : Z → C
 | .dat t => .sc t t.dflt
 | .nils => .nils
 | .nilp => .nilp
 | .nilf => .nilf
 | .nilm => .nilm
 | .nili => .nili
def Ty.one (t : Ty) : C → Option t.den
 | .sc u x => if h : u = t then some (h ▸ x) else none
 | .nils => match t with
  | .sl _ => some []
  | _ => none
 | _ => none
def Ty.ofCells : (t : Ty) → List C → Option (t.den × List C)
 | .unit, cs => some ((), cs)
 | .pair a b, cs => match a.ofCells cs with
  | some (x, r) => match b.ofCells r with
   | some (y, r') => some ((x, y), r')
   | none => none
  | none => none
 | .rose a, cs => match a.ofCells cs with
  | some (x, c :: r) => match Ty.one (.sl (.rose a)) c with
   | some ks => some (.node x ks, r)
   | none => none
  | _ => none
 | .bool, c :: r => match Ty.one .bool c with
  | some x => some (x, r)
  | none => none
 | .int k, c :: r => match Ty.one (.int k) c with
  | some x => some (x, r)
  | none => none
 | .float k, c :: r => match Ty.one (.float k) c with
  | some x => some (x, r)
  | none => none
 | .str, c :: r => match Ty.one .str c with
  | some x => some (x, r)
  | none => none
 | .sl t, c :: r => match Ty.one (.sl t) c with
  | some x => some (x, r)
  | none => none
 | .set t, c :: r => match Ty.one (.set t) c with
  | some x => some (x, r)
  | none => none
 | _, [] => none
def Ty.whole (t : Ty) (cs : List C) : Option t.den :=
 match t.ofCells cs with
 | some (x, []) => some x
 | _ => none
structure St where
 fr : List AV
 H : List Ob
def ma : Value → AV
 | .bool b => .val false [.sc .bool b]
 | .int k n => .val false [.sc (.int k) n]
 | .float k n => .val false [.sc (.float k) n]
 | .string s => .val false [.sc .str s]
 | .slice none 0 0 => .val false [.nils]
 | .pointer none => .val false [.nilp]
 | .nilFunc => .val false [.nilf]
 | .nilIface => .val false [.nili]
 | _ => .undef
def evA (fr : List AV) : Operand → AV
 | .tmp t => fr.getD t .undef
 | .const v => ma v
 | .func f => .val false [.fn f []]
 | .global g => match dI g with
  | some p => .val false [.elr p.1 p.2 0]
  | none => .undef
inductive Sub : Type where
 | kill (id : Nat)
 | give (id : Nat) (t : Ty) (xs : List t.den)
 | above (n : Nat)
def Sub.c (s : Sub) : C → C
 | .own id n => match s with
  | .kill i => bif Nat.beq id i then .undef else .own id n
  | .give i t xs => bif Nat.beq id i then .sc (.sl t) (xs.take n) else .own id n
  | .above m => bif Nat.ble m id then .undef else .own id n
 | .ptr id off => match s with
  | .above m => bif Nat.ble m id then .undef else .ptr id off
  | _ => .ptr id off
 | .elo id i off => match s with
  | .kill j => bif Nat.beq id j then .undef else .elo id i off
  | .give j t xs => bif Nat.beq id j then .undef else .elo id i off
  | .above m => bif Nat.ble m id then .undef else .elo id i off
 | .mp id => match s with
  | .above m => bif Nat.ble m id then .undef else .mp id
  | _ => .mp id
 | .fn f caps => match s with
  | .above m => bif caps.all (fun p => Nat.blt p.1 m) then .fn f caps else .undef
  | _ => .fn f caps
 | .fnm f id off => match s with
  | .above m => bif Nat.ble m id then .undef else .fnm f id off
  | _ => .fnm f id off
 | c => c
def Sub.v (s : Sub) : AV → AV
 | .val g cs => .val g (cs.map s.c)
 | .tup l => .tup (l.map fun p => (p.1, p.2.map s.c))
 | .skip => .skip
 | .undef => .undef
def Sub.ob (s : Sub) : Ob → Ob
 | .box cs => .box (cs.map s.c)
 | .arr e t xs => .arr e t xs
 | .mp t xs => .mp t xs
 | .tb rows => .tb rows
 | .dead => .dead
def Sub.h (s : Sub) (H : List Ob) : List Ob := H.map s.ob
def St.sub (s : Sub) (st : St) : St := ⟨st.fr.map s.v, s.h st.H⟩
def St.give (id : Nat) (st : St) : St :=
 match st.H[id]? with
 | some (.arr e t xs) => let s := St.sub (.give id t xs) st; ⟨s.fr, s.H.set id .dead⟩
 | _ => st
def Ul : C → List Nat
 | .own id _ => [id]
 | _ => []
def p9 : AV → List Nat
 | .val _ cs => cs.flatMap Ul
 | .tup l => l.flatMap fun p => p.2.flatMap Ul
 | _ => []
def St.seals (ids : List Nat) (st : St) : St := ids.foldl (fun s i => s.give i) st
def roC (H : List Ob) : C → C
 | .own id n => match H[id]? with
  | some (.arr e t xs) => .sc (.sl t) (xs.take n)
  | _ => .undef
 | .mp id => match H[id]? with
  | some (.mp t xs) => .sc (.set t) xs
  | _ => .undef
 | c => c
def roV (H : List Ob) : AV → AV
 | .val g cs => .val g (cs.map (roC H))
 | v => v
structure Con where
 X : Type
 Y : Type
 look : List AV → List Ob → Option X
 F : X → Option Y
 outV : X → Y → AV
 outH : X → Y → List Ob → List Ob
 mode : Nat
 kills : X → List AV → List Nat
def iH (H : List Ob) : C → Option ((t : Ty) × List t.den)
 | .sc (.sl t) xs => some ⟨t, xs⟩
 | .scn _ t xs => some ⟨t, xs⟩
 | .own id n => match H[id]? with
  | some (.arr e t xs) => some ⟨t, xs.take n⟩
  | _ => none
 | _ => none
def ni (H : List Ob) : C → Option Int
 | .sc (.sl t) xs => some (xs.length : Int)
 | .scn _ t xs => some (xs.length : Int)
 | .nils => some 0
 | .own id n => match H[id]? with
  | some (.arr _ _ _) => some (n : Int)
  | _ => none
 | _ => none
def zH (b : Bool) : AV := .val false [.sc .bool b]
def xn (k : IntKind) (n : Int) : AV := .val false [.sc (.int k) n]
def rW (s : ByteArray) : AV := .val false [.sc .str s]
def iv (op : BinOp) (k : IntKind) (a b : Int) : Int :=
 match op with
 | .and => k.wrap (BitVec.ofInt k.bits a &&& BitVec.ofInt k.bits b).toNat
 | .or => k.wrap (BitVec.ofInt k.bits a ||| BitVec.ofInt k.bits b).toNat
 | .xor => k.wrap (BitVec.ofInt k.bits a ^^^ BitVec.ofInt k.bits b).toNat
 | .andNot => k.wrap (BitVec.ofInt k.bits a &&& ~~~(BitVec.ofInt k.bits b)).toNat
 | _ => 0
def cU (f : Nat → Nat → Int) (m n : Nat) : Int :=
 match m, n with
 | 0, 0 => f 0 0
 | 0, n + 1 => f 0 (n + 1)
 | m + 1, 0 => f (m + 1) 0
 | m + 1, n + 1 => f (m + 1) (n + 1)
theorem XI (f : Nat → Nat → Int) (m n : Nat) : cU f m n = f m n := by cases m <;> cases n <;> rfl
def xU (op : BinOp) (k : IntKind) (a b : Int) : Int :=
 match a, b with
 | .ofNat m, .ofNat n => cU (fun m n => iv op k (.ofNat m) (.ofNat n)) m n
 | .ofNat m, .negSucc n => cU (fun m n => iv op k (.ofNat m) (.negSucc n)) m n
 | .negSucc m, .ofNat n => cU (fun m n => iv op k (.negSucc m) (.ofNat n)) m n
 | .negSucc m, .negSucc n => cU (fun m n => iv op k (.negSucc m) (.negSucc n)) m n
theorem sk (op : BinOp) (k : IntKind) (a b : Int) : xU op k a b = iv op k a b := by
 cases a <;> cases b <;> simp only [xU, XI]
def bE (op : BinOp) (k : IntKind) (a b : Int) : Option AV :=
 match op with
 | .add => some (xn k (k.wrap (a + b)))
 | .sub => some (xn k (k.wrap (a - b)))
 | .mul => some (xn k (k.wrap (a * b)))
 | .eql => some (zH (a == b))
 | .neq => some (zH (a != b))
 | .lss => some (zH (decide (a < b)))
 | .leq => some (zH (decide (a ≤ b)))
 | .gtr => some (zH (decide (a > b)))
 | .geq => some (zH (decide (a ≥ b)))
 | .and => some (xn k (xU .and k a b))
 | .or => some (xn k (xU .or k a b))
 | .xor => some (xn k (xU .xor k a b))
 | .andNot => some (xn k (xU .andNot k a b))
 | _ => none
def Zn (op : BinOp) (a b : Bool) : Option AV :=
 match op with
 | .eql => some (zH (a == b))
 | .neq => some (zH (!(a == b)))
 | _ => none
def zd (a b : ByteArray) : Bool := a.toList == b.toList
def yA (a b : ByteArray) : Bool := Op.bytesLess a.toList b.toList
def VC (op : BinOp) (a b : ByteArray) : Option AV :=
 match op with
 | .eql => some (zH (zd a b))
 | .neq => some (zH (!(zd a b)))
 | .lss => some (zH (yA a b))
 | .leq => some (zH (yA a b || zd a b))
 | .gtr => some (zH (!(yA a b || zd a b)))
 | .geq => some (zH (!(yA a b)))
 | _ => none
def fS (op : BinOp) (k : FloatKind) (a b : Nat) : Option AV :=
 match op with
 | .eql => some (zH (k.format.order a b == some .eq))
 | .neq => some (zH (k.format.order a b != some .eq))
 | .lss => some (zH (k.format.order a b == some .lt))
 | .leq => some (zH (k.format.order a b == some .lt || k.format.order a b == some .eq))
 | .gtr => some (zH (k.format.order a b == some .gt))
 | .geq => some (zH (k.format.order a b == some .gt || k.format.order a b == some .eq))
 | _ => none
def kI (op : BinOp) : Option AV :=
 match op with
 | .eql => some (zH false)
 | .neq => some (zH true)
 | .lss => some (zH false)
 | .leq => some (zH false)
 | .gtr => some (zH false)
 | .geq => some (zH false)
 | _ => none
def zC (xs : List Int) : ByteArray := ⟨(xs.map fun n => UInt8.ofNat n.toNat).toArray⟩
def Zw (T : TypeId → Option TI) (src dst : TypeId) : AV → Option AV
 | .val false [.sc (.int _) n] => match T src, T dst with
  | some ⟨.int _, _, _, _, _⟩, some ⟨.int k, _, _, _, _⟩ => some (xn k (k.wrap n))
  | some ⟨.int _, _, _, _, _⟩, some ⟨.float k, _, _, _, _⟩ => some (.val false [.sc (.float k) (k.nearest n)])
  | _, _ => none
 | .val false [.sc (.float s) b] => match T src, T dst with
  | some ⟨.float _, _, _, _, _⟩, some ⟨.int k, _, _, _, _⟩ => match (s.decode b).toInt .zero with
   | some n => bif decide (k.min ≤ n) && decide (n ≤ k.max) then some (xn k n) else none
   | none => none
  | _, _ => none
 | .val false [.sc (.sl (.int .u8)) xs] => match T src, T dst with
  | some ⟨.slice e, _, _, _, _⟩, some ⟨.str, _, _, _, _⟩ => match T e with
   | some ⟨.int .u8, _, _, _, _⟩ => some (rW (zC xs))
   | _ => none
  | _, _ => none
 | .val false [.nils] => match T src, T dst with
  | some ⟨.slice e, _, _, _, _⟩, some ⟨.str, _, _, _, _⟩ => match T e with
   | some ⟨.int .u8, _, _, _, _⟩ => some (rW (zC []))
   | _ => none
  | _, _ => none
 | _ => none
def QZ (s : FloatKind) (k : IntKind) (b : Nat) : Option Int :=
 match (s.decode b).toInt .zero with
 | some n => bif decide (k.min ≤ n) && decide (n ≤ k.max) then some n else none
 | none => none
def T6 {R : Type} (T : TypeId → Option TI) (src dst : TypeId) (H : List Ob) (k : AV → List Ob → Option R) : AV → Option R
 | .val false [.sc (.int _) n] => match T src, T dst with
  | some ⟨.int _, _, _, _, _⟩, some ⟨.int q, _, _, _, _⟩ => k (xn q (q.wrap n)) H
  | some ⟨.int _, _, _, _, _⟩, some ⟨.float q, _, _, _, _⟩ => k (.val false [.sc (.float q) (q.nearest n)]) H
  | _, _ => none
 | .val false [.sc (.float s) b] => match T src, T dst with
  | some ⟨.float _, _, _, _, _⟩, some ⟨.int q, _, _, _, _⟩ => (QZ s q b).bind fun n => k (xn q n) H
  | _, _ => none
 | .val false [.sc (.sl (.int .u8)) xs] => match T src, T dst with
  | some ⟨.slice e, _, _, _, _⟩, some ⟨.str, _, _, _, _⟩ => match T e with
   | some ⟨.int .u8, _, _, _, _⟩ => k (rW (zC xs)) H
   | _ => none
  | _, _ => none
 | .val false [.nils] => match T src, T dst with
  | some ⟨.slice e, _, _, _, _⟩, some ⟨.str, _, _, _, _⟩ => match T e with
   | some ⟨.int .u8, _, _, _, _⟩ => k (rW (zC [])) H
   | _ => none
  | _, _ => none
 | _ => none
theorem uU {R : Type} (T : TypeId → Option TI) (src dst : TypeId) (H : List Ob) (k : AV → List Ob → Option R) (a : AV) : T6 T src dst H k a = (Zw T src dst a).bind fun v => k v H := by
 unfold T6 Zw
 split
 ·split <;> rfl
 ·split
  ·rename_i s b _ _ _ _ _ _ _ q _ _ _ _ _ _
   unfold QZ
   cases (s.decode b).toInt .zero with
   | none => rfl
   | some n => cases h : (decide (q.min ≤ n) && decide (n ≤ q.max)) <;> simp [h]
  ·rfl
 ·split
  ·split <;> rfl
  ·rfl
 ·split
  ·split <;> rfl
  ·rfl
 ·rfl
def ln (op : BinOp) (a b : Nat) : Option Nat :=
 match op with
 | .add => FloatKind.f64.format.add a b
 | .sub => FloatKind.f64.format.sub a b
 | .mul => FloatKind.f64.format.mul a b
 | _ => FloatKind.f64.format.div a b
def TC : Option Nat → AV
 | some r => .val false [.sc (.float .f64) r]
 | none => .val false [.nan]
def VF {R : Type} (o : Option Nat) (f : Nat → Option R) (g : Option R) : Option R :=
 match o with
 | some r => f r
 | none => g
def Rq {R : Type} (o : Option Nat) (H : List Ob) (k : AV → List Ob → Option R) : Option R := VF o (fun r => k (.val false [.sc (.float .f64) r]) H) (k (.val false [.nan]) H)
theorem sR {R : Type} (o : Option Nat) (H : List Ob) (k : AV → List Ob → Option R) : Rq o H k = (some (TC o)).bind fun v => k v H := by cases o <;> rfl
def Rn : AV → AV → Option AV
 | .val false [.sc (.int k1) m], .val false [.sc (.int k2) n] => if k1 = k2 then some (xn k1 (k1.wrap (m - n))) else none
 | .val false [.sc (.float .f64) m], .val false [.sc (.float .f64) n] => some (TC (ln .sub m n))
 | _, _ => none
def Pv {R : Type} (H : List Ob) (k : AV → List Ob → Option R) : AV → AV → Option R
 | .val false [.sc (.int k1) m], .val false [.sc (.int k2) n] => if k1 = k2 then k (xn k1 (k1.wrap (m - n))) H else none
 | .val false [.sc (.float .f64) m], .val false [.sc (.float .f64) n] => Rq (ln .sub m n) H k
 | _, _ => none
theorem sI {R : Type} (H : List Ob) (k : AV → List Ob → Option R) (a b : AV) : Pv H k a b = (Rn a b).bind fun v => k v H := by
 unfold Pv Rn
 split
 ·split <;> rfl
 ·exact sR _ _ _
 ·rfl
def y8 : Nat := 9223372036854775807
def Qa : AV → AV → Option AV
 | .val false [.sc .str a], .val false [.sc .str b] => bif decide (a.size + b.size ≤ y8) then some (rW (a ++ b)) else none
 | .val false [.sc (.float .f64) m], .val false [.sc (.float .f64) n] => some (TC (ln .add m n))
 | .val false [.nan], .val false [.sc (.float .f64) _] => some (.val false [.nan])
 | .val false [.sc (.float .f64) _], .val false [.nan] => some (.val false [.nan])
 | .val false [.nan], .val false [.nan] => some (.val false [.nan])
 | _, _ => none
def PK {R : Type} (H : List Ob) (k : AV → List Ob → Option R) : AV → AV → Option R
 | .val false [.sc .str a], .val false [.sc .str b] => bif decide (a.size + b.size ≤ y8) then k (rW (a ++ b)) H else none
 | .val false [.sc (.float .f64) m], .val false [.sc (.float .f64) n] => Rq (ln .add m n) H k
 | .val false [.nan], .val false [.sc (.float .f64) _] => k (.val false [.nan]) H
 | .val false [.sc (.float .f64) _], .val false [.nan] => k (.val false [.nan]) H
 | .val false [.nan], .val false [.nan] => k (.val false [.nan]) H
 | _, _ => none
def Rj : AV → AV → Option AV
 | .val false [.sc (.float .f64) m], .val false [.sc (.float .f64) n] => some (TC (ln .mul m n))
 | _, _ => none
def PF {R : Type} (H : List Ob) (k : AV → List Ob → Option R) : AV → AV → Option R
 | .val false [.sc (.float .f64) m], .val false [.sc (.float .f64) n] => Rq (ln .mul m n) H k
 | _, _ => none
theorem sr {R : Type} (H : List Ob) (k : AV → List Ob → Option R) (a b : AV) : PF H k a b = (Rj a b).bind fun v => k v H := by
 unfold PF Rj
 split
 ·exact sR _ _ _
 ·rfl
def zA (op : BinOp) (k : IntKind) (a b : Int) : Int :=
 match op with
 | .shl => k.wrap (a * 2 ^ (min b.toNat k.bits))
 | _ => a.fdiv (2 ^ (min b.toNat k.bits))
def nL (op : BinOp) : AV → AV → Option AV
 | .val false [.sc (.int k1) m], .val false [.sc (.int _) n] => bif decide (n < 0) then none else some (xn k1 (zA op k1 m n))
 | _, _ => none
def fC {R : Type} (op : BinOp) (H : List Ob) (k : AV → List Ob → Option R) : AV → AV → Option R
 | .val false [.sc (.int k1) m], .val false [.sc (.int _) n] => bif decide (n < 0) then none else k (xn k1 (zA op k1 m n)) H
 | _, _ => none
theorem yD {R : Type} (op : BinOp) (H : List Ob) (k : AV → List Ob → Option R) (a b : AV) : fC op H k a b = (nL op a b).bind fun v => k v H := by
 unfold fC nL
 split
 ·rename_i k1 m k2 n
  cases decide (n < 0) <;> rfl
 ·rfl
theorem sQ {R : Type} (H : List Ob) (k : AV → List Ob → Option R) (a b : AV) : PK H k a b = (Qa a b).bind fun v => k v H := by
 unfold PK Qa
 split
 ·rename_i a b
  cases decide (a.size + b.size ≤ y8) <;> rfl
 ·exact sR _ _ _
 ·rfl
 ·rfl
 ·rfl
 ·rfl
def Qx : AV → AV → Option AV
 | .val false [.sc (.int k1) m], .val false [.sc (.int k2) n] => if k1 = k2 then bif n == 0 then none else some (xn k1 (k1.wrap (m.tdiv n))) else none
 | .val false [.sc (.float .f64) m], .val false [.sc (.float .f64) n] => some (TC (ln .quo m n))
 | .val false [.nan], .val false [.sc (.float .f64) _] => some (.val false [.nan])
 | _, _ => none
def Oc {R : Type} (H : List Ob) (k : AV → List Ob → Option R) : AV → AV → Option R
 | .val false [.sc (.int k1) m], .val false [.sc (.int k2) n] => if k1 = k2 then bif n == 0 then none else k (xn k1 (k1.wrap (m.tdiv n))) H else none
 | .val false [.sc (.float .f64) m], .val false [.sc (.float .f64) n] => Rq (ln .quo m n) H k
 | .val false [.nan], .val false [.sc (.float .f64) _] => k (.val false [.nan]) H
 | _, _ => none
theorem sM {R : Type} (H : List Ob) (k : AV → List Ob → Option R) (a b : AV) : Oc H k a b = (Qx a b).bind fun v => k v H := by
 unfold Oc Qx
 split
 ·rename_i k1 m k2 n
  split
  ·cases n == 0 <;> rfl
  ·rfl
 ·exact sR _ _ _
 ·rfl
 ·rfl
def RY : AV → AV → Option AV
 | .val false [.sc (.int k1) m], .val false [.sc (.int k2) n] => if k1 = k2 then bif n == 0 then none else some (xn k1 (m.tmod n)) else none
 | _, _ => none
def P6 {R : Type} (H : List Ob) (k : AV → List Ob → Option R) : AV → AV → Option R
 | .val false [.sc (.int k1) m], .val false [.sc (.int k2) n] => if k1 = k2 then bif n == 0 then none else k (xn k1 (m.tmod n)) H else none
 | _, _ => none
theorem tY {R : Type} (H : List Ob) (k : AV → List Ob → Option R) (a b : AV) : P6 H k a b = (RY a b).bind fun v => k v H := by
 unfold P6 RY
 split
 ·rename_i k1 m k2 n
  split
  ·cases n == 0 <;> rfl
  ·rfl
 ·rfl
def mz (mx : Bool) (a b : Int) : Int := bif mx then (bif decide (b > a) then b else a) else bif decide (b < a) then b else a
def na (mx : Bool) (a b : ByteArray) : ByteArray := bif mx then (bif yA a b then b else a) else bif yA a b || zd a b then a else b
def Pj (mx : Bool) : AV → AV → Option AV
 | .val false [.sc (.int k1) m], .val false [.sc (.int _) n] => some (xn k1 (mz mx m n))
 | .val false [.sc .str a], .val false [.sc .str b] => some (rW (na mx a b))
 | _, _ => none
def Ut : Nat → Nat → Int → Option Nat
 | 0, _, _ => none
 | m + 1, j, n => bif n == (j : Int) then some j else Ut m (j + 1) n
def Pk {R : Type} (k : Nat → Option R) : Nat → Nat → Int → Option R
 | 0, _, _ => none
 | m + 1, j, n => bif n == (j : Int) then k j else Pk k m (j + 1) n
theorem xJ {R : Type} (k : Nat → Option R) : ∀ (m j : Nat) (n : Int), Pk k m j n = (Ut m j n).bind k
 | 0, _, _ => rfl
 | m + 1, j, n => by
  simp only [Pk, Ut]
  cases n == (j : Int) with
  | true => rfl
  | false => exact xJ k m (j + 1) n
theorem lA : ∀ (m j : Nat) (n : Int) (q : Nat), Ut m j n = some q → n = (q : Int) ∧ q < j + m
 | 0, _, _, _, h => by simp [Ut] at h
 | m + 1, j, n, q, h => by
  simp only [Ut] at h
  cases hn : n == (j : Int) with
  | true =>
   rw [hn] at h
   have h2 : j = q := Option.some.inj h
   subst h2
   exact ⟨by simpa using hn, by omega⟩
  | false =>
   rw [hn] at h
   obtain ⟨h1, h2⟩ := lA m (j + 1) n q h
   exact ⟨h1, by omega⟩
def jZ (T : TypeId → Option TI) (t : TypeId) : Bool :=
 match T t with
 | some ⟨.bool, _, _, _, _⟩ => true
 | _ => false
def tf (T : TypeId → Option TI) (t : TypeId) : Bool :=
 match T t with
 | some ⟨.slice _, _, _, _, _⟩ => true
 | _ => false
def Ty.eqB : (t : Ty) → t.den → t.den → Bool
 | .bool, a, b => a == b
 | .int _, a, b => a == b
 | .str, a, b => zd a b
 | .pair s t, a, b => s.eqB a.1 b.1 && t.eqB a.2 b.2
 | _, _, _ => false
def oh (T : TypeId → Option TI) (t : TypeId) : Bool :=
 match T t with
 | some ⟨.ptr, _, _, _, _⟩ => true
 | _ => false
def mF (T : TypeId → Option TI) (t : TypeId) : Bool :=
 match T t with
 | some ⟨.iface, _, _, _, _⟩ => true
 | _ => false
def PM (T : TypeId → Option TI) (t : TypeId) : Option Ty :=
 match T t with
 | some ⟨.struct _ e, _, _, _, _⟩ => e
 | _ => none
def vD (op : BinOp) (b : Bool) : Option AV :=
 match op with
 | .eql => some (zH b)
 | .neq => some (zH (!b))
 | _ => none
def Q5 (T : TypeId → Option TI) (t : TypeId) (op : BinOp) : AV → AV → Option AV
 | .val false [.sc (.int k) a], .val false [.sc (.int k') b] => if k = k' then bE op k a b else none
 | .val false [.sc (.float k) a], .val false [.sc (.float k') b] => if k = k' then fS op k a b else none
 | .val false [.sc .bool a], .val false [.sc .bool b] => bif jZ T t then Zn op a b else none
 | .val false [.sc .str a], .val false [.sc .str b] => VC op a b
 | .val false [.scn z _ _], .val false [.nils] => bif tf T t then vD op z else none
 | .val false [.nils], .val false [.nils] => bif tf T t then vD op true else none
 | .val false [.nilp], .val false [.nilp] => bif oh T t then vD op true else none
 | .val false [.ptr _ _], .val false [.nilp] => bif oh T t then vD op false else none
 | .val false [.elr _ _ _], .val false [.nilp] => bif oh T t then vD op false else none
 | .val false [.nan], .val false [.nan] => kI op
 | .val false [.nan], .val false [.sc (.float .f64) _] => kI op
 | .val false [.sc (.float .f64) _], .val false [.nan] => kI op
 | .val true cs, .val true ds => match PM T t with
  | some kt => match kt.whole cs, kt.whole ds with
   | some a, some b => vD op (kt.eqB a b)
   | _, _ => none
  | none => none
 | _, _ => none
def unA (op : UnOp) : AV → Option AV
 | .val false [.sc .bool b] => match op with
  | .not => some (zH (!b))
  | _ => none
 | .val false [.sc (.int k) n] => match op with
  | .neg => some (xn k (k.wrap (0 - n)))
  | .xor => some (xn k (xU .xor k (if k.signed then -1 else k.max) n))
  | _ => none
 | .val false [.sc (.float k) n] => match op with
  | .neg => some (.val false [.sc (.float k) (Op.negFloat k n)])
  | _ => none
 | _ => none
def part (agg : Bool) (off size : Nat) (cs : List C) : Option AV :=
 let p := (cs.drop off).take size
 if p.length = size then some (.val agg p) else none
def uv (T : TypeId → Option TI) (t : TypeId) (f : Nat) : Option (Nat × Nat × Bool) :=
 match T t with
 | some ⟨.struct fs _, _, _, _, _⟩ => match fs[f]? with
  | some (off, size, g) => if size = 0 then none else some (off, size, g)
  | none => none
 | _ => none
def uK (T : TypeId → Option TI) (t : TypeId) (H : List Ob) : AV → Option AV
 | .val false [.ptr id off] => match T t with
  | some ti => match H[id]? with
   | some (.box cs) => part ti.d.agg off ti.size cs
   | _ => none
  | none => none
 | .val false [.elr ty x off] => match T t with
  | some ti => part ti.d.agg off ti.size (ty.cells x)
  | none => none
 | .val false [.elo id i off] => match T t with
  | some ti => match H[id]? with
   | some (.arr e ty xs) => part ti.d.agg off ti.size (ty.cells (xs.getD i ty.dflt))
   | _ => none
  | none => none
 | _ => none
def rZ (ev : Operand → AV) : List Operand → Option (List (Nat × Nat))
 | [] => some []
 | o :: r => match ev o with
  | .val false [.ptr id off] => match rZ ev r with
   | some l => some ((id, off) :: l)
   | none => none
  | _ => none
def j5 (T : TypeId → Option TI) (t : TypeId) (b : BinOp) (y : Operand) (a : AV) : Option AV :=
 match y, a with
 | .const .nilIface, .val false [.nili] => bif mF T t then vD b true else none
 | _, _ => none
def uI (T : TypeId → Option TI) (op : Op) (ev : Operand → AV) (H : List Ob) : Option AV :=
 match op with
 | .move x => some (ev x)
 | .assign x => some (ev x)
 | .load t a => uK T t H (ev a)
 | .fieldAddr s x f => match ev x with
  | .val false [.ptr id off] => match uv T s f with
   | some (o, _, _) => some (.val false [.ptr id (off + o)])
   | none => none
  | .val false [.elr ty y off] => match uv T s f with
   | some (o, _, _) => some (.val false [.elr ty y (off + o)])
   | none => none
  | .val false [.elo id i off] => match uv T s f with
   | some (o, _, _) => some (.val false [.elo id i (off + o)])
   | none => none
  | _ => none
 | .field s x f => match ev x with
  | .val true cs => match uv T s f with
   | some (o, n, g) => part g o n cs
   | none => none
  | _ => none
 | .binOp b t x y _ => match j5 T t b y (ev x) with
  | some v => some v
  | none => Q5 T t b (ev x) (ev y)
 | .unOp u _ x => unA u (ev x)
 | .nilCheck a => match ev a with
  | .val false [.ptr id off] => some (.val false [.ptr id off])
  | .val false [.elr t y off] => some (.val false [.elr t y off])
  | .val false [.elo id i off] => some (.val false [.elo id i off])
  | _ => none
 | .extract t i => match ev t with
  | .tup l => match l[i]? with
   | some p => some (.val p.1 p.2)
   | none => none
  | _ => none
 | .makeFunc (.func f) first captured => match first.toList with
  | [] => match rZ ev captured.toList with
   | some l => some (.val false [.fn f l])
   | none => none
  | [o] => match captured.toList, ev o with
   | [], .val false [.ptr id off] => some (.val false [.fnm f id off])
   | _, _ => none
  | _ => none
 | .call c => match c.callee, c.args.toList, c.argTypes.toList with
  | .builtin .len, [x], [t] => match ev x, T t with
   | .val false [c], some ⟨.slice _, _, _, _, _⟩ => match ni H c with
    | some n => some (xn .i64 n)
    | none => none
   | .val false [.sc .str s], some ⟨.str, _, _, _, _⟩ => some (xn .i64 (s.size : Int))
   | _, _ => none
  | _, _, _ => none
 | _ => none
def yo : Op → Bool
 | .move _ | .assign _ | .pick _ _ _ | .load _ _ | .fieldAddr _ _ _ | .field _ _ _ | .unOp _ _ _ | .extract _ _ | .makeFunc _ _ _ | .nilCheck _ => true
 | .binOp b t _ _ _ => match b with
  | .quo | .rem | .shl | .shr | .sub => false
  | .add => !(Nat.beq t 9 || Nat.beq t VW)
  | .mul => !(Nat.beq t VW)
  | _ => true
 | .call c => match c.callee with
  | .builtin .len => true
  | _ => false
 | _ => false
def elems (t : Ty) (ev : Operand → AV) : Nat → List (Nat × Operand) → Option (List t.den)
 | _, [] => some []
 | i, (j, o) :: r => if i = j then match ev o with
   | .val _ cs => match t.whole cs with
    | some x => match elems t ev (i + 1) r with
     | some l => some (x :: l)
     | none => none
    | none => none
   | _ => none
  else none
def mJ (fs : List (Nat × Nat × Bool)) (ev : Operand → AV) : List C → List (Nat × Operand) → Option (List C)
 | cells, [] => some cells
 | cells, (j, o) :: r => match fs[j]?, ev o with
  | some (off, size, _), .val _ cs => if cs.length = size ∧ off + size ≤ cells.length then mJ fs ev (cells.take off ++ cs ++ cells.drop (off + size)) r else none
  | _, _ => none
def sF : AV → Option (IntKind × Int)
 | .val false [.sc (.int k) n] => some (k, n)
 | _ => none
def z7 (s : ByteArray) (n : Int) : Int := match s[n.toNat]? with | some b => (b.toNat : Int) | none => 0
def qf (ev : Operand → AV) : Option Operand → Option (Option Int)
 | none => some none
 | some o => match sF (ev o) with
  | some (_, n) => some (some n)
  | none => none
def pk (ev : Operand → AV) (l : List Operand) : List AV := l.map ev
def conv (H : List Ob) (mode : Nat) (vs : List AV) : List AV := bif Nat.beq mode 1 then vs.map (roV H) else vs
def ug {R : Type} (size : Nat) (H : List Ob) (x : C) (i : Int) (k : AV → List Ob → Option R) : Option R :=
 match x with
 | .sc (.sl t) xs => if t.size = size then bif decide (0 ≤ i) && decide (i < (xs.length : Int)) then k (.val false [.elr t (xs.getD i.toNat t.dflt) 0]) H else none else none
 | .own id n => match H[id]? with
  | some (.arr e t xs) => if t.size = size then bif decide (0 ≤ i) && decide (i < (n : Int)) then k (.val false [.elo id i.toNat 0]) H else none else none
  | _ => none
 | _ => none
def uk {R : Type} (size : Nat) (H : List Ob) (x : C) (lo hi : Option Int) (k : AV → List Ob → Option R) : Option R :=
 match x with
 | .sc (.sl t) xs => if t.size = size then match lo, hi with
  | none, none => k (.val false [.sc (.sl t) xs]) H
  | some a, none => bif decide (0 ≤ a) && decide (a ≤ (xs.length : Int)) then k (.val false [.sc (.sl t) (xs.drop a.toNat)]) H else none
  | none, some b => bif decide (0 ≤ b) && decide (b ≤ (xs.length : Int)) then k (.val false [.sc (.sl t) (xs.take b.toNat)]) H else none
  | some a, some b => bif (decide (0 ≤ b) && decide (b ≤ (xs.length : Int))) && (decide (0 ≤ a) && decide (a ≤ b)) then k (.val false [.sc (.sl t) ((xs.take b.toNat).drop a.toNat)]) H else none
  else none
 | .own id n => match H[id]? with
  | some (.arr e t xs) => if t.size = size then match lo, hi with
   | none, none => k (.val false [.own id n]) H
   | none, some b => bif decide (0 ≤ b) && decide (b ≤ (n : Int)) then k (.val false [.own id b.toNat]) H else none
   | _, _ => none
   else none
  | _ => none
 | .nils => match lo, hi with
  | none, some b => bif decide (b = 0) then k (.val false [.nils]) H else none
  | _, _ => none
 | _ => none
def sB {R : Type} (H : List Ob) (s : ByteArray) (lo hi : Option Int) (k : AV → List Ob → Option R) : Option R :=
 match lo, hi with
 | none, none => k (rW s) H
 | some a, none => bif decide (0 ≤ a) && decide (a ≤ (s.size : Int)) then k (rW (s.extract a.toNat s.size)) H else none
 | none, some b => bif decide (0 ≤ b) && decide (b ≤ (s.size : Int)) then k (rW (s.extract 0 b.toNat)) H else none
 | some a, some b => bif (decide (0 ≤ b) && decide (b ≤ (s.size : Int))) && (decide (0 ≤ a) && decide (a ≤ b)) then k (rW (s.extract a.toNat b.toNat)) H else none
def UX (H : List Ob) (t : Ty) : C → Option (List t.den)
 | .nils => some []
 | c => match iH H c with
  | some ⟨u, ys⟩ => if h : u = t then some (h ▸ ys) else none
  | none => none
def tw (s : ByteArray) : List Int := s.data.toList.map fun b => (b.toNat : Int)
def PS (T : TypeId → Option TI) (st sc : TypeId) (H : List Ob) (t : Ty) (x : C) : Option (List t.den) :=
 if st = sc then UX H t x else match T sc with
  | some ⟨.str, _, _, _, _⟩ => match t, x with
   | .int .u8, .sc .str s => some (tw s)
   | _, _ => none
  | _ => none
def zo : Nat := 140737488355328
def oN {u t : Ty} (xs : List u.den) : Option (List t.den) := if h : u = t then some (h ▸ xs) else none
def tJ {R : Type} (T : TypeId → Option TI) (h0 : Nat) (H : List Ob) (st sc : TypeId) (s x : C) (k : AV → List Ob → Option R) : Option R :=
 match T st with
 | some ⟨.slice e, _, _, _, _⟩ => match T e with
  | some ⟨_, size, bytes, some t, _⟩ =>
   if size = 0 ∨ bytes = 0 then none else
   match PS T st sc H t x with
   | some ys => match s with
    | .nils => bif decide (ys.length * bytes ≤ zo) then k (.val false [.own H.length ys.length]) (H ++ [.arr e t ys]) else none
    | .own id n => match H[id]? with
     | some (.arr e' u xs) => if e' = e ∧ h0 ≤ id then match oN (t := t) xs with
       | some xs => bif decide ((n + ys.length) * bytes ≤ zo) then
         k (.val false [.own id (n + ys.length)]) ((Sub.h (.kill id) H).set id (.arr e t (xs.take n ++ ys))) else none
       | none => none
      else none
     | _ => none
    | _ => none
   | none => none
  | _ => none
 | _ => none
def TW (T : TypeId → Option TI) (sx : TypeId) : C → C → Option Int
 | .nils, .sc (.int _) n => match T sx with
  | some ⟨.int _, _, _, _, _⟩ => some n
  | _ => none
 | _, _ => none
def fe {R : Type} (T : TypeId → Option TI) (H : List Ob) (st : TypeId) (n : Int) (k : AV → List Ob → Option R) : Option R :=
 match T st with
 | some ⟨.slice e, _, _, _, _⟩ => match T e with
  | some ⟨_, size, bytes, some ty, z⟩ => match ty.whole (z.map Z.cell) with
   | some d => bif (decide (0 < n) && decide (0 < size)) && (decide (n.toNat * bytes ≤ zo) && decide (0 < bytes)) then k (.val false [.own H.length n.toNat]) (H ++ [.arr e ty (List.replicate n.toNat d)]) else none
   | none => none
  | _ => none
 | _ => none
def Td {R : Type} (T : TypeId → Option TI) (h0 : Nat) (H : List Ob) (st sc : TypeId) (s x : C) (k : AV → List Ob → Option R) : Option R :=
 match TW T sc s x with
 | some n => fe T H st n k
 | none => tJ T h0 H st sc s x k
def py (T : TypeId → Option TI) (t : TypeId) (H : List Ob) : AV → AV → Option (List Ob)
 | .val false [.ptr id off], .val g cs => match T t with
  | some ti => if cs.length = ti.size then match H[id]? with
    | some (.box old) => if off + cs.length ≤ old.length then some (H.set id (.box (old.take off ++ cs ++ old.drop (off + cs.length)))) else none
    | _ => none
   else none
  | none => none
 | .val false [.elo id i off], .val g cs => match T t with
  | some ti => if cs.length = ti.size then match H[id]? with
    | some (.arr e ty xs) =>
     let old := ty.cells (xs.getD i ty.dflt)
     if off + cs.length ≤ old.length then match ty.whole (old.take off ++ cs ++ old.drop (off + cs.length)) with
      | some y => some (H.set id (.arr e ty (xs.set i y)))
      | none => none
     else none
    | _ => none
   else none
  | none => none
 | _, _ => none
def Te (H : List Ob) : C → Option ((t : Ty) × List t.den)
 | .sc (.set t) xs => some ⟨t, xs⟩
 | .mp id => match H[id]? with
  | some (.mp t xs) => some ⟨t, xs⟩
  | _ => none
 | _ => none
def T9 (H : List Ob) (kt : Ty) (c : C) (cs : List C) : Option AV :=
 match Te H c with
 | some ⟨t, xs⟩ => match oN (u := t) (t := kt) xs with
  | some xs => match kt.whole cs with
   | some d => some (.tup [(true, []), (false, [.sc .bool (xs.any fun v => kt.eqB v d)])])
   | none => none
  | none => none
 | none => none
def P4 (H : List Ob) (kt : Ty) (id : Nat) (cs : List C) : Option (List Ob) :=
 match H[id]? with
 | some (.mp t xs) => match oN (u := t) (t := kt) xs with
  | some xs => match kt.whole cs with
   | some d => some (H.set id (.mp kt (bif xs.any (fun v => kt.eqB v d) then xs else xs ++ [d])))
   | none => none
  | none => none
 | _ => none
def Pf (H : List Ob) (id : Nat) (s : ByteArray) (cs : List C) : Option (List Ob) :=
 match H[id]? with
 | some (.tb rows) => bif cs.all fnB && !(rows.any fun r => zd s r.1) then some (H.set id (.tb (rows ++ [(s, cs)]))) else none
 | _ => none
def tbA (z : List C) (s : ByteArray) : List (ByteArray × List C) → List C
 | [] => z
 | r :: l => bif zd s r.1 then r.2 else tbA z s l
def tbK {R : Type} (z : List C) (s : ByteArray) (k : List C → Option R) : List (ByteArray × List C) → Option R
 | [] => k z
 | r :: l => bif zd s r.1 then k r.2 else tbK z s k l
theorem qZ {R : Type} (z : List C) (s : ByteArray) (k : List C → Option R) : ∀ (l : List (ByteArray × List C)), tbK z s k l = k (tbA z s l)
 | [] => rfl
 | r :: l => by
  simp only [tbK, tbA]
  cases zd s r.1 with
  | true => rfl
  | false => exact qZ z s k l
def aK (ev : Operand → AV) : Option Operand → Bool
 | none => true
 | some o => (sF (ev o)).isSome
variable {R : Type} (T : TypeId → Option TI) (h0 : Nat) (env : FuncId → Option Con) (inl : FuncId → List AV → List Ob → (AV → List Ob → Option R) → Option R)
def lG (f : FuncId) (args : List AV) (H : List Ob) (k : AV → List Ob → Option R) : Option R :=
 match env f with
 | some c => match c.look (conv H c.mode args) H with
  | some x => bif Nat.beq c.mode 1 then (c.F x).bind fun y => k (c.outV x y) H
   else bif (c.kills x args).all (Nat.ble h0) then (c.F x).bind fun y => k (c.outV x y) (c.outH x y H) else none
  | none => none
 | none => inl f args H k
def z0 (op : Op) (ev : Operand → AV) (H : List Ob) (k : AV → List Ob → Option R) : Option R :=
 match op with
 | .alloc t => match T t with
  | some ti => k (.val false [.ptr H.length 0]) (H ++ [.box (ti.zero.map Z.cell)])
  | none => none
 | .box t x => match ev x with
  | .val g cs => k (.val false [.ptr H.length 0]) (H ++ [.box cs])
  | _ => none
 | .build t parts => match T t with
  | some ⟨.struct fs _, _, _, _, z⟩ => match mJ fs ev (z.map Z.cell) parts.toList with
   | some cs => k (.val true cs) H
   | none => none
  | some ⟨.arr n e, _, _, _, z⟩ => match T e with
   | some ⟨_, size, _, _, _⟩ => match mJ ((List.range n).map fun i => (i * size, size, false)) ev (z.map Z.cell) parts.toList with
    | some cs => k (.val true cs) H
    | none => none
   | none => none
  | _ => none
 | .buildSlice t len parts => match T t with
  | some ⟨.slice e, _, _, _, _⟩ => match T e with
   | some ⟨_, size, bytes, some ty, _⟩ => match elems ty ev 0 parts.toList with
    | some xs => if xs.length = len ∧ len * size ≤ 16777216 ∧ (size = 0 → len = 0) then k (.val false [.own H.length len]) (H ++ [.arr e ty xs]) else none
    | none => none
   | _ => none
  | _ => none
 | .makeSlice t l c => match T t, sF (ev l), sF (ev c) with
  | some ⟨.slice e, _, _, _, _⟩, some (_, n), some (_, m) => match T e with
   | some ⟨_, size, bytes, some ty, z⟩ => match ty.whole (z.map Z.cell) with
    | some d => bif (decide (n = m) && decide (0 ≤ n)) && (decide (n.toNat * bytes ≤ zo) && decide (0 < bytes)) then k (.val false [.own H.length n.toNat]) (H ++ [.arr e ty (List.replicate n.toNat d)]) else none
    | none => none
   | _ => none
  | _, _, _ => none
 | .store t a x => match py T t H (ev a) (ev x) with
  | some H' => k .skip H'
  | none => none
 | .makeMap t r => bif aK ev r then (match T t with
  | some ⟨.map _ kt, _, _, _, _⟩ => k (.val false [.mp H.length]) (H ++ [.mp kt []])
  | some ⟨.tab _, _, _, _, _⟩ => k (.val false [.mp H.length]) (H ++ [.tb []])
  | _ => none) else none
 | .mapUpdate t m key v => match T t, ev m, ev key, ev v with
  | some ⟨.map _ kt, _, _, _, _⟩, .val false [.mp id], .val true cs, .val true [] => match P4 H kt id cs with
   | some H' => k .skip H'
   | none => none
  | some ⟨.tab _, _, _, _, _⟩, .val false [.mp id], .val false [.sc .str s], .val true cs => match Pf H id s cs with
   | some H' => k .skip H'
   | none => none
  | _, _, _, _ => none
 | .insert t m key v => match T t, ev m, ev key, ev v with
  | some ⟨.tab _, _, _, _, _⟩, .val false [.mp id], .val false [.sc .str s], .val true cs => match Pf H id s cs with
   | some H' => k .skip H'
   | none => none
  | _, _, _, _ => none
 | .lookup t m key ok => match T t, ev m, ev key with
  | some ⟨.map _ kt, _, _, _, _⟩, .val false [c], .val true cs => bif ok then (match T9 H kt c cs with
   | some v => k v H
   | none => none) else none
  | some ⟨.tab z, _, _, _, _⟩, .val false [.mp id], .val false [.sc .str s] => bif ok then none else (match H[id]? with
   | some (.tb rows) => tbK (z.map Z.cell) s (fun cs => k (.val true cs) H) rows
   | _ => none)
  | _, _, _ => none
 | .convert s d x => T6 T s d H k (ev x)
 | .binOp b t x y _ => match b with
  | .sub => Pv H k (ev x) (ev y)
  | .add => PK H k (ev x) (ev y)
  | .quo => Oc H k (ev x) (ev y)
  | .rem => P6 H k (ev x) (ev y)
  | .mul => PF H k (ev x) (ev y)
  | .shl => fC .shl H k (ev x) (ev y)
  | .shr => fC .shr H k (ev x) (ev y)
  | _ => none
 | .indexAddr t x i => match ev x, T t, sF (ev i) with
  | .val false [c], some ⟨.slice e, _, _, _, _⟩, some (_, n) => match T e with
   | some ⟨_, size, _, _, _⟩ => ug size H c n k
   | none => none
  | .val false [.ptr id off], some ⟨.arr m e, _, _, _, _⟩, some (_, n) => match T e with
   | some ⟨_, size, _, _, _⟩ => Pk (fun q => k (.val false [.ptr id (off + q * size)]) H) m 0 n
   | none => none
  | _, _, _ => none
 | .index t x i => match ev x, T t, sF (ev i) with
  | .val false [.sc .str s], some ⟨.str, _, _, _, _⟩, some (_, n) => bif decide (0 ≤ n) && decide (n < (s.size : Int)) then k (xn .u8 (z7 s n)) H else none
  | _, _, _ => none
 | .slice t x lo hi mx =>
  match qf ev lo, qf ev hi, qf ev mx with
  | some l, some h, some m => match ev x, T t with
   | .val false [.sc .str s], some ⟨.str, _, _, _, _⟩ => match m with
    | none => sB H s l h k
    | some _ => none
   | .val false [c], some ⟨.slice e, _, _, _, _⟩ => match T e with
    | some ⟨_, size, _, _, _⟩ => match m with
     | none => uk size H c l h k
     | some m => match c, l, h with
      | .own id n, none, some b => bif decide (m = b) then uk size H c none (some b) k else none
      | .sc (.sl u) _, none, some b => bif decide (m = 0) && decide (b = 0) then k (.val false [.own H.length 0]) (H ++ [.arr e u []]) else none
      | _, _, _ => none
    | none => none
   | _, _ => none
  | _, _, _ => none
 | .call c => match c.callee with
  | .builtin .append => match c.args.toList, c.argTypes.toList with
   | [s, x], [st, sx] => match ev s, ev x with
    | .val false [a], .val false [b] => Td T h0 H st sx a b k
    | _, _ => none
   | _, _ => none
  | .builtin .cap => match c.args.toList, c.argTypes.toList with
   | [s], [st] => match ev s, T st with
    | .val false [.nils], some ⟨.slice _, _, _, _, _⟩ => k (xn .i64 0) H
    | _, _ => none
   | _, _ => none
  | .builtin .max => match c.args.toList with
   | [x, y] => match Pj true (ev x) (ev y) with
    | some v => k v H
    | none => none
   | _ => none
  | .builtin .min => match c.args.toList with
   | [x, y] => match Pj false (ev x) (ev y) with
    | some v => k v H
    | none => none
   | _ => none
  | .value f => match ev f with
   | .val false [.fn g caps] => lG h0 env inl g (pk ev c.args.toList ++ caps.map fun p => .val false [.ptr p.1 p.2]) H k
   | .val false [.fnr g caps] => match env g with
    | some _ => none
    | none => inl g (pk ev c.args.toList ++ caps.map fun p => .val false [.elr p.1 p.2 0]) H k
   | .val false [.fnm g id off] => match env g with
    | some _ => none
    | none => inl g (.val false [.ptr id off] :: pk ev c.args.toList) H k
   | _ => none
  | _ => none
 | _ => none
def yz (op : Op) (ev : Operand → AV) : List Nat :=
 match op with
 | .buildSlice _ _ parts => parts.toList.flatMap fun p => p9 (ev p.2)
 | .store _ a x => match ev a with
  | .val false [.elo _ _ _] => p9 (ev x)
  | _ => []
 | .slice _ x lo _ _ => match lo with
  | some _ => p9 (ev x)
  | none => []
 | .convert _ _ x => p9 (ev x)
 | .call c => match c.callee with
  | .value f => match ev f with
   | .val false [.fn g _] => match env g with
    | some con => bif Nat.ble 2 con.mode then c.args.toList.flatMap (fun a => p9 (ev a)) else []
    | none => []
   | _ => []
  | _ => []
 | _ => []
def zL (op : Op) (ev : Operand → AV) (H : List Ob) : List Nat :=
 match op with
 | .call c => match c.callee with
  | .builtin .append => match c.args.toList with
   | s :: _ => match ev s with
    | .val false [.own id _] => [id]
    | _ => []
   | _ => []
  | .value f => match ev f with
   | .val false [.fn g caps] => match env g with
    | some con =>
     let args := pk ev c.args.toList ++ caps.map fun p => .val false [.ptr p.1 p.2]
     match con.look (conv H con.mode args) H with
     | some x => bif Nat.beq con.mode 1 then [] else con.kills x args
     | none => []
    | none => []
   | _ => []
  | _ => []
 | _ => []
def wS (fr : List AV) (dst : Option Tmp) (v : AV) : List AV :=
 match dst with
 | some d => fr.set d v
 | none => fr
abbrev uo := List (Nat × Bool)
def lp (p : Nat × Bool) : uo → Bool
 | [] => false
 | q :: r => (Nat.beq p.1 q.1 && (p.2 == q.2)) || lp p r
def dS (ps qs : uo) : Bool := ps.all fun p => lp p qs
def lB (t : Nat) (ps : uo) : Bool := ps.any fun p => Nat.beq p.1 t
structure G where
 fr : List AV
 gs : List (Nat × uo)
 facts : uo
def z3 (gs : List (Nat × uo)) (t : Nat) : uo :=
 match gs with
 | [] => []
 | (u, p) :: r => bif Nat.beq u t then p else z3 r t
def rR (t : Nat) (gs : List (Nat × uo)) : List (Nat × uo) := gs.filter fun p => !(Nat.beq p.1 t)
def uh (g : G) (q : uo) : Operand → Bool
 | .tmp t => dS (z3 g.gs t) (q ++ g.facts)
 | _ => true
def xh (g : G) (q : uo) (op : Op) : Bool := op.operands.toList.all (uh g q)
def uG (ops : List Oper) (g : G) (o : Oper) : Option (Option uo) :=
 match o.guard with
 | none => some (some [])
 | some (j, want) => match ops[j]? with
  | some oj => match oj.dst with
   | some t => match g.fr.getD t .undef with
    | .val false [.sc .bool _] => some (some (z3 g.gs t ++ [(t, want)]))
    | .skip => match z3 g.gs t with
     | [] => some none
     | _ => none
    | _ => none
   | none => none
  | none => none
def mn (dst : Option Tmp) (q : uo) : Bool :=
 match dst with
 | none => true
 | some d => !(lB d q)
def tt (g : G) (dst : Option Tmp) : Bool :=
 match dst with
 | none => true
 | some d => Nat.blt d g.fr.length && !(lB d g.facts) && g.gs.all fun p => !(lB d p.2)
def kX (g : G) (dst : Option Tmp) (p : uo) (v : AV) : G :=
 match dst with
 | none => g
 | some d => ⟨g.fr.set d v, match p with | [] => rR d g.gs | _ => (d, p) :: rR d g.gs, g.facts⟩
def RR (g : G) (q : uo) (c a b : Operand) : Option AV :=
 match c with
 | .tmp t => bif uh g q c then match evA g.fr c with
  | .val false [.sc .bool z] =>
   bif lp (t, true) (q ++ g.facts) then (bif uh g q a then some (evA g.fr a) else none) else
   bif lp (t, false) (q ++ g.facts) then (bif uh g q b then some (evA g.fr b) else none) else
   bif uh g ((t, true) :: q) a && uh g ((t, false) :: q) b then
    match evA g.fr a, evA g.fr b with
    | .val false [.sc .bool x], .val false [.sc .bool y] => some (zH (bif z then x else y))
    | _, _ => none
   else none
  | _ => none
  else none
 | _ => none
def cls (op : Op) : Nat :=
 match op with
 | .move _ | .assign _ | .pick _ _ _ | .fieldAddr _ _ _ | .field _ _ _ | .binOp _ _ _ _ _ | .unOp _ _ _ | .convert _ _ _ | .extract _ _ | .makeFunc _ _ _ | .nilCheck _ | .build _ _ | .index _ _ _ => 0
 | .load _ _ | .indexAddr _ _ _ | .slice _ _ _ _ none => 1
 | .alloc _ | .box _ _ | .buildSlice _ _ _ | .makeSlice _ _ _ => 2
 | .call c => match c.callee with
  | .builtin .len => 1
  | .value (.func g) => match env g with
   | some con => bif Nat.beq con.mode 1 then 1 else 3
   | none => 3
  | _ => 3
 | .store _ _ _ => 4
 | _ => 3
def sn (g : G) (q : uo) (k : G → Bool → Option R) : Option R :=
 match q with
 | [] => k g true
 | (t, w) :: r => match g.fr.getD t .undef with
  | .val false [.sc .bool b] =>
   bif dS (z3 g.gs t) g.facts then
    bif b then
     (bif w then sn ⟨g.fr.set t (zH true), rR t g.gs, (t, true) :: g.facts⟩ r k
      else k ⟨g.fr.set t (zH true), rR t g.gs, (t, true) :: g.facts⟩ false)
    else
     (bif w then k ⟨g.fr.set t (zH false), rR t g.gs, (t, false) :: g.facts⟩ false
      else sn ⟨g.fr.set t (zH false), rR t g.gs, (t, false) :: g.facts⟩ r k)
   else none
  | _ => none
def R6 (g : G) : List AV :=
 g.gs.foldl (fun fr p => bif dS p.2 g.facts then fr else fr.set p.1 .undef) g.fr
def Vb (g : G) : List Nat → G
 | [] => g
 | id :: r => Vb ⟨g.fr.map (Sub.v (.kill id)), g.gs, g.facts⟩ r
def YT (g : G) (H : List Ob) (ids : List Nat) : G × List Ob :=
 let s := St.seals ids ⟨g.fr, H⟩
 (⟨s.fr, g.gs, g.facts⟩, s.H)
def qj : C → Bool
 | .own _ _ => false
 | .elo _ _ _ => false
 | _ => true
def zX : AV → Bool
 | .val _ cs => cs.all qj
 | .tup l => l.all fun p => p.2.all qj
 | _ => true
def xC (d : Nat) : List Nat → Bool
 | [] => false
 | e :: r => Nat.beq d e || xC d r
def Tq : List Nat → Nat → Option Nat
 | [], _ => none
 | d :: r, s => bif Nat.ble 1000000000 d && Nat.beq ((d - 1000000000) / 100000) s then some ((d - 1000000000) % 100000) else Tq r s
def QF (g : Nat) : AV → Bool
 | .val false [.fn f []] => Nat.beq f g
 | _ => false
def sT (pl : List Nat) (op : Op) (ev : Operand → AV) : Bool :=
 match op with
 | .call c => match c.callee with
  | .value (.tmp s) => match Tq pl s with
   | some g => QF g (ev (.tmp s))
   | none => true
  | _ => true
 | _ => true
def gF : C → Bool
 | .undef => false
 | _ => true
def xt : AV → Bool
 | .val _ cs => cs.all gF
 | .tup l => l.all fun p => p.2.all gF
 | .skip => true
 | .undef => false
def kG (op : Op) (v : AV) : Bool :=
 match op with
 | .load _ _ => xt v
 | _ => true
def bH : List Nat → Option Nat
 | [] => none
 | d :: r => bif Nat.ble 7000000 d && Nat.ble d 7499999 then some (d - 7000000) else bH r
def No (N : Nat) : C → Bool
 | .sc _ _ => true
 | .elr _ _ _ => true
 | .ptr id _ => Nat.blt id N
 | .own id _ => Nat.blt id N
 | _ => false
def YO (N : Nat) : AV → Bool
 | .val false [c] => No N c
 | _ => false
def Vg (N : Nat) : AV → Bool
 | .val false [.ptr id _] => Nat.ble N id
 | .val false [.elo id _ _] => Nat.ble N id
 | _ => false
def iU (pl : List Nat) (d : Nat) (op : Op) (ev : Operand → AV) : Bool :=
 (bif xC (7500000 + d) pl then (match bH pl with
  | some N => op.operands.toList.all fun o => YO N (ev o)
  | none => false) else true) && (bif xC (7600000 + d) pl then op.operands.toList.all fun o => xt (ev o) else true)
def l5 (pl : List Nat) (op : Op) (ev : Operand → AV) : Bool :=
 match op with
 | .store _ a _ => match bH pl with
  | some N => Vg N (ev a)
  | none => true
 | _ => true
def kZ (pl : List Nat) (d : Nat) (op : Op) (ev : Operand → AV) : Bool :=
 match op with
 | .call _ => bif xC (7700000 + d) pl then op.operands.toList.all (fun o => zX (ev o)) else true
 | _ => true
def nh (pl : List Nat) (dst : Option Tmp) (op : Op) (ev : Operand → AV) (v : AV) : Bool :=
 match dst with
 | none => l5 pl op ev
 | some d => bif xC d pl then (match op with
   | .pick _ _ _ => false
   | op => ((op.operands.toList.all (fun o => zX (ev o)) && (zX v && kG op v)) && sT pl op ev) && iU pl d op ev) else kZ pl d op ev
def ZF (g : G) (q : uo) (op : Op) (H : List Ob) : Option AV :=
 match op with
 | .pick c a b => RR g q c a b
 | op => bif xh g q op then uI T op (evA g.fr) H else none
def gk (draw : Bool) (pl : List Nat) (ops : List Oper) : List Oper → G → List Ob → (G → List Ob → Option R) → Option R
 | [], g, H, k => k g H
 | o :: rest, g, H, k =>
  bif tt g o.dst then
   match uG ops g o with
   | none => none
   | some none => gk draw pl ops rest (kX g o.dst [] .skip) H k
   | some (some q0) =>
    let q := q0.filter fun p => !(lp p g.facts)
    bif q.any (fun p => lp (p.1, !p.2) g.facts) then gk draw pl ops rest (kX g o.dst [] .skip) H k else
    bif !(mn o.dst q) then none else
    bif yo o.op then
     match ZF T g q o.op H with
     | some v => bif nh pl o.dst o.op (evA g.fr) v then gk draw pl ops rest (kX g o.dst q v) H k else none
     | none => sn g q fun g' yes => bif yes then none else gk draw pl ops rest (kX g' o.dst [] .skip) H k
    else
     sn g q fun g' yes =>
      bif yes then
       bif xh g' [] o.op then
        let ids := yz env o.op (evA g'.fr)
        bif (ids.all (Nat.ble h0)) && (!draw || Nat.beq (cls env o.op) 3 || ids.isEmpty) then
         let p := YT g' H ids
         z0 T h0 env inl o.op (evA p.1.fr) p.2 fun v H' => bif nh pl o.dst o.op (evA g'.fr) v then gk draw pl ops rest (kX (Vb p.1 (zL env o.op (evA p.1.fr) p.2)) o.dst [] v) H' k else none
        else none
       else none
      else gk draw pl ops rest (kX g' o.dst [] .skip) H k
  else none
end Go.Proofs.YtefddghdaimklaaGreatDoor.AI
