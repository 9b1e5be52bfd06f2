/- A part of the proof. -/
import Derived.Test.YtefddghdaimklaaGreatDoorBa
import Derived.Lib.Strings
import Derived.Lib.ValidU
import Derived.Lib.IndexMore
import Derived.Lib.Itoa
import Derived.Lib.SlicesCompact
set_option linter.unusedVariables false
set_option linter.unusedSimpArgs false
namespace Go.Proofs.YtefddghdaimklaaGreatDoor.AI
open Go
def okB {α : Type} (b : Nat) (l : List α) : Bool := decide (l.length * b ≤ 140737488355328)
def okS (s : ByteArray) : Bool := decide (s.size ≤ 140737488355328)
def okV (x : zc) : Bool := okS x.2.2.2
def okT (t : zg) : Bool :=
 (okB 72 t.2.1 && (okB 8 t.2.2.1 && (okB 48 t.2.2.2.1 && okB 40 t.2.2.2.2))) && (t.2.1.all (fun c => okV c.2.2.2) && (t.2.2.2.1.all (fun i => okB 8 i.2.1) && t.2.2.2.2.all (fun r => okB 8 r.1)))
def vr (c : Int) : Bool := c == 95 || (decide (c ≥ 97) && decide (c ≤ 122))
def rd (c : Int) : Bool := decide (c ≥ 48) && decide (c ≤ 57)
def wordsL : List ByteArray := [⟨#[97, 110, 100]⟩, ⟨#[98, 111, 111, 108]⟩, ⟨#[98, 121, 116, 101, 115]⟩, ⟨#[99, 114, 101, 97, 116, 101]⟩, ⟨#[100, 101, 102, 97, 117, 108, 116]⟩, ⟨#[102, 97, 108, 115, 101]⟩, ⟨#[102, 108, 111, 97, 116]⟩, ⟨#[102, 111, 114, 101, 105, 103, 110]⟩, ⟨#[105, 110]⟩, ⟨#[105, 110, 100, 101, 120]⟩, ⟨#[105, 110, 116]⟩, ⟨#[105, 115]⟩, ⟨#[107, 101, 121]⟩, ⟨#[110, 111, 116]⟩, ⟨#[110, 117, 108, 108]⟩, ⟨#[111, 114]⟩, ⟨#[112, 114, 105, 109, 97, 114, 121]⟩, ⟨#[114, 101, 102, 101, 114, 101, 110, 99, 101, 115]⟩, ⟨#[116, 97, 98, 108, 101]⟩, ⟨#[116, 101, 120, 116]⟩, ⟨#[116, 114, 117, 101]⟩, ⟨#[117, 110, 105, 113, 117, 101]⟩, ⟨#[97, 98, 111, 114, 116]⟩, ⟨#[97, 115]⟩, ⟨#[97, 115, 99]⟩, ⟨#[97, 116]⟩, ⟨#[97, 118, 103]⟩, ⟨#[98, 101, 103, 105, 110]⟩, ⟨#[98, 101, 116, 119, 101, 101, 110]⟩, ⟨#[98, 121]⟩, ⟨#[99, 111, 109, 109, 105, 116]⟩, ⟨#[99, 111, 117, 110, 116]⟩, ⟨#[100, 101, 108, 101, 116, 101]⟩, ⟨#[100, 101, 115, 99]⟩, ⟨#[100, 114, 111, 112]⟩, ⟨#[102, 114, 111, 109]⟩, ⟨#[103, 114, 111, 117, 112]⟩, ⟨#[105, 110, 115, 101, 114, 116]⟩, ⟨#[105, 110, 116, 111]⟩, ⟨#[108, 105, 109, 105, 116]⟩, ⟨#[109, 97, 120]⟩, ⟨#[109, 105, 110]⟩, ⟨#[111, 102]⟩, ⟨#[111, 114, 100, 101, 114]⟩, ⟨#[114, 101, 108, 101, 97, 115, 101]⟩, ⟨#[114, 111, 108, 108, 98, 97, 99, 107]⟩, ⟨#[115, 97, 118, 101, 112, 111, 105, 110, 116]⟩, ⟨#[115, 101, 108, 101, 99, 116]⟩, ⟨#[115, 101, 116]⟩, ⟨#[115, 117, 109]⟩, ⟨#[116, 111]⟩, ⟨#[117, 112, 100, 97, 116, 101]⟩, ⟨#[118, 97, 108, 117, 101, 115]⟩, ⟨#[119, 104, 101, 114, 101]⟩, ⟨#[119, 105, 116, 104]⟩]
def wordsS : ByteArray := ⟨#[32, 97, 110, 100, 32, 98, 111, 111, 108, 32, 98, 121, 116, 101, 115, 32, 99, 114, 101, 97, 116, 101, 32, 100, 101, 102, 97, 117, 108, 116, 32, 102, 97, 108, 115, 101, 32, 102, 108, 111, 97, 116, 32, 102, 111, 114, 101, 105, 103, 110, 32, 105, 110, 32, 105, 110, 100, 101, 120, 32, 105, 110, 116, 32, 105, 115, 32, 107, 101, 121, 32, 110, 111, 116, 32, 110, 117, 108, 108, 32, 111, 114, 32, 112, 114, 105, 109, 97, 114, 121, 32, 114, 101, 102, 101, 114, 101, 110, 99, 101, 115, 32, 116, 97, 98, 108, 101, 32, 116, 101, 120, 116, 32, 116, 114, 117, 101, 32, 117, 110, 105, 113, 117, 101, 32, 97, 98, 111, 114, 116, 32, 97, 115, 32, 97, 115, 99, 32, 97, 116, 32, 97, 118, 103, 32, 98, 101, 103, 105, 110, 32, 98, 101, 116, 119, 101, 101, 110, 32, 98, 121, 32, 99, 111, 109, 109, 105, 116, 32, 99, 111, 117, 110, 116, 32, 100, 101, 108, 101, 116, 101, 32, 100, 101, 115, 99, 32, 100, 114, 111, 112, 32, 102, 114, 111, 109, 32, 103, 114, 111, 117, 112, 32, 105, 110, 115, 101, 114, 116, 32, 105, 110, 116, 111, 32, 108, 105, 109, 105, 116, 32, 109, 97, 120, 32, 109, 105, 110, 32, 111, 102, 32, 111, 114, 100, 101, 114, 32, 114, 101, 108, 101, 97, 115, 101, 32, 114, 111, 108, 108, 98, 97, 99, 107, 32, 115, 97, 118, 101, 112, 111, 105, 110, 116, 32, 115, 101, 108, 101, 99, 116, 32, 115, 101, 116, 32, 115, 117, 109, 32, 116, 111, 32, 117, 112, 100, 97, 116, 101, 32, 118, 97, 108, 117, 101, 115, 32, 119, 104, 101, 114, 101, 32, 119, 105, 116, 104, 32]⟩
def zR (s : ByteArray) : List Int := s.data.toList.map fun b => (b.toNat : Int)
def vF (s : ByteArray) : Bool :=
 bif decide (s.size < 1) || decide (s.size > 63) then false
 else bif !vr (zY s 0) || wordsL.any (fun w => zd w s) then false
 else (zR s).all fun c => vr c || rd c
def ut {α : Type} (p : α → Bool) (l : List α) : Int :=
 match l.findIdx? p with
 | some i => (i : Int)
 | none => -1
def zO (x : zc) : Int :=
 bif decide (x.1 < 0) || decide (x.1 > 5) then 10
 else bif (x.1 == 1 && x.2.1 != 0 && x.2.1 != 1) || (x.1 != 1 && x.1 != 2 && x.2.1 != 0) then 10
 else bif x.1 != 3 && x.2.2.1 != 0 then 10
 else bif x.1 != 4 && x.1 != 5 && !(zd x.2.2.2 noS) then 10
 else bif x.1 == 4 && !(Lib.validD x.2.2.2.data.toList) then 10
 else bif decide ((x.2.2.2.size : Int) > 65536) then 3 else 0
def lH (a b : zc) : Bool := a.1 == b.1 && a.2.1 == b.2.1 && (a.2.2.1 == b.2.2.1) && zd a.2.2.2 b.2.2.2
def ur (n : Nat) : List Int → List Int → Bool
 | _, [] => true
 | seen, k :: r => bif decide (k < 0) || decide (k ≥ (n : Int)) then false else bif seen.any (fun v => v == k) then false else ur n (seen ++ [k]) r
def ve (n : Nat) (l : List Int) : Bool := bif decide (l.length < 1) || decide (l.length > 64) then false else ur n [] l
def QF (c : zQ) : Bool := (decide (c.2.1 < 1) || decide (c.2.1 > 5)) || (zO c.2.2.2 != 0 || (c.2.2.2.1 != 0 && c.2.2.2.1 != c.2.1))
def tK : List zQ → List zQ → Int
 | _, [] => 0
 | seen, c :: r => bif !vF c.1 then 30 else bif seen.any (fun v => zd v.1 c.1) then 31 else bif QF c then 32 else tK (seen ++ [c]) r
def vU (n : Nat) : List yn → List yn → Int
 | _, [] => 0
 | seen, c :: r => bif !vF c.1 then 30 else bif seen.any (fun v => zd v.1 c.1) then 31 else bif !ve n c.2.1 then 33 else vU n (seen ++ [c]) r
def sh (n : Nat) : List ce → Int
 | [] => 0
 | c :: r => bif !vF c.2 then 30 else bif !ve n c.1 then 33 else sh n r
def pL (t : zg) (k : Int) : Bool := (t.2.1.getD k.toNat tColumn.dflt).2.2.1
def inK (t : zg) (k : Int) : Bool := decide (0 ≤ k) && decide (k < (t.2.1.length : Int))
def xw (t : zg) : Int :=
 bif !vF t.1 then 30
 else bif decide (t.2.1.length < 1) || decide (t.2.1.length > 64) || decide (t.2.2.2.1.length > 16) || decide (t.2.2.2.2.length > 16) then 2
 else bif tK [] t.2.1 != 0 then tK [] t.2.1
 else bif !ve t.2.1.length t.2.2.1 then 33
 else bif t.2.2.1.any (pL t) then 33
 else bif vU t.2.1.length [] t.2.2.2.1 != 0 then vU t.2.1.length [] t.2.2.2.1
 else sh t.2.1.length t.2.2.2.2
def Yz (t : zg) (s : ByteArray) : Int × Int :=
 match t.2.1.findIdx? (fun c => zd c.1 s) with
 | some i => ((i : Int), 0)
 | none => (0, 5)
def oH : List zQ → List zc → Int
 | c :: l, v :: r => bif zO v != 0 then zO v else bif v.1 == 0 then (bif !c.2.2.1 then 35 else oH l r) else bif v.1 != c.2.1 then 32 else oH l r
 | _, _ => 0
def uP (t : zg) (row : List zc) : Int :=
 bif xw t != 0 then xw t else bif (row.length : Int) != (t.2.1.length : Int) then 1 else oH t.2.1 row
def Q1 (x : ByteArray × ByteArray) : Option Bool := bif decide (x.1.size < 4294967281) then some (Lib.contains x.1.data.toList x.2.data.toList) else none
def F63 (b : Nat) : Option Int := some (b : Int)
def F64 (s : ByteArray) : Option Bool := bif decide (s.size ≤ 9223372036854775807) then some (Lib.validD s.data.toList) else none
def UZ (s : ByteArray) : Option Bool := bif decide (s.size ≤ 140737488355328) then some (Lib.contains wordsS.data.toList (32 :: (s.data.toList ++ [32]))) else none
def F86 (s : ByteArray) : Option Bool := some (vF s)
def VJ (s : ByteArray) : Option Bool := some (vF s)
def R2 (x : List ByteArray × ByteArray) : Option Bool := bif okB 16 x.1 then some (x.1.any fun w => zd w x.2) else none
def PN (x : Unit) : Option (List ByteArray) := some wordsL
def F42 (x : List Int × Int) : Option Int := bif okB 8 x.1 then some (ut (fun v => v == x.2) x.1) else none
def F16 (x : List Int × Int) : Option Bool := bif okB 8 x.1 then some (x.1.any fun v => v == x.2) else none
def F88 (x : zg × List Int) : Option Bool := bif okB 8 x.2 then some (ve x.1.2.1.length x.2) else none
def VX (x : zg × List Int) : Option Bool := F88 x
def eJ (x : List zQ × ByteArray) : Option Int := bif okB 72 x.1 then some (ut (fun c => zd c.1 x.2) x.1) else none
def iT (x : List zQ × zQ) : Option Int := bif okB 72 x.1 then some (ut (fun c => zd c.1 x.2.1) x.1) else none
def R7 (x : List zQ × zQ) : Option Bool := bif okB 72 x.1 then some (x.1.any fun c => zd c.1 x.2.1) else none
def TP (x : List yn × yn) : Option Int := bif okB 48 x.1 then some (ut (fun c => zd c.1 x.2.1) x.1) else none
def F91 (x : List yn × yn) : Option Bool := bif okB 48 x.1 then some (x.1.any fun c => zd c.1 x.2.1) else none
def F75 (x : zc) : Option Int := bif okV x then some (zO x) else none
def F37 (x : zc) : Option Int := F75 x
def F87 (x : zg) : Option Int := bif okT x then some (tK [] x.2.1) else none
def R9 (x : zg) : Option Int := F87 x
def RV (x : zg) : Option Int := bif okT x then some (vU x.2.1.length [] x.2.2.2.1) else none
def F58 (x : zg) : Option Int := bif okT x then some (xw x) else none
def F77 (x : zg) : Option Int := F58 x
def Ox (x : zg × ByteArray) : Option (Int × Int) := bif okT x.1 then some (Yz x.1 x.2) else none
def F27 (x : List Int) : Option (List Int) := bif okB 8 x then some x else none
def F7 (x : zg) : Option zg := bif okT x then some x else none
def F61 (x : zg × List zc) : Option Int := bif okT x.1 && (okB 40 x.2 && x.2.all okV) then some (uP x.1 x.2) else none
def F54 (x : List zc) : Option ((List zc × Unit) × Unit) := bif okB 40 x then some ((x, ()), ()) else none
def Qg (x : zc × zc) : Option Bool := some (lH x.1 x.2)
def sM : zg := (⟨#[116]⟩, ([(⟨#[97]⟩, (2, (false, (0, (0, (0, noS))))))], ([0], ([], []))))
def i9 (a b : zQ) : Bool := zd a.1 b.1 && (a.2.1 == b.2.1 && (a.2.2.1 == b.2.2.1 && lH a.2.2.2 b.2.2.2))
def pC (t : zg) : Bool :=
 zd t.1 sM.1 && ((match t.2.1 with | [c] => i9 c (⟨#[97]⟩, (2, (false, (0, (0, (0, noS)))))) | _ => false) && ((match t.2.2.1 with | [k] => k == 0 | _ => false) && ((match t.2.2.2.1 with | [] => true | _ => false) && (match t.2.2.2.2 with | [] => true | _ => false))))
def fo (a b : Nat) : Option Ordering := FloatKind.f64.format.order a b
def oU (a b : Nat) : Int :=
 bif fo a a != some .eq then (bif fo b b != some .eq then 0 else 1)
 else bif fo b b != some .eq then -1 else bif fo a b == some .lt then -1 else bif fo a b == some .gt then 1 else 0
def nS (a b : Int) : Int := bif decide (a < b) then -1 else bif decide (a > b) then 1 else 0
def iW (a b : ByteArray) : Int := Lib.compareBytes a.data.toList b.data.toList
def kG (a b : zc) : Int :=
 bif a.1 != b.1 then nS a.1 b.1
 else bif a.1 == 1 || a.1 == 2 then nS a.2.1 b.2.1
 else bif a.1 == 3 then oU a.2.2.1 b.2.2.1
 else bif a.1 == 4 || a.1 == 5 then iW a.2.2.2 b.2.2.2 else 0
def cu : Nat := 9221120237041090560
def wX (x : zc) : zc :=
 bif x.1 != 3 then x
 else bif fo x.2.2.1 0 == some .eq then (x.1, x.2.1, 0, x.2.2.2)
 else bif fo x.2.2.1 x.2.2.1 != some .eq then (x.1, x.2.1, cu, x.2.2.2) else x
def uT (f : Nat) : Int := match (FloatKind.f64.decode f).toInt .zero with
 | some n => n
 | none => 0
def Vu (n : Int) (f : Nat) : Int :=
 bif fo f f != some .eq || (fo f 4890909195324358656 == some .gt || fo f 4890909195324358656 == some .eq) then -1
 else bif fo f 14114281232179134464 == some .lt then 1
 else bif n != uT f then nS n (uT f)
 else match FloatKind.f64.format.sub f (FloatKind.f64.nearest (uT f)) with
  | some r => oU 0 r
  | none => 0
def R1 (a b : zc) : Int × Bool :=
 bif a.1 == 2 && b.1 == 2 then (nS a.2.1 b.2.1, true)
 else bif a.1 == 3 && b.1 == 3 then (oU a.2.2.1 b.2.2.1, true)
 else bif a.1 == 2 && b.1 == 3 then (Vu a.2.1 b.2.2.1, true)
 else bif a.1 == 3 && b.1 == 2 then (0 - Vu b.2.1 a.2.2.1, true)
 else (0, false)
def F74 (x : ByteArray × ByteArray) : Option Int := some (iW x.1 x.2)
def qQ (n : Int) : Option Nat := some n.toNat
def j4 (x : Int × Nat) : Option Int := some (Vu x.1 x.2)
def Qx (x : zc × zc) : Option (Int × Bool) := some (R1 x.1 x.2)
def R4 (b : Nat) : Option Nat := match FloatKind.f64.decode b with
 | .nan _ _ => none
 | d => some (FloatKind.f64.encode (d.integral .zero))
def F71 (x : Int × Int) : Option Int := some (nS x.1 x.2)
def F72 (x : Int × Int) : Option Int := some (nS x.1 x.2)
def F82 (x : Int × Int) : Option Int := some (nS x.1 x.2)
def F73 (x : Nat × Nat) : Option Int := some (oU x.1 x.2)
def F83 (x : Nat × Nat) : Option Int := some (oU x.1 x.2)
def F84 (x : ByteArray × ByteArray) : Option Int := some (iW x.1 x.2)
def F45 (x : zc × zc) : Option Int := some (kG x.1 x.2)
def F52 (x : zc × zc) : Option Int := some (kG x.1 x.2)
def R6 (x : zc) : Option zc := some (wX x)
def wJ (v : zc) : Bool := v.1 == 0 && v.2.1 == 0 && (v.2.2.1 == 0) && zd v.2.2.2 noS
mutual
def zT : zn → Nat
 | .node _ ks => xz ks + 1
def xz : List zn → Nat
 | [] => 0
 | k :: r => zT k + xz r
end
mutual
def lD : zn → Nat
 | .node _ ks => pK ks + 1
def pK : List zn → Nat
 | [] => 0
 | k :: r => max (lD k) (pK r)
end
def okI (n : Int) : Bool := decide (-9223372036854775808 ≤ n) && decide (n ≤ 9223372036854775807)
def okZ (v : zc) : Bool := okS v.2.2.2 && (okI v.2.1 && decide (v.2.2.1 < 18446744073709551616))
mutual
def oW : zn → Bool
 | .node a ks => okS a.2.1 && (okZ a.2.2.2 && (okB 96 ks && hP ks))
def hP : List zn → Bool
 | [] => true
 | k :: r => oW k && hP r
end
def okE (e : zn) : Bool := decide (zT e ≤ 1048576) && oW e
mutual
def xv : zn → Int → Int
 | .node _ ks, h => uk ks (h + 1)
def uk : List zn → Int → Int
 | [], h => h
 | k :: r, h => bif decide (h ≤ 262144) then uk r (xv k h) else h
end
def qJ : zn := .node (0, (noS, (0, zeroV))) []
def YD (e : zn) : zn := bif decide (xv e 0 > 262144) then qJ else e
def biL : List ByteArray := [⟨#[43]⟩, ⟨#[45]⟩, ⟨#[42]⟩, ⟨#[47]⟩, ⟨#[37]⟩, ⟨#[61]⟩, ⟨#[60, 62]⟩, ⟨#[60]⟩, ⟨#[60, 61]⟩, ⟨#[62]⟩, ⟨#[62, 61]⟩, ⟨#[97, 110, 100]⟩, ⟨#[111, 114]⟩]
def inS (l : List ByteArray) (s : ByteArray) : Bool := l.any fun w => zd w s
def xY : ByteArray := ⟨#[97, 110, 100]⟩
def orS : ByteArray := ⟨#[111, 114]⟩
def tG : ByteArray := ⟨#[110, 111, 116]⟩
def cq : ByteArray := ⟨#[45]⟩
def iL : ByteArray := ⟨#[37]⟩
def rN (n : Nat) (a : Int × ByteArray × Int × zc) (m : Nat) : Bool :=
 bif a.1 == 1 then m == 0 && (zd a.2.1 noS && (a.2.2.1 == 0 && zO a.2.2.2 == 0))
 else m == 0 && (zd a.2.1 noS && (decide (a.2.2.1 ≥ 0) && (decide (a.2.2.1 < (n : Int)) && wJ a.2.2.2)))
def Qf (a : Int × ByteArray × Int × zc) (m : Nat) : Bool :=
 bif a.1 == 3 then m == 1 && inS unL a.2.1
 else bif a.1 == 4 then m == 2 && (inS arL a.2.1 || (inS cpL a.2.1 || (zd a.2.1 xY || zd a.2.1 orS)))
 else bif a.1 == 5 then decide (m ≥ 2) && zd a.2.1 noS else false
def wF (a : Int × ByteArray × Int × zc) (m : Nat) : Bool := Qf a m && (a.2.2.1 == 0 && wJ a.2.2.2)
def wt (n : Nat) (a : Int × ByteArray × Int × zc) (m : Nat) : Bool := bif a.1 == 1 || a.1 == 2 then rN n a m else wF a m
mutual
def yS (n : Nat) : zn → Bool
 | .node a ks => wt n a ks.length && ux n ks
def ux (n : Nat) : List zn → Bool
 | [] => true
 | k :: r => yS n k && ux n r
end
mutual
def ry (n : Nat) : zn → Int → Int → Int × Bool
 | .node a ks, left, deep =>
  bif decide (left - 1 < 0) || decide (deep > 100) then (left - 1, false)
  else bif a.1 == 1 || a.1 == 2 then (left - 1, rN n a ks.length)
  else bif !wF a ks.length then (left - 1, false) else o5 n ks (left - 1) (deep + 1)
def o5 (n : Nat) : List zn → Int → Int → Int × Bool
 | [], left, _ => (left, true)
 | k :: r, left, deep => bif !(ry n k left deep).2 then ((ry n k left deep).1, false) else o5 n r (ry n k left deep).1 deep
end
mutual
def xi : zn → Int → Int → Int × Bool
 | .node _ ks, had, deep => bif decide (had + 1 > 1024) || decide (deep > 100) then (had + 1, false) else uv ks (had + 1) (deep + 1)
def uv : List zn → Int → Int → Int × Bool
 | [], had, _ => (had, true)
 | k :: r, had, deep => bif (xi k had deep).2 then uv r (xi k had deep).1 deep else ((xi k had deep).1, false)
end
def wC (k : Int) : Bool := k == 2 || k == 3
def uq (k : Int) : Bool := k == 1 || k == 0
def oS (a b : Int) : Bool := a == b || (wC a && wC b || (a == 0 || b == 0))
def Uf (op : ByteArray) (a b : Int) : Int × Bool :=
 bif a == 0 then (a, true)
 else bif !wC a || (!wC b && b != 0) || (zd op iL && (a == 3 || b == 3)) then (0, false)
 else bif b == 0 then (a, true) else (mt true a b, true)
def vW (op : ByteArray) (a b : Int) : Int × Bool := bif a == 0 then Uf op b a else Uf op a b
def Qb (op : ByteArray) (a b : Int) : Int × Bool :=
 bif a == 0 then (0, true)
 else bif zd op iL then (2, a == 2 && (b == 2 || b == 0))
 else bif b == 0 then (a, wC a)
 else bif !wC a || !wC b then (0, false) else bif a == 2 && b == 2 then (2, true) else (3, true)
def rC (op : ByteArray) (a b : Int) : Int × Bool := bif a == 0 then Qb op b a else Qb op a b
def wY (cs : List Int) (a : Int × ByteArray × Int × zc) (l : List Int) : Int × Bool :=
 bif a.1 == 1 then (a.2.2.2.1, true)
 else bif a.1 == 2 then (cs.getD a.2.2.1.toNat 0, true)
 else bif a.1 == 5 then (1, !((l.drop 1).any fun x => !oS (l.getD 0 0) x))
 else bif zd a.2.1 cq && l.length == 1 then (l.getD 0 0, wC (l.getD 0 0) || l.getD 0 0 == 0)
 else bif zd a.2.1 tG then (1, uq (l.getD 0 0))
 else bif a.1 == 3 then (1, true)
 else bif inS cpL a.2.1 then (1, oS (l.getD 0 0) (l.getD 1 0))
 else bif zd a.2.1 xY || zd a.2.1 orS then (1, uq (l.getD 0 0) && uq (l.getD 1 0))
 else vW a.2.1 (l.getD 0 0) (l.getD 1 0)
mutual
def yW (cs : List Int) : zn → Int × Bool
 | .node a ks => match xA cs ks with
  | none => (0, false)
  | some l => wY cs a l
def xA (cs : List Int) : List zn → Option (List Int)
 | [] => some []
 | k :: r => bif !(yW cs k).2 then none else match xA cs r with
  | none => none
  | some l => some ((yW cs k).1 :: l)
end
def iB (cs : List Int) (a : Int × ByteArray × Int × zc) (l : List Int) : Int × Bool :=
 bif a.1 == 1 then (a.2.2.2.1, true)
 else bif a.1 == 2 then (cs.getD a.2.2.1.toNat 0, true)
 else bif a.1 == 3 then (bif zd a.2.1 cq then (l.getD 0 0, wC (l.getD 0 0) || l.getD 0 0 == 0) else (1, !(zd a.2.1 tG) || uq (l.getD 0 0)))
 else bif a.1 == 5 then (bif (l.drop 1).any fun x => !oS (l.getD 0 0) x then (0, false) else (1, true))
 else bif inS arL a.2.1 then rC a.2.1 (l.getD 0 0) (l.getD 1 0)
 else bif inS cpL a.2.1 then (1, oS (l.getD 0 0) (l.getD 1 0))
 else (1, uq (l.getD 0 0) && uq (l.getD 1 0))
def mG (cs : List Int) (e : zn) : Int × Bool :=
 match xA cs e.kids with
 | none => (0, false)
 | some l => iB cs e.lab l
def yG (t : zg) : List Int := t.2.1.map fun c => c.2.1
def cp (t : zg) (e : zn) : Bool := decide (zT e ≤ 1024) && (decide (lD e ≤ 100) && yS t.2.1.length e)
def yB (t : zg) (e : zn) : Int × Int :=
 bif xw t != 0 then (0, xw t)
 else bif !cp t e then (0, 150)
 else bif !(yW (yG t) e).2 then (0, 151) else ((yW (yG t) e).1, 0)
mutual
def La : zn → List Int
 | .node a ks => (bif a.1 == 2 then [a.2.2.1] else []) ++ ME ks
def ME : List zn → List Int
 | [] => []
 | k :: r => La k ++ ME r
end
def qK (b : Bool) : zc := bif b then (1, (1, (0, noS))) else (1, (0, (0, noS)))
def ci (n : Int) : zc := (2, (n, (0, noS)))
def jv (o : Option Nat) : zc :=
 match o with
 | none => (3, (0, (cu, noS)))
 | some r => bif fo r r != some .eq then wX (3, (0, (r, noS))) else (3, (0, (r, noS)))
def wz (n : Int) : Int := IntKind.wrap .i64 n
def Zu (op : ByteArray) (a b : Int) : Int × Int :=
 bif zd op ⟨#[43]⟩ then (bif decide (wz (a + b) > a) == decide (b > 0) then (wz (a + b), 0) else (0, 152))
 else bif zd op ⟨#[45]⟩ then (bif decide (wz (a - b) < a) == decide (b > 0) then (wz (a - b), 0) else (0, 152))
 else bif zd op ⟨#[42]⟩ then (bif a == 0 || b == 0 then (0, 0) else bif wz (Int.tdiv (wz (a * b)) b) != a || (a == -9223372036854775808 && b == -1 || b == -9223372036854775808 && a == -1) then (0, 152) else (wz (a * b), 0))
 else bif zd op ⟨#[47]⟩ then (bif b == 0 then (0, 153) else bif a == -9223372036854775808 && b == -1 then (0, 152) else (wz (Int.tdiv a b), 0))
 else (bif b == 0 then (0, 153) else bif b == -1 then (0, 0) else (Int.tmod a b, 0))
def VZ (op : ByteArray) (a b : Nat) : Option Nat :=
 bif zd op ⟨#[43]⟩ then FloatKind.f64.format.add a b
 else bif zd op ⟨#[45]⟩ then FloatKind.f64.format.sub a b
 else bif zd op ⟨#[42]⟩ then FloatKind.f64.format.mul a b
 else FloatKind.f64.format.div a b
def asF (v : zc) : Nat := bif v.1 == 2 then FloatKind.f64.nearest v.2.1 else v.2.2.1
def pH (op : ByteArray) (a b : zc) : zc × Int :=
 bif a.1 == 2 && b.1 == 2 then (bif (Zu op a.2.1 b.2.1).2 != 0 then (zeroV, (Zu op a.2.1 b.2.1).2) else (ci (Zu op a.2.1 b.2.1).1, 0))
 else (jv (VZ op (asF a) (asF b)), 0)
def RS (a b : zc) : Int := bif (R1 a b).2 then (R1 a b).1 else kG a b
def Xz (op : ByteArray) (c : Int) : Bool :=
 bif zd op ⟨#[61]⟩ then c == 0
 else bif zd op ⟨#[60, 62]⟩ then c != 0
 else bif zd op ⟨#[60]⟩ then decide (c < 0)
 else bif zd op ⟨#[60, 61]⟩ then decide (c ≤ 0)
 else bif zd op ⟨#[62]⟩ then decide (c > 0) else decide (c ≥ 0)
def isT (v : zc) : Bool := v.1 == 1 && v.2.1 == 1
def isF (v : zc) : Bool := v.1 == 1 && v.2.1 == 0
def unV (op : ByteArray) (v : zc) : zc × Int :=
 bif zd op ⟨#[105, 115, 32, 110, 117, 108, 108]⟩ then (qK (v.1 == 0), 0)
 else bif zd op ⟨#[105, 115, 32, 110, 111, 116, 32, 110, 117, 108, 108]⟩ then (qK (!(v.1 == 0)), 0)
 else bif v.1 == 0 then (zeroV, 0)
 else bif zd op tG then (qK (isF v), 0)
 else bif v.1 == 3 then (jv (some (Op.negFloat .f64 v.2.2.1)), 0)
 else bif v.2.1 == -9223372036854775808 then (zeroV, 152) else (ci (wz (0 - v.2.1)), 0)
def o4 (op : ByteArray) (a b : zc × Int) : zc × Int :=
 bif a.2 != 0 || (bif zd op orS then isT a.1 else isF a.1) then a
 else bif b.2 != 0 || (bif zd op orS then isT b.1 else isF b.1) || !(a.1.1 == 0) then b
 else (zeroV, 0)
def inL (a : zc) : Bool → List (zc × Int) → zc × Int
 | unk, [] => bif unk then (zeroV, 0) else (qK false, 0)
 | unk, b :: r => bif b.2 != 0 then (zeroV, b.2) else bif a.1 == 0 || b.1.1 == 0 then inL a true r else bif RS a b.1 == 0 then (qK true, 0) else inL a unk r
def inV (rs : List (zc × Int)) : zc × Int :=
 match rs with
 | [] => (zeroV, 0)
 | a :: r => bif a.2 != 0 then (zeroV, a.2) else inL a.1 (a.1.1 == 0) r
def noR : zc × Int := (zeroV, 0)
def W2 (op : ByteArray) (a b : zc × Int) : zc × Int :=
 bif a.2 != 0 then (zeroV, a.2)
 else bif b.2 != 0 then (zeroV, b.2)
 else bif a.1.1 == 0 || b.1.1 == 0 then (zeroV, 0)
 else bif inS cpL op then (qK (Xz op (RS a.1 b.1)), 0)
 else pH op a.1 b.1
def qD (row : List zc) (a : Int × ByteArray × Int × zc) (rs : List (zc × Int)) : zc × Int :=
 bif a.1 == 1 then (a.2.2.2, 0)
 else bif a.1 == 2 then (row.getD a.2.2.1.toNat zeroV, 0)
 else bif a.1 == 5 then inV rs
 else bif zd a.2.1 xY || zd a.2.1 orS then o4 a.2.1 (rs.getD 0 noR) (rs.getD 1 noR)
 else bif a.1 == 3 then (bif (rs.getD 0 noR).2 != 0 then (zeroV, (rs.getD 0 noR).2) else unV a.2.1 (rs.getD 0 noR).1)
 else W2 a.2.1 (rs.getD 0 noR) (rs.getD 1 noR)
mutual
def yh (row : List zc) : zn → zc × Int
 | .node a ks => qD row a (da row ks)
def da (row : List zc) : List zn → List (zc × Int)
 | [] => []
 | k :: r => yh row k :: da row r
end
def cC (t : zg) (e : zn) (row : List zc) : zc × Int :=
 bif (yB t e).2 != 0 then (zeroV, (yB t e).2)
 else bif uP t row != 0 then (zeroV, uP t row)
 else bif (yh row e).2 != 0 then (zeroV, (yh row e).2) else ((yh row e).1, 0)
def yR (t : zg) (e : zn) : Int := bif (yB t e).2 == 0 && !uq (yB t e).1 then 151 else (yB t e).2
def VM (t : zg) (e : zn) (row : List zc) : Bool × Int :=
 bif yR t e != 0 then (false, yR t e) else (isT (cC t e row).1, (cC t e row).2)
def tL : List Int → List zc → Bool
 | [], [] => true
 | k :: l, v :: r => (v.1 == k || v.1 == 0) && (zO v == 0 && (okZ v && tL l r))
 | _, _ => false
def az (x : zn × List zc) : Prop := ∃ cs : List Int, okE x.1 = true ∧ yS cs.length x.1 = true ∧ (yW cs x.1).2 = true ∧ tL cs x.2 = true ∧ okB 40 x.2 = true
def yM {α : Type} (c : Bool) (y : α) : Option α := bif c then some y else none
def Sy (k : Nat) (x : zn × Int) : Option Int := yM (oW x.1 && (okI x.2 && (decide (0 ≤ x.2) && (decide (x.2 ≤ 262144) && decide (zT x.1 < k))))) (xv x.1 x.2)
def F39 (x : zn × Int) : Option Int := yM (oW x.1 && (okI x.2 && (decide (0 ≤ x.2) && decide (x.2 ≤ 262144)))) (xv x.1 x.2)
def F14 (x : zn) : Option Bool := yM (oW x) (decide (xv x 0 > 262144))
def F5 (x : zn) : Option zn := yM (oW x) (YD x)
def F8n (k : Nat) (x : zn) : Option zn := yM (okE x && decide (zT x < k)) x
def F8 (x : zn) : Option zn := yM (okE x) x
def cr (x : List ByteArray × ByteArray) : Option Bool := yM (okB 16 x.1) (inS x.1 x.2)
def F44 (x : List ByteArray × ByteArray) : Option Int := yM (okB 16 x.1) (ut (fun w => zd w x.2) x.1)
def F81 (x : List ByteArray × ByteArray) : Option Bool := yM (okB 16 x.1) (inS x.1 x.2)
def Qs (x : Unit) : Option (List ByteArray) := some unL
def Qp (x : Unit) : Option (List ByteArray) := some biL
def F50 (x : ByteArray) : Option Bool := some (inS cpL x)
def Pw (x : ByteArray) : Option Bool := some (inS arL x)
def goW (x : (zg × Int) × zn × Int) : Bool := okT x.1.1 && (okE x.2.1 && (decide (0 ≤ x.1.2) && (decide (x.1.2 ≤ 1024) && (decide (0 ≤ x.2.2) && decide (x.2.2 ≤ 101)))))
def N3 (x : (zg × Int) × zn × Int) : (zg × Int) × Bool := ((x.1.1, (ry x.1.1.2.1.length x.2.1 x.1.2 x.2.2).1), (ry x.1.1.2.1.length x.2.1 x.1.2 x.2.2).2)
def Y8 (k : Nat) (x : (zg × Int) × zn × Int) : Option ((zg × Int) × Bool) := yM (goW x && decide (zT x.2.1 < k)) (N3 x)
def F68 (x : (zg × Int) × zn × Int) : Option ((zg × Int) × Bool) := yM (goW x) (N3 x)
def goN (x : zn × Int × Int) : Bool := okE x.1 && (decide (0 ≤ x.2.1) && (decide (x.2.1 ≤ 1024) && (decide (0 ≤ x.2.2) && decide (x.2.2 ≤ 101))))
def TQ (k : Nat) (x : zn × Int × Int) : Option (Int × Bool) := yM (goN x && decide (zT x.1 < k)) (xi x.1 x.2.1 x.2.2)
def F78 (x : zn × Int × Int) : Option (Int × Bool) := yM (goN x) (xi x.1 x.2.1 x.2.2)
def VU (x : zc) : Option Bool := some (wJ x)
def TW (k : Nat) (x : zg × zn) : Option Bool := yM (okT x.1 && (okE x.2 && decide (zT x.2 < k))) (yS x.1.2.1.length x.2)
def F79 (x : zg × zn) : Option Bool := yM (okT x.1 && okE x.2) (yS x.1.2.1.length x.2)
def XO (x : zc) : Option Bool := some (wJ x)
def d6 (x : Int) : Option Bool := some (wC x)
def F41 (x : Int) : Option Bool := some (uq x)
def Ub (x : Int × Int) : Option Bool := some (oS x.1 x.2)
def iU (x : Int) : Option Bool := some (wC x)
def F49 (x : Int) : Option Bool := some (uq x)
def VO (x : Int × Int) : Option Bool := some (oS x.1 x.2)
def jL (x : zc) : Option Bool := some (x.1 == 0)
def F36 (x : zc) : Option Bool := some (isT x)
def V5 (x : zc) : Option Bool := some (isF x)
def dX (x : Bool) : Option zc := some (qK x)
def nV (x : zc) : Option Nat := some (asF x)
def kz (x : Int) : Option zc := some (ci x)
def Qa (x : ByteArray × Int × Int) : Option (Int × Bool) := some (vW x.1 x.2.1 x.2.2)
def Qe (x : ByteArray × Int × Int) : Option (Int × Bool) := some (rC x.1 x.2.1 x.2.2)
def US (k : Nat) (x : zg × zn) : Option (Int × Bool) := yM (okT x.1 && (okE x.2 && (yS x.1.2.1.length x.2 && decide (zT x.2 < k)))) (yW (yG x.1) x.2)
def F69 (x : zg × zn) : Option (Int × Bool) := yM (okT x.1 && (okE x.2 && yS x.1.2.1.length x.2)) (yW (yG x.1) x.2)
def Uu (k : Nat) (x : zg × zn) : Option (Int × Bool) := yM (okT x.1 && (okE x.2 && (yS x.1.2.1.length x.2 && decide (zT x.2 < k)))) (mG (yG x.1) x.2)
def F80 (x : zg × zn) : Option (Int × Bool) := yM (okT x.1 && (okE x.2 && yS x.1.2.1.length x.2)) (mG (yG x.1) x.2)
def ik (x : List Int × zg) : Option Int := bif okB 8 x.1 && x.1.all (inK x.2) then some (ut (pL x.2) x.1) else none
def iX (x : List Int × List Int) : Option Int := bif okB 8 x.1 && decide (0 < x.2.length) then some (ut (fun y => !oS (x.2.getD 0 0) y) x.1) else none
def Qd (x : List Int × zg) : Option Bool := bif okB 8 x.1 && x.1.all (inK x.2) then some (x.1.any (pL x.2)) else none
def R5 (x : List Int × List Int) : Option Bool := bif okB 8 x.1 && decide (0 < x.2.length) then some (x.1.any fun y => !oS (x.2.getD 0 0) y) else none
def F40 (x : zg × zn) : Option (Int × Int) := yM (okT x.1 && okE x.2) (yB x.1 x.2)
def F48 (x : zg × zn) : Option (Int × Int) := F40 x
def TG (op : ByteArray) : Bool := inS arL op
def okO (op : ByteArray) (a b : zc) : Bool := TG op && (wC a.1 && (wC b.1 && (zO a == 0 && (zO b == 0 && (okZ a && (okZ b && (!(zd op iL) || (a.1 == 2 && b.1 == 2))))))))
def R3 (x : ByteArray × zc × zc) : Option (zc × Int) := yM (okO x.1 x.2.1 x.2.2) (pH x.1 x.2.1 x.2.2)
def Qz (x : ByteArray × Int) : Option Bool := some (Xz x.1 x.2)
def Rg (x : zc × zc) : Option Int := some (RS x.1 x.2)
def okU (op : ByteArray) (v : zc) : Bool := inS unL op && (okZ v && ((!(zd op cq) || (v.1 == 0 || wC v.1)) && (!(zd op tG) || uq v.1)))
def R8 (x : ByteArray × zc) : Option (zc × Int) := yM (okU x.1 x.2) (unV x.1 x.2)
open Classical in
noncomputable def ifG {α : Type} (p : Prop) (y : α) : Option α := if p then some y else none
noncomputable def TC (k : Nat) (x : zn × List zc) : Option (zc × Int) := ifG (az x ∧ zT x.1 < k) (yh x.2 x.1)
noncomputable def F62 (x : zn × List zc) : Option (zc × Int) := ifG (az x) (yh x.2 x.1)
def okR (l : List zc) : Bool := okB 40 l && l.all okZ
def F35 (x : zg × zn × List zc) : Option (zc × Int) := yM (okT x.1 && (okE x.2.1 && okR x.2.2)) (cC x.1 x.2.1 x.2.2)
def F15 (x : zg × zn) : Option Int := yM (okT x.1 && okE x.2) (yR x.1 x.2)
def F28 (x : zg × zn) : Option Int := F15 x
def F11 (x : zg × zn × List zc) : Option (Bool × Int) := yM (okT x.1 && (okE x.2.1 && okR x.2.2)) (VM x.1 x.2.1 x.2.2)
def Qh : ByteArray := ⟨#[97, 32, 43, 32, 49, 32, 60, 32, 53]⟩
def Py : List ByteArray := [⟨#[97]⟩, ⟨#[43]⟩, ⟨#[49]⟩, ⟨#[60]⟩, ⟨#[53]⟩]
def iA : zn := .node (4, (⟨#[60]⟩, (0, zeroV))) [.node (4, (⟨#[43]⟩, (0, zeroV))) [.node (2, (noS, (0, zeroV))) [], .node (1, (noS, (0, ci 1))) []], .node (1, (noS, (0, ci 5))) []]
def F59 (x : ByteArray) : Option (List ByteArray × Bool) := yM (zd x Qh) (Py, true)
def F93 (x : ByteArray × Int) : Option Int := some (Lib.indexByte x.1.data.toList x.2.toNat.toUInt8)
def Lg (x : ByteArray × Int × Int) : Option Int := bif x.2.1 == 10 && x.2.2 == 64 then (bif zd x.1 ⟨#[49]⟩ then some 1 else bif zd x.1 ⟨#[53]⟩ then some 5 else none) else none
def lQ : Con where
 X := ByteArray × Int × Int
 Y := Int
 look := fun avs _ => z2 [(false, .str), (false, .int .i64), (false, .int .i64)] avs
 F := Lg
 outV := fun _ y => .tup [(false, [.sc (.int .i64) y]), (false, [.nili])]
 outH := fun _ _ H => H
 mode := 1
 kills := fun _ _ => []
def Nm (x : ByteArray × zn × zn) : Option zn := some (.node (4, (x.1, (0, zeroV))) [x.2.1, x.2.2])
def F34 (k : Int) : Option zc := some (2, (k, (0, noS)))
def F33 (x : Unit) : Option zg := some sM
def F32 (x : zg × ByteArray) : Option (zn × Int) := yM (pC x.1 && zd x.2 Qh) (iA, 0)
def F10 (x : Unit) : Option Bool := some true
def beL (n : Nat) : Nat → List Int
 | 0 => []
 | k + 1 => ((n / 256 ^ k % 256 : Nat) : Int) :: beL n k
def yX (n : Nat) : Nat := if h : n = 0 then 0 else yX (n / 256) + 1
decreasing_by omega
def pw (n : Int) : List Int :=
 if 0 ≤ n then ((128 + yX n.toNat : Nat) : Int) :: beL n.toNat (yX n.toNat)
 else (128 - (max (yX (-(n + 1)).toNat) 1 : Nat) : Int) :: beL (18446744073709551615 - (-(n + 1)).toNat) (max (yX (-(n + 1)).toNat) 1)
def j3 : List Int → List Int
 | [] => [0]
 | b :: r => bif b == 0 then 0 :: 255 :: j3 r else b :: j3 r
def O5 (u : Nat) : Nat := if u < 9223372036854775808 then u + 9223372036854775808 else 18446744073709551615 - u
def qe (u : Nat) : List Int := beL (O5 u) 8
def yL (u : Nat) : Nat := u % 9223372036854775808
def v8 (u : Nat) : Bool := u / 9223372036854775808 % 2 == 1
def wv (u : Nat) : Int := if 9218868437227405312 < yL u then 9221120237041090560 else if v8 u then -(yL u : Int) else (yL u : Int)
def tI (w : Int) : Nat := if 0 ≤ w then w.toNat else 9223372036854775808 + (-w).toNat
def wA (v : zc) : List Int :=
 (v.1 + 1) :: (bif v.1 == 1 then [v.2.1] else bif v.1 == 2 then pw v.2.1 else bif v.1 == 3 then qe (tI (wv v.2.2.1)) else bif v.1 == 4 || v.1 == 5 then j3 (zR v.2.2.2) else [])
def mD (l : List zc) : List Int := l.flatMap wA
abbrev wU : Type := ByteArray × ByteArray × Bool
def Us (r : wU) : Bool := !r.2.2 && !(yT r.1 r.2.1)
def SP (a b : wU) : wU :=
 (lp true a.1 b.1, (bif a.2.2 && b.2.2 then (⟨#[]⟩ : ByteArray) else bif a.2.2 then b.2.1 else bif b.2.2 then a.2.1 else lp false a.2.1 b.2.1), a.2.2 && b.2.2)
def tE (a b : wU) : wU := bif Us (SP a b) then ((⟨#[]⟩ : ByteArray), (⟨#[]⟩ : ByteArray), false) else SP a b
abbrev zD : Type := Int × ByteArray × zc
def lr (op : ByteArray) : ByteArray :=
 bif zd op ⟨#[60]⟩ then ⟨#[62]⟩ else bif zd op ⟨#[60, 61]⟩ then ⟨#[62, 61]⟩ else bif zd op ⟨#[62]⟩ then ⟨#[60]⟩ else bif zd op ⟨#[62, 61]⟩ then ⟨#[60, 61]⟩ else op
def oV (cs : List Int) (c : zn) (op : ByteArray) (v : zn) : List zD :=
 bif c.lab.1 == 2 && (v.lab.1 == 1 && v.lab.2.2.2.1 == cs.getD c.lab.2.2.1.toNat 0) then [(c.lab.2.2.1, (op, v.lab.2.2.2))] else []
def mI (cs : List Int) (a : Int × ByteArray × Int × zc) (ks : List zn) : List zD :=
 bif a.1 == 4 && (inS cpL a.2.1 && !(zd a.2.1 ⟨#[60, 62]⟩)) then
  (bif (ks.getD 0 qJ).lab.1 == 1 then oV cs (ks.getD 1 qJ) (lr a.2.1) (ks.getD 0 qJ) else oV cs (ks.getD 0 qJ) a.2.1 (ks.getD 1 qJ)) else []
mutual
def yH (cs : List Int) : zn → List zD
 | .node a ks => bif a.1 == 4 && zd a.2.1 xY then n9 cs ks else mI cs a ks
def n9 (cs : List Int) : List zn → List zD
 | [] => []
 | k :: r => yH cs k ++ n9 cs r
end
def eqS : ByteArray := ⟨#[61]⟩
def gtS : ByteArray := ⟨#[62]⟩
def geS : ByteArray := ⟨#[62, 61]⟩
def ltS : ByteArray := ⟨#[60]⟩
def leS : ByteArray := ⟨#[60, 61]⟩
def Ld : ByteArray := ⟨#[255]⟩
def iE (ps : List zD) : List Int → List zc
 | [] => []
 | c :: r => match ps.find? (fun p => p.1 == c && zd p.2.1 eqS) with
  | some p => p.2.2 :: iE ps r
  | none => []
def fJ : ByteArray := ⟨#[]⟩
def Wo : wU := (fJ, fJ, false)
def Pt : wU := (fJ, fJ, true)
def nF (l : List zc) : ByteArray × Int :=
 bif l.any (fun v => zO v != 0) then (fJ, 10) else bif decide (1024 < (mD l).length) then (fJ, 3) else (yF (mD l), 0)
def zx (l : List zc) : wU × Int := bif (nF l).2 != 0 then (Wo, (nF l).2) else (((nF l).1, (nF l).1 ++ Ld, false), 0)
def uZ (l : List zc) (inn : Bool) : wU × Int := bif (zx l).2 != 0 then zx l else ((bif inn then (zx l).1.1 else (zx l).1.2.1, fJ, true), 0)
def toE (l : List zc) (inn : Bool) : wU × Int := bif (zx l).2 != 0 then zx l else ((fJ, bif inn then (zx l).1.2.1 else (zx l).1.1, false), 0)
def rz (lo : Bool) (op : ByteArray) : Bool := bif lo then zd op gtS || zd op geS else zd op ltS || zd op leS
def mX (lo : Bool) (op : ByteArray) : Bool := bif lo then zd op gtS else zd op ltS
def co (lo : Bool) (c : Int) : Int := bif lo then c else 0 - c
def sR (lo : Bool) (p q : zD) : Bool := decide (0 < co lo (kG p.2.2 q.2.2)) || (co lo (kG p.2.2 q.2.2) == 0 && mX lo p.2.1)
def yE (lo : Bool) (c : Int) : List zD → Option zD → Option zD
 | [], o => o
 | p :: r, o => yE lo c r (bif p.1 == c && rz lo p.2.1 then (match o with
  | none => some p
  | some q => bif sR lo p q then some p else some q) else o)
def eM (f : List zc) : Option zD → Option zD → Option (wU × Int)
 | some p, _ => some (uZ (f ++ [p.2.2]) (zd p.2.1 geS))
 | none, some _ => some (uZ (f ++ [zeroV]) false)
 | none, none => none
def tV (f : List zc) : Option zD → Option (wU × Int)
 | some p => some (toE (f ++ [p.2.2]) (zd p.2.1 leS))
 | none => none
def iw (r : wU × Int) : Option (wU × Int) → wU × Int
 | none => r
 | some w => (tE r.1 w.1, bif w.2 != 0 then w.2 else r.2)
def uo (lo : Bool) (ps : List zD) (cols : List Int) : Option zD := bif decide ((iE ps cols).length < cols.length) then yE lo (cols.getD (iE ps cols).length 0) ps none else none
def a8 (ps : List zD) (cols : List Int) : wU × Int :=
 iw (iw (zx (iE ps cols)) (eM (iE ps cols) (uo true ps cols) (uo false ps cols))) (tV (iE ps cols) (uo false ps cols))
def ew (ps : List zD) (cols : List Int) : wU := bif (a8 ps cols).2 != 0 then Pt else (a8 ps cols).1
def u4 (n : Nat) : Nat := if n = 0 then 0 else n.log2 + 1
def uA (n : Int) : Bool := decide (0 ≤ n) && decide (n < 18446744073709551616)
def Qc (n : Int) : Option Int := yM (uA n) (u4 n.toNat : Int)
def Up (n : Int) : Option Int := yM (uA n) (yX n.toNat : Int)
def Ux (n : Int) : Option Int := Up n
def qF : List Int → List Int
 | [] => []
 | b :: r => bif b == 0 then 0 :: 255 :: qF r else b :: qF r
def OQ (x : ByteArray × ByteArray × ByteArray) : Option ByteArray := bif decide (x.1.size ≤ 65536) && (zd x.2.1 ⟨#[0]⟩ && zd x.2.2 ⟨#[0, 255]⟩) then some (yF (qF (zR x.1))) else none
def oz (n : Nat) (l : List Int) : Bool := decide (l.length ≤ n)
def YV (x : (Int × Int) × List Int) : Option (List Int) := yM ((uA x.1.1 && (decide (0 ≤ x.1.2) && decide (x.1.2 ≤ 8))) && oz 1048640 x.2) (x.2 ++ beL x.1.1.toNat x.1.2.toNat)
def TJ (x : Int × List Int) : Option (List Int) := yM (okI x.1 && oz 1048592 x.2) (x.2 ++ pw x.1)
def TX (x : Nat × List Int) : Option (List Int) := yM (decide (x.1 < 18446744073709551616) && oz 1048592 x.2) (x.2 ++ qe x.1)
def XP (x : ByteArray × List Int) : Option (List Int) := yM (decide (x.1.size ≤ 65536) && oz 1048592 x.2) (x.2 ++ j3 (zR x.1))
def F76 (x : zc × List Int) : Option (List Int) := yM ((okZ x.1 && zO x.1 == 0) && oz 1048576 x.2) (x.2 ++ wA x.1)
def F46 (l : List zc) : Option (ByteArray × Int) := yM (okR l) (nF l)
def F12 (l : List zc) : Option (ByteArray × Int) := yM (okR l) (nF l)
def F21 (l : List zc) : Option (wU × Int) := yM (okR l) (zx l)
def F53 (l : List zc) : Option (wU × Int) := yM (okR l) (zx l)
def F24 (x : List zc × Bool) : Option (wU × Int) := yM (okR x.1) (uZ x.1 x.2)
def F55 (x : List zc × Bool) : Option (wU × Int) := yM (okR x.1) (uZ x.1 x.2)
def F26 (x : List zc × Bool) : Option (wU × Int) := yM (okR x.1) (toE x.1 x.2)
def F57 (x : List zc × Bool) : Option (wU × Int) := yM (okR x.1) (toE x.1 x.2)
def F23 (x : wU × wU) : Option wU := some (tE x.1 x.2)
def F56 (x : wU × wU) : Option wU := some (tE x.1 x.2)
def nA (x : Int × Int) : Option (List Int) := yM (uA x.1 && (decide (0 ≤ x.2) && decide (x.2 ≤ 8))) (beL x.1.toNat x.2.toNat)
def F65 (n : Int) : Option (List Int) := yM (okI n) (pw n)
def F66 (u : Nat) : Option (List Int) := yM (decide (u < 18446744073709551616)) (qe (tI (wv u)))
def F67 (s : ByteArray) : Option (List Int) := yM (decide (s.size ≤ 65536)) (j3 (zR s))
def F38 (v : zc) : Option (List Int) := yM (okZ v && zO v == 0) (wA v)
def F43 (x : List (List zD)) : Option (List zD) := yM (decide (x.length ≤ 2) && decide (x.flatten.length ≤ 1048576)) x.flatten
def okQ (k : Nat) (x : zg × zn) : Bool := yS x.1.2.1.length x.2 && (decide (zT x.2 ≤ 1048576) && decide (zT x.2 < k))
def V3 (k : Nat) (x : zg × zn) : Option (List zD) := yM (okQ k x) (yH (yG x.1) x.2)
def F17 (x : zg × zn) : Option (List zD) := V3 1048577 x
def F51 (op : ByteArray) : Option ByteArray := some (lr op)
def V1 (k : Nat) (x : zg × zn) : Option ((List zD × Unit) × Unit) := yM (okQ k x) ((yH (yG x.1) x.2, ()), ())
def F29 (x : zg × zn) : Option ((List zD × Unit) × Unit) := V1 1048577 x
def F25 (l : List zc) : Option ((List zc × Unit) × Unit) := yM (okB 40 l) ((l, ()), ())
def F18 (x : List zD × Int) : Option Int := yM (okB 64 x.1) (ut (fun p => p.1 == x.2 && zd p.2.1 eqS) x.1)
def z6 (o : Option zD) : zD × Bool :=
 match o with
 | some p => (p, true)
 | none => ((0, (noS, zeroV)), false)
def j5 (x : List zD × Int × ByteArray × ByteArray × Int) : Bool := okB 64 x.1 && (zd x.2.2.1 gtS && (zd x.2.2.2.1 geS && x.2.2.2.2 == -1))
def bT (x : List zD × Int × ByteArray × ByteArray × Int) : Bool := okB 64 x.1 && (zd x.2.2.1 ltS && (zd x.2.2.2.1 leS && x.2.2.2.2 == 1))
def F20 (x : List zD × Int × ByteArray × ByteArray × Int) : Option (zD × Bool) :=
 bif j5 x then some (z6 (yE true x.2.1 x.1 none)) else bif bT x then some (z6 (yE false x.2.1 x.1 none)) else none
def F30 (x : List zD × Int × Bool) : Option (zD × Bool) := yM (okB 64 x.1) (z6 (yE x.2.2 x.2.1 x.1 none))
def oN (x : zg × zn × List Int) : wU × Int :=
 bif yR x.1 x.2.1 != 0 then (Wo, yR x.1 x.2.1) else bif !ve x.1.2.1.length x.2.2 then (Wo, 1) else (ew (yH (yG x.1) x.2.1) x.2.2, 0)
def F6 (x : zg × zn × List Int) : Option (wU × Int) := yM (okT x.1 && (okE x.2.1 && okB 8 x.2.2)) (oN x)
def F9 (x : zg × zn × List Int) : Option (wU × Int) := F6 x
def v6 (f : List zc) (lo hi : Option zD) : wU × Int :=
 bif (zx f).2 != 0 then zx f
 else match eM f lo hi with
  | none => ((zx f).1, 0)
  | some w => bif w.2 != 0 then ((zx f).1, w.2) else match tV f hi with
   | none => (tE (zx f).1 w.1, 0)
   | some u => bif u.2 != 0 then (tE (zx f).1 w.1, u.2) else (tE (tE (zx f).1 w.1) u.1, 0)
def kf (p : zD) (b : Bool) : Option zD := bif b then some p else none
def F31 (x : List zc × zD × zD × Bool × Bool) : Option (wU × Int) :=
 yM (okR x.1 && (okZ x.2.1.2.2 && (okZ x.2.2.1.2.2 && decide (x.1.length ≤ 64)))) (v6 x.1 (kf x.2.1 x.2.2.2.1) (kf x.2.2.1 x.2.2.2.2))
end Go.Proofs.YtefddghdaimklaaGreatDoor.AI
