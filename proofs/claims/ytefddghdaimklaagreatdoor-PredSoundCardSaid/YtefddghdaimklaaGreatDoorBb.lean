/- A part of the proof. -/
import Derived.Test.YtefddghdaimklaaGreatDoorBa
import Derived.Lib.Strings
import Derived.Lib.ValidU
import Derived.Lib.IndexMore
import Derived.Lib.Itoa
import Derived.Lib.SlicesCompact
set_option linter.unusedVariables false
set_option linter.unusedSimpArgs false
namespace Go.Proofs.YtefddghdaimklaaGreatDoor.AI
open Go
def okB {α : Type} (b : Nat) (l : List α) : Bool := decide (l.length * b ≤ 140737488355328)
def okS (s : ByteArray) : Bool := decide (s.size ≤ 140737488355328)
def okV (x : zc) : Bool := okS x.2.2.2
def okT (t : zi) : Bool :=
 (okB 72 t.2.1 && (okB 8 t.2.2.1 && (okB 48 t.2.2.2.1 && okB 40 t.2.2.2.2))) && (t.2.1.all (fun c => okV c.2.2.2) && (t.2.2.2.1.all (fun i => okB 8 i.2.1) && t.2.2.2.2.all (fun r => okB 8 r.1)))
def qk (c : Int) : Bool := c == 95 || (decide (c ≥ 97) && decide (c ≤ 122))
def nF (c : Int) : Bool := decide (c ≥ 48) && decide (c ≤ 57)
def wordsL : List ByteArray := [⟨#[97, 110, 100]⟩, ⟨#[98, 111, 111, 108]⟩, ⟨#[98, 121, 116, 101, 115]⟩, ⟨#[99, 114, 101, 97, 116, 101]⟩, ⟨#[100, 101, 102, 97, 117, 108, 116]⟩, ⟨#[102, 97, 108, 115, 101]⟩, ⟨#[102, 108, 111, 97, 116]⟩, ⟨#[102, 111, 114, 101, 105, 103, 110]⟩, ⟨#[105, 110]⟩, ⟨#[105, 110, 100, 101, 120]⟩, ⟨#[105, 110, 116]⟩, ⟨#[105, 115]⟩, ⟨#[107, 101, 121]⟩, ⟨#[110, 111, 116]⟩, ⟨#[110, 117, 108, 108]⟩, ⟨#[111, 114]⟩, ⟨#[112, 114, 105, 109, 97, 114, 121]⟩, ⟨#[114, 101, 102, 101, 114, 101, 110, 99, 101, 115]⟩, ⟨#[116, 97, 98, 108, 101]⟩, ⟨#[116, 101, 120, 116]⟩, ⟨#[116, 114, 117, 101]⟩, ⟨#[117, 110, 105, 113, 117, 101]⟩, ⟨#[97, 98, 111, 114, 116]⟩, ⟨#[97, 115]⟩, ⟨#[97, 115, 99]⟩, ⟨#[97, 116]⟩, ⟨#[97, 118, 103]⟩, ⟨#[98, 101, 103, 105, 110]⟩, ⟨#[98, 101, 116, 119, 101, 101, 110]⟩, ⟨#[98, 121]⟩, ⟨#[99, 111, 109, 109, 105, 116]⟩, ⟨#[99, 111, 117, 110, 116]⟩, ⟨#[100, 101, 108, 101, 116, 101]⟩, ⟨#[100, 101, 115, 99]⟩, ⟨#[100, 114, 111, 112]⟩, ⟨#[102, 114, 111, 109]⟩, ⟨#[103, 114, 111, 117, 112]⟩, ⟨#[105, 110, 115, 101, 114, 116]⟩, ⟨#[105, 110, 116, 111]⟩, ⟨#[108, 105, 109, 105, 116]⟩, ⟨#[109, 97, 120]⟩, ⟨#[109, 105, 110]⟩, ⟨#[111, 102]⟩, ⟨#[111, 114, 100, 101, 114]⟩, ⟨#[114, 101, 108, 101, 97, 115, 101]⟩, ⟨#[114, 111, 108, 108, 98, 97, 99, 107]⟩, ⟨#[115, 97, 118, 101, 112, 111, 105, 110, 116]⟩, ⟨#[115, 101, 108, 101, 99, 116]⟩, ⟨#[115, 101, 116]⟩, ⟨#[115, 117, 109]⟩, ⟨#[116, 111]⟩, ⟨#[117, 112, 100, 97, 116, 101]⟩, ⟨#[118, 97, 108, 117, 101, 115]⟩, ⟨#[119, 104, 101, 114, 101]⟩, ⟨#[119, 105, 116, 104]⟩]
def wordsS : ByteArray := ⟨#[32, 97, 110, 100, 32, 98, 111, 111, 108, 32, 98, 121, 116, 101, 115, 32, 99, 114, 101, 97, 116, 101, 32, 100, 101, 102, 97, 117, 108, 116, 32, 102, 97, 108, 115, 101, 32, 102, 108, 111, 97, 116, 32, 102, 111, 114, 101, 105, 103, 110, 32, 105, 110, 32, 105, 110, 100, 101, 120, 32, 105, 110, 116, 32, 105, 115, 32, 107, 101, 121, 32, 110, 111, 116, 32, 110, 117, 108, 108, 32, 111, 114, 32, 112, 114, 105, 109, 97, 114, 121, 32, 114, 101, 102, 101, 114, 101, 110, 99, 101, 115, 32, 116, 97, 98, 108, 101, 32, 116, 101, 120, 116, 32, 116, 114, 117, 101, 32, 117, 110, 105, 113, 117, 101, 32, 97, 98, 111, 114, 116, 32, 97, 115, 32, 97, 115, 99, 32, 97, 116, 32, 97, 118, 103, 32, 98, 101, 103, 105, 110, 32, 98, 101, 116, 119, 101, 101, 110, 32, 98, 121, 32, 99, 111, 109, 109, 105, 116, 32, 99, 111, 117, 110, 116, 32, 100, 101, 108, 101, 116, 101, 32, 100, 101, 115, 99, 32, 100, 114, 111, 112, 32, 102, 114, 111, 109, 32, 103, 114, 111, 117, 112, 32, 105, 110, 115, 101, 114, 116, 32, 105, 110, 116, 111, 32, 108, 105, 109, 105, 116, 32, 109, 97, 120, 32, 109, 105, 110, 32, 111, 102, 32, 111, 114, 100, 101, 114, 32, 114, 101, 108, 101, 97, 115, 101, 32, 114, 111, 108, 108, 98, 97, 99, 107, 32, 115, 97, 118, 101, 112, 111, 105, 110, 116, 32, 115, 101, 108, 101, 99, 116, 32, 115, 101, 116, 32, 115, 117, 109, 32, 116, 111, 32, 117, 112, 100, 97, 116, 101, 32, 118, 97, 108, 117, 101, 115, 32, 119, 104, 101, 114, 101, 32, 119, 105, 116, 104, 32]⟩
def zJ (s : ByteArray) : List Int := s.data.toList.map fun b => (b.toNat : Int)
def qw (s : ByteArray) : Bool :=
 bif decide (s.size < 1) || decide (s.size > 63) then false
 else bif !qk (z7 s 0) || wordsL.any (fun w => zd w s) then false
 else (zJ s).all fun c => qk c || nF c
def up {α : Type} (p : α → Bool) (l : List α) : Int :=
 match l.findIdx? p with
 | some i => (i : Int)
 | none => -1
def zt (x : zc) : Int :=
 bif decide (x.1 < 0) || decide (x.1 > 5) then 10
 else bif (x.1 == 1 && x.2.1 != 0 && x.2.1 != 1) || (x.1 != 1 && x.1 != 2 && x.2.1 != 0) then 10
 else bif x.1 != 3 && x.2.2.1 != 0 then 10
 else bif x.1 != 4 && x.1 != 5 && !(zd x.2.2.2 noS) then 10
 else bif x.1 == 4 && !(Lib.validD x.2.2.2.data.toList) then 10
 else bif decide ((x.2.2.2.size : Int) > 65536) then 3 else 0
def SW (a b : zc) : Bool := a.1 == b.1 && a.2.1 == b.2.1 && (a.2.2.1 == b.2.2.1) && zd a.2.2.2 b.2.2.2
def qD (n : Nat) : List Int → List Int → Bool
 | _, [] => true
 | seen, k :: r => bif decide (k < 0) || decide (k ≥ (n : Int)) then false else bif seen.any (fun v => v == k) then false else qD n (seen ++ [k]) r
def uz (n : Nat) (l : List Int) : Bool := bif decide (l.length < 1) || decide (l.length > 64) then false else qD n [] l
def OS (c : zR) : Bool := (decide (c.2.1 < 1) || decide (c.2.1 > 5)) || (zt c.2.2.2 != 0 || (c.2.2.2.1 != 0 && c.2.2.2.1 != c.2.1))
def mH : List zR → List zR → Int
 | _, [] => 0
 | seen, c :: r => bif !qw c.1 then 30 else bif seen.any (fun v => zd v.1 c.1) then 31 else bif OS c then 32 else mH (seen ++ [c]) r
def mZ (n : Nat) : List yC → List yC → Int
 | _, [] => 0
 | seen, c :: r => bif !qw c.1 then 30 else bif seen.any (fun v => zd v.1 c.1) then 31 else bif !uz n c.2.1 then 33 else mZ n (seen ++ [c]) r
def jL (n : Nat) : List YH → Int
 | [] => 0
 | c :: r => bif !qw c.2 then 30 else bif !uz n c.1 then 33 else jL n r
def io (t : zi) (k : Int) : Bool := (t.2.1.getD k.toNat tColumn.dflt).2.2.1
def inK (t : zi) (k : Int) : Bool := decide (0 ≤ k) && decide (k < (t.2.1.length : Int))
def wB (t : zi) : Int :=
 bif !qw t.1 then 30
 else bif decide (t.2.1.length < 1) || decide (t.2.1.length > 64) || decide (t.2.2.2.1.length > 16) || decide (t.2.2.2.2.length > 16) then 2
 else bif mH [] t.2.1 != 0 then mH [] t.2.1
 else bif !uz t.2.1.length t.2.2.1 then 33
 else bif t.2.2.1.any (io t) then 33
 else bif mZ t.2.1.length [] t.2.2.2.1 != 0 then mZ t.2.1.length [] t.2.2.2.1
 else jL t.2.1.length t.2.2.2.2
def ab (t : zi) (s : ByteArray) : Int × Int :=
 match t.2.1.findIdx? (fun c => zd c.1 s) with
 | some i => ((i : Int), 0)
 | none => (0, 5)
def pm : List zR → List zc → Int
 | c :: l, v :: r => bif zt v != 0 then zt v else bif v.1 == 0 then (bif !c.2.2.1 then 35 else pm l r) else bif v.1 != c.2.1 then 32 else pm l r
 | _, _ => 0
def vw (t : zi) (row : List zc) : Int :=
 bif wB t != 0 then wB t else bif (row.length : Int) != (t.2.1.length : Int) then 1 else pm t.2.1 row
def QE (x : ByteArray × ByteArray) : Option Bool := bif decide (x.1.size < 4294967281) then some (Lib.contains x.1.data.toList x.2.data.toList) else none
def F63 (b : Nat) : Option Int := some (b : Int)
def F64 (s : ByteArray) : Option Bool := bif decide (s.size ≤ 9223372036854775807) then some (Lib.validD s.data.toList) else none
def SL (s : ByteArray) : Option Bool := bif decide (s.size ≤ 140737488355328) then some (Lib.contains wordsS.data.toList (32 :: (s.data.toList ++ [32]))) else none
def F86 (s : ByteArray) : Option Bool := some (qw s)
def F42 (x : List Int × Int) : Option Int := bif okB 8 x.1 then some (up (fun v => v == x.2) x.1) else none
def F16 (x : List Int × Int) : Option Bool := bif okB 8 x.1 then some (x.1.any fun v => v == x.2) else none
def F88 (x : zi × List Int) : Option Bool := bif okB 8 x.2 then some (uz x.1.2.1.length x.2) else none
def d3 (x : List zR × ByteArray) : Option Int := bif okB 72 x.1 then some (up (fun c => zd c.1 x.2) x.1) else none
def iE (x : List zR × zR) : Option Int := bif okB 72 x.1 then some (up (fun c => zd c.1 x.2.1) x.1) else none
def SY (x : List zR × zR) : Option Bool := bif okB 72 x.1 then some (x.1.any fun c => zd c.1 x.2.1) else none
def Ur (x : List yC × yC) : Option Int := bif okB 48 x.1 then some (up (fun c => zd c.1 x.2.1) x.1) else none
def F91 (x : List yC × yC) : Option Bool := bif okB 48 x.1 then some (x.1.any fun c => zd c.1 x.2.1) else none
def F75 (x : zc) : Option Int := bif okV x then some (zt x) else none
def F37 (x : zc) : Option Int := F75 x
def F87 (x : zi) : Option Int := bif okT x then some (mH [] x.2.1) else none
def F58 (x : zi) : Option Int := bif okT x then some (wB x) else none
def Q8 (x : zi × ByteArray) : Option (Int × Int) := bif okT x.1 then some (ab x.1 x.2) else none
def F61 (x : zi × List zc) : Option Int := bif okT x.1 && (okB 40 x.2 && x.2.all okV) then some (vw x.1 x.2) else none
def sH : zi := (⟨#[116]⟩, ([(⟨#[97]⟩, (2, (false, (0, (0, (0, noS))))))], ([0], ([], []))))
def i5 (a b : zR) : Bool := zd a.1 b.1 && (a.2.1 == b.2.1 && (a.2.2.1 == b.2.2.1 && SW a.2.2.2 b.2.2.2))
def pw (t : zi) : Bool :=
 zd t.1 sH.1 && ((match t.2.1 with | [c] => i5 c (⟨#[97]⟩, (2, (false, (0, (0, (0, noS)))))) | _ => false) && ((match t.2.2.1 with | [k] => k == 0 | _ => false) && ((match t.2.2.2.1 with | [] => true | _ => false) && (match t.2.2.2.2 with | [] => true | _ => false))))
def fo (a b : Nat) : Option Ordering := FloatKind.f64.format.order a b
def qY (a b : Nat) : Int :=
 bif fo a a != some .eq then (bif fo b b != some .eq then 0 else 1)
 else bif fo b b != some .eq then -1 else bif fo a b == some .lt then -1 else bif fo a b == some .gt then 1 else 0
def pU (a b : Int) : Int := bif decide (a < b) then -1 else bif decide (a > b) then 1 else 0
def XH (a b : ByteArray) : Int := Lib.compareBytes a.data.toList b.data.toList
def ul (a b : zc) : Int :=
 bif a.1 != b.1 then pU a.1 b.1
 else bif a.1 == 1 || a.1 == 2 then pU a.2.1 b.2.1
 else bif a.1 == 3 then qY a.2.2.1 b.2.2.1
 else bif a.1 == 4 || a.1 == 5 then XH a.2.2.2 b.2.2.2 else 0
def cl : Nat := 9221120237041090560
def wV (x : zc) : zc :=
 bif x.1 != 3 then x
 else bif fo x.2.2.1 0 == some .eq then (x.1, x.2.1, 0, x.2.2.2)
 else bif fo x.2.2.1 x.2.2.1 != some .eq then (x.1, x.2.1, cl, x.2.2.2) else x
def ur (f : Nat) : Int := match (FloatKind.f64.decode f).toInt .zero with
 | some n => n
 | none => 0
def cK (n : Int) (f : Nat) : Int :=
 bif fo f f != some .eq || (fo f 4890909195324358656 == some .gt || fo f 4890909195324358656 == some .eq) then -1
 else bif fo f 14114281232179134464 == some .lt then 1
 else bif n != ur f then pU n (ur f)
 else match FloatKind.f64.format.sub f (FloatKind.f64.nearest (ur f)) with
  | some r => qY 0 r
  | none => 0
def co (a b : zc) : Int × Bool :=
 bif a.1 == 2 && b.1 == 2 then (pU a.2.1 b.2.1, true)
 else bif a.1 == 3 && b.1 == 3 then (qY a.2.2.1 b.2.2.1, true)
 else bif a.1 == 2 && b.1 == 3 then (cK a.2.1 b.2.2.1, true)
 else bif a.1 == 3 && b.1 == 2 then (0 - cK b.2.1 a.2.2.1, true)
 else (0, false)
def F74 (x : ByteArray × ByteArray) : Option Int := some (XH x.1 x.2)
def qN (n : Int) : Option Nat := some n.toNat
def jX (x : Int × Nat) : Option Int := some (cK x.1 x.2)
def Qr (x : zc × zc) : Option (Int × Bool) := some (co x.1 x.2)
def Rb (b : Nat) : Option Nat := match FloatKind.f64.decode b with
 | .nan _ _ => none
 | d => some (FloatKind.f64.encode (d.integral .zero))
def F71 (x : Int × Int) : Option Int := some (pU x.1 x.2)
def F72 (x : Int × Int) : Option Int := some (pU x.1 x.2)
def F73 (x : Nat × Nat) : Option Int := some (qY x.1 x.2)
def F45 (x : zc × zc) : Option Int := some (ul x.1 x.2)
def Rf (x : zc) : Option zc := some (wV x)
def oq (v : zc) : Bool := v.1 == 0 && v.2.1 == 0 && (v.2.2.1 == 0) && zd v.2.2.2 noS
mutual
def z4 : zg → Nat
 | .node _ ks => xo ks + 1
def xo : List zg → Nat
 | [] => 0
 | k :: r => z4 k + xo r
end
mutual
def l9 : zg → Nat
 | .node _ ks => oV ks + 1
def oV : List zg → Nat
 | [] => 0
 | k :: r => max (l9 k) (oV r)
end
def okI (n : Int) : Bool := decide (-9223372036854775808 ≤ n) && decide (n ≤ 9223372036854775807)
def okZ (v : zc) : Bool := okS v.2.2.2 && (okI v.2.1 && decide (v.2.2.1 < 18446744073709551616))
mutual
def qG : zg → Bool
 | .node a ks => okS a.2.1 && (okZ a.2.2.2 && (okB 96 ks && lq ks))
def lq : List zg → Bool
 | [] => true
 | k :: r => qG k && lq r
end
def okE (e : zg) : Bool := decide (z4 e ≤ 1048576) && qG e
mutual
def xb : zg → Int → Int
 | .node _ ks, h => ui ks (h + 1)
def ui : List zg → Int → Int
 | [], h => h
 | k :: r, h => bif decide (h ≤ 262144) then ui r (xb k h) else h
end
def qI : zg := .node (0, (noS, (0, zeroV))) []
def S8 (e : zg) : zg := bif decide (xb e 0 > 262144) then qI else e
def biL : List ByteArray := [⟨#[43]⟩, ⟨#[45]⟩, ⟨#[42]⟩, ⟨#[47]⟩, ⟨#[37]⟩, ⟨#[61]⟩, ⟨#[60, 62]⟩, ⟨#[60]⟩, ⟨#[60, 61]⟩, ⟨#[62]⟩, ⟨#[62, 61]⟩, ⟨#[97, 110, 100]⟩, ⟨#[111, 114]⟩]
def inS (l : List ByteArray) (s : ByteArray) : Bool := l.any fun w => zd w s
def xu : ByteArray := ⟨#[97, 110, 100]⟩
def orS : ByteArray := ⟨#[111, 114]⟩
def qv : ByteArray := ⟨#[110, 111, 116]⟩
def Ra : ByteArray := ⟨#[45]⟩
def YN : ByteArray := ⟨#[37]⟩
def t8 (n : Nat) (a : Int × ByteArray × Int × zc) (m : Nat) : Bool :=
 bif a.1 == 1 then m == 0 && (zd a.2.1 noS && (a.2.2.1 == 0 && zt a.2.2.2 == 0))
 else m == 0 && (zd a.2.1 noS && (decide (a.2.2.1 ≥ 0) && (decide (a.2.2.1 < (n : Int)) && oq a.2.2.2)))
def UU (a : Int × ByteArray × Int × zc) (m : Nat) : Bool :=
 bif a.1 == 3 then m == 1 && inS unL a.2.1
 else bif a.1 == 4 then m == 2 && (inS arL a.2.1 || (inS cpL a.2.1 || (zd a.2.1 xu || zd a.2.1 orS)))
 else bif a.1 == 5 then decide (m ≥ 2) && zd a.2.1 noS else false
def wz (a : Int × ByteArray × Int × zc) (m : Nat) : Bool := UU a m && (a.2.2.1 == 0 && oq a.2.2.2)
def vV (n : Nat) (a : Int × ByteArray × Int × zc) (m : Nat) : Bool := bif a.1 == 1 || a.1 == 2 then t8 n a m else wz a m
mutual
def xK (n : Nat) : zg → Bool
 | .node a ks => vV n a ks.length && tr n ks
def tr (n : Nat) : List zg → Bool
 | [] => true
 | k :: r => xK n k && tr n r
end
mutual
def rm (n : Nat) : zg → Int → Int → Int × Bool
 | .node a ks, left, deep =>
  bif decide (left - 1 < 0) || decide (deep > 100) then (left - 1, false)
  else bif a.1 == 1 || a.1 == 2 then (left - 1, t8 n a ks.length)
  else bif !wz a ks.length then (left - 1, false) else o9 n ks (left - 1) (deep + 1)
def o9 (n : Nat) : List zg → Int → Int → Int × Bool
 | [], left, _ => (left, true)
 | k :: r, left, deep => bif !(rm n k left deep).2 then ((rm n k left deep).1, false) else o9 n r (rm n k left deep).1 deep
end
mutual
def t9 : zg → Int → Int → Int × Bool
 | .node _ ks, had, deep => bif decide (had + 1 > 1024) || decide (deep > 100) then (had + 1, false) else oA ks (had + 1) (deep + 1)
def oA : List zg → Int → Int → Int × Bool
 | [], had, _ => (had, true)
 | k :: r, had, deep => bif (t9 k had deep).2 then oA r (t9 k had deep).1 deep else ((t9 k had deep).1, false)
end
def rN (k : Int) : Bool := k == 2 || k == 3
def qb (k : Int) : Bool := k == 1 || k == 0
def ZX (a b : Int) : Bool := a == b || (rN a && rN b || (a == 0 || b == 0))
def Pb (op : ByteArray) (a b : Int) : Int × Bool :=
 bif a == 0 then (a, true)
 else bif !rN a || (!rN b && b != 0) || (zd op YN && (a == 3 || b == 3)) then (0, false)
 else bif b == 0 then (a, true) else (mz true a b, true)
def nb (op : ByteArray) (a b : Int) : Int × Bool := bif a == 0 then Pb op b a else Pb op a b
def wT (cs : List Int) (a : Int × ByteArray × Int × zc) (l : List Int) : Int × Bool :=
 bif a.1 == 1 then (a.2.2.2.1, true)
 else bif a.1 == 2 then (cs.getD a.2.2.1.toNat 0, true)
 else bif a.1 == 5 then (1, !((l.drop 1).any fun x => !ZX (l.getD 0 0) x))
 else bif zd a.2.1 Ra && l.length == 1 then (l.getD 0 0, rN (l.getD 0 0) || l.getD 0 0 == 0)
 else bif zd a.2.1 qv then (1, qb (l.getD 0 0))
 else bif a.1 == 3 then (1, true)
 else bif inS cpL a.2.1 then (1, ZX (l.getD 0 0) (l.getD 1 0))
 else bif zd a.2.1 xu || zd a.2.1 orS then (1, qb (l.getD 0 0) && qb (l.getD 1 0))
 else nb a.2.1 (l.getD 0 0) (l.getD 1 0)
mutual
def xm (cs : List Int) : zg → Int × Bool
 | .node a ks => match xT cs ks with
  | none => (0, false)
  | some l => wT cs a l
def xT (cs : List Int) : List zg → Option (List Int)
 | [] => some []
 | k :: r => bif !(xm cs k).2 then none else match xT cs r with
  | none => none
  | some l => some ((xm cs k).1 :: l)
end
def xQ (t : zi) : List Int := t.2.1.map fun c => c.2.1
def YI (t : zi) (e : zg) : Bool := decide (z4 e ≤ 1024) && (decide (l9 e ≤ 100) && xK t.2.1.length e)
def yM (t : zi) (e : zg) : Int × Int :=
 bif wB t != 0 then (0, wB t)
 else bif !YI t e then (0, 150)
 else bif !(xm (xQ t) e).2 then (0, 151) else ((xm (xQ t) e).1, 0)
mutual
def Nn : zg → List Int
 | .node a ks => (bif a.1 == 2 then [a.2.2.1] else []) ++ Nb ks
def Nb : List zg → List Int
 | [] => []
 | k :: r => Nn k ++ Nb r
end
def qH (b : Bool) : zc := bif b then (1, (1, (0, noS))) else (1, (0, (0, noS)))
def db (n : Int) : zc := (2, (n, (0, noS)))
def kj (o : Option Nat) : zc :=
 match o with
 | none => (3, (0, (cl, noS)))
 | some r => bif fo r r != some .eq then wV (3, (0, (r, noS))) else (3, (0, (r, noS)))
def wE (n : Int) : Int := IntKind.wrap .i64 n
def aJ (op : ByteArray) (a b : Int) : Int × Int :=
 bif zd op ⟨#[43]⟩ then (bif decide (wE (a + b) > a) == decide (b > 0) then (wE (a + b), 0) else (0, 152))
 else bif zd op ⟨#[45]⟩ then (bif decide (wE (a - b) < a) == decide (b > 0) then (wE (a - b), 0) else (0, 152))
 else bif zd op ⟨#[42]⟩ then (bif a == 0 || b == 0 then (0, 0) else bif wE (Int.tdiv (wE (a * b)) b) != a || (a == -9223372036854775808 && b == -1 || b == -9223372036854775808 && a == -1) then (0, 152) else (wE (a * b), 0))
 else bif zd op ⟨#[47]⟩ then (bif b == 0 then (0, 153) else bif a == -9223372036854775808 && b == -1 then (0, 152) else (wE (Int.tdiv a b), 0))
 else (bif b == 0 then (0, 153) else bif b == -1 then (0, 0) else (Int.tmod a b, 0))
def Vy (op : ByteArray) (a b : Nat) : Option Nat :=
 bif zd op ⟨#[43]⟩ then FloatKind.f64.format.add a b
 else bif zd op ⟨#[45]⟩ then FloatKind.f64.format.sub a b
 else bif zd op ⟨#[42]⟩ then FloatKind.f64.format.mul a b
 else FloatKind.f64.format.div a b
def asF (v : zc) : Nat := bif v.1 == 2 then FloatKind.f64.nearest v.2.1 else v.2.2.1
def oP (op : ByteArray) (a b : zc) : zc × Int :=
 bif a.1 == 2 && b.1 == 2 then (bif (aJ op a.2.1 b.2.1).2 != 0 then (zeroV, (aJ op a.2.1 b.2.1).2) else (db (aJ op a.2.1 b.2.1).1, 0))
 else (kj (Vy op (asF a) (asF b)), 0)
def c9 (a b : zc) : Int := bif (co a b).2 then (co a b).1 else ul a b
def vN (op : ByteArray) (c : Int) : Bool :=
 bif zd op ⟨#[61]⟩ then c == 0
 else bif zd op ⟨#[60, 62]⟩ then c != 0
 else bif zd op ⟨#[60]⟩ then decide (c < 0)
 else bif zd op ⟨#[60, 61]⟩ then decide (c ≤ 0)
 else bif zd op ⟨#[62]⟩ then decide (c > 0) else decide (c ≥ 0)
def isT (v : zc) : Bool := v.1 == 1 && v.2.1 == 1
def isF (v : zc) : Bool := v.1 == 1 && v.2.1 == 0
def unV (op : ByteArray) (v : zc) : zc × Int :=
 bif zd op ⟨#[105, 115, 32, 110, 117, 108, 108]⟩ then (qH (v.1 == 0), 0)
 else bif zd op ⟨#[105, 115, 32, 110, 111, 116, 32, 110, 117, 108, 108]⟩ then (qH (!(v.1 == 0)), 0)
 else bif v.1 == 0 then (zeroV, 0)
 else bif zd op qv then (qH (isF v), 0)
 else bif v.1 == 3 then (kj (some (Op.negFloat .f64 v.2.2.1)), 0)
 else bif v.2.1 == -9223372036854775808 then (zeroV, 152) else (db (wE (0 - v.2.1)), 0)
def qF (op : ByteArray) (a b : zc × Int) : zc × Int :=
 bif a.2 != 0 || (bif zd op orS then isT a.1 else isF a.1) then a
 else bif b.2 != 0 || (bif zd op orS then isT b.1 else isF b.1) || !(a.1.1 == 0) then b
 else (zeroV, 0)
def inL (a : zc) : Bool → List (zc × Int) → zc × Int
 | unk, [] => bif unk then (zeroV, 0) else (qH false, 0)
 | unk, b :: r => bif b.2 != 0 then (zeroV, b.2) else bif a.1 == 0 || b.1.1 == 0 then inL a true r else bif c9 a b.1 == 0 then (qH true, 0) else inL a unk r
def inV (rs : List (zc × Int)) : zc × Int :=
 match rs with
 | [] => (zeroV, 0)
 | a :: r => bif a.2 != 0 then (zeroV, a.2) else inL a.1 (a.1.1 == 0) r
def noR : zc × Int := (zeroV, 0)
def dC (op : ByteArray) (a b : zc × Int) : zc × Int :=
 bif a.2 != 0 then (zeroV, a.2)
 else bif b.2 != 0 then (zeroV, b.2)
 else bif a.1.1 == 0 || b.1.1 == 0 then (zeroV, 0)
 else bif inS cpL op then (qH (vN op (c9 a.1 b.1)), 0)
 else oP op a.1 b.1
def vT (row : List zc) (a : Int × ByteArray × Int × zc) (rs : List (zc × Int)) : zc × Int :=
 bif a.1 == 1 then (a.2.2.2, 0)
 else bif a.1 == 2 then (row.getD a.2.2.1.toNat zeroV, 0)
 else bif a.1 == 5 then inV rs
 else bif zd a.2.1 xu || zd a.2.1 orS then qF a.2.1 (rs.getD 0 noR) (rs.getD 1 noR)
 else bif a.1 == 3 then (bif (rs.getD 0 noR).2 != 0 then (zeroV, (rs.getD 0 noR).2) else unV a.2.1 (rs.getD 0 noR).1)
 else dC a.2.1 (rs.getD 0 noR) (rs.getD 1 noR)
mutual
def zO (row : List zc) : zg → zc × Int
 | .node a ks => vT row a (mc row ks)
def mc (row : List zc) : List zg → List (zc × Int)
 | [] => []
 | k :: r => zO row k :: mc row r
end
def od (t : zi) (e : zg) (row : List zc) : zc × Int :=
 bif (yM t e).2 != 0 then (zeroV, (yM t e).2)
 else bif vw t row != 0 then (zeroV, vw t row)
 else bif (zO row e).2 != 0 then (zeroV, (zO row e).2) else ((zO row e).1, 0)
def wD (t : zi) (e : zg) : Int := bif (yM t e).2 == 0 && !qb (yM t e).1 then 151 else (yM t e).2
def uH (t : zi) (e : zg) (row : List zc) : Bool × Int :=
 bif wD t e != 0 then (false, wD t e) else (isT (od t e row).1, (od t e row).2)
def xY : List Int → List zc → Bool
 | [], [] => true
 | k :: l, v :: r => (v.1 == k || v.1 == 0) && (zt v == 0 && (okZ v && xY l r))
 | _, _ => false
def Z9 (x : zg × List zc) : Prop := ∃ cs : List Int, okE x.1 = true ∧ xK cs.length x.1 = true ∧ (xm cs x.1).2 = true ∧ xY cs x.2 = true ∧ okB 40 x.2 = true
def x5 {α : Type} (c : Bool) (y : α) : Option α := bif c then some y else none
def Tf (k : Nat) (x : zg × Int) : Option Int := x5 (qG x.1 && (okI x.2 && (decide (0 ≤ x.2) && (decide (x.2 ≤ 262144) && decide (z4 x.1 < k))))) (xb x.1 x.2)
def F39 (x : zg × Int) : Option Int := x5 (qG x.1 && (okI x.2 && (decide (0 ≤ x.2) && decide (x.2 ≤ 262144)))) (xb x.1 x.2)
def F14 (x : zg) : Option Bool := x5 (qG x) (decide (xb x 0 > 262144))
def F5 (x : zg) : Option zg := x5 (qG x) (S8 x)
def cn (x : List ByteArray × ByteArray) : Option Bool := x5 (okB 16 x.1) (inS x.1 x.2)
def F44 (x : List ByteArray × ByteArray) : Option Int := x5 (okB 16 x.1) (up (fun w => zd w x.2) x.1)
def goW (x : (zi × Int) × zg × Int) : Bool := okT x.1.1 && (okE x.2.1 && (decide (0 ≤ x.1.2) && (decide (x.1.2 ≤ 1024) && (decide (0 ≤ x.2.2) && decide (x.2.2 ≤ 101)))))
def OP (x : (zi × Int) × zg × Int) : (zi × Int) × Bool := ((x.1.1, (rm x.1.1.2.1.length x.2.1 x.1.2 x.2.2).1), (rm x.1.1.2.1.length x.2.1 x.1.2 x.2.2).2)
def Vm (k : Nat) (x : (zi × Int) × zg × Int) : Option ((zi × Int) × Bool) := x5 (goW x && decide (z4 x.2.1 < k)) (OP x)
def F68 (x : (zi × Int) × zg × Int) : Option ((zi × Int) × Bool) := x5 (goW x) (OP x)
def Vn (x : zc) : Option Bool := some (oq x)
def eO (x : Int) : Option Bool := some (rN x)
def F41 (x : Int) : Option Bool := some (qb x)
def VA (x : Int × Int) : Option Bool := some (ZX x.1 x.2)
def lX (x : zc) : Option Bool := some (x.1 == 0)
def F36 (x : zc) : Option Bool := some (isT x)
def Vo (x : zc) : Option Bool := some (isF x)
def cj (x : Bool) : Option zc := some (qH x)
def nI (x : zc) : Option Nat := some (asF x)
def kQ (x : Int) : Option zc := some (db x)
def S4 (x : ByteArray × Int × Int) : Option (Int × Bool) := some (nb x.1 x.2.1 x.2.2)
def Uf (k : Nat) (x : zi × zg) : Option (Int × Bool) := x5 (okT x.1 && (okE x.2 && (xK x.1.2.1.length x.2 && decide (z4 x.2 < k)))) (xm (xQ x.1) x.2)
def F69 (x : zi × zg) : Option (Int × Bool) := x5 (okT x.1 && (okE x.2 && xK x.1.2.1.length x.2)) (xm (xQ x.1) x.2)
def j8 (x : List Int × zi) : Option Int := bif okB 8 x.1 && x.1.all (inK x.2) then some (up (io x.2) x.1) else none
def gd (x : List Int × List Int) : Option Int := bif okB 8 x.1 && decide (0 < x.2.length) then some (up (fun y => !ZX (x.2.getD 0 0) y) x.1) else none
def Rg (x : List Int × zi) : Option Bool := bif okB 8 x.1 && x.1.all (inK x.2) then some (x.1.any (io x.2)) else none
def SZ (x : List Int × List Int) : Option Bool := bif okB 8 x.1 && decide (0 < x.2.length) then some (x.1.any fun y => !ZX (x.2.getD 0 0) y) else none
def F40 (x : zi × zg) : Option (Int × Int) := x5 (okT x.1 && okE x.2) (yM x.1 x.2)
def SX (op : ByteArray) : Bool := inS arL op
def okO (op : ByteArray) (a b : zc) : Bool := SX op && (rN a.1 && (rN b.1 && (zt a == 0 && (zt b == 0 && (okZ a && (okZ b && (!(zd op YN) || (a.1 == 2 && b.1 == 2))))))))
def Re (x : ByteArray × zc × zc) : Option (zc × Int) := x5 (okO x.1 x.2.1 x.2.2) (oP x.1 x.2.1 x.2.2)
def Rz (x : ByteArray × Int) : Option Bool := some (vN x.1 x.2)
def SO (x : zc × zc) : Option Int := some (c9 x.1 x.2)
def okU (op : ByteArray) (v : zc) : Bool := inS unL op && (okZ v && ((!(zd op Ra) || (v.1 == 0 || rN v.1)) && (!(zd op qv) || qb v.1)))
def S7 (x : ByteArray × zc) : Option (zc × Int) := x5 (okU x.1 x.2) (unV x.1 x.2)
open Classical in
noncomputable def ifG {α : Type} (p : Prop) (y : α) : Option α := if p then some y else none
noncomputable def Uc (k : Nat) (x : zg × List zc) : Option (zc × Int) := ifG (Z9 x ∧ z4 x.1 < k) (zO x.2 x.1)
noncomputable def F62 (x : zg × List zc) : Option (zc × Int) := ifG (Z9 x) (zO x.2 x.1)
def okR (l : List zc) : Bool := okB 40 l && l.all okZ
def F35 (x : zi × zg × List zc) : Option (zc × Int) := x5 (okT x.1 && (okE x.2.1 && okR x.2.2)) (od x.1 x.2.1 x.2.2)
def F15 (x : zi × zg) : Option Int := x5 (okT x.1 && okE x.2) (wD x.1 x.2)
def F11 (x : zi × zg × List zc) : Option (Bool × Int) := x5 (okT x.1 && (okE x.2.1 && okR x.2.2)) (uH x.1 x.2.1 x.2.2)
def Qu : ByteArray := ⟨#[97, 32, 43, 32, 49, 32, 60, 32, 53]⟩
def RO : List ByteArray := [⟨#[97]⟩, ⟨#[43]⟩, ⟨#[49]⟩, ⟨#[60]⟩, ⟨#[53]⟩]
def j9 : zg := .node (4, (⟨#[60]⟩, (0, zeroV))) [.node (4, (⟨#[43]⟩, (0, zeroV))) [.node (2, (noS, (0, zeroV))) [], .node (1, (noS, (0, db 1))) []], .node (1, (noS, (0, db 5))) []]
def F59 (x : ByteArray) : Option (List ByteArray × Bool) := x5 (zd x Qu) (RO, true)
def F93 (x : ByteArray × Int) : Option Int := some (Lib.indexByte x.1.data.toList x.2.toNat.toUInt8)
def Np (x : ByteArray × Int × Int) : Option Int := bif x.2.1 == 10 && x.2.2 == 64 then (bif zd x.1 ⟨#[49]⟩ then some 1 else bif zd x.1 ⟨#[53]⟩ then some 5 else none) else none
def lM : Con where
 X := ByteArray × Int × Int
 Y := Int
 look := fun avs _ => zU [(false, .str), (false, .int .i64), (false, .int .i64)] avs
 F := Np
 outV := fun _ y => .tup [(false, [.sc (.int .i64) y]), (false, [.nili])]
 outH := fun _ _ H => H
 mode := 1
 kills := fun _ _ => []
def Ps (x : ByteArray × zg × zg) : Option zg := some (.node (4, (x.1, (0, zeroV))) [x.2.1, x.2.2])
def F34 (k : Int) : Option zc := some (2, (k, (0, noS)))
def F33 (x : Unit) : Option zi := some sH
def F32 (x : zi × ByteArray) : Option (zg × Int) := x5 (pw x.1 && zd x.2 Qu) (j9, 0)
def F10 (x : Unit) : Option Bool := some true
def beL (n : Nat) : Nat → List Int
 | 0 => []
 | k + 1 => ((n / 256 ^ k % 256 : Nat) : Int) :: beL n k
def yb (n : Nat) : Nat := if h : n = 0 then 0 else yb (n / 256) + 1
decreasing_by omega
def tu (n : Int) : List Int :=
 if 0 ≤ n then ((128 + yb n.toNat : Nat) : Int) :: beL n.toNat (yb n.toNat)
 else (128 - (max (yb (-(n + 1)).toNat) 1 : Nat) : Int) :: beL (18446744073709551615 - (-(n + 1)).toNat) (max (yb (-(n + 1)).toNat) 1)
def rl : List Int → List Int
 | [] => [0]
 | b :: r => bif b == 0 then 0 :: 255 :: rl r else b :: rl r
def So (u : Nat) : Nat := if u < 9223372036854775808 then u + 9223372036854775808 else 18446744073709551615 - u
def tE (u : Nat) : List Int := beL (So u) 8
def YX (b : UInt8) : Int := (b.toNat : Int)
def yH (u : Nat) : Nat := u % 9223372036854775808
def vW (u : Nat) : Bool := u / 9223372036854775808 % 2 == 1
def wv (u : Nat) : Int := if 9218868437227405312 < yH u then 9221120237041090560 else if vW u then -(yH u : Int) else (yH u : Int)
def x6 (w : Int) : Nat := if 0 ≤ w then w.toNat else 9223372036854775808 + (-w).toNat
def zS (v : zc) : List Int :=
 (v.1 + 1) :: (bif v.1 == 1 then [v.2.1] else bif v.1 == 2 then tu v.2.1 else bif v.1 == 3 then tE (x6 (wv v.2.2.1)) else bif v.1 == 4 || v.1 == 5 then rl (zJ v.2.2.2) else [])
def yF (l : List zc) : List Int := l.flatMap zS
abbrev vM : Type := ByteArray × ByteArray × Bool
def nC (r : vM) (k : ByteArray) : Bool := !(yA k r.1) && (r.2.2 || yA k r.2.1)
def Ys (r : vM) : Bool := !r.2.2 && !(yA r.1 r.2.1)
def iu (a b : vM) : vM :=
 (na true a.1 b.1, (bif a.2.2 && b.2.2 then (⟨#[]⟩ : ByteArray) else bif a.2.2 then b.2.1 else bif b.2.2 then a.2.1 else na false a.2.1 b.2.1), a.2.2 && b.2.2)
def ZY (a b : vM) : vM := bif Ys (iu a b) then ((⟨#[]⟩ : ByteArray), (⟨#[]⟩ : ByteArray), false) else iu a b
abbrev zI : Type := Int × ByteArray × zc
def je (op : ByteArray) : ByteArray :=
 bif zd op ⟨#[60]⟩ then ⟨#[62]⟩ else bif zd op ⟨#[60, 61]⟩ then ⟨#[62, 61]⟩ else bif zd op ⟨#[62]⟩ then ⟨#[60]⟩ else bif zd op ⟨#[62, 61]⟩ then ⟨#[60, 61]⟩ else op
def rc (cs : List Int) (c : zg) (op : ByteArray) (v : zg) : List zI :=
 bif c.lab.1 == 2 && (v.lab.1 == 1 && v.lab.2.2.2.1 == cs.getD c.lab.2.2.1.toNat 0) then [(c.lab.2.2.1, (op, v.lab.2.2.2))] else []
def mj (cs : List Int) (a : Int × ByteArray × Int × zc) (ks : List zg) : List zI :=
 bif a.1 == 4 && (inS cpL a.2.1 && !(zd a.2.1 ⟨#[60, 62]⟩)) then
  (bif (ks.getD 0 qI).lab.1 == 1 then rc cs (ks.getD 1 qI) (je a.2.1) (ks.getD 0 qI) else rc cs (ks.getD 0 qI) a.2.1 (ks.getD 1 qI)) else []
mutual
def yV (cs : List Int) : zg → List zI
 | .node a ks => bif a.1 == 4 && zd a.2.1 xu then mv cs ks else mj cs a ks
def mv (cs : List Int) : List zg → List zI
 | [] => []
 | k :: r => yV cs k ++ mv cs r
end
def eqS : ByteArray := ⟨#[61]⟩
def gtS : ByteArray := ⟨#[62]⟩
def geS : ByteArray := ⟨#[62, 61]⟩
def ltS : ByteArray := ⟨#[60]⟩
def leS : ByteArray := ⟨#[60, 61]⟩
def YL : ByteArray := ⟨#[255]⟩
def vJ (ps : List zI) : List Int → List zc
 | [] => []
 | c :: r => match ps.find? (fun p => p.1 == c && zd p.2.1 eqS) with
  | some p => p.2.2 :: vJ ps r
  | none => []
def atR (row : List zc) (c : Int) : zc := row.getD c.toNat zeroV
def fV : ByteArray := ⟨#[]⟩
def U0 : vM := (fV, fV, false)
def PQ : vM := (fV, fV, true)
def qE (l : List zc) : ByteArray × Int :=
 bif l.any (fun v => zt v != 0) then (fV, 10) else bif decide (1024 < (yF l).length) then (fV, 3) else (zC (yF l), 0)
def zP (l : List zc) : vM × Int := bif (qE l).2 != 0 then (U0, (qE l).2) else (((qE l).1, (qE l).1 ++ YL, false), 0)
def oE (l : List zc) (inn : Bool) : vM × Int := bif (zP l).2 != 0 then zP l else ((bif inn then (zP l).1.1 else (zP l).1.2.1, fV, true), 0)
def toE (l : List zc) (inn : Bool) : vM × Int := bif (zP l).2 != 0 then zP l else ((fV, bif inn then (zP l).1.2.1 else (zP l).1.1, false), 0)
def qK (lo : Bool) (op : ByteArray) : Bool := bif lo then zd op gtS || zd op geS else zd op ltS || zd op leS
def il (lo : Bool) (op : ByteArray) : Bool := bif lo then zd op gtS else zd op ltS
def Ws (lo : Bool) (c : Int) : Int := bif lo then c else 0 - c
def om (lo : Bool) (p q : zI) : Bool := decide (0 < Ws lo (ul p.2.2 q.2.2)) || (Ws lo (ul p.2.2 q.2.2) == 0 && il lo p.2.1)
def vP (lo : Bool) (c : Int) : List zI → Option zI → Option zI
 | [], o => o
 | p :: r, o => vP lo c r (bif p.1 == c && qK lo p.2.1 then (match o with
  | none => some p
  | some q => bif om lo p q then some p else some q) else o)
def Tl (f : List zc) : Option zI → Option zI → Option (vM × Int)
 | some p, _ => some (oE (f ++ [p.2.2]) (zd p.2.1 geS))
 | none, some _ => some (oE (f ++ [zeroV]) false)
 | none, none => none
def iG (f : List zc) : Option zI → Option (vM × Int)
 | some p => some (toE (f ++ [p.2.2]) (zd p.2.1 leS))
 | none => none
def Zo (r : vM × Int) : Option (vM × Int) → vM × Int
 | none => r
 | some w => (ZY r.1 w.1, bif w.2 != 0 then w.2 else r.2)
def wI (lo : Bool) (ps : List zI) (cols : List Int) : Option zI := bif decide ((vJ ps cols).length < cols.length) then vP lo (cols.getD (vJ ps cols).length 0) ps none else none
def nP (ps : List zI) (cols : List Int) : vM × Int :=
 Zo (Zo (zP (vJ ps cols)) (Tl (vJ ps cols) (wI true ps cols) (wI false ps cols))) (iG (vJ ps cols) (wI false ps cols))
def tA (ps : List zI) (cols : List Int) : vM := bif (nP ps cols).2 != 0 then PQ else (nP ps cols).1
def ut (n : Nat) : Nat := if n = 0 then 0 else n.log2 + 1
def uu (n : Int) : Bool := decide (0 ≤ n) && decide (n < 18446744073709551616)
def S0 (n : Int) : Option Int := x5 (uu n) (ut n.toNat : Int)
def VS (n : Int) : Option Int := x5 (uu n) (yb n.toNat : Int)
def UC (n : Int) : Option Int := VS n
def qC : List Int → List Int
 | [] => []
 | b :: r => bif b == 0 then 0 :: 255 :: qC r else b :: qC r
def PW (x : ByteArray × ByteArray × ByteArray) : Option ByteArray := bif decide (x.1.size ≤ 65536) && (zd x.2.1 ⟨#[0]⟩ && zd x.2.2 ⟨#[0, 255]⟩) then some (zC (qC (zJ x.1))) else none
def oQ (n : Nat) (l : List Int) : Bool := decide (l.length ≤ n)
def YM (x : (Int × Int) × List Int) : Option (List Int) := x5 ((uu x.1.1 && (decide (0 ≤ x.1.2) && decide (x.1.2 ≤ 8))) && oQ 1048640 x.2) (x.2 ++ beL x.1.1.toNat x.1.2.toNat)
def Uu (x : Int × List Int) : Option (List Int) := x5 (okI x.1 && oQ 1048592 x.2) (x.2 ++ tu x.1)
def TV (x : Nat × List Int) : Option (List Int) := x5 (decide (x.1 < 18446744073709551616) && oQ 1048592 x.2) (x.2 ++ tE x.1)
def Wa (x : ByteArray × List Int) : Option (List Int) := x5 (decide (x.1.size ≤ 65536) && oQ 1048592 x.2) (x.2 ++ rl (zJ x.1))
def F76 (x : zc × List Int) : Option (List Int) := x5 ((okZ x.1 && zt x.1 == 0) && oQ 1048576 x.2) (x.2 ++ zS x.1)
def F46 (l : List zc) : Option (ByteArray × Int) := x5 (okR l) (qE l)
def F12 (l : List zc) : Option (ByteArray × Int) := x5 (okR l) (qE l)
def F21 (l : List zc) : Option (vM × Int) := x5 (okR l) (zP l)
def F24 (x : List zc × Bool) : Option (vM × Int) := x5 (okR x.1) (oE x.1 x.2)
def F26 (x : List zc × Bool) : Option (vM × Int) := x5 (okR x.1) (toE x.1 x.2)
def F23 (x : vM × vM) : Option vM := some (ZY x.1 x.2)
def F13 (x : vM × ByteArray) : Option Bool := some (nC x.1 x.2)
def nv (x : Int × Int) : Option (List Int) := x5 (uu x.1 && (decide (0 ≤ x.2) && decide (x.2 ≤ 8))) (beL x.1.toNat x.2.toNat)
def F65 (n : Int) : Option (List Int) := x5 (okI n) (tu n)
def F66 (u : Nat) : Option (List Int) := x5 (decide (u < 18446744073709551616)) (tE (x6 (wv u)))
def F67 (s : ByteArray) : Option (List Int) := x5 (decide (s.size ≤ 65536)) (rl (zJ s))
def F38 (v : zc) : Option (List Int) := x5 (okZ v && zt v == 0) (zS v)
def F43 (x : List (List zI)) : Option (List zI) := x5 (decide (x.length ≤ 2) && decide (x.flatten.length ≤ 1048576)) x.flatten
def okQ (k : Nat) (x : zi × zg) : Bool := xK x.1.2.1.length x.2 && (decide (z4 x.2 ≤ 1048576) && decide (z4 x.2 < k))
def V2 (k : Nat) (x : zi × zg) : Option (List zI) := x5 (okQ k x) (yV (xQ x.1) x.2)
def F17 (x : zi × zg) : Option (List zI) := V2 1048577 x
def F25 (l : List zc) : Option ((List zc × Unit) × Unit) := x5 (okB 40 l) ((l, ()), ())
def F18 (x : List zI × Int) : Option Int := x5 (okB 64 x.1) (up (fun p => p.1 == x.2 && zd p.2.1 eqS) x.1)
def yP (o : Option zI) : zI × Bool :=
 match o with
 | some p => (p, true)
 | none => ((0, (noS, zeroV)), false)
def iQ (x : List zI × Int × ByteArray × ByteArray × Int) : Bool := okB 64 x.1 && (zd x.2.2.1 gtS && (zd x.2.2.2.1 geS && x.2.2.2.2 == -1))
def bC (x : List zI × Int × ByteArray × ByteArray × Int) : Bool := okB 64 x.1 && (zd x.2.2.1 ltS && (zd x.2.2.2.1 leS && x.2.2.2.2 == 1))
def F20 (x : List zI × Int × ByteArray × ByteArray × Int) : Option (zI × Bool) :=
 bif iQ x then some (yP (vP true x.2.1 x.1 none)) else bif bC x then some (yP (vP false x.2.1 x.1 none)) else none
def v6 (x : zi × zg × List Int) : vM × Int :=
 bif wD x.1 x.2.1 != 0 then (U0, wD x.1 x.2.1) else bif !uz x.1.2.1.length x.2.2 then (U0, 1) else (tA (yV (xQ x.1) x.2.1) x.2.2, 0)
def F6 (x : zi × zg × List Int) : Option (vM × Int) := x5 (okT x.1 && (okE x.2.1 && okB 8 x.2.2)) (v6 x)
end Go.Proofs.YtefddghdaimklaaGreatDoor.AI
