/- A part of the proof. -/
import Derived.Test.YtefddghdaimklaaGreatDoorBy
import Derived.Test.YtefddghdaimklaaGreatDoorSz
import Derived.Test.YtefddghdaimklaaGreatDoorCz
set_option linter.unusedVariables false
set_option linter.unusedSimpArgs false
/- Contracts of what a text's bytes are made by. -/
namespace Go.Proofs.YtefddghdaimklaaGreatDoor.AI
open Go Go.RowKit Go.Shelf
def YU : List UInt8 → List UInt8
 | [] => []
 | b :: r => if b = 0 then 0 :: 255 :: YU r else b :: YU r
theorem fz : ∀ s : List UInt8, s.count 0 = 0 → YU s = s
 | [], _ => rfl
 | b :: r, h => by
  by_cases hb : b = 0
  ·subst hb; simp at h
  ·have hr : r.count 0 = 0 := by rw [List.count_cons_of_ne (by simpa using hb)] at h; exact h
   rw [YU, if_neg hb, fz r hr]
theorem eY (r : List UInt8) : Lib.index (0 :: r) [0] = ((0 : Nat) : Int) := by rw [Lib.index]; simp [List.isPrefixOf]
theorem dh {b : UInt8} (hb : b ≠ 0) {r : List UInt8} {i : Nat} (h : Lib.index r [0] = (i : Int)) : Lib.index (b :: r) [0] = ((i + 1 : Nat) : Int) := by
 have hp : ([0] : List UInt8).isPrefixOf (b :: r) = false := by simp [List.isPrefixOf, Ne.symm hb]
 have hix : Lib.index (b :: r) [0] = if Lib.index r [0] == -1 then -1 else Lib.index r [0] + 1 := by rw [Lib.index, hp]; simp
 rw [hix, h, if_neg (by simp)]
 omega
theorem ZR : ∀ s : List UInt8, Lib.replaceK [0] [0, 255] (s.count 0) s = YU s
 | [] => rfl
 | b :: r => by
  by_cases hb : b = 0
  ·subst hb
   rw [List.count_cons_self, Lib.replaceK_hit [0] [0, 255] _ _ 0 (eY r), YU, if_pos rfl]
   show 0 :: 255 :: Lib.replaceK [0] [0, 255] (r.count 0) r = _
   rw [ZR r]
  ·rw [List.count_cons_of_ne (by simpa using hb), YU, if_neg hb]
   cases hk : r.count 0 with
   | zero => rw [fz r hk]; rfl
   | succ k =>
    obtain ⟨i, hi⟩ := Lib.index_of_count (s := r) (old := [0]) (by rw [Lib.count_one, hk]; omega)
    have ih := ZR r
    rw [hk, Lib.replaceK_hit [0] [0, 255] k r i hi] at ih
    rw [Lib.replaceK_hit [0] [0, 255] k _ (i + 1) (dh hb hi), ← ih]
    rfl
theorem mj : ∀ s : List UInt8, (YU s).map (fun b => (b.toNat : Int)) = qF (s.map fun b => (b.toNat : Int))
 | [] => rfl
 | b :: r => by
  by_cases hb : b = 0
  ·subst hb
   rw [YU, if_pos rfl]
   show 0 :: 255 :: _ = qF (0 :: _)
   rw [mj r]; rfl
  ·have hn : ((b.toNat : Int) == 0) = false := by
    have : b.toNat ≠ 0 := fun e => hb (UInt8.toNat_inj.1 e)
    simp; exact this
   rw [YU, if_neg hb, LE, LE, qF, hn, Lj, mj r]
theorem cM (s : List UInt8) : (⟨s.toArray⟩ : ByteArray) = yF (s.map fun b => (b.toNat : Int)) := by
 unfold yF
 congr 2
 rw [List.map_map]
 conv => lhs; rw [← List.map_id s]
 refine List.map_congr_left fun b _ => ?_
 simp [Function.comp]
theorem bR : (Tryz.f164.name == "runtime.NumGoroutine") = false ∧ Tryz.f164.body.isSome = true := ⟨by kernel_rfl, by kernel_rfl⟩
set_option maxRecDepth 100000 in
theorem Za : ConOk Tryz.prog 164 ZL := xF (Ll.1 rfl) (fun _ => rfl) (fun x vals X Y hI hv hF => by
 obtain ⟨u, v, q, rfl, h1, h2, h3⟩ := Ng (t := .str) (s := .str) (r := .str) hv
 obtain ⟨hc, rfl⟩ := zL (show (bif decide (X.1.size ≤ 65536) && (zd X.2.1 ⟨#[0]⟩ && zd X.2.2 ⟨#[0, 255]⟩) then some (yF (qF (zR X.1))) else none) = some Y from hF)
 rw [Li, Li, wh, wh] at hc
 obtain ⟨hs, e1, e2⟩ := hc
 have hs := LB hs
 obtain ⟨m, hm⟩ := (hI.tab.1 _ _ .maxLen).2 x.w rfl
 rw [ue h1, ue h2, ue h3, e1, e2]
 have hcb : Lib.countB X.1 (⟨#[0]⟩ : ByteArray) ≤ 65537 := by
  have : Lib.countB X.1 (⟨#[0]⟩ : ByteArray) = Lib.count X.1.data.toList [0] := rfl
  rw [this]
  have := Lib.count_le X.1.data.toList [0]
  have h4 : X.1.data.toList.length = X.1.size := by rw [Array.length_toList]; rfl
  omega
 refine wj Tryz.func164 bR.1 bR.2 ((YtefddghdaimklaaGreatDoor.replaceAll X.1 ⟨#[0]⟩ ⟨#[0, 255]⟩ m x.w (by omega) hm (by decide) (by
  have : (⟨#[0, 255]⟩ : ByteArray).size = 2 := rfl
  rw [this]; omega)).mono (fun e w' he => ?_))
 obtain ⟨rfl, hb⟩ := he
 refine ⟨_, rfl, hb, fun y => ?_⟩
 have key : (⟨(Lib.replaceAll X.1.data.toList [0] [0, 255]).toArray⟩ : ByteArray) = yF (qF (zR X.1)) := by
  have : Lib.replaceAll X.1.data.toList [0] [0, 255] = Lib.replaceK [0] [0, 255] (X.1.data.toList.count 0) X.1.data.toList := by
   unfold Lib.replaceAll Lib.replace Lib.replaceNum
   rw [if_neg (by decide), if_pos (.inl (by decide)), Lib.count_one]
  rw [this, ZR, cM, mj]; rfl
 rw [show (⟨(Lib.replaceAll X.1.data.toList (⟨#[0]⟩ : ByteArray).data.toList (⟨#[0, 255]⟩ : ByteArray).data.toList).toArray⟩ : ByteArray) = yF (qF (zR X.1)) from key]
 exact ⟨_, [], rfl, ⟨rfl, rfl⟩, rfl⟩)
end Go.Proofs.YtefddghdaimklaaGreatDoor.AI
/- Numbers as bytes: what the code and its reference make of them. -/
namespace Go.Proofs.YtefddghdaimklaaGreatDoor.AI
open Go
theorem rj {x : Int} (h : uA x = true) : ∃ n : Nat, x = (n : Int) ∧ n < 18446744073709551616 := by
 unfold uA at h
 rw [Li, LF, LF] at h
 exact ⟨x.toNat, by omega, by omega⟩
theorem sC {n : Nat} (h : n < 18446744073709551616) : uA (n : Int) = true := by
 unfold uA
 rw [Li, LF, LF]
 omega
theorem x6 {n : Nat} (h : n < 18446744073709551616) : IntKind.wrap .u64 (n : Int) = (n : Int) := by
 simp [IntKind.wrap, IntKind.min, IntKind.max, IntKind.signed, IntKind.bits]
 omega
theorem mu (n : Nat) : IntKind.wrap .u8 (n : Int) = ((n % 256 : Nat) : Int) := by
 simp [IntKind.wrap, IntKind.min, IntKind.max, IntKind.signed, IntKind.bits]
theorem xu {n : Nat} (h : n ≤ 9223372036854775807) : IntKind.wrap .i64 (n : Int) = (n : Int) := xU (by omega) (by omega)
theorem oc (n k : Nat) (hk : k ≤ 64) : zC .shr .u64 (n : Int) (k : Int) = ((n / 2 ^ k : Nat) : Int) := by
 have h1 : min ((k : Int).toNat) (IntKind.bits .u64) = k := by simp [IntKind.bits]; omega
 show Int.fdiv (n : Int) (2 ^ (min ((k : Int).toNat) (IntKind.bits .u64))) = _
 rw [h1, Int.fdiv_eq_ediv_of_nonneg _ (by exact Int.pow_nonneg (by decide))]
 rw [Int.natCast_ediv, Int.natCast_pow]; rfl
theorem Mg (n : Nat) : zC .shr .u64 (n : Int) 8 = ((n / 256 : Nat) : Int) := oc n 8 (by decide)
theorem OS (n : Nat) : zC .shr .u64 (n : Int) 16 = ((n / 65536 : Nat) : Int) := oc n 16 (by decide)
theorem Nv (n : Nat) : zC .shr .u64 (n : Int) 32 = ((n / 4294967296 : Nat) : Int) := oc n 32 (by decide)
theorem NU (n : Nat) : zC .shr .u64 (n : Int) 63 = ((n / 9223372036854775808 : Nat) : Int) := oc n 63 (by decide)
theorem oe {n : Nat} (h : n < 18446744073709551616) : (BitVec.ofInt 64 (n : Int)).toNat = n := by
 rw [BitVec.toNat_ofInt]
 omega
theorem WL {n : Nat} (h : n < 18446744073709551616) : xS .xor .u64 (if IntKind.u64.signed = true then -1 else IntKind.u64.max) (n : Int) = ((18446744073709551615 - n : Nat) : Int) := by
 rw [rl]
 have e1 : BitVec.ofInt 64 (if IntKind.u64.signed = true then -1 else IntKind.u64.max) = BitVec.allOnes 64 := by kernel_rfl
 show IntKind.wrap .u64 ((BitVec.ofInt 64 (if IntKind.u64.signed = true then -1 else IntKind.u64.max) ^^^ BitVec.ofInt 64 (n : Int)).toNat : Int) = _
 rw [e1, BitVec.allOnes_xor, BitVec.toNat_not, oe h]
 rw [show (2 ^ 64 - 1 - n : Nat) = 18446744073709551615 - n from rfl, x6 (by omega)]
theorem VK {n : Nat} (h : n < 9223372036854775808) : n ||| 9223372036854775808 = n + 9223372036854775808 := by
 have := Nat.two_pow_add_eq_or_of_lt (i := 63) (b := n) h 1
 rw [Nat.or_comm]
 simp only [Nat.mul_one] at this
 rw [show (9223372036854775808 : Nat) = 2 ^ 63 from rfl, ← this, Nat.add_comm]
theorem RZ {n : Nat} (h : n < 9223372036854775808) : n ^^^ 9223372036854775808 = n + 9223372036854775808 := by
 rw [← VK h]
 refine Nat.eq_of_testBit_eq fun i => ?_
 rw [Nat.testBit_xor, Nat.testBit_or, show (9223372036854775808 : Nat) = 2 ^ 63 from rfl, Nat.testBit_two_pow]
 by_cases hi : 63 = i
 ·subst hi
  rw [Nat.testBit_lt_two_pow (show n < 2 ^ 63 from h)]; rfl
 ·simp [hi]
theorem Oi {n : Nat} (h : n < 9223372036854775808) : xS .or .u64 (n : Int) (9223372036854775808 : Int) = ((n + 9223372036854775808 : Nat) : Int) := by
 rw [rl]
 show IntKind.wrap .u64 ((BitVec.ofInt 64 (n : Int) ||| BitVec.ofInt 64 (9223372036854775808 : Int)).toNat : Int) = _
 rw [BitVec.toNat_or, oe (by omega), show (9223372036854775808 : Int) = ((9223372036854775808 : Nat) : Int) from rfl, oe (by omega), VK h, x6 (by omega)]
theorem XK {n : Nat} (h : n < 9223372036854775808) : xS .xor .u64 (n : Int) (9223372036854775808 : Int) = ((n + 9223372036854775808 : Nat) : Int) := by
 rw [rl]
 show IntKind.wrap .u64 ((BitVec.ofInt 64 (n : Int) ^^^ BitVec.ofInt 64 (9223372036854775808 : Int)).toNat : Int) = _
 rw [BitVec.toNat_xor, oe (by omega), show (9223372036854775808 : Int) = ((9223372036854775808 : Nat) : Int) from rfl, oe (by omega), RZ h, x6 (by omega)]
theorem mW {n k : Nat} (h : 2 ^ k ≤ n) : u4 n = k + u4 (n / 2 ^ k) := by
 have hp : 0 < 2 ^ k := Nat.two_pow_pos k
 have h1 : n ≠ 0 := by omega
 have h2 : n / 2 ^ k ≠ 0 := by
  have := Nat.div_pos h hp
  omega
 unfold u4
 rw [if_neg h1, if_neg h2]
 have e : n.log2 = k + (n / 2 ^ k).log2 := by
  refine (Nat.log2_eq_iff h1).2 ?_
  obtain ⟨q1, q2⟩ := (Nat.log2_eq_iff h2).1 rfl
  rw [Nat.pow_add, show k + (n / 2 ^ k).log2 + 1 = k + ((n / 2 ^ k).log2 + 1) from by omega, Nat.pow_add]
  constructor
  ·exact Nat.le_trans (Nat.mul_le_mul_left _ q1) (Nat.mul_div_le n (2 ^ k))
  ·have := (Nat.div_lt_iff_lt_mul hp).1 q2
   rw [Nat.mul_comm] at this
   exact this
 omega
theorem i3 {n k : Nat} (h : n < 2 ^ k) : u4 n ≤ k := by
 unfold u4
 split
 ·omega
 ·rename_i h0
  have := (Nat.log2_lt h0).2 h
  omega
theorem aL (n : Nat) : yX n = (u4 n + 7) / 8 := by
 induction n using Nat.strongRecOn with
 | _ n ih =>
  by_cases h0 : n = 0
  ·subst h0; rw [uw]; rfl
  ·rw [mB h0]
   by_cases hl : n < 256
   ·have e0 : n / 256 = 0 := by omega
    rw [e0, uw]
    have h1 : u4 n ≤ 8 := i3 (k := 8) hl
    have h2 : 1 ≤ u4 n := by unfold u4; rw [if_neg h0]; omega
    omega
   ·rw [ih (n / 256) (by omega), mW (k := 8) (n := n) (by omega)]
    show (u4 (n / 256) + 7) / 8 + 1 = (8 + u4 (n / 2 ^ 8) + 7) / 8
    rw [show (2 : Nat) ^ 8 = 256 from rfl]
    omega
theorem Wa {n : Nat} (h : n < 18446744073709551616) : u4 n ≤ 64 := i3 (k := 64) h
theorem wq {n : Nat} (h : n < 18446744073709551616) : yX n ≤ 8 := Rd (k := 8) h
def tab8S : ByteArray := ⟨#[0, 1, 2, 2, 3, 3, 3, 3, 4, 4, 4, 4, 4, 4, 4, 4, 5, 5, 5, 5, 5, 5, 5, 5, 5, 5, 5, 5, 5, 5, 5, 5, 6, 6, 6, 6, 6, 6, 6, 6, 6, 6, 6, 6, 6, 6, 6, 6, 6, 6, 6, 6, 6, 6, 6, 6, 6, 6, 6, 6, 6, 6, 6, 6, 7, 7, 7, 7, 7, 7, 7, 7, 7, 7, 7, 7, 7, 7, 7, 7, 7, 7, 7, 7, 7, 7, 7, 7, 7, 7, 7, 7, 7, 7, 7, 7, 7, 7, 7, 7, 7, 7, 7, 7, 7, 7, 7, 7, 7, 7, 7, 7, 7, 7, 7, 7, 7, 7, 7, 7, 7, 7, 7, 7, 7, 7, 7, 7, 8, 8, 8, 8, 8, 8, 8, 8, 8, 8, 8, 8, 8, 8, 8, 8, 8, 8, 8, 8, 8, 8, 8, 8, 8, 8, 8, 8, 8, 8, 8, 8, 8, 8, 8, 8, 8, 8, 8, 8, 8, 8, 8, 8, 8, 8, 8, 8, 8, 8, 8, 8, 8, 8, 8, 8, 8, 8, 8, 8, 8, 8, 8, 8, 8, 8, 8, 8, 8, 8, 8, 8, 8, 8, 8, 8, 8, 8, 8, 8, 8, 8, 8, 8, 8, 8, 8, 8, 8, 8, 8, 8, 8, 8, 8, 8, 8, 8, 8, 8, 8, 8, 8, 8, 8, 8, 8, 8, 8, 8, 8, 8, 8, 8, 8, 8, 8, 8, 8, 8, 8, 8, 8, 8, 8, 8, 8, 8]⟩
set_option maxRecDepth 100000 in
theorem Vg : ((List.range 256).all fun i => zY tab8S (i : Int) == (u4 i : Int)) = true := by kernel_rfl
theorem Tp {i : Nat} (h : i < 256) : zY tab8S (i : Int) = (u4 i : Int) := by
 have := Ll.1 Vg i (List.mem_range.2 h)
 exact eq_of_beq this
theorem cx : tab8S.size = 256 := by kernel_rfl
theorem OU {m c : Nat} (hm : m < 256) (hc : c ≤ 56) : (bif decide (0 ≤ IntKind.wrap .u8 (m : Int)) && decide (IntKind.wrap .u8 (m : Int) < (tab8S.size : Int)) then some (IntKind.wrap .i64 ((c : Int) + IntKind.wrap .i64 (zY tab8S (IntKind.wrap .u8 (m : Int))))) else none) = some ((c + u4 m : Nat) : Int) := by
 rw [mu, Nat.mod_eq_of_lt hm, cx, Tp hm]
 have h1 : u4 m ≤ 8 := i3 (k := 8) hm
 rw [Ln (show (0 : Int) ≤ (m : Int) by omega), Ln (show (m : Int) < ((256 : Nat) : Int) by omega), xu (by omega)]
 show some (IntKind.wrap .i64 ((c : Int) + (u4 m : Int))) = _
 rw [show ((c : Int) + (u4 m : Int)) = ((c + u4 m : Nat) : Int) by omega, xu (by omega)]
def RN (T : ByteArray) (c m : Int) : Option Int := bif decide (0 ≤ IntKind.wrap .u8 m) && decide (IntKind.wrap .u8 m < (T.size : Int)) then some (IntKind.wrap .i64 (c + IntKind.wrap .i64 (zY T (IntKind.wrap .u8 m)))) else none
def OE (T : ByteArray) (c d m : Int) : Option Int := bif decide (m ≥ (256 : Int)) then RN T d (zC .shr .u64 m (8 : Int)) else RN T c m
def OA (T : ByteArray) (c d e f m : Int) : Option Int := bif decide (m ≥ (65536 : Int)) then OE T e f (zC .shr .u64 m (16 : Int)) else OE T c d m
def Nu (T : ByteArray) (x : Int) : Option Int := bif decide (x ≥ (4294967296 : Int)) then OA T 32 40 48 56 (zC .shr .u64 x (32 : Int)) else OA T 0 8 16 24 x
theorem bM {m c : Nat} (hm : m < 256) (hc : c ≤ 56) : RN tab8S (c : Int) (m : Int) = some ((c + u4 m : Nat) : Int) := OU hm hc
theorem VS {m c d : Nat} (hm : m < 65536) (hc : c ≤ 48) (hd : d = c + 8) : OE tab8S (c : Int) (d : Int) (m : Int) = some ((c + u4 m : Nat) : Int) := by
 unfold OE
 rw [Mg]
 by_cases h8 : 256 ≤ m
 ·rw [Ln (show (m : Int) ≥ 256 by omega), Lk, bM (by omega) (by omega), mW (k := 8) (n := m) h8]
  show some ((d + u4 (m / 256) : Nat) : Int) = some ((c + (8 + u4 (m / 256)) : Nat) : Int)
  rw [hd, Nat.add_assoc]
 ·rw [LI (show ¬ (m : Int) ≥ 256 by omega), Lj, bM (by omega) (by omega)]
theorem VN {m c d e f : Nat} (hm : m < 4294967296) (hc : c ≤ 32) (hd : d = c + 8) (he : e = c + 16) (hf : f = c + 24) : OA tab8S (c : Int) (d : Int) (e : Int) (f : Int) (m : Int) = some ((c + u4 m : Nat) : Int) := by
 unfold OA
 rw [OS]
 by_cases h8 : 65536 ≤ m
 ·rw [Ln (show (m : Int) ≥ 65536 by omega), Lk, VS (by omega) (by omega) (by omega), mW (k := 16) (n := m) h8]
  show some ((e + u4 (m / 65536) : Nat) : Int) = some ((c + (16 + u4 (m / 65536)) : Nat) : Int)
  rw [he, Nat.add_assoc]
 ·rw [LI (show ¬ (m : Int) ≥ 65536 by omega), Lj, VS (by omega) (by omega) (by omega)]
theorem Pk {n : Nat} (h : n < 18446744073709551616) : Nu tab8S (n : Int) = some ((u4 n : Nat) : Int) := by
 unfold Nu
 rw [Nv]
 by_cases h8 : 4294967296 ≤ n
 ·rw [Ln (show (n : Int) ≥ 4294967296 by omega), Lk, mW (k := 32) (n := n) h8]
  exact VN (m := n / 4294967296) (c := 32) (d := 40) (e := 48) (f := 56) (by omega) (by decide) rfl rfl rfl
 ·rw [LI (show ¬ (n : Int) ≥ 4294967296 by omega), Lj]
  have := VN (m := n) (c := 0) (d := 8) (e := 16) (f := 24) (by omega) (by decide) rfl rfl rfl
  rw [Nat.zero_add] at this
  exact this
set_option maxRecDepth 100000 in
theorem TN (x : Int) : f185.g 0 x = Nu tab8S x := by
 unfold f185.g
 kernel_rfl
theorem Sv : ∀ X Y, Qc X = some Y → ∃ n, f185.g n X = some Y := by
 intro x y h
 obtain ⟨hw, rfl⟩ := zr h
 obtain ⟨n, rfl, hn⟩ := rj hw
 exact ⟨0, (TN _).trans (Pk hn)⟩
set_option maxRecDepth 100000 in
theorem YR : ConOk Tryz.prog 185 Zj := f185.ok Sv
theorem X6 {n : Nat} (h : n < 18446744073709551616) : Qc (n : Int) = some ((u4 n : Nat) : Int) := zo (sC h)
theorem UV : ∀ X Y, Up X = some Y → ∃ n, f161.g n X = some Y := by
 intro x y h
 obtain ⟨hw, rfl⟩ := zr h
 obtain ⟨n, rfl, hn⟩ := rj hw
 have h1 := Wa hn
 refine ⟨0, ?_⟩
 have e1 : IntKind.wrap .i64 ((u4 n : Int) + 7) = ((u4 n + 7 : Nat) : Int) := by rw [show ((u4 n : Int) + 7) = ((u4 n + 7 : Nat) : Int) by omega, xu (by omega)]
 have e2 : Int.tdiv ((u4 n + 7 : Nat) : Int) 8 = (((u4 n + 7) / 8 : Nat) : Int) := rfl
 simp only [f161.g, X6 hn, Lm, e1, e2]
 rw [xu (by omega), ← aL]; rfl
theorem aX : ConOk Tryz.prog 161 bd := f161.ok UV YR
theorem fg {n : Nat} (h : n < 18446744073709551616) : Up (n : Int) = some ((yX n : Nat) : Int) := by
 show yM (uA (n : Int)) ((yX ((n : Int).toNat) : Nat) : Int) = _
 rw [zo (sC h), Int.toNat_natCast]
theorem mJ {n : Nat} (h : n < 18446744073709551616) : Ux (n : Int) = some ((yX n : Nat) : Int) := by
 show yM (uA (n : Int)) ((yX ((n : Int).toNat) : Nat) : Int) = _
 rw [zo (sC h), Int.toNat_natCast]
theorem ne (N : Nat) (x : Int) : ∀ (m n k : Nat), n < 18446744073709551616 → k + yX n ≤ 64 → yX n < m → zF (f110.s1 N x) m ((n : Int), (k : Int)) = some ((k + yX n : Nat) : Int)
 | 0, n, k, _, _, h => by omega
 | m + 1, n, k, hn, hk, hm => by
  show f110.s1 N x (zF (f110.s1 N x) m) ((n : Int), (k : Int)) = _
  by_cases h0 : n = 0
  ·subst h0
   rw [uw]; rfl
  ·have hp := mB h0
   have h1 : decide ((n : Int) > 0) = true := Ln (by omega)
   simp only [f110.s1, h1, Lk, Mg]
   rw [show ((k : Int) + 1) = ((k + 1 : Nat) : Int) by omega, xu (by omega), ne N x m (n / 256) (k + 1) (by omega) (by omega) (by omega), hp]
   congr 2; omega
theorem Rr : ∀ X Y, Ux X = some Y → ∃ n, f110.g n X = some Y := by
 intro x y h
 obtain ⟨hw, rfl⟩ := zr (show yM (uA x) (yX x.toNat : Int) = some y from h)
 obtain ⟨n, rfl, hn⟩ := rj hw
 have h1 := wq hn
 refine ⟨10, ?_⟩
 have := ne 10 (n : Int) 10 n 0 hn (by omega) (by omega)
 rw [Nat.zero_add] at this
 exact this
theorem Zr : ConOk Tryz.prog 110 aU := f110.ok Rr
theorem gL (n j : Nat) (hj : j ≤ 7) : IntKind.wrap .u8 (zC .shr .u64 (n : Int) ((8 * j : Nat) : Int)) = ((n / 256 ^ j % 256 : Nat) : Int) := by
 rw [oc n (8 * j) (by omega), mu, Nat.pow_mul]
theorem nn (N : Nat) (n k : Nat) (b0 : List Int) : ∀ (m j : Nat) (acc : List Int), j ≤ 8 → acc.length + j ≤ 2000000 → j < m →
  zF (f162.s1 N (((n : Int), (k : Int)), b0)) m (acc.length, ((j : Int) - 1, acc)) = some (acc ++ beL n j)
 | 0, j, acc, _, _, h => by omega
 | m + 1, 0, acc, hj, hl, hm => by
  show f162.s1 N _ _ (acc.length, (((0 : Nat) : Int) - 1, acc)) = _
  have h1 : decide (((0 : Nat) : Int) - 1 ≥ (0 : Int)) = false := rfl
  simp only [f162.s1, h1, Lj, Lz, beL, List.append_nil]
 | m + 1, j + 1, acc, hj, hl, hm => by
  show f162.s1 N _ (zF (f162.s1 N (((n : Int), (k : Int)), b0)) m) (acc.length, (((j + 1 : Nat) : Int) - 1, acc)) = _
  have e0 : ((j + 1 : Nat) : Int) - 1 = (j : Int) := by omega
  have h1 : decide ((j : Int) ≥ (0 : Int)) = true := Ln (by omega)
  have e8 : IntKind.wrap .i64 ((8 : Int) * (j : Int)) = ((8 * j : Nat) : Int) := by rw [show (8 : Int) * (j : Int) = ((8 * j : Nat) : Int) by omega, xu (by omega)]
  have h2 : decide (((8 * j : Nat) : Int) < 0) = false := LI (by omega)
  have h3 : decide ((acc.length + 1) * 1 ≤ zq) = true := Ln (by rw [show zq = 140737488355328 from rfl]; omega)
  have e1 : IntKind.wrap .i64 ((j : Int) - 1) = (j : Int) - 1 := xU (by omega) (by omega)
  have hb := gL n j (by omega)
  simp only [f162.s1, e0, h1, Lk, e8, h2, Lj, h3, Lz, e1, hb]
  have := nn N n k b0 m j (acc ++ [((n / 256 ^ j % 256 : Nat) : Int)]) (by omega) (by rw [LM]; simp only [List.length_singleton]; omega) (by omega)
  rw [LM, List.length_singleton] at this
  rw [this, LL]; rfl
theorem UD : ∀ X Y, YV X = some Y → ∃ n, f162.g n X = some Y := by
 rintro ⟨⟨u, k⟩, b⟩ y h
 obtain ⟨hw, rfl⟩ := zr h
 simp only [Li, LF, oz] at hw
 obtain ⟨⟨h1, h2, h3⟩, h4⟩ := hw
 obtain ⟨n, rfl, hn⟩ := rj h1
 obtain ⟨j, rfl⟩ : ∃ j : Nat, k = (j : Int) := ⟨k.toNat, by omega⟩
 refine ⟨j + 1, ?_⟩
 have := nn (j + 1) n j b (j + 1) j b (by omega) (by omega) (by omega)
 have e1 : IntKind.wrap .i64 ((j : Int) - 1) = (j : Int) - 1 := xU (by omega) (by omega)
 show zF _ (j + 1) (b.length, (IntKind.wrap .i64 ((j : Int) - 1), b)) = _
 rw [e1, this]; rfl
theorem kD : ConOk Tryz.prog 162 lC := f162.ok UD
theorem mm {n k : Nat} {b : List Int} (hn : n < 18446744073709551616) (hk : k ≤ 8) (hb : b.length ≤ 1048640) : YV (((n : Int), (k : Int)), b) = some (b ++ beL n k) := by
 refine zo ?_
 simp only [Li, LF, oz]
 exact ⟨⟨sC hn, by omega, by omega⟩, hb⟩
theorem lI (N : Nat) (n k : Nat) : ∀ (m j : Nat) (acc : List Int), j ≤ 8 → acc.length + j ≤ 2000000 → j < m →
  zF (f111.s1 N ((n : Int), (k : Int))) m (acc.length, ((j : Int) - 1, acc)) = some (acc ++ beL n j)
 | 0, j, acc, _, _, h => by omega
 | m + 1, 0, acc, hj, hl, hm => by
  show f111.s1 N _ _ (acc.length, (((0 : Nat) : Int) - 1, acc)) = _
  have h1 : decide (((0 : Nat) : Int) - 1 ≥ (0 : Int)) = false := rfl
  simp only [f111.s1, h1, Lj, Lz, beL, List.append_nil]
 | m + 1, j + 1, acc, hj, hl, hm => by
  show f111.s1 N _ (zF (f111.s1 N ((n : Int), (k : Int))) m) (acc.length, (((j + 1 : Nat) : Int) - 1, acc)) = _
  have e0 : ((j + 1 : Nat) : Int) - 1 = (j : Int) := by omega
  have h1 : decide ((j : Int) ≥ (0 : Int)) = true := Ln (by omega)
  have e8 : IntKind.wrap .u64 (IntKind.wrap .i64 ((8 : Int) * (j : Int))) = ((8 * j : Nat) : Int) := by rw [show (8 : Int) * (j : Int) = ((8 * j : Nat) : Int) by omega, xu (by omega), x6 (by omega)]
  have h2 : decide (((8 * j : Nat) : Int) < 0) = false := LI (by omega)
  have h3 : decide ((acc.length + 1) * 1 ≤ zq) = true := Ln (by rw [show zq = 140737488355328 from rfl]; omega)
  have e1 : IntKind.wrap .i64 ((j : Int) - 1) = (j : Int) - 1 := xU (by omega) (by omega)
  have hb := gL n j (by omega)
  simp only [f111.s1, e0, h1, Lk, e8, h2, Lj, h3, Lz, e1, hb]
  have := lI N n k m j (acc ++ [((n / 256 ^ j % 256 : Nat) : Int)]) (by omega) (by rw [LM]; simp only [List.length_singleton]; omega) (by omega)
  rw [LM, List.length_singleton] at this
  rw [this, LL]; rfl
theorem SR : ∀ X Y, nA X = some Y → ∃ n, f111.g n X = some Y := by
 rintro ⟨u, k⟩ y h
 obtain ⟨hw, rfl⟩ := zr h
 simp only [Li, LF] at hw
 obtain ⟨h1, h2, h3⟩ := hw
 obtain ⟨n, rfl, hn⟩ := rj h1
 obtain ⟨j, rfl⟩ : ∃ j : Nat, k = (j : Int) := ⟨k.toNat, by omega⟩
 refine ⟨j + 1, ?_⟩
 have := lI (j + 1) n j (j + 1) j [] (by omega) (by simp; omega) (by omega)
 have e1 : IntKind.wrap .i64 ((j : Int) - 1) = (j : Int) - 1 := xU (by omega) (by omega)
 show zF _ (j + 1) (0, (IntKind.wrap .i64 ((j : Int) - 1), [])) = _
 rw [e1]
 exact this
theorem lq : ConOk Tryz.prog 111 jy := f111.ok SR
theorem pa {n k : Nat} (hn : n < 18446744073709551616) (hk : k ≤ 8) : nA ((n : Int), (k : Int)) = some (beL n k) := by
 refine zo ?_
 simp only [Li, LF]
 exact ⟨sC hn, by omega, by omega⟩
theorem xj {α : Type} (b : List α) (c : α) : List.take (b.length + 1) (List.take b.length b ++ [c]) = b ++ [c] := by
 rw [Lz]
 exact List.take_of_length_le (by simp)
theorem sD {α : Type} (c : α) (r : List α) : List.take (1 + r.length) (List.take 1 [c] ++ r) = c :: r := by
 exact List.take_of_length_le (by simp; omega)
theorem wx {n : Nat} (h : n ≤ 140737488355328) : decide (n * 1 ≤ zq) = true := Ln (by rw [show zq = 140737488355328 from rfl]; omega)
theorem VW {k : Nat} (h : k ≤ 8) : IntKind.wrap .u8 (IntKind.wrap .i64 ((128 : Int) + (k : Int))) = ((128 + k : Nat) : Int) := by
 rw [show ((128 : Int) + (k : Int)) = ((128 + k : Nat) : Int) by omega, xu (by omega), mu, Nat.mod_eq_of_lt (by omega)]
theorem g9 {k : Nat} (h : k ≤ 8) : IntKind.wrap .u8 (IntKind.wrap .i64 ((128 : Int) - (k : Int))) = (128 : Int) - (k : Int) := by
 rw [show ((128 : Int) - (k : Int)) = ((128 - k : Nat) : Int) by omega, xu (by omega), mu, Nat.mod_eq_of_lt (by omega)]
theorem Ta (k : Nat) : mt true (k : Int) (1 : Int) = ((max k 1 : Nat) : Int) := by
 unfold mt
 rw [Lk]
 by_cases h : k < 1
 ·rw [Ln (show (1 : Int) > (k : Int) by omega), Lk]; omega
 ·rw [LI (show ¬ (1 : Int) > (k : Int) by omega), Lj]; omega
theorem px (n : Nat) : pw (n : Int) = ((128 + yX n : Nat) : Int) :: beL n (yX n) := by
 unfold pw
 rw [if_pos (by omega), Int.toNat_natCast]
theorem oG {v : Int} {m : Nat} (h : v < 0) (hm : -(v + 1) = (m : Int)) : pw v = ((128 : Int) - ((max (yX m) 1 : Nat) : Int)) :: beL (18446744073709551615 - m) (max (yX m) 1) := by
 unfold pw
 rw [if_neg (by omega), hm, Int.toNat_natCast]
theorem iO {n : Int} : okI n = true ↔ -9223372036854775808 ≤ n ∧ n ≤ 9223372036854775807 := by
 unfold okI
 rw [Li, LF, LF]
theorem RH : ∀ X Y, TJ X = some Y → ∃ n, f121.g n X = some Y := by
 rintro ⟨v, b⟩ y h
 obtain ⟨hc, rfl⟩ := zr h
 simp only [Li, oz, LF, iO] at hc
 obtain ⟨⟨hv1, hv2⟩, hb⟩ := hc
 refine ⟨0, ?_⟩
 have hr : decide ((b.length + 1) * 1 ≤ zq) = true := wx (by omega)
 by_cases h0 : 0 ≤ v
 ·obtain ⟨n, rfl⟩ : ∃ n : Nat, v = (n : Int) := ⟨v.toNat, by omega⟩
  have d1 : decide ((n : Int) ≥ (0 : Int)) = true := Ln (by omega)
  have hs := wq (n := n) (by omega)
  unfold f121.g
  dsimp only
  rw [d1, Lk, x6 (show n < 18446744073709551616 by omega), fg (show n < 18446744073709551616 by omega), Lm, hr, Lk, xj, VW hs]
  rw [mm (by omega) hs (by simp; omega), Lm, Lz, px, LL]
  simp only [List.cons_append, List.nil_append]
 ·obtain ⟨m, hm⟩ : ∃ m : Nat, -(v + 1) = (m : Int) := ⟨(-(v + 1)).toNat, by omega⟩
  have d1 : decide (v ≥ (0 : Int)) = false := LI (by omega)
  have e1 : IntKind.wrap .i64 (v + (1 : Int)) = v + 1 := xU (by omega) (by omega)
  have e2 : IntKind.wrap .i64 (0 - (v + 1)) = (m : Int) := by rw [xU (by omega) (by omega)]; omega
  have hs := wq (n := m) (by omega)
  have hk : max (yX m) 1 ≤ 8 := by omega
  unfold f121.g
  dsimp only
  rw [d1, Lj, e1, e2, x6 (show m < 18446744073709551616 by omega), fg (show m < 18446744073709551616 by omega), Lm, hr, Lk, Ta, g9 hk, xj, WL (show m < 18446744073709551616 by omega)]
  rw [mm (by omega) hk (by simp; omega), Lm, Lz, oG (by omega) hm, LL]
  simp only [List.cons_append, List.nil_append]
theorem cH : ConOk Tryz.prog 121 ap := f121.ok RH aX kD
theorem PG : ∀ X Y, F65 X = some Y → ∃ n, f65.g n X = some Y := by
 intro v y h
 obtain ⟨hc, rfl⟩ := zr h
 obtain ⟨hv1, hv2⟩ := iO.1 hc
 refine ⟨0, ?_⟩
 have h1 : decide (1 * 1 ≤ zq) = true := by decide
 have WD (k : Nat) (hk : k ≤ 8) (n : Nat) : decide ((1 + (beL n k).length) * 1 ≤ zq) = true := wx (by rw [nP]; omega)
 by_cases h0 : 0 ≤ v
 ·obtain ⟨n, rfl⟩ : ∃ n : Nat, v = (n : Int) := ⟨v.toNat, by omega⟩
  have d1 : decide ((n : Int) ≥ (0 : Int)) = true := Ln (by omega)
  have hs := wq (n := n) (by omega)
  unfold f65.g
  rw [d1, Lk, x6 (show n < 18446744073709551616 by omega), mJ (show n < 18446744073709551616 by omega), Lm, h1, Lk, pa (show n < 18446744073709551616 by omega) hs, Lm, WD _ hs, Lk, sD, VW hs, px]
 ·obtain ⟨m, hm⟩ : ∃ m : Nat, -(v + 1) = (m : Int) := ⟨(-(v + 1)).toNat, by omega⟩
  have d1 : decide (v ≥ (0 : Int)) = false := LI (by omega)
  have e1 : IntKind.wrap .i64 (v + (1 : Int)) = v + 1 := xU (by omega) (by omega)
  have e2 : IntKind.wrap .i64 (0 - (v + 1)) = (m : Int) := by rw [xU (by omega) (by omega)]; omega
  have hs := wq (n := m) (by omega)
  have hx := WL (show m < 18446744073709551616 by omega)
  rw [oG (by omega) hm]
  by_cases hz : yX m = 0
  ·have b0 : (((yX m : Nat) : Int) == (0 : Int)) = true := by rw [hz]; rfl
   have e3 : nA (((18446744073709551615 - m : Nat) : Int), (1 : Int)) = some (beL (18446744073709551615 - m) 1) := pa (k := 1) (by omega) (by decide)
   unfold f65.g
   rw [d1, Lj, e1, e2, x6 (show m < 18446744073709551616 by omega), mJ (show m < 18446744073709551616 by omega), Lm, b0, Lk, h1, Lk, hx, e3, Lm, WD 1 (by decide), Lk, sD]
   have e5 : ((128 : Int) - ((1 : Nat) : Int)) = 127 := rfl
   rw [hz, show max 0 1 = 1 from rfl, e5]
  ·have b0 : (((yX m : Nat) : Int) == (0 : Int)) = false := by rw [beq_eq_false_iff_ne]; omega
   have hk : max (yX m) 1 = yX m := by omega
   rw [hk]
   unfold f65.g
   rw [d1, Lj, e1, e2, x6 (show m < 18446744073709551616 by omega), mJ (show m < 18446744073709551616 by omega), Lm, b0, Lj, h1, Lk, hx, pa (show 18446744073709551615 - m < 18446744073709551616 by omega) hs, Lm, WD _ hs, Lk, sD, g9 hs]
theorem XG : ConOk Tryz.prog 65 U1 := f65.ok PG Zr lq
theorem fZ {p : Nat} (h : p < 18446744073709551616) : (zC .shr .u64 (p : Int) (63 : Int) == (0 : Int)) = decide (p < 9223372036854775808) := by
 rw [NU, Bool.eq_iff_iff, beq_iff_eq, LF]
 omega
theorem RE : ∀ X Y, TX X = some Y → ∃ n, f122.g n X = some Y := by
 rintro ⟨u, b⟩ y h
 obtain ⟨hc, rfl⟩ := zr h
 simp only [Li, oz, LF] at hc
 obtain ⟨hu, hb⟩ := hc
 refine ⟨0, ?_⟩
 have e63 : F63 u = some (u : Int) := rfl
 have e8 (k : Nat) (hk : k < 18446744073709551616) : YV (((k : Int), (8 : Int)), b) = some (b ++ beL k 8) := mm (k := 8) hk (by decide) (by omega)
 simp only [f122.g, e63, Lm, fZ hu, Lz, qe, O5]
 by_cases hp : u < 9223372036854775808
 ·rw [Ln hp, Lk, Oi hp, e8 _ (by omega), Lm, if_pos hp]
 ·rw [LI hp, Lj, WL hu, e8 _ (by omega), Lm, if_neg hp]
theorem Yf : ConOk Tryz.prog 122 cK := f122.ok RE tq kD
theorem j6 {p : Nat} (hp : p < 18446744073709551616) : (bif zC .shr .u64 (p : Int) (63 : Int) == (0 : Int) then
   ((nA (xS .xor .u64 (p : Int) (9223372036854775808 : Int), (8 : Int))).bind fun r => some r)
  else ((nA (xS .xor .u64 (if IntKind.u64.signed = true then -1 else IntKind.u64.max) (p : Int), (8 : Int))).bind fun r => some r)) = some (qe p) := by
 have e8 (k : Nat) (hk : k < 18446744073709551616) : nA ((k : Int), (8 : Int)) = some (beL k 8) := pa (k := 8) hk (by decide)
 rw [fZ hp]
 unfold qe O5
 by_cases h : p < 9223372036854775808
 ·rw [Ln h, Lk, XK h, e8 _ (by omega), if_pos h]; rfl
 ·rw [LI h, Lj, WL hp, e8 _ (by omega), if_neg h]; rfl
theorem Qv : ∀ X Y, F66 X = some Y → ∃ n, f66.g n X = some Y := by
 intro u y h
 obtain ⟨hc, rfl⟩ := zr h
 have hu := LB hc
 refine ⟨0, ?_⟩
 have e63 : F63 u = some (u : Int) := rfl
 rw [← fk hu]
 show f66.g 0 u = some (qe (wX (3, (0, (u, noS)))).2.2.1)
 have ep : (wX (3, (0, (u, noS)))).2.2.1 = bif fo u 0 == some .eq then 0 else bif fo u u != some .eq then cu else u := by
  unfold wX
  cases (fo u 0 == some .eq) <;> cases (fo u u != some .eq) <;> rfl
 rw [ep]
 have hg : f66.g 0 u = (F63 u).bind fun r1 => bif fo u 0 == some .eq then (bif fo u u != some .eq then _ else _) else (bif fo u u != some .eq then _ else _) := rfl
 rw [hg, e63, Lm]
 cases h1 : (fo u 0 == some .eq) with
 | true =>
  cases h2 : (fo u u != some .eq) with
  | true => rw [mU h2] at h1; cases h1
  | false =>
   have hz := j6 (p := 0) (by decide)
   rw [show ((0 : Nat) : Int) = 0 from rfl] at hz
   simp only [Lk, Lj]
   exact hz
 | false =>
  cases h2 : (fo u u != some .eq) with
  | true =>
   have hz := j6 (p := 9221120237041090560) (by decide)
   rw [show ((9221120237041090560 : Nat) : Int) = 9221120237041090560 from rfl] at hz
   simp only [Lk, Lj, cu]
   exact hz
  | false =>
   simp only [Lj]
   exact j6 hu
theorem WB : ConOk Tryz.prog 66 Sn := f66.ok Qv tq lq
end Go.Proofs.YtefddghdaimklaaGreatDoor.AI
/- Texts and values as bytes. -/
namespace Go.Proofs.YtefddghdaimklaaGreatDoor.AI
open Go
theorem Xm (s : ByteArray) : ∀ x ∈ zR s, 0 ≤ x ∧ x ≤ 255 := by
 intro x hx
 unfold zR at hx
 obtain ⟨b, _, rfl⟩ := List.mem_map.1 hx
 have := UInt8.toNat_lt b
 omega
theorem td (s : ByteArray) : (zR s).length = s.size := by unfold zR; rw [List.length_map, Array.length_toList]; rfl
theorem kQ : ∀ l : List Int, (∀ x ∈ l, 0 ≤ x ∧ x ≤ 255) → ∀ x ∈ qF l, 0 ≤ x ∧ x ≤ 255
 | [], _, x, h => by simp [qF] at h
 | b :: r, hl, x, h => by
  have ih := kQ r (fun y hy => hl y (by simp [hy])) x
  rw [qF] at h
  cases hb : b == 0 with
  | true =>
   rw [hb, Lk] at h
   rcases LD.1 h with rfl | h
   ·omega
   ·rcases LD.1 h with rfl | h
    ·omega
    ·exact ih h
  | false =>
   rw [hb, Lj] at h
   rcases LD.1 h with rfl | h
   ·exact hl x (by simp)
   ·exact ih h
theorem iR : ∀ l : List Int, (qF l).length ≤ 2 * l.length
 | [] => Lu _
 | b :: r => by
  have := iR r
  rw [qF]
  cases b == 0 <;> simp <;> omega
theorem iV : ∀ l : List Int, j3 l = qF l ++ [0]
 | [] => rfl
 | b :: r => by
  rw [j3, qF, iV r]
  cases b == 0 <;> rfl
theorem Wk {α : Type} (a b : List α) : List.take (a.length + b.length) (List.take a.length a ++ b) = a ++ b := by
 rw [Lz]
 exact List.take_of_length_le (by simp)
theorem T5 : ∀ X Y, XP X = some Y → ∃ n, f124.g n X = some Y := by
 rintro ⟨s, b⟩ y h
 obtain ⟨hc, rfl⟩ := zr h
 simp only [Li, oz, LF] at hc
 obtain ⟨hs, hb⟩ := hc
 refine ⟨0, ?_⟩
 have er : OQ (s, ((⟨#[0]⟩ : ByteArray), (⟨#[0, 255]⟩ : ByteArray))) = some (yF (qF (zR s))) := by
  show (bif decide (s.size ≤ 65536) && (zd (⟨#[0]⟩ : ByteArray) ⟨#[0]⟩ && zd (⟨#[0, 255]⟩ : ByteArray) ⟨#[0, 255]⟩) then some (yF (qF (zR s))) else none) = _
  rw [Ln hs, (wh _ _).2 rfl, (wh _ _).2 rfl]; rfl
 have el : tF (yF (qF (zR s))) = qF (zR s) := n8 (kQ _ (Xm s))
 have hl := iR (zR s)
 rw [td] at hl
 have h1 : decide ((b.length + (qF (zR s)).length) * 1 ≤ zq) = true := wx (by omega)
 have h2 : decide (((b.length + (qF (zR s)).length) + 1) * 1 ≤ zq) = true := wx (by omega)
 simp only [f124.g, er, Lm, el, h1, h2, Lk]
 have e3 : List.take (b.length + (qF (zR s)).length) (List.take b.length b ++ qF (zR s)) = b ++ qF (zR s) := Wk _ _
 rw [e3, List.take_of_length_le (by simp; omega), iV, LL]
theorem bm : ConOk Tryz.prog 124 Ys := f124.ok T5 Za
theorem W4 {s : ByteArray} {i : Nat} {v : Int} (h : (zR s)[i]? = some v) : zY s (i : Int) = v := by
 unfold zR at h
 rw [List.getElem?_map] at h
 obtain ⟨b, hb, rfl⟩ := Option.map_eq_some_iff.1 h
 have e : s[i]? = some b := by
  obtain ⟨hlt, he⟩ := Lq.1 hb
  have hlt' : i < s.size := by
   have e : s.data.toList.length = s.size := by rw [Array.length_toList]; rfl
   omega
  rw [getElem?_pos s i hlt']
  congr 1
 show (match s[((i : Int)).toNat]? with | some b => (b.toNat : Int) | none => 0) = _
 rw [Int.toNat_natCast, e]
theorem Qk : ∀ X Y, F67 X = some Y → ∃ n, f67.g n X = some Y := by
 intro s y h
 obtain ⟨hc, rfl⟩ := zr h
 have hs := LB hc
 refine ⟨(zR s).length + 1, ?_⟩
 have hsz := td s
 have := zP (step := f67.s1 ((zR s).length + 1) s) (zR s) (fun i (a : List Int) => (a.length, ((i : Int), a))) (fun i a => a.length ≤ 2 * i) (fun i a r => some (a ++ j3 r))
  (fun S a ha => by
   have h1 : decide (((zR s).length : Int) < (s.size : Int)) = false := by rw [hsz]; simp
   have h2 : decide ((a.length + 1) * 1 ≤ zq) = true := wx (by omega)
   simp only [f67.s1, h1, Lj, h2, Lk, xj, j3])
  (fun S i a v r hi hv hr ha ih => by
   have h1 : decide ((i : Int) < (s.size : Int)) = true := Ln (by omega)
   have h2 : decide ((a.length + 1) * 1 ≤ zq) = true := wx (by omega)
   have h3 : decide (((a.length + 1) + 1) * 1 ≤ zq) = true := wx (by omega)
   have hn := nx (i := i) (by omega)
   simp only [f67.s1, h1, z1, Lr, Lk, h2, h3, W4 hv, hn]
   cases hb : v == 0 with
   | true =>
    have := ih (a ++ [v, 255]) (by simp; omega)
    simp only [LM, List.length_cons, List.length_nil] at this
    rw [Lk, xj, LL]
    show S (a.length + 1 + 1, (((i + 1 : Nat) : Int), a ++ ([v] ++ [255]))) = _
    rw [show a.length + 1 + 1 = a.length + (0 + 1 + 1) by omega]
    rw [show ([v] ++ [255] : List Int) = [v, 255] from rfl, this, j3, hb, Lk, eq_of_beq hb, LL]; rfl
   | false =>
    have := ih (a ++ [v]) (by simp; omega)
    simp only [LM, List.length_cons, List.length_nil] at this
    rw [Lj, Lz]
    rw [show a.length + 1 = a.length + (0 + 1) by omega, this, j3, hb, Lj, LL]; rfl)
  ((zR s).length + 1) (Lv _) [] (by simp)
 exact this
theorem XL : ConOk Tryz.prog 67 RW := f67.ok Qk
theorem vz {c : Bool} {k r : Int} (hk : k ≠ 0) (h : (bif c then k else r) = 0) : c = false ∧ r = 0 := by
 cases c with
 | true => exact absurd h hk
 | false => exact ⟨rfl, h⟩
theorem rY {k i : Int} {u : Nat} {s : ByteArray} (h : zO (k, (i, (u, s))) = 0) : 0 ≤ k ∧ k ≤ 5 ∧ (k = 1 → i = 0 ∨ i = 1) ∧ s.size ≤ 65536 := by
 unfold zO at h
 obtain ⟨h1, h⟩ := vz (by decide) h
 obtain ⟨h2, h⟩ := vz (by decide) h
 obtain ⟨h3, h⟩ := vz (by decide) h
 obtain ⟨h4, h⟩ := vz (by decide) h
 obtain ⟨h5, h⟩ := vz (by decide) h
 obtain ⟨h6, h⟩ := vz (by decide) h
 simp only [Bool.or_eq_false_iff, decide_eq_false_iff_not] at h1
 have h6' : ¬ ((s.size : Int) > 65536) := of_decide_eq_false h6
 refine ⟨by omega, by omega, fun e => ?_, by omega⟩
 subst e
 rw [Bool.or_eq_false_iff] at h2
 have h7 := h2.1
 by_cases a : i = 0
 ·exact .inl a
 ·by_cases b : i = 1
  ·exact .inr b
  ·have e1 : (i != 0) = true := by rw [bne_iff_ne]; exact a
   have e2 : (i != 1) = true := by rw [bne_iff_ne]; exact b
   have h8 : ((1 : Int) == 1 && i != 0 && i != 1) = false := h7
   rw [e1, e2] at h8
   cases h8
theorem kS {i : Int} {u : Nat} {s : ByteArray} (hu : u < 18446744073709551616) : (wX (3, (i, (u, s)))).2.2.1 = tI (wv u) := by
 rw [← fk hu]
 show (bif fo u 0 == some .eq then ((3 : Int), i, 0, s) else bif fo u u != some .eq then ((3 : Int), i, cu, s) else ((3 : Int), i, u, s)).2.2.1 = (bif fo u 0 == some .eq then ((3 : Int), (0 : Int), 0, noS) else bif fo u u != some .eq then ((3 : Int), (0 : Int), cu, noS) else ((3 : Int), (0 : Int), u, noS)).2.2.1
 cases (fo u 0 == some .eq) <;> cases (fo u u != some .eq) <;> rfl
theorem Z9 (u : Nat) : tI (wv u) < 18446744073709551616 := by
 have := Wx u
 unfold tI
 split <;> omega
theorem pM {k i : Int} {u : Nat} {s : ByteArray} (h : okZ (k, (i, (u, s))) = true) : okI i = true ∧ u < 18446744073709551616 := by
 unfold okZ at h
 rw [Li, Li, LF] at h
 exact ⟨h.2.1, h.2.2⟩
theorem fU {i : Int} (h : i = 0 ∨ i = 1) : IntKind.wrap .u8 i = i := by
 rcases h with rfl | rfl <;> rfl
theorem bY {n : Int} {b : List Int} (h : okI n = true) (hb : b.length ≤ 1048592) : TJ (n, b) = some (b ++ pw n) := by
 refine zo ?_
 rw [Li]
 exact ⟨h, Ln hb⟩
theorem aZ {u : Nat} {b : List Int} (h : u < 18446744073709551616) (hb : b.length ≤ 1048592) : TX (u, b) = some (b ++ qe u) := by
 refine zo ?_
 rw [Li]
 exact ⟨Ln h, Ln hb⟩
theorem kL {s : ByteArray} {b : List Int} (h : s.size ≤ 65536) (hb : b.length ≤ 1048592) : XP (s, b) = some (b ++ j3 (zR s)) := by
 refine zo ?_
 rw [Li]
 exact ⟨Ln h, Ln hb⟩
theorem Oo : ∀ X Y, F76 X = some Y → ∃ n, f76.g n X = some Y := by
 rintro ⟨⟨k, i, u, s⟩, b⟩ y h
 obtain ⟨hc, rfl⟩ := zr h
 simp only [Li, oz, LF, beq_iff_eq] at hc
 obtain ⟨⟨hz, hv⟩, hb⟩ := hc
 obtain ⟨hi, hu⟩ := pM hz
 obtain ⟨k0, k5, k1, hs⟩ := rY hv
 refine ⟨0, ?_⟩
 have r1 : decide ((b.length + 1) * 1 ≤ zq) = true := wx (by omega)
 have r2 : decide ((b.length + 2) * 1 ≤ zq) = true := wx (by omega)
 have lb (c : Int) : (b ++ [c]).length ≤ 1048592 := by simp; omega
 have hk : k = 0 ∨ k = 1 ∨ k = 2 ∨ k = 3 ∨ k = 4 ∨ k = 5 := by omega
 rcases hk with rfl | rfl | rfl | rfl | rfl | rfl
 ·have e1 : f76.g 0 (((0 : Int), (i, (u, s))), b) = (bif decide ((b.length + 1) * 1 ≤ zq) then (some (List.take (b.length + 1) (List.take b.length b ++ ([(1 : Int)])))) else none) := rfl
  rw [e1, r1, Lk, xj]; rfl
 ·have e1 : f76.g 0 (((1 : Int), (i, (u, s))), b) = (bif decide ((b.length + 2) * 1 ≤ zq) then (some (List.take (b.length + 2) (List.take b.length b ++ ([(2 : Int), IntKind.wrap .u8 i])))) else none) := rfl
  rw [e1, r2, Lk, fU (k1 rfl), Lz, List.take_of_length_le (by simp)]; rfl
 ·have e1 : f76.g 0 (((2 : Int), (i, (u, s))), b) = (bif decide ((b.length + 1) * 1 ≤ zq) then ((TJ (i, List.take (b.length + 1) (List.take b.length b ++ ([(3 : Int)])))).bind fun r1 => some (List.take r1.length r1)) else none) := rfl
  rw [e1, r1, Lk, xj, bY hi (lb 3), Lm, Lz, LL]; rfl
 ·have e1 : f76.g 0 (((3 : Int), (i, (u, s))), b) = (bif decide ((b.length + 1) * 1 ≤ zq) then ((R6 ((3 : Int), (i, (u, s)))).bind fun r2 => (TX (r2.2.2.1, List.take (b.length + 1) (List.take b.length b ++ ([(4 : Int)])))).bind fun r3 => some (List.take r3.length r3)) else none) := rfl
  have e2 : R6 ((3 : Int), (i, (u, s))) = some (wX (3, (i, (u, s)))) := rfl
  rw [e1, r1, Lk, e2, Lm, kS hu, xj, aZ (Z9 u) (lb 4), Lm, Lz, LL]; rfl
 ·have e1 : f76.g 0 (((4 : Int), (i, (u, s))), b) = (bif decide ((b.length + 1) * 1 ≤ zq) then ((XP (s, List.take (b.length + 1) (List.take b.length b ++ ([(5 : Int)])))).bind fun r1 => some (List.take r1.length r1)) else none) := rfl
  rw [e1, r1, Lk, xj, kL hs (lb 5), Lm, Lz, LL]; rfl
 ·have e1 : f76.g 0 (((5 : Int), (i, (u, s))), b) = (bif decide ((b.length + 1) * 1 ≤ zq) then ((XP (s, List.take (b.length + 1) (List.take b.length b ++ ([(6 : Int)])))).bind fun r1 => some (List.take r1.length r1)) else none) := rfl
  rw [e1, r1, Lk, xj, kL hs (lb 6), Lm, Lz, LL]; rfl
theorem Xy : ConOk Tryz.prog 76 Tx := f76.ok Oo cH Yf Yr bm
theorem bH : ∀ l : List Int, (j3 l).length ≤ 2 * l.length + 1 := fun l => by rw [iV]; have := iR l; simp; omega
theorem jS {n : Int} (h : okI n = true) : (pw n).length ≤ 9 := by
 obtain ⟨h1, h2⟩ := iO.1 h
 by_cases h0 : 0 ≤ n
 ·obtain ⟨m, rfl⟩ : ∃ m : Nat, n = (m : Int) := ⟨n.toNat, by omega⟩
  have := wq (n := m) (by omega)
  rw [px, List.length_cons, nP]; omega
 ·obtain ⟨m, hm⟩ : ∃ m : Nat, -(n + 1) = (m : Int) := ⟨(-(n + 1)).toNat, by omega⟩
  have := wq (n := m) (by omega)
  rw [oG (by omega) hm, List.length_cons, nP]; omega
theorem Ow (c : Int) (r : List Int) (h : r.length ≤ 200000) : (bif decide ((1 + r.length) * 1 ≤ zq) then (some (List.take (1 + r.length) (List.take 1 ([c]) ++ r))) else none) = some (c :: r) := by
 rw [wx (by omega), Lk, sD]
theorem Pq : ∀ X Y, F38 X = some Y → ∃ n, f38.g n X = some Y := by
 rintro ⟨k, i, u, s⟩ y h
 obtain ⟨hc, rfl⟩ := zr h
 simp only [Li, beq_iff_eq] at hc
 obtain ⟨hz, hv⟩ := hc
 obtain ⟨hi, hu⟩ := pM hz
 obtain ⟨k0, k5, k1, hs⟩ := rY hv
 refine ⟨0, ?_⟩
 have hk : k = 0 ∨ k = 1 ∨ k = 2 ∨ k = 3 ∨ k = 4 ∨ k = 5 := by omega
 have ht : F67 s = some (j3 (zR s)) := zo (Ln hs)
 have hl : (j3 (zR s)).length ≤ 200000 := by have := bH (zR s); rw [td] at this; omega
 rcases hk with rfl | rfl | rfl | rfl | rfl | rfl
 ·rfl
 ·have e1 : f38.g 0 ((1 : Int), (i, (u, s))) = some [(2 : Int), IntKind.wrap .u8 i] := rfl
  rw [e1, fU (k1 rfl)]; rfl
 ·have e1 : f38.g 0 ((2 : Int), (i, (u, s))) = ((F65 i).bind fun r => (bif decide ((1 + r.length) * 1 ≤ zq) then (some (List.take (1 + r.length) (List.take 1 ([(3 : Int)]) ++ r))) else none)) := rfl
  have e2 : F65 i = some (pw i) := zo hi
  rw [e1, e2, Lm, Ow _ _ (by have := jS hi; omega)]; rfl
 ·have e1 : f38.g 0 ((3 : Int), (i, (u, s))) = ((F66 u).bind fun r => (bif decide ((1 + r.length) * 1 ≤ zq) then (some (List.take (1 + r.length) (List.take 1 ([(4 : Int)]) ++ r))) else none)) := rfl
  have e2 : F66 u = some (qe (tI (wv u))) := zo (Ln hu)
  rw [e1, e2, Lm, Ow _ _ (by unfold qe; rw [nP]; omega)]; rfl
 ·have e1 : f38.g 0 ((4 : Int), (i, (u, s))) = ((F67 s).bind fun r => (bif decide ((1 + r.length) * 1 ≤ zq) then (some (List.take (1 + r.length) (List.take 1 ([(5 : Int)]) ++ r))) else none)) := rfl
  rw [e1, ht, Lm, Ow _ _ hl]; rfl
 ·have e1 : f38.g 0 ((5 : Int), (i, (u, s))) = ((F67 s).bind fun r => (bif decide ((1 + r.length) * 1 ≤ zq) then (some (List.take (1 + r.length) (List.take 1 ([(6 : Int)]) ++ r))) else none)) := rfl
  rw [e1, ht, Lm, Ow _ _ hl]; rfl
theorem WK : ConOk Tryz.prog 38 SA := f38.ok Pq XG WB XL
end Go.Proofs.YtefddghdaimklaaGreatDoor.AI
