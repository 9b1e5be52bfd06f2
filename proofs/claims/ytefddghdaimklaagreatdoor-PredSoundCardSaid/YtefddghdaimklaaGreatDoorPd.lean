/- A part of the proof. -/
import Derived.Test.YtefddghdaimklaaGreatDoorBy
import Derived.Test.YtefddghdaimklaaGreatDoorSz
import Derived.Test.YtefddghdaimklaaGreatDoorCz
set_option linter.unusedVariables false
set_option linter.unusedSimpArgs false
/- Contracts of what a text's bytes are made by. -/
namespace Go.Proofs.YtefddghdaimklaaGreatDoor.AI
open Go Go.RowKit Go.Shelf
def YJ : List UInt8 → List UInt8
 | [] => []
 | b :: r => if b = 0 then 0 :: 255 :: YJ r else b :: YJ r
theorem fP : ∀ s : List UInt8, s.count 0 = 0 → YJ s = s
 | [], _ => rfl
 | b :: r, h => by
  by_cases hb : b = 0
  ·subst hb; simp at h
  ·have hr : r.count 0 = 0 := by rw [List.count_cons_of_ne (by simpa using hb)] at h; exact h
   rw [YJ, if_neg hb, fP r hr]
theorem dg (r : List UInt8) : Lib.index (0 :: r) [0] = ((0 : Nat) : Int) := by rw [Lib.index]; simp [List.isPrefixOf]
theorem eE {b : UInt8} (hb : b ≠ 0) {r : List UInt8} {i : Nat} (h : Lib.index r [0] = (i : Int)) : Lib.index (b :: r) [0] = ((i + 1 : Nat) : Int) := by
 have hp : ([0] : List UInt8).isPrefixOf (b :: r) = false := by simp [List.isPrefixOf, Ne.symm hb]
 have hix : Lib.index (b :: r) [0] = if Lib.index r [0] == -1 then -1 else Lib.index r [0] + 1 := by rw [Lib.index, hp]; simp
 rw [hix, h, if_neg (by simp)]
 omega
theorem YD : ∀ s : List UInt8, Lib.replaceK [0] [0, 255] (s.count 0) s = YJ s
 | [] => rfl
 | b :: r => by
  by_cases hb : b = 0
  ·subst hb
   rw [List.count_cons_self, Lib.replaceK_hit [0] [0, 255] _ _ 0 (dg r), YJ, if_pos rfl]
   show 0 :: 255 :: Lib.replaceK [0] [0, 255] (r.count 0) r = _
   rw [YD r]
  ·rw [List.count_cons_of_ne (by simpa using hb), YJ, if_neg hb]
   cases hk : r.count 0 with
   | zero => rw [fP r hk]; rfl
   | succ k =>
    obtain ⟨i, hi⟩ := Lib.index_of_count (s := r) (old := [0]) (by rw [Lib.count_one, hk]; omega)
    have ih := YD r
    rw [hk, Lib.replaceK_hit [0] [0, 255] k r i hi] at ih
    rw [Lib.replaceK_hit [0] [0, 255] k _ (i + 1) (eE hb hi), ← ih]
    rfl
theorem md : ∀ s : List UInt8, (YJ s).map (fun b => (b.toNat : Int)) = qC (s.map fun b => (b.toNat : Int))
 | [] => rfl
 | b :: r => by
  by_cases hb : b = 0
  ·subst hb
   rw [YJ, if_pos rfl]
   show 0 :: 255 :: _ = qC (0 :: _)
   rw [md r]; rfl
  ·have hn : ((b.toNat : Int) == 0) = false := by
    have : b.toNat ≠ 0 := fun e => hb (UInt8.toNat_inj.1 e)
    simp; exact this
   rw [YJ, if_neg hb, NN, NN, qC, hn, Nu, md r]
theorem Zq (s : List UInt8) : (⟨s.toArray⟩ : ByteArray) = zC (s.map fun b => (b.toNat : Int)) := by
 unfold zC
 congr 2
 rw [List.map_map]
 conv => lhs; rw [← List.map_id s]
 refine List.map_congr_left fun b _ => ?_
 simp [Function.comp]
theorem ZS : (Tryz.f164.name == "runtime.NumGoroutine") = false ∧ Tryz.f164.body.isSome = true := ⟨by kernel_rfl, by kernel_rfl⟩
set_option maxRecDepth 100000 in
theorem cH : ConOk Tryz.prog 164 ak := xA (Nw.1 rfl) (fun _ => rfl) (fun x vals X Y hI hv hF => by
 obtain ⟨u, v, q, rfl, h1, h2, h3⟩ := Pl (t := .str) (s := .str) (r := .str) hv
 obtain ⟨hc, rfl⟩ := zT (show (bif decide (X.1.size ≤ 65536) && (zd X.2.1 ⟨#[0]⟩ && zd X.2.2 ⟨#[0, 255]⟩) then some (zC (qC (zJ X.1))) else none) = some Y from hF)
 rw [Nt, Nt, wi, wi] at hc
 obtain ⟨hs, e1, e2⟩ := hc
 have hs := NK hs
 obtain ⟨m, hm⟩ := (hI.tab.1 _ _ .maxLen).2 x.w rfl
 rw [vO h1, vO h2, vO h3, e1, e2]
 have hcb : Lib.countB X.1 (⟨#[0]⟩ : ByteArray) ≤ 65537 := by
  have : Lib.countB X.1 (⟨#[0]⟩ : ByteArray) = Lib.count X.1.data.toList [0] := rfl
  rw [this]
  have := Lib.count_le X.1.data.toList [0]
  have h4 : X.1.data.toList.length = X.1.size := by rw [Array.length_toList]; rfl
  omega
 refine wm Tryz.func164 ZS.1 ZS.2 ((YtefddghdaimklaaGreatDoor.replaceAll X.1 ⟨#[0]⟩ ⟨#[0, 255]⟩ m x.w (by omega) hm (by decide) (by
  have : (⟨#[0, 255]⟩ : ByteArray).size = 2 := rfl
  rw [this]; omega)).mono (fun e w' he => ?_))
 obtain ⟨rfl, hb⟩ := he
 refine ⟨_, rfl, hb, fun y => ?_⟩
 have key : (⟨(Lib.replaceAll X.1.data.toList [0] [0, 255]).toArray⟩ : ByteArray) = zC (qC (zJ X.1)) := by
  have : Lib.replaceAll X.1.data.toList [0] [0, 255] = Lib.replaceK [0] [0, 255] (X.1.data.toList.count 0) X.1.data.toList := by
   unfold Lib.replaceAll Lib.replace Lib.replaceNum
   rw [if_neg (by decide), if_pos (.inl (by decide)), Lib.count_one]
  rw [this, YD, Zq, md]; rfl
 rw [show (⟨(Lib.replaceAll X.1.data.toList (⟨#[0]⟩ : ByteArray).data.toList (⟨#[0, 255]⟩ : ByteArray).data.toList).toArray⟩ : ByteArray) = zC (qC (zJ X.1)) from key]
 exact ⟨_, [], rfl, ⟨rfl, rfl⟩, rfl⟩)
end Go.Proofs.YtefddghdaimklaaGreatDoor.AI
/- Numbers as bytes: what the code and its reference make of them. -/
namespace Go.Proofs.YtefddghdaimklaaGreatDoor.AI
open Go
theorem sA {x : Int} (h : uu x = true) : ∃ n : Nat, x = (n : Int) ∧ n < 18446744073709551616 := by
 unfold uu at h
 rw [Nt, NO, NO] at h
 exact ⟨x.toNat, by omega, by omega⟩
theorem sq {n : Nat} (h : n < 18446744073709551616) : uu (n : Int) = true := by
 unfold uu
 rw [Nt, NO, NO]
 omega
theorem wg {n : Nat} (h : n < 18446744073709551616) : IntKind.wrap .u64 (n : Int) = (n : Int) := by
 simp [IntKind.wrap, IntKind.min, IntKind.max, IntKind.signed, IntKind.bits]
 omega
theorem li (n : Nat) : IntKind.wrap .u8 (n : Int) = ((n % 256 : Nat) : Int) := by
 simp [IntKind.wrap, IntKind.min, IntKind.max, IntKind.signed, IntKind.bits]
theorem xj {n : Nat} (h : n ≤ 9223372036854775807) : IntKind.wrap .i64 (n : Int) = (n : Int) := xZ (by omega) (by omega)
theorem pN (n k : Nat) (hk : k ≤ 64) : zA .shr .u64 (n : Int) (k : Int) = ((n / 2 ^ k : Nat) : Int) := by
 have h1 : min ((k : Int).toNat) (IntKind.bits .u64) = k := by simp [IntKind.bits]; omega
 show Int.fdiv (n : Int) (2 ^ (min ((k : Int).toNat) (IntKind.bits .u64))) = _
 rw [h1, Int.fdiv_eq_ediv_of_nonneg _ (by exact Int.pow_nonneg (by decide))]
 rw [Int.natCast_ediv, Int.natCast_pow]; rfl
theorem OE (n : Nat) : zA .shr .u64 (n : Int) 8 = ((n / 256 : Nat) : Int) := pN n 8 (by decide)
theorem PU (n : Nat) : zA .shr .u64 (n : Int) 16 = ((n / 65536 : Nat) : Int) := pN n 16 (by decide)
theorem Of (n : Nat) : zA .shr .u64 (n : Int) 32 = ((n / 4294967296 : Nat) : Int) := pN n 32 (by decide)
theorem PH (n : Nat) : zA .shr .u64 (n : Int) 63 = ((n / 9223372036854775808 : Nat) : Int) := pN n 63 (by decide)
theorem pF {n : Nat} (h : n < 18446744073709551616) : (BitVec.ofInt 64 (n : Int)).toNat = n := by
 rw [BitVec.toNat_ofInt]
 omega
theorem Xm {n : Nat} (h : n < 18446744073709551616) : xU .xor .u64 (if IntKind.u64.signed = true then -1 else IntKind.u64.max) (n : Int) = ((18446744073709551615 - n : Nat) : Int) := by
 rw [sk]
 have e1 : BitVec.ofInt 64 (if IntKind.u64.signed = true then -1 else IntKind.u64.max) = BitVec.allOnes 64 := by kernel_rfl
 show IntKind.wrap .u64 ((BitVec.ofInt 64 (if IntKind.u64.signed = true then -1 else IntKind.u64.max) ^^^ BitVec.ofInt 64 (n : Int)).toNat : Int) = _
 rw [e1, BitVec.allOnes_xor, BitVec.toNat_not, pF h]
 rw [show (2 ^ 64 - 1 - n : Nat) = 18446744073709551615 - n from rfl, wg (by omega)]
theorem Vq {n : Nat} (h : n < 9223372036854775808) : n ||| 9223372036854775808 = n + 9223372036854775808 := by
 have := Nat.two_pow_add_eq_or_of_lt (i := 63) (b := n) h 1
 rw [Nat.or_comm]
 simp only [Nat.mul_one] at this
 rw [show (9223372036854775808 : Nat) = 2 ^ 63 from rfl, ← this, Nat.add_comm]
theorem UM {n : Nat} (h : n < 9223372036854775808) : n ^^^ 9223372036854775808 = n + 9223372036854775808 := by
 rw [← Vq h]
 refine Nat.eq_of_testBit_eq fun i => ?_
 rw [Nat.testBit_xor, Nat.testBit_or, show (9223372036854775808 : Nat) = 2 ^ 63 from rfl, Nat.testBit_two_pow]
 by_cases hi : 63 = i
 ·subst hi
  rw [Nat.testBit_lt_two_pow (show n < 2 ^ 63 from h)]; rfl
 ·simp [hi]
theorem Rw {n : Nat} (h : n < 9223372036854775808) : xU .or .u64 (n : Int) (9223372036854775808 : Int) = ((n + 9223372036854775808 : Nat) : Int) := by
 rw [sk]
 show IntKind.wrap .u64 ((BitVec.ofInt 64 (n : Int) ||| BitVec.ofInt 64 (9223372036854775808 : Int)).toNat : Int) = _
 rw [BitVec.toNat_or, pF (by omega), show (9223372036854775808 : Int) = ((9223372036854775808 : Nat) : Int) from rfl, pF (by omega), Vq h, wg (by omega)]
theorem Wg {n : Nat} (h : n < 9223372036854775808) : xU .xor .u64 (n : Int) (9223372036854775808 : Int) = ((n + 9223372036854775808 : Nat) : Int) := by
 rw [sk]
 show IntKind.wrap .u64 ((BitVec.ofInt 64 (n : Int) ^^^ BitVec.ofInt 64 (9223372036854775808 : Int)).toNat : Int) = _
 rw [BitVec.toNat_xor, pF (by omega), show (9223372036854775808 : Int) = ((9223372036854775808 : Nat) : Int) from rfl, pF (by omega), UM h, wg (by omega)]
theorem mu {n k : Nat} (h : 2 ^ k ≤ n) : ut n = k + ut (n / 2 ^ k) := by
 have hp : 0 < 2 ^ k := Nat.two_pow_pos k
 have h1 : n ≠ 0 := by omega
 have h2 : n / 2 ^ k ≠ 0 := by
  have := Nat.div_pos h hp
  omega
 unfold ut
 rw [if_neg h1, if_neg h2]
 have e : n.log2 = k + (n / 2 ^ k).log2 := by
  refine (Nat.log2_eq_iff h1).2 ?_
  obtain ⟨q1, q2⟩ := (Nat.log2_eq_iff h2).1 rfl
  rw [Nat.pow_add, show k + (n / 2 ^ k).log2 + 1 = k + ((n / 2 ^ k).log2 + 1) from by omega, Nat.pow_add]
  constructor
  ·exact Nat.le_trans (Nat.mul_le_mul_left _ q1) (Nat.mul_div_le n (2 ^ k))
  ·have := (Nat.div_lt_iff_lt_mul hp).1 q2
   rw [Nat.mul_comm] at this
   exact this
 omega
theorem gg {n k : Nat} (h : n < 2 ^ k) : ut n ≤ k := by
 unfold ut
 split
 ·omega
 ·rename_i h0
  have := (Nat.log2_lt h0).2 h
  omega
theorem bN (n : Nat) : yb n = (ut n + 7) / 8 := by
 induction n using Nat.strongRecOn with
 | _ n ih =>
  by_cases h0 : n = 0
  ·subst h0; rw [ww]; rfl
  ·rw [tj h0]
   by_cases hl : n < 256
   ·have e0 : n / 256 = 0 := by omega
    rw [e0, ww]
    have h1 : ut n ≤ 8 := gg (k := 8) hl
    have h2 : 1 ≤ ut n := by unfold ut; rw [if_neg h0]; omega
    omega
   ·rw [ih (n / 256) (by omega), mu (k := 8) (n := n) (by omega)]
    show (ut (n / 256) + 7) / 8 + 1 = (8 + ut (n / 2 ^ 8) + 7) / 8
    rw [show (2 : Nat) ^ 8 = 256 from rfl]
    omega
theorem Wr {n : Nat} (h : n < 18446744073709551616) : ut n ≤ 64 := gg (k := 64) h
theorem wq {n : Nat} (h : n < 18446744073709551616) : yb n ≤ 8 := p7 (k := 8) h
def tab8S : ByteArray := ⟨#[0, 1, 2, 2, 3, 3, 3, 3, 4, 4, 4, 4, 4, 4, 4, 4, 5, 5, 5, 5, 5, 5, 5, 5, 5, 5, 5, 5, 5, 5, 5, 5, 6, 6, 6, 6, 6, 6, 6, 6, 6, 6, 6, 6, 6, 6, 6, 6, 6, 6, 6, 6, 6, 6, 6, 6, 6, 6, 6, 6, 6, 6, 6, 6, 7, 7, 7, 7, 7, 7, 7, 7, 7, 7, 7, 7, 7, 7, 7, 7, 7, 7, 7, 7, 7, 7, 7, 7, 7, 7, 7, 7, 7, 7, 7, 7, 7, 7, 7, 7, 7, 7, 7, 7, 7, 7, 7, 7, 7, 7, 7, 7, 7, 7, 7, 7, 7, 7, 7, 7, 7, 7, 7, 7, 7, 7, 7, 7, 8, 8, 8, 8, 8, 8, 8, 8, 8, 8, 8, 8, 8, 8, 8, 8, 8, 8, 8, 8, 8, 8, 8, 8, 8, 8, 8, 8, 8, 8, 8, 8, 8, 8, 8, 8, 8, 8, 8, 8, 8, 8, 8, 8, 8, 8, 8, 8, 8, 8, 8, 8, 8, 8, 8, 8, 8, 8, 8, 8, 8, 8, 8, 8, 8, 8, 8, 8, 8, 8, 8, 8, 8, 8, 8, 8, 8, 8, 8, 8, 8, 8, 8, 8, 8, 8, 8, 8, 8, 8, 8, 8, 8, 8, 8, 8, 8, 8, 8, 8, 8, 8, 8, 8, 8, 8, 8, 8, 8, 8, 8, 8, 8, 8, 8, 8, 8, 8, 8, 8, 8, 8, 8, 8, 8, 8, 8, 8]⟩
set_option maxRecDepth 100000 in
theorem Wz : ((List.range 256).all fun i => z7 tab8S (i : Int) == (ut i : Int)) = true := by kernel_rfl
theorem SB {i : Nat} (h : i < 256) : z7 tab8S (i : Int) = (ut i : Int) := by
 have := Nw.1 Wz i (List.mem_range.2 h)
 exact eq_of_beq this
theorem ZL : tab8S.size = 256 := by kernel_rfl
theorem PR {m c : Nat} (hm : m < 256) (hc : c ≤ 56) : (bif decide (0 ≤ IntKind.wrap .u8 (m : Int)) && decide (IntKind.wrap .u8 (m : Int) < (tab8S.size : Int)) then some (IntKind.wrap .i64 ((c : Int) + IntKind.wrap .i64 (z7 tab8S (IntKind.wrap .u8 (m : Int))))) else none) = some ((c + ut m : Nat) : Int) := by
 rw [li, Nat.mod_eq_of_lt hm, ZL, SB hm]
 have h1 : ut m ≤ 8 := gg (k := 8) hm
 rw [Ny (show (0 : Int) ≤ (m : Int) by omega), Ny (show (m : Int) < ((256 : Nat) : Int) by omega), xj (by omega)]
 show some (IntKind.wrap .i64 ((c : Int) + (ut m : Int))) = _
 rw [show ((c : Int) + (ut m : Int)) = ((c + ut m : Nat) : Int) by omega, xj (by omega)]
def T8 (T : ByteArray) (c m : Int) : Option Int := bif decide (0 ≤ IntKind.wrap .u8 m) && decide (IntKind.wrap .u8 m < (T.size : Int)) then some (IntKind.wrap .i64 (c + IntKind.wrap .i64 (z7 T (IntKind.wrap .u8 m)))) else none
def Pi (T : ByteArray) (c d m : Int) : Option Int := bif decide (m ≥ (256 : Int)) then T8 T d (zA .shr .u64 m (8 : Int)) else T8 T c m
def Ph (T : ByteArray) (c d e f m : Int) : Option Int := bif decide (m ≥ (65536 : Int)) then Pi T e f (zA .shr .u64 m (16 : Int)) else Pi T c d m
def P3 (T : ByteArray) (x : Int) : Option Int := bif decide (x ≥ (4294967296 : Int)) then Ph T 32 40 48 56 (zA .shr .u64 x (32 : Int)) else Ph T 0 8 16 24 x
theorem aq {m c : Nat} (hm : m < 256) (hc : c ≤ 56) : T8 tab8S (c : Int) (m : Int) = some ((c + ut m : Nat) : Int) := PR hm hc
theorem VJ {m c d : Nat} (hm : m < 65536) (hc : c ≤ 48) (hd : d = c + 8) : Pi tab8S (c : Int) (d : Int) (m : Int) = some ((c + ut m : Nat) : Int) := by
 unfold Pi
 rw [OE]
 by_cases h8 : 256 ≤ m
 ·rw [Ny (show (m : Int) ≥ 256 by omega), Nv, aq (by omega) (by omega), mu (k := 8) (n := m) h8]
  show some ((d + ut (m / 256) : Nat) : Int) = some ((c + (8 + ut (m / 256)) : Nat) : Int)
  rw [hd, Nat.add_assoc]
 ·rw [NR (show ¬ (m : Int) ≥ 256 by omega), Nu, aq (by omega) (by omega)]
theorem Vv {m c d e f : Nat} (hm : m < 4294967296) (hc : c ≤ 32) (hd : d = c + 8) (he : e = c + 16) (hf : f = c + 24) : Ph tab8S (c : Int) (d : Int) (e : Int) (f : Int) (m : Int) = some ((c + ut m : Nat) : Int) := by
 unfold Ph
 rw [PU]
 by_cases h8 : 65536 ≤ m
 ·rw [Ny (show (m : Int) ≥ 65536 by omega), Nv, VJ (by omega) (by omega) (by omega), mu (k := 16) (n := m) h8]
  show some ((e + ut (m / 65536) : Nat) : Int) = some ((c + (16 + ut (m / 65536)) : Nat) : Int)
  rw [he, Nat.add_assoc]
 ·rw [NR (show ¬ (m : Int) ≥ 65536 by omega), Nu, VJ (by omega) (by omega) (by omega)]
theorem Ru {n : Nat} (h : n < 18446744073709551616) : P3 tab8S (n : Int) = some ((ut n : Nat) : Int) := by
 unfold P3
 rw [Of]
 by_cases h8 : 4294967296 ≤ n
 ·rw [Ny (show (n : Int) ≥ 4294967296 by omega), Nv, mu (k := 32) (n := n) h8]
  exact Vv (m := n / 4294967296) (c := 32) (d := 40) (e := 48) (f := 56) (by omega) (by decide) rfl rfl rfl
 ·rw [NR (show ¬ (n : Int) ≥ 4294967296 by omega), Nu]
  have := Vv (m := n) (c := 0) (d := 8) (e := 16) (f := 24) (by omega) (by decide) rfl rfl rfl
  rw [Nat.zero_add] at this
  exact this
set_option maxRecDepth 100000 in
theorem Sp (x : Int) : f185.g 0 x = P3 tab8S x := by
 unfold f185.g
 kernel_rfl
theorem Tm : ∀ X Y, S0 X = some Y → ∃ n, f185.g n X = some Y := by
 intro x y h
 obtain ⟨hw, rfl⟩ := zr h
 obtain ⟨n, rfl, hn⟩ := sA hw
 exact ⟨0, (Sp _).trans (Ru hn)⟩
set_option maxRecDepth 100000 in
theorem Yo : ConOk Tryz.prog 185 ap := f185.ok Tm
theorem YW {n : Nat} (h : n < 18446744073709551616) : S0 (n : Int) = some ((ut n : Nat) : Int) := zp (sq h)
theorem V4 : ∀ X Y, VS X = some Y → ∃ n, f161.g n X = some Y := by
 intro x y h
 obtain ⟨hw, rfl⟩ := zr h
 obtain ⟨n, rfl, hn⟩ := sA hw
 have h1 := Wr hn
 refine ⟨0, ?_⟩
 have e1 : IntKind.wrap .i64 ((ut n : Int) + 7) = ((ut n + 7 : Nat) : Int) := by rw [show ((ut n : Int) + 7) = ((ut n + 7 : Nat) : Int) by omega, xj (by omega)]
 have e2 : Int.tdiv ((ut n + 7 : Nat) : Int) 8 = (((ut n + 7) / 8 : Nat) : Int) := rfl
 simp only [f161.g, YW hn, Nx, e1, e2]
 rw [xj (by omega), ← bN]; rfl
theorem a9 : ConOk Tryz.prog 161 bL := f161.ok V4 Yo
theorem fL {n : Nat} (h : n < 18446744073709551616) : VS (n : Int) = some ((yb n : Nat) : Int) := by
 show x5 (uu (n : Int)) ((yb ((n : Int).toNat) : Nat) : Int) = _
 rw [zp (sq h), Int.toNat_natCast]
theorem m8 {n : Nat} (h : n < 18446744073709551616) : UC (n : Int) = some ((yb n : Nat) : Int) := by
 show x5 (uu (n : Int)) ((yb ((n : Int).toNat) : Nat) : Int) = _
 rw [zp (sq h), Int.toNat_natCast]
theorem n6 (N : Nat) (x : Int) : ∀ (m n k : Nat), n < 18446744073709551616 → k + yb n ≤ 64 → yb n < m → zY (f110.s1 N x) m ((n : Int), (k : Int)) = some ((k + yb n : Nat) : Int)
 | 0, n, k, _, _, h => by omega
 | m + 1, n, k, hn, hk, hm => by
  show f110.s1 N x (zY (f110.s1 N x) m) ((n : Int), (k : Int)) = _
  by_cases h0 : n = 0
  ·subst h0
   rw [ww]; rfl
  ·have hp := tj h0
   have h1 : decide ((n : Int) > 0) = true := Ny (by omega)
   simp only [f110.s1, h1, Nv, OE]
   rw [show ((k : Int) + 1) = ((k + 1 : Nat) : Int) by omega, xj (by omega), n6 N x m (n / 256) (k + 1) (by omega) (by omega) (by omega), hp]
   congr 2; omega
theorem SN : ∀ X Y, UC X = some Y → ∃ n, f110.g n X = some Y := by
 intro x y h
 obtain ⟨hw, rfl⟩ := zr (show x5 (uu x) (yb x.toNat : Int) = some y from h)
 obtain ⟨n, rfl, hn⟩ := sA hw
 have h1 := wq hn
 refine ⟨10, ?_⟩
 have := n6 10 (n : Int) 10 n 0 hn (by omega) (by omega)
 rw [Nat.zero_add] at this
 exact this
theorem cN : ConOk Tryz.prog 110 bf := f110.ok SN
theorem ff (n j : Nat) (hj : j ≤ 7) : IntKind.wrap .u8 (zA .shr .u64 (n : Int) ((8 * j : Nat) : Int)) = ((n / 256 ^ j % 256 : Nat) : Int) := by
 rw [pN n (8 * j) (by omega), li, Nat.pow_mul]
theorem nS (N : Nat) (n k : Nat) (b0 : List Int) : ∀ (m j : Nat) (acc : List Int), j ≤ 8 → acc.length + j ≤ 2000000 → j < m →
  zY (f162.s1 N (((n : Int), (k : Int)), b0)) m (acc.length, ((j : Int) - 1, acc)) = some (acc ++ beL n j)
 | 0, j, acc, _, _, h => by omega
 | m + 1, 0, acc, hj, hl, hm => by
  show f162.s1 N _ _ (acc.length, (((0 : Nat) : Int) - 1, acc)) = _
  have h1 : decide (((0 : Nat) : Int) - 1 ≥ (0 : Int)) = false := rfl
  simp only [f162.s1, h1, Nu, NI, beL, List.append_nil]
 | m + 1, j + 1, acc, hj, hl, hm => by
  show f162.s1 N _ (zY (f162.s1 N (((n : Int), (k : Int)), b0)) m) (acc.length, (((j + 1 : Nat) : Int) - 1, acc)) = _
  have e0 : ((j + 1 : Nat) : Int) - 1 = (j : Int) := by omega
  have h1 : decide ((j : Int) ≥ (0 : Int)) = true := Ny (by omega)
  have e8 : IntKind.wrap .i64 ((8 : Int) * (j : Int)) = ((8 * j : Nat) : Int) := by rw [show (8 : Int) * (j : Int) = ((8 * j : Nat) : Int) by omega, xj (by omega)]
  have h2 : decide (((8 * j : Nat) : Int) < 0) = false := NR (by omega)
  have h3 : decide ((acc.length + 1) * 1 ≤ zo) = true := Ny (by rw [show zo = 140737488355328 from rfl]; omega)
  have e1 : IntKind.wrap .i64 ((j : Int) - 1) = (j : Int) - 1 := xZ (by omega) (by omega)
  have hb := ff n j (by omega)
  simp only [f162.s1, e0, h1, Nv, e8, h2, Nu, h3, NI, e1, hb]
  have := nS N n k b0 m j (acc ++ [((n / 256 ^ j % 256 : Nat) : Int)]) (by omega) (by rw [NV]; simp only [List.length_singleton]; omega) (by omega)
  rw [NV, List.length_singleton] at this
  rw [this, NU]; rfl
theorem Th : ∀ X Y, YM X = some Y → ∃ n, f162.g n X = some Y := by
 rintro ⟨⟨u, k⟩, b⟩ y h
 obtain ⟨hw, rfl⟩ := zr h
 simp only [Nt, NO, oQ] at hw
 obtain ⟨⟨h1, h2, h3⟩, h4⟩ := hw
 obtain ⟨n, rfl, hn⟩ := sA h1
 obtain ⟨j, rfl⟩ : ∃ j : Nat, k = (j : Int) := ⟨k.toNat, by omega⟩
 refine ⟨j + 1, ?_⟩
 have := nS (j + 1) n j b (j + 1) j b (by omega) (by omega) (by omega)
 have e1 : IntKind.wrap .i64 ((j : Int) - 1) = (j : Int) - 1 := xZ (by omega) (by omega)
 show zY _ (j + 1) (b.length, (IntKind.wrap .i64 ((j : Int) - 1), b)) = _
 rw [e1, this]; rfl
theorem km : ConOk Tryz.prog 162 lF := f162.ok Th
theorem mw {n k : Nat} {b : List Int} (hn : n < 18446744073709551616) (hk : k ≤ 8) (hb : b.length ≤ 1048640) : YM (((n : Int), (k : Int)), b) = some (b ++ beL n k) := by
 refine zp ?_
 simp only [Nt, NO, oQ]
 exact ⟨⟨sq hn, by omega, by omega⟩, hb⟩
theorem kp (N : Nat) (n k : Nat) : ∀ (m j : Nat) (acc : List Int), j ≤ 8 → acc.length + j ≤ 2000000 → j < m →
  zY (f111.s1 N ((n : Int), (k : Int))) m (acc.length, ((j : Int) - 1, acc)) = some (acc ++ beL n j)
 | 0, j, acc, _, _, h => by omega
 | m + 1, 0, acc, hj, hl, hm => by
  show f111.s1 N _ _ (acc.length, (((0 : Nat) : Int) - 1, acc)) = _
  have h1 : decide (((0 : Nat) : Int) - 1 ≥ (0 : Int)) = false := rfl
  simp only [f111.s1, h1, Nu, NI, beL, List.append_nil]
 | m + 1, j + 1, acc, hj, hl, hm => by
  show f111.s1 N _ (zY (f111.s1 N ((n : Int), (k : Int))) m) (acc.length, (((j + 1 : Nat) : Int) - 1, acc)) = _
  have e0 : ((j + 1 : Nat) : Int) - 1 = (j : Int) := by omega
  have h1 : decide ((j : Int) ≥ (0 : Int)) = true := Ny (by omega)
  have e8 : IntKind.wrap .u64 (IntKind.wrap .i64 ((8 : Int) * (j : Int))) = ((8 * j : Nat) : Int) := by rw [show (8 : Int) * (j : Int) = ((8 * j : Nat) : Int) by omega, xj (by omega), wg (by omega)]
  have h2 : decide (((8 * j : Nat) : Int) < 0) = false := NR (by omega)
  have h3 : decide ((acc.length + 1) * 1 ≤ zo) = true := Ny (by rw [show zo = 140737488355328 from rfl]; omega)
  have e1 : IntKind.wrap .i64 ((j : Int) - 1) = (j : Int) - 1 := xZ (by omega) (by omega)
  have hb := ff n j (by omega)
  simp only [f111.s1, e0, h1, Nv, e8, h2, Nu, h3, NI, e1, hb]
  have := kp N n k m j (acc ++ [((n / 256 ^ j % 256 : Nat) : Int)]) (by omega) (by rw [NV]; simp only [List.length_singleton]; omega) (by omega)
  rw [NV, List.length_singleton] at this
  rw [this, NU]; rfl
theorem Ue : ∀ X Y, nv X = some Y → ∃ n, f111.g n X = some Y := by
 rintro ⟨u, k⟩ y h
 obtain ⟨hw, rfl⟩ := zr h
 simp only [Nt, NO] at hw
 obtain ⟨h1, h2, h3⟩ := hw
 obtain ⟨n, rfl, hn⟩ := sA h1
 obtain ⟨j, rfl⟩ : ∃ j : Nat, k = (j : Int) := ⟨k.toNat, by omega⟩
 refine ⟨j + 1, ?_⟩
 have := kp (j + 1) n j (j + 1) j [] (by omega) (by simp; omega) (by omega)
 have e1 : IntKind.wrap .i64 ((j : Int) - 1) = (j : Int) - 1 := xZ (by omega) (by omega)
 show zY _ (j + 1) (0, (IntKind.wrap .i64 ((j : Int) - 1), [])) = _
 rw [e1]
 exact this
theorem kS : ConOk Tryz.prog 111 lU := f111.ok Ue
theorem qP {n k : Nat} (hn : n < 18446744073709551616) (hk : k ≤ 8) : nv ((n : Int), (k : Int)) = some (beL n k) := by
 refine zp ?_
 simp only [Nt, NO]
 exact ⟨sq hn, by omega, by omega⟩
theorem y6 {α : Type} (b : List α) (c : α) : List.take (b.length + 1) (List.take b.length b ++ [c]) = b ++ [c] := by
 rw [NI]
 exact List.take_of_length_le (by simp)
theorem sU {α : Type} (c : α) (r : List α) : List.take (1 + r.length) (List.take 1 [c] ++ r) = c :: r := by
 exact List.take_of_length_le (by simp; omega)
theorem wy {n : Nat} (h : n ≤ 140737488355328) : decide (n * 1 ≤ zo) = true := Ny (by rw [show zo = 140737488355328 from rfl]; omega)
theorem Vr {k : Nat} (h : k ≤ 8) : IntKind.wrap .u8 (IntKind.wrap .i64 ((128 : Int) + (k : Int))) = ((128 + k : Nat) : Int) := by
 rw [show ((128 : Int) + (k : Int)) = ((128 + k : Nat) : Int) by omega, xj (by omega), li, Nat.mod_eq_of_lt (by omega)]
theorem gJ {k : Nat} (h : k ≤ 8) : IntKind.wrap .u8 (IntKind.wrap .i64 ((128 : Int) - (k : Int))) = (128 : Int) - (k : Int) := by
 rw [show ((128 : Int) - (k : Int)) = ((128 - k : Nat) : Int) by omega, xj (by omega), li, Nat.mod_eq_of_lt (by omega)]
theorem SE (k : Nat) : mz true (k : Int) (1 : Int) = ((max k 1 : Nat) : Int) := by
 unfold mz
 rw [Nv]
 by_cases h : k < 1
 ·rw [Ny (show (1 : Int) > (k : Int) by omega), Nv]; omega
 ·rw [NR (show ¬ (1 : Int) > (k : Int) by omega), Nu]; omega
theorem oX (n : Nat) : tu (n : Int) = ((128 + yb n : Nat) : Int) :: beL n (yb n) := by
 unfold tu
 rw [if_pos (by omega), Int.toNat_natCast]
theorem pX {v : Int} {m : Nat} (h : v < 0) (hm : -(v + 1) = (m : Int)) : tu v = ((128 : Int) - ((max (yb m) 1 : Nat) : Int)) :: beL (18446744073709551615 - m) (max (yb m) 1) := by
 unfold tu
 rw [if_neg (by omega), hm, Int.toNat_natCast]
theorem ip {n : Int} : okI n = true ↔ -9223372036854775808 ≤ n ∧ n ≤ 9223372036854775807 := by
 unfold okI
 rw [Nt, NO, NO]
theorem TU : ∀ X Y, Uu X = some Y → ∃ n, f121.g n X = some Y := by
 rintro ⟨v, b⟩ y h
 obtain ⟨hc, rfl⟩ := zr h
 simp only [Nt, oQ, NO, ip] at hc
 obtain ⟨⟨hv1, hv2⟩, hb⟩ := hc
 refine ⟨0, ?_⟩
 have hr : decide ((b.length + 1) * 1 ≤ zo) = true := wy (by omega)
 by_cases h0 : 0 ≤ v
 ·obtain ⟨n, rfl⟩ : ∃ n : Nat, v = (n : Int) := ⟨v.toNat, by omega⟩
  have d1 : decide ((n : Int) ≥ (0 : Int)) = true := Ny (by omega)
  have hs := wq (n := n) (by omega)
  unfold f121.g
  dsimp only
  rw [d1, Nv, wg (show n < 18446744073709551616 by omega), fL (show n < 18446744073709551616 by omega), Nx, hr, Nv, y6, Vr hs]
  rw [mw (by omega) hs (by simp; omega), Nx, NI, oX, NU]
  simp only [List.cons_append, List.nil_append]
 ·obtain ⟨m, hm⟩ : ∃ m : Nat, -(v + 1) = (m : Int) := ⟨(-(v + 1)).toNat, by omega⟩
  have d1 : decide (v ≥ (0 : Int)) = false := NR (by omega)
  have e1 : IntKind.wrap .i64 (v + (1 : Int)) = v + 1 := xZ (by omega) (by omega)
  have e2 : IntKind.wrap .i64 (0 - (v + 1)) = (m : Int) := by rw [xZ (by omega) (by omega)]; omega
  have hs := wq (n := m) (by omega)
  have hk : max (yb m) 1 ≤ 8 := by omega
  unfold f121.g
  dsimp only
  rw [d1, Nu, e1, e2, wg (show m < 18446744073709551616 by omega), fL (show m < 18446744073709551616 by omega), Nx, hr, Nv, SE, gJ hk, y6, Xm (show m < 18446744073709551616 by omega)]
  rw [mw (by omega) hk (by simp; omega), Nx, NI, pX (by omega) hm, NU]
  simp only [List.cons_append, List.nil_append]
theorem aA : ConOk Tryz.prog 121 ao := f121.ok TU a9 km
theorem RU : ∀ X Y, F65 X = some Y → ∃ n, f65.g n X = some Y := by
 intro v y h
 obtain ⟨hc, rfl⟩ := zr h
 obtain ⟨hv1, hv2⟩ := ip.1 hc
 refine ⟨0, ?_⟩
 have h1 : decide (1 * 1 ≤ zo) = true := by decide
 have Pg (k : Nat) (hk : k ≤ 8) (n : Nat) : decide ((1 + (beL n k).length) * 1 ≤ zo) = true := wy (by rw [nw]; omega)
 by_cases h0 : 0 ≤ v
 ·obtain ⟨n, rfl⟩ : ∃ n : Nat, v = (n : Int) := ⟨v.toNat, by omega⟩
  have d1 : decide ((n : Int) ≥ (0 : Int)) = true := Ny (by omega)
  have hs := wq (n := n) (by omega)
  unfold f65.g
  rw [d1, Nv, wg (show n < 18446744073709551616 by omega), m8 (show n < 18446744073709551616 by omega), Nx, h1, Nv, qP (show n < 18446744073709551616 by omega) hs, Nx, Pg _ hs, Nv, sU, Vr hs, oX]
 ·obtain ⟨m, hm⟩ : ∃ m : Nat, -(v + 1) = (m : Int) := ⟨(-(v + 1)).toNat, by omega⟩
  have d1 : decide (v ≥ (0 : Int)) = false := NR (by omega)
  have e1 : IntKind.wrap .i64 (v + (1 : Int)) = v + 1 := xZ (by omega) (by omega)
  have e2 : IntKind.wrap .i64 (0 - (v + 1)) = (m : Int) := by rw [xZ (by omega) (by omega)]; omega
  have hs := wq (n := m) (by omega)
  have hx := Xm (show m < 18446744073709551616 by omega)
  rw [pX (by omega) hm]
  by_cases hz : yb m = 0
  ·have b0 : (((yb m : Nat) : Int) == (0 : Int)) = true := by rw [hz]; rfl
   have e3 : nv (((18446744073709551615 - m : Nat) : Int), (1 : Int)) = some (beL (18446744073709551615 - m) 1) := qP (k := 1) (by omega) (by decide)
   unfold f65.g
   rw [d1, Nu, e1, e2, wg (show m < 18446744073709551616 by omega), m8 (show m < 18446744073709551616 by omega), Nx, b0, Nv, h1, Nv, hx, e3, Nx, Pg 1 (by decide), Nv, sU]
   have e5 : ((128 : Int) - ((1 : Nat) : Int)) = 127 := rfl
   rw [hz, show max 0 1 = 1 from rfl, e5]
  ·have b0 : (((yb m : Nat) : Int) == (0 : Int)) = false := by rw [beq_eq_false_iff_ne]; omega
   have hk : max (yb m) 1 = yb m := by omega
   rw [hk]
   unfold f65.g
   rw [d1, Nu, e1, e2, wg (show m < 18446744073709551616 by omega), m8 (show m < 18446744073709551616 by omega), Nx, b0, Nu, h1, Nv, hx, qP (show 18446744073709551615 - m < 18446744073709551616 by omega) hs, Nx, Pg _ hs, Nv, sU, gJ hs]
theorem Y8 : ConOk Tryz.prog 65 V9 := f65.ok RU cN kS
theorem fk {p : Nat} (h : p < 18446744073709551616) : (zA .shr .u64 (p : Int) (63 : Int) == (0 : Int)) = decide (p < 9223372036854775808) := by
 rw [PH, Bool.eq_iff_iff, beq_iff_eq, NO]
 omega
theorem Sm : ∀ X Y, TV X = some Y → ∃ n, f122.g n X = some Y := by
 rintro ⟨u, b⟩ y h
 obtain ⟨hc, rfl⟩ := zr h
 simp only [Nt, oQ, NO] at hc
 obtain ⟨hu, hb⟩ := hc
 refine ⟨0, ?_⟩
 have e63 : F63 u = some (u : Int) := rfl
 have e8 (k : Nat) (hk : k < 18446744073709551616) : YM (((k : Int), (8 : Int)), b) = some (b ++ beL k 8) := mw (k := 8) hk (by decide) (by omega)
 simp only [f122.g, e63, Nx, fk hu, NI, tE, So]
 by_cases hp : u < 9223372036854775808
 ·rw [Ny hp, Nv, Rw hp, e8 _ (by omega), Nx, if_pos hp]
 ·rw [NR hp, Nu, Xm hu, e8 _ (by omega), Nx, if_neg hp]
theorem Zc : ConOk Tryz.prog 122 Yn := f122.ok Sm s8 km
theorem i2 {p : Nat} (hp : p < 18446744073709551616) : (bif zA .shr .u64 (p : Int) (63 : Int) == (0 : Int) then
   ((nv (xU .xor .u64 (p : Int) (9223372036854775808 : Int), (8 : Int))).bind fun r => some r)
  else ((nv (xU .xor .u64 (if IntKind.u64.signed = true then -1 else IntKind.u64.max) (p : Int), (8 : Int))).bind fun r => some r)) = some (tE p) := by
 have e8 (k : Nat) (hk : k < 18446744073709551616) : nv ((k : Int), (8 : Int)) = some (beL k 8) := qP (k := 8) hk (by decide)
 rw [fk hp]
 unfold tE So
 by_cases h : p < 9223372036854775808
 ·rw [Ny h, Nv, Wg h, e8 _ (by omega), if_pos h]; rfl
 ·rw [NR h, Nu, Xm hp, e8 _ (by omega), if_neg h]; rfl
theorem Qc : ∀ X Y, F66 X = some Y → ∃ n, f66.g n X = some Y := by
 intro u y h
 obtain ⟨hc, rfl⟩ := zr h
 have hu := NK hc
 refine ⟨0, ?_⟩
 have e63 : F63 u = some (u : Int) := rfl
 rw [← fl hu]
 show f66.g 0 u = some (tE (wV (3, (0, (u, noS)))).2.2.1)
 have ep : (wV (3, (0, (u, noS)))).2.2.1 = bif fo u 0 == some .eq then 0 else bif fo u u != some .eq then cl else u := by
  unfold wV
  cases (fo u 0 == some .eq) <;> cases (fo u u != some .eq) <;> rfl
 rw [ep]
 have hg : f66.g 0 u = (F63 u).bind fun r1 => bif fo u 0 == some .eq then (bif fo u u != some .eq then _ else _) else (bif fo u u != some .eq then _ else _) := rfl
 rw [hg, e63, Nx]
 cases h1 : (fo u 0 == some .eq) with
 | true =>
  cases h2 : (fo u u != some .eq) with
  | true => rw [mq h2] at h1; cases h1
  | false =>
   have hz := i2 (p := 0) (by decide)
   rw [show ((0 : Nat) : Int) = 0 from rfl] at hz
   simp only [Nv, Nu]
   exact hz
 | false =>
  cases h2 : (fo u u != some .eq) with
  | true =>
   have hz := i2 (p := 9221120237041090560) (by decide)
   rw [show ((9221120237041090560 : Nat) : Int) = 9221120237041090560 from rfl] at hz
   simp only [Nv, Nu, cl]
   exact hz
  | false =>
   simp only [Nu]
   exact i2 hu
theorem Xv : ConOk Tryz.prog 66 Sf := f66.ok Qc s8 kS
end Go.Proofs.YtefddghdaimklaaGreatDoor.AI
/- Texts and values as bytes. -/
namespace Go.Proofs.YtefddghdaimklaaGreatDoor.AI
open Go
theorem X0 (s : ByteArray) : ∀ x ∈ zJ s, 0 ≤ x ∧ x ≤ 255 := by
 intro x hx
 unfold zJ at hx
 obtain ⟨b, _, rfl⟩ := List.mem_map.1 hx
 have := UInt8.toNat_lt b
 omega
theorem u5 (s : ByteArray) : (zJ s).length = s.size := by unfold zJ; rw [List.length_map, Array.length_toList]; rfl
theorem kK : ∀ l : List Int, (∀ x ∈ l, 0 ≤ x ∧ x ≤ 255) → ∀ x ∈ qC l, 0 ≤ x ∧ x ≤ 255
 | [], _, x, h => by simp [qC] at h
 | b :: r, hl, x, h => by
  have ih := kK r (fun y hy => hl y (by simp [hy])) x
  rw [qC] at h
  cases hb : b == 0 with
  | true =>
   rw [hb, Nv] at h
   rcases NM.1 h with rfl | h
   ·omega
   ·rcases NM.1 h with rfl | h
    ·omega
    ·exact ih h
  | false =>
   rw [hb, Nu] at h
   rcases NM.1 h with rfl | h
   ·exact hl x (by simp)
   ·exact ih h
theorem j2 : ∀ l : List Int, (qC l).length ≤ 2 * l.length
 | [] => NF _
 | b :: r => by
  have := j2 r
  rw [qC]
  cases b == 0 <;> simp <;> omega
theorem im : ∀ l : List Int, rl l = qC l ++ [0]
 | [] => rfl
 | b :: r => by
  rw [rl, qC, im r]
  cases b == 0 <;> rfl
theorem YY {α : Type} (a b : List α) : List.take (a.length + b.length) (List.take a.length a ++ b) = a ++ b := by
 rw [NI]
 exact List.take_of_length_le (by simp)
theorem Sl : ∀ X Y, Wa X = some Y → ∃ n, f124.g n X = some Y := by
 rintro ⟨s, b⟩ y h
 obtain ⟨hc, rfl⟩ := zr h
 simp only [Nt, oQ, NO] at hc
 obtain ⟨hs, hb⟩ := hc
 refine ⟨0, ?_⟩
 have er : PW (s, ((⟨#[0]⟩ : ByteArray), (⟨#[0, 255]⟩ : ByteArray))) = some (zC (qC (zJ s))) := by
  show (bif decide (s.size ≤ 65536) && (zd (⟨#[0]⟩ : ByteArray) ⟨#[0]⟩ && zd (⟨#[0, 255]⟩ : ByteArray) ⟨#[0, 255]⟩) then some (zC (qC (zJ s))) else none) = _
  rw [Ny hs, (wi _ _).2 rfl, (wi _ _).2 rfl]; rfl
 have el : tw (zC (qC (zJ s))) = qC (zJ s) := vR (kK _ (X0 s))
 have hl := j2 (zJ s)
 rw [u5] at hl
 have h1 : decide ((b.length + (qC (zJ s)).length) * 1 ≤ zo) = true := wy (by omega)
 have h2 : decide (((b.length + (qC (zJ s)).length) + 1) * 1 ≤ zo) = true := wy (by omega)
 simp only [f124.g, er, Nx, el, h1, h2, Nv]
 have e3 : List.take (b.length + (qC (zJ s)).length) (List.take b.length b ++ qC (zJ s)) = b ++ qC (zJ s) := YY _ _
 rw [e3, List.take_of_length_le (by simp; omega), im, NU]
theorem cW : ConOk Tryz.prog 124 bD := f124.ok Sl cH
theorem Wp {s : ByteArray} {i : Nat} {v : Int} (h : (zJ s)[i]? = some v) : z7 s (i : Int) = v := by
 unfold zJ at h
 rw [List.getElem?_map] at h
 obtain ⟨b, hb, rfl⟩ := Option.map_eq_some_iff.1 h
 have e : s[i]? = some b := by
  obtain ⟨hlt, he⟩ := NB.1 hb
  have hlt' : i < s.size := by
   have e : s.data.toList.length = s.size := by rw [Array.length_toList]; rfl
   omega
  rw [getElem?_pos s i hlt']
  congr 1
 show (match s[((i : Int)).toNat]? with | some b => (b.toNat : Int) | none => 0) = _
 rw [Int.toNat_natCast, e]
theorem Qb : ∀ X Y, F67 X = some Y → ∃ n, f67.g n X = some Y := by
 intro s y h
 obtain ⟨hc, rfl⟩ := zr h
 have hs := NK hc
 refine ⟨(zJ s).length + 1, ?_⟩
 have hsz := u5 s
 have := z9 (step := f67.s1 ((zJ s).length + 1) s) (zJ s) (fun i (a : List Int) => (a.length, ((i : Int), a))) (fun i a => a.length ≤ 2 * i) (fun i a r => some (a ++ rl r))
  (fun S a ha => by
   have h1 : decide (((zJ s).length : Int) < (s.size : Int)) = false := by rw [hsz]; simp
   have h2 : decide ((a.length + 1) * 1 ≤ zo) = true := wy (by omega)
   simp only [f67.s1, h1, Nu, h2, Nv, y6, rl])
  (fun S i a v r hi hv hr ha ih => by
   have h1 : decide ((i : Int) < (s.size : Int)) = true := Ny (by omega)
   have h2 : decide ((a.length + 1) * 1 ≤ zo) = true := wy (by omega)
   have h3 : decide (((a.length + 1) + 1) * 1 ≤ zo) = true := wy (by omega)
   have hn := nx (i := i) (by omega)
   simp only [f67.s1, h1, yZ, NC, Nv, h2, h3, Wp hv, hn]
   cases hb : v == 0 with
   | true =>
    have := ih (a ++ [v, 255]) (by simp; omega)
    simp only [NV, List.length_cons, List.length_nil] at this
    rw [Nv, y6, NU]
    show S (a.length + 1 + 1, (((i + 1 : Nat) : Int), a ++ ([v] ++ [255]))) = _
    rw [show a.length + 1 + 1 = a.length + (0 + 1 + 1) by omega]
    rw [show ([v] ++ [255] : List Int) = [v, 255] from rfl, this, rl, hb, Nv, eq_of_beq hb, NU]; rfl
   | false =>
    have := ih (a ++ [v]) (by simp; omega)
    simp only [NV, List.length_cons, List.length_nil] at this
    rw [Nu, NI]
    rw [show a.length + 1 = a.length + (0 + 1) by omega, this, rl, hb, Nu, NU]; rfl)
  ((zJ s).length + 1) (NG _) [] (by simp)
 exact this
theorem Wn : ConOk Tryz.prog 67 Sn := f67.ok Qb
theorem vq {c : Bool} {k r : Int} (hk : k ≠ 0) (h : (bif c then k else r) = 0) : c = false ∧ r = 0 := by
 cases c with
 | true => exact absurd h hk
 | false => exact ⟨rfl, h⟩
theorem rP {k i : Int} {u : Nat} {s : ByteArray} (h : zt (k, (i, (u, s))) = 0) : 0 ≤ k ∧ k ≤ 5 ∧ (k = 1 → i = 0 ∨ i = 1) ∧ s.size ≤ 65536 := by
 unfold zt at h
 obtain ⟨h1, h⟩ := vq (by decide) h
 obtain ⟨h2, h⟩ := vq (by decide) h
 obtain ⟨h3, h⟩ := vq (by decide) h
 obtain ⟨h4, h⟩ := vq (by decide) h
 obtain ⟨h5, h⟩ := vq (by decide) h
 obtain ⟨h6, h⟩ := vq (by decide) h
 simp only [Bool.or_eq_false_iff, decide_eq_false_iff_not] at h1
 have h6' : ¬ ((s.size : Int) > 65536) := of_decide_eq_false h6
 refine ⟨by omega, by omega, fun e => ?_, by omega⟩
 subst e
 rw [Bool.or_eq_false_iff] at h2
 have h7 := h2.1
 by_cases a : i = 0
 ·exact .inl a
 ·by_cases b : i = 1
  ·exact .inr b
  ·have e1 : (i != 0) = true := by rw [bne_iff_ne]; exact a
   have e2 : (i != 1) = true := by rw [bne_iff_ne]; exact b
   have h8 : ((1 : Int) == 1 && i != 0 && i != 1) = false := h7
   rw [e1, e2] at h8
   cases h8
theorem jS {i : Int} {u : Nat} {s : ByteArray} (hu : u < 18446744073709551616) : (wV (3, (i, (u, s)))).2.2.1 = x6 (wv u) := by
 rw [← fl hu]
 show (bif fo u 0 == some .eq then ((3 : Int), i, 0, s) else bif fo u u != some .eq then ((3 : Int), i, cl, s) else ((3 : Int), i, u, s)).2.2.1 = (bif fo u 0 == some .eq then ((3 : Int), (0 : Int), 0, noS) else bif fo u u != some .eq then ((3 : Int), (0 : Int), cl, noS) else ((3 : Int), (0 : Int), u, noS)).2.2.1
 cases (fo u 0 == some .eq) <;> cases (fo u u != some .eq) <;> rfl
theorem aM (u : Nat) : x6 (wv u) < 18446744073709551616 := by
 have := mQ u
 unfold x6
 split <;> omega
theorem oO {k i : Int} {u : Nat} {s : ByteArray} (h : okZ (k, (i, (u, s))) = true) : okI i = true ∧ u < 18446744073709551616 := by
 unfold okZ at h
 rw [Nt, Nt, NO] at h
 exact ⟨h.2.1, h.2.2⟩
theorem fa {i : Int} (h : i = 0 ∨ i = 1) : IntKind.wrap .u8 i = i := by
 rcases h with rfl | rfl <;> rfl
theorem Yv {n : Int} {b : List Int} (h : okI n = true) (hb : b.length ≤ 1048592) : Uu (n, b) = some (b ++ tu n) := by
 refine zp ?_
 rw [Nt]
 exact ⟨h, Ny hb⟩
theorem YF {u : Nat} {b : List Int} (h : u < 18446744073709551616) (hb : b.length ≤ 1048592) : TV (u, b) = some (b ++ tE u) := by
 refine zp ?_
 rw [Nt]
 exact ⟨Ny h, Ny hb⟩
theorem kM {s : ByteArray} {b : List Int} (h : s.size ≤ 65536) (hb : b.length ≤ 1048592) : Wa (s, b) = some (b ++ rl (zJ s)) := by
 refine zp ?_
 rw [Nt]
 exact ⟨Ny h, Ny hb⟩
theorem QB : ∀ X Y, F76 X = some Y → ∃ n, f76.g n X = some Y := by
 rintro ⟨⟨k, i, u, s⟩, b⟩ y h
 obtain ⟨hc, rfl⟩ := zr h
 simp only [Nt, oQ, NO, beq_iff_eq] at hc
 obtain ⟨⟨hz, hv⟩, hb⟩ := hc
 obtain ⟨hi, hu⟩ := oO hz
 obtain ⟨k0, k5, k1, hs⟩ := rP hv
 refine ⟨0, ?_⟩
 have r1 : decide ((b.length + 1) * 1 ≤ zo) = true := wy (by omega)
 have r2 : decide ((b.length + 2) * 1 ≤ zo) = true := wy (by omega)
 have lb (c : Int) : (b ++ [c]).length ≤ 1048592 := by simp; omega
 have hk : k = 0 ∨ k = 1 ∨ k = 2 ∨ k = 3 ∨ k = 4 ∨ k = 5 := by omega
 rcases hk with rfl | rfl | rfl | rfl | rfl | rfl
 ·have e1 : f76.g 0 (((0 : Int), (i, (u, s))), b) = (bif decide ((b.length + 1) * 1 ≤ zo) then (some (List.take (b.length + 1) (List.take b.length b ++ ([(1 : Int)])))) else none) := rfl
  rw [e1, r1, Nv, y6]; rfl
 ·have e1 : f76.g 0 (((1 : Int), (i, (u, s))), b) = (bif decide ((b.length + 2) * 1 ≤ zo) then (some (List.take (b.length + 2) (List.take b.length b ++ ([(2 : Int), IntKind.wrap .u8 i])))) else none) := rfl
  rw [e1, r2, Nv, fa (k1 rfl), NI, List.take_of_length_le (by simp)]; rfl
 ·have e1 : f76.g 0 (((2 : Int), (i, (u, s))), b) = (bif decide ((b.length + 1) * 1 ≤ zo) then ((Uu (i, List.take (b.length + 1) (List.take b.length b ++ ([(3 : Int)])))).bind fun r1 => some (List.take r1.length r1)) else none) := rfl
  rw [e1, r1, Nv, y6, Yv hi (lb 3), Nx, NI, NU]; rfl
 ·have e1 : f76.g 0 (((3 : Int), (i, (u, s))), b) = (bif decide ((b.length + 1) * 1 ≤ zo) then ((Rf ((3 : Int), (i, (u, s)))).bind fun r2 => (TV (r2.2.2.1, List.take (b.length + 1) (List.take b.length b ++ ([(4 : Int)])))).bind fun r3 => some (List.take r3.length r3)) else none) := rfl
  have e2 : Rf ((3 : Int), (i, (u, s))) = some (wV (3, (i, (u, s)))) := rfl
  rw [e1, r1, Nv, e2, Nx, jS hu, y6, YF (aM u) (lb 4), Nx, NI, NU]; rfl
 ·have e1 : f76.g 0 (((4 : Int), (i, (u, s))), b) = (bif decide ((b.length + 1) * 1 ≤ zo) then ((Wa (s, List.take (b.length + 1) (List.take b.length b ++ ([(5 : Int)])))).bind fun r1 => some (List.take r1.length r1)) else none) := rfl
  rw [e1, r1, Nv, y6, kM hs (lb 5), Nx, NI, NU]; rfl
 ·have e1 : f76.g 0 (((5 : Int), (i, (u, s))), b) = (bif decide ((b.length + 1) * 1 ≤ zo) then ((Wa (s, List.take (b.length + 1) (List.take b.length b ++ ([(6 : Int)])))).bind fun r1 => some (List.take r1.length r1)) else none) := rfl
  rw [e1, r1, Nv, y6, kM hs (lb 6), Nx, NI, NU]; rfl
theorem Y6 : ConOk Tryz.prog 76 Sc := f76.ok QB aA Zc aD cW
theorem aP : ∀ l : List Int, (rl l).length ≤ 2 * l.length + 1 := fun l => by rw [im]; have := j2 l; simp; omega
theorem jK {n : Int} (h : okI n = true) : (tu n).length ≤ 9 := by
 obtain ⟨h1, h2⟩ := ip.1 h
 by_cases h0 : 0 ≤ n
 ·obtain ⟨m, rfl⟩ : ∃ m : Nat, n = (m : Int) := ⟨n.toNat, by omega⟩
  have := wq (n := m) (by omega)
  rw [oX, List.length_cons, nw]; omega
 ·obtain ⟨m, hm⟩ : ∃ m : Nat, -(n + 1) = (m : Int) := ⟨(-(n + 1)).toNat, by omega⟩
  have := wq (n := m) (by omega)
  rw [pX (by omega) hm, List.length_cons, nw]; omega
theorem Pe (c : Int) (r : List Int) (h : r.length ≤ 200000) : (bif decide ((1 + r.length) * 1 ≤ zo) then (some (List.take (1 + r.length) (List.take 1 ([c]) ++ r))) else none) = some (c :: r) := by
 rw [wy (by omega), Nv, sU]
theorem Q1 : ∀ X Y, F38 X = some Y → ∃ n, f38.g n X = some Y := by
 rintro ⟨k, i, u, s⟩ y h
 obtain ⟨hc, rfl⟩ := zr h
 simp only [Nt, beq_iff_eq] at hc
 obtain ⟨hz, hv⟩ := hc
 obtain ⟨hi, hu⟩ := oO hz
 obtain ⟨k0, k5, k1, hs⟩ := rP hv
 refine ⟨0, ?_⟩
 have hk : k = 0 ∨ k = 1 ∨ k = 2 ∨ k = 3 ∨ k = 4 ∨ k = 5 := by omega
 have ht : F67 s = some (rl (zJ s)) := zp (Ny hs)
 have hl : (rl (zJ s)).length ≤ 200000 := by have := aP (zJ s); rw [u5] at this; omega
 rcases hk with rfl | rfl | rfl | rfl | rfl | rfl
 ·rfl
 ·have e1 : f38.g 0 ((1 : Int), (i, (u, s))) = some [(2 : Int), IntKind.wrap .u8 i] := rfl
  rw [e1, fa (k1 rfl)]; rfl
 ·have e1 : f38.g 0 ((2 : Int), (i, (u, s))) = ((F65 i).bind fun r => (bif decide ((1 + r.length) * 1 ≤ zo) then (some (List.take (1 + r.length) (List.take 1 ([(3 : Int)]) ++ r))) else none)) := rfl
  have e2 : F65 i = some (tu i) := zp hi
  rw [e1, e2, Nx, Pe _ _ (by have := jK hi; omega)]; rfl
 ·have e1 : f38.g 0 ((3 : Int), (i, (u, s))) = ((F66 u).bind fun r => (bif decide ((1 + r.length) * 1 ≤ zo) then (some (List.take (1 + r.length) (List.take 1 ([(4 : Int)]) ++ r))) else none)) := rfl
  have e2 : F66 u = some (tE (x6 (wv u))) := zp (Ny hu)
  rw [e1, e2, Nx, Pe _ _ (by unfold tE; rw [nw]; omega)]; rfl
 ·have e1 : f38.g 0 ((4 : Int), (i, (u, s))) = ((F67 s).bind fun r => (bif decide ((1 + r.length) * 1 ≤ zo) then (some (List.take (1 + r.length) (List.take 1 ([(5 : Int)]) ++ r))) else none)) := rfl
  rw [e1, ht, Nx, Pe _ _ hl]; rfl
 ·have e1 : f38.g 0 ((5 : Int), (i, (u, s))) = ((F67 s).bind fun r => (bif decide ((1 + r.length) * 1 ≤ zo) then (some (List.take (1 + r.length) (List.take 1 ([(6 : Int)]) ++ r))) else none)) := rfl
  rw [e1, ht, Nx, Pe _ _ hl]; rfl
theorem WW : ConOk Tryz.prog 38 Ta := f38.ok Q1 Y8 Xv Wn
end Go.Proofs.YtefddghdaimklaaGreatDoor.AI
