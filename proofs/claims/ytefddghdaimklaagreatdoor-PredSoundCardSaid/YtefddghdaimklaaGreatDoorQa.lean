/- A part of the proof. -/
import Derived.Test.YtefddghdaimklaaGreatDoorPd
import Derived.Test.YtefddghdaimklaaGreatDoorPz
import Derived.Test.YtefddghdaimklaaGreatDoorBz
import Derived.Test.YtefddghdaimklaaGreatDoorCz
import Derived.Test.YtefddghdaimklaaGreatDoorPm
set_option linter.unusedVariables false
set_option linter.unusedSimpArgs false
/- Keys, and ranges of keys. -/
namespace Go.Proofs.YtefddghdaimklaaGreatDoor.AI
open Go
theorem gj {l : List zc} (h : okR l = true) : okB 40 l = true ∧ ∀ v ∈ l, okZ v = true := by
 unfold okR at h
 rw [Nt] at h
 exact ⟨h.1, Nw.1 h.2⟩
theorem aS {v : zc} (h : okZ v = true) : okV v = true := by
 unfold okZ at h
 rw [Nt] at h
 exact h.1
theorem Xs {v : zc} {b : List Int} (hz : okZ v = true) (hc : zt v = 0) (hb : b.length ≤ 1048576) : F76 (v, b) = some (b ++ zS v) := by
 refine zp ?_
 rw [Nt, Nt, beq_iff_eq]
 exact ⟨⟨hz, hc⟩, Ny hb⟩
theorem Xr {v : zc} (hz : okZ v = true) (hc : zt v = 0) : F38 v = some (zS v) := by
 refine zp ?_
 rw [Nt, beq_iff_eq]
 exact ⟨hz, hc⟩
theorem lN {l : List zc} (h : l.any (fun v => zt v != 0) = false) : ∀ v ∈ l, zt v = 0 := fun v hv => by
 have := List.any_eq_false.1 h v hv
 simpa using this
theorem gi {l : List zc} (h : l.any (fun v => zt v != 0) = true) : qE l = (fV, 10) := by unfold qE; rw [h]; rfl
theorem mU {l : List zc} (h : l.any (fun v => zt v != 0) = false) : qE l = bif decide (1024 < (yF l).length) then (fV, 3) else (zC (yF l), 0) := by unfold qE; rw [h]; rfl
def uR (a : List Int) (r : List zc) : Option (ByteArray × Int) := some (bif decide (1024 < (a ++ yF r).length) then (fV, 3) else (zC (a ++ yF r), 0))
theorem lL {a : List Int} {v : zc} {r : List zc} (h : 1024 < (a ++ zS v).length) : uR a (v :: r) = some (fV, 3) := by
 unfold uR
 have : 1024 < (a ++ yF (v :: r)).length := by
  have e : a ++ yF (v :: r) = (a ++ zS v) ++ yF r := by unfold yF; simp
  rw [e, NV]; omega
 rw [Ny this]; rfl
theorem lu (a : List Int) (v : zc) (r : List zc) : uR a (v :: r) = uR (a ++ zS v) r := by
 unfold uR
 have e : a ++ yF (v :: r) = (a ++ zS v) ++ yF r := by unfold yF; simp
 rw [e]
theorem j3 {l : List zc} (ho : ∀ v ∈ l, okZ v = true) (hc : ∀ v ∈ l, zt v = 0) (hl : l.length ≤ 140737488355328) (y : Int) {n : Nat} (hn : l.length < n) :
  zY (f46.s1 n l y) n (0, ((0 : Int), [])) = uR [] l :=
 z9 (step := f46.s1 n l y) l (fun i (a : List Int) => (a.length, ((i : Int), a))) (fun i a => a.length ≤ 1024) (fun i a r => uR a r)
  (fun S a ha => by
   simp only [f46.s1, yi, Nu, NI]
   unfold uR
   have : yF [] = [] := rfl
   rw [this, List.append_nil, NR (by omega)]; rfl)
  (fun S i a v r hi hv hr ha ih => by
   have hmem : v ∈ l := ND hv
   simp only [f46.s1, xi hi, yZ, NC, Nv, yf hv, NI, Xs (ho v hmem) (hc v hmem) (show a.length ≤ 1048576 by omega), Nx, nx (show i ≤ _ by omega)]
   by_cases h : 1024 < (a ++ zS v).length
   ·rw [Ny (show (((a ++ zS v).length : Nat) : Int) > 1024 by omega), Nv, lL h]; rfl
   ·rw [NR (show ¬ (((a ++ zS v).length : Nat) : Int) > 1024 by omega), Nu, ih (a ++ zS v) (by omega), lu])
  n hn [] (by simp)
theorem Qi : ∀ X Y, F46 X = some Y → ∃ n, f46.g n X = some Y := by
 intro l y h
 obtain ⟨hr, rfl⟩ := zr h
 obtain ⟨hb, ho⟩ := gj hr
 have hl := yy (by omega) hb
 refine ⟨l.length + 1, ?_⟩
 have := z9 (step := f46.s2 (l.length + 1) l) l (fun i (_ : Unit) => (i : Int)) (fun _ _ => True)
  (fun i _ r => bif r.any (fun v => zt v != 0) then some (fV, 10) else zY (f46.s1 (l.length + 1) l (l.length : Int)) (l.length + 1) (0, ((0 : Int), [])))
  (fun S a _ => by simp only [f46.s2, yi, Nu, List.any_nil])
  (fun S i a v r hi hv hr _ ih => by
   have hmem : v ∈ l := ND hv
   simp only [f46.s2, xi hi, yZ, NC, Nv, yf hv, so (aS (ho v hmem)), Nx, nx (show i ≤ _ by omega), List.any_cons]
   cases zt v != 0 with
   | true => rfl
   | false => rw [Nu, Bool.false_or]; exact ih () trivial)
  (l.length + 1) (NG _) () trivial
 show zY (f46.s2 (l.length + 1) l) (l.length + 1) ((0 : Nat) : Int) = _
 rw [this]
 cases ha : l.any (fun v => zt v != 0) with
 | true => rw [Nv, gi ha]
 | false =>
  rw [Nu, j3 ho (lN ha) hl _ (NG _), mU ha]
  rfl
theorem X6 : ConOk Tryz.prog 46 US := f46.ok Qi uV Y6
theorem bS {v : zc} (hz : okZ v = true) (hc : zt v = 0) : (zS v).length ≤ 200001 := by
 obtain ⟨k, i, u, s⟩ := v
 obtain ⟨hi, hu⟩ := oO hz
 obtain ⟨k0, k5, k1, hs⟩ := rP hc
 have l1 := jK hi
 have l2 : (tE (x6 (wv u))).length = 8 := by unfold tE; exact nw _ _
 have l3 := aP (zJ s)
 rw [u5] at l3
 unfold zS
 rw [List.length_cons]
 have : (bif k == 1 then [i] else bif k == 2 then tu i else bif k == 3 then tE (x6 (wv u)) else bif k == 4 || k == 5 then rl (zJ s) else []).length ≤ 200000 := by
  cases k == 1 with
  | true => simp
  | false => cases k == 2 with
   | true => simp only [Nv, Nu]; omega
   | false => cases k == 3 with
    | true => simp only [Nv, Nu]; omega
    | false => cases k == 4 || k == 5 with
     | true => simp only [Nv, Nu]; omega
     | false => simp
 exact Nat.succ_le_succ this
theorem k6 {l : List zc} (ho : ∀ v ∈ l, okZ v = true) (hc : ∀ v ∈ l, zt v = 0) (hl : l.length ≤ 140737488355328) (y : Int) {n : Nat} (hn : l.length < n) :
  zY (f12.s1 n l y) n (0, ((0 : Int), [])) = uR [] l :=
 z9 (step := f12.s1 n l y) l (fun i (a : List Int) => (a.length, ((i : Int), a))) (fun i a => a.length ≤ 1024) (fun i a r => uR a r)
  (fun S a ha => by
   simp only [f12.s1, yi, Nu, NI]
   unfold uR
   have : yF [] = [] := rfl
   rw [this, List.append_nil, NR (by omega)]; rfl)
  (fun S i a v r hi hv hr ha ih => by
   have hmem : v ∈ l := ND hv
   have hcl := bS (ho v hmem) (hc v hmem)
   have hr : decide ((a.length + (zS v).length) * 1 ≤ zo) = true := wy (by omega)
   simp only [f12.s1, xi hi, yZ, NC, Nv, yf hv, NI, Xr (ho v hmem) (hc v hmem), Nx, nx (show i ≤ _ by omega), hr]
   have e : (a ++ zS v).length = a.length + (zS v).length := NV
   by_cases h : 1024 < (a ++ zS v).length
   ·rw [Ny (show ((a.length + (zS v).length : Nat) : Int) > 1024 by omega), Nv, lL h]; rfl
   ·have := ih (a ++ zS v) (by omega)
    rw [e] at this
    rw [NR (show ¬ ((a.length + (zS v).length : Nat) : Int) > 1024 by omega), Nu, this, lu])
  n hn [] (by simp)
theorem Qo : ∀ X Y, F12 X = some Y → ∃ n, f12.g n X = some Y := by
 intro l y h
 obtain ⟨hr, rfl⟩ := zr h
 obtain ⟨hb, ho⟩ := gj hr
 have hl := yy (by omega) hb
 refine ⟨l.length + 1, ?_⟩
 have := z9 (step := f12.s2 (l.length + 1) l) l (fun i (_ : Unit) => (i : Int)) (fun _ _ => True)
  (fun i _ r => bif r.any (fun v => zt v != 0) then some (fV, 10) else zY (f12.s1 (l.length + 1) l (l.length : Int)) (l.length + 1) (0, ((0 : Int), [])))
  (fun S a _ => by simp only [f12.s2, yi, Nu, List.any_nil])
  (fun S i a v r hi hv hr _ ih => by
   have hmem : v ∈ l := ND hv
   simp only [f12.s2, xi hi, yZ, NC, Nv, yf hv, XU (aS (ho v hmem)), Nx, nx (show i ≤ _ by omega), List.any_cons]
   cases zt v != 0 with
   | true => rfl
   | false => rw [Nu, Bool.false_or]; exact ih () trivial)
  (l.length + 1) (NG _) () trivial
 show zY (f12.s2 (l.length + 1) l) (l.length + 1) ((0 : Nat) : Int) = _
 rw [this]
 cases ha : l.any (fun v => zt v != 0) with
 | true => rw [Nv, gi ha]
 | false =>
  rw [Nu, k6 ho (lN ha) hl _ (NG _), mU ha]
  rfl
theorem Xy : ConOk Tryz.prog 12 Si := f12.ok Qo Xq WW
theorem Wt {l : List zc} (h : (qE l).2 = 0) : (qE l).1.size ≤ 1024 := by
 cases ha : l.any (fun v => zt v != 0) with
 | true => rw [gi ha] at h; cases h
 | false =>
  rw [mU ha] at h ⊢
  by_cases hl : 1024 < (yF l).length
  ·rw [Ny hl] at h; cases h
  ·rw [NR hl, Nu]
   have : (zC (yF l)).size = (yF l).length := by
    unfold zC
    show (List.toArray _).size = _
    simp
   show (zC (yF l)).size ≤ 1024
   omega
theorem QJ : ∀ X Y, F21 X = some Y → ∃ n, f21.g n X = some Y := by
 intro l y h
 obtain ⟨hr, rfl⟩ := zr h
 refine ⟨0, ?_⟩
 have e : F46 l = some (qE l) := zp hr
 simp only [f21.g, e, Nx, zP]
 cases hb : (qE l).2 != 0 with
 | true => rfl
 | false =>
  have h0 : (qE l).2 = 0 := by simpa using hb
  have hs := Wt h0
  have h1 : decide ((qE l).1.size + (⟨#[255]⟩ : ByteArray).size ≤ y8) = true := Ny (by
   have : (⟨#[255]⟩ : ByteArray).size = 1 := rfl
   rw [show y8 = 9223372036854775807 from rfl]; omega)
  rw [Nu, h1, Nv, Nu]; rfl
theorem lm : ConOk Tryz.prog 21 ig := f21.ok QJ X6
theorem RJ : ∀ X Y, F24 X = some Y → ∃ n, f24.g n X = some Y := by
 rintro ⟨l, inn⟩ y h
 obtain ⟨hr, rfl⟩ := zr h
 refine ⟨0, ?_⟩
 have e : F21 l = some (zP l) := zp hr
 simp only [f24.g, e, Nx, oE]
 cases (zP l).2 != 0 with
 | true => rfl
 | false => cases inn <;> rfl
theorem Xj : ConOk Tryz.prog 24 SV := f24.ok RJ lm
theorem Rr : ∀ X Y, F26 X = some Y → ∃ n, f26.g n X = some Y := by
 rintro ⟨l, inn⟩ y h
 obtain ⟨hr, rfl⟩ := zr h
 refine ⟨0, ?_⟩
 have e : F21 l = some (zP l) := zp hr
 simp only [f26.g, e, Nx, toE]
 cases (zP l).2 != 0 with
 | true => rfl
 | false => cases inn <;> rfl
theorem YZ : ConOk Tryz.prog 26 T1 := f26.ok Rr lm
theorem al {α : Type} {c : Bool} {x y : α} : (bif c then some x else some y) = some (bif c then x else y) := by cases c <;> rfl
theorem Rl : ∀ X Y, F23 X = some Y → ∃ n, f23.g n X = some Y := by
 rintro ⟨⟨a1, a2, a3⟩, ⟨b1, b2, b3⟩⟩ y h
 cases h
 refine ⟨0, ?_⟩
 cases a3 <;> cases b3 <;> exact al
theorem XG : ConOk Tryz.prog 23 UD := f23.ok Rl
theorem QX : ∀ X Y, F13 X = some Y → ∃ n, f13.g n X = some Y := by
 rintro ⟨r, k⟩ y h
 cases h
 refine ⟨0, ?_⟩
 simp only [f13.g, nC, z1, yK]
theorem YU : ConOk Tryz.prog 13 Sh := f13.ok QX
end Go.Proofs.YtefddghdaimklaaGreatDoor.AI
/- Parts of a condition: what finds them. -/
namespace Go.Proofs.YtefddghdaimklaaGreatDoor.AI
open Go
theorem WA : ConOk Tryz.prog 25 SA := f25.ok (fun l y h z hz => by
 obtain ⟨hb, rfl⟩ := zr h
 refine ⟨0, ?_⟩
 cases z with
 | true => rw [hz rfl]; rfl
 | false =>
  have hl := xB.1 hb
  have h1 : decide (l.length * 40 ≤ zo) = true := Ny (by rw [show zo = 140737488355328 from rfl]; omega)
  simp only [f25.g, Nu, Nat.zero_add, h1, Nv]
  rw [show List.take l.length (List.take 0 ([] : List zc) ++ l) = l from NI])
theorem QV : ∀ X Y, F18 X = some Y → ∃ n, f18.g n X = some Y := by
 rintro ⟨l, c⟩ y h
 obtain ⟨hb, rfl⟩ := zr h
 have hl := yy (by omega) (show okB 64 l = true from hb)
 refine ⟨l.length + 1, ?_⟩
 exact wK (l := l) (fun p => p.1 == c && zd p.2.1 eqS) (step := f18.s1 (l.length + 1) (l, c)) (NG _)
  (fun S => by simp only [f18.s1, yi, Nu])
  (fun S i v hi hv => by
   simp only [f18.s1, xi hi, yZ, NC, Nv, yf hv, nx (show i ≤ _ by omega), z1]
   rfl)
theorem WB : ConOk Tryz.prog 18 UF := f18.ok QV
theorem jc {α : Type} (l : List (List α)) (i : Nat) : (l.take i).flatten.length ≤ l.flatten.length := by
 conv => rhs; rw [← List.take_append_drop i l, List.flatten_append, NV]
 omega
theorem gR {l : List (List zI)} (hf : l.flatten.length ≤ 1048576) (hl : l.length ≤ 2) {step : ((Nat × Int × List zI) → Option (List zI)) → (Nat × Int × List zI) → Option (List zI)} {n : Nat} (hn : l.length < n)
  (hend : ∀ S k q, step S (k, ((l.length : Int), q)) = some (List.take k q))
  (hstep : ∀ S i v k q, i < l.length → l[i]? = some v → (k + v.length) * 64 ≤ zo → step S (k, ((i : Int), q)) = S (k + v.length, (((i + 1 : Nat) : Int), List.take k q ++ v))) (q : List zI) :
  zY step n (0, ((0 : Int), q)) = some l.flatten := by
 have := z9 (step := step) l (fun i (p : List zI × List zI) => (p.1.length, ((i : Int), p.2))) (fun i p => List.take p.1.length p.2 = p.1 ∧ p.1 = (l.take i).flatten) (fun i p r => some (p.1 ++ r.flatten))
  (fun S p hp => by show step S (p.1.length, ((l.length : Int), p.2)) = _; rw [hend, hp.1]; simp)
  (fun S i p v r hi hv hr hp ih => by
   have e : p.1 ++ v = (l.take (i + 1)).flatten := by rw [← su hv, List.flatten_append, ← hp.2]; simp
   have hle := jc l (i + 1)
   rw [← e, NV] at hle
   show step S (p.1.length, ((i : Int), p.2)) = _
   rw [hstep S i v _ _ hi hv (by rw [show zo = 140737488355328 from rfl]; omega), hp.1]
   have := ih (p.1 ++ v, p.1 ++ v) ⟨NI, e⟩
   rw [NV] at this
   show S (p.1.length + v.length, (((i + 1 : Nat) : Int), p.1 ++ v)) = _
   rw [this, List.flatten_cons, NU]) n hn ([], q) ⟨by simp, by simp⟩
 simpa using this
theorem Qd : ∀ X Y, F43 X = some Y → ∃ n, f43.g n X = some Y := by
 intro l y h
 obtain ⟨hc, rfl⟩ := zr h
 simp only [Nt, NO] at hc
 obtain ⟨hl, hf⟩ := hc
 refine ⟨l.length + 1, ?_⟩
 have e1 (y : Int × Int) (q : List zI) : zY (f43.s1 (l.length + 1) l y) (l.length + 1) (0, ((0 : Int), q)) = some l.flatten :=
  gR hf hl (NG _) (fun S k q => by simp only [f43.s1, yi, Nu]) (fun S i v k q hi hv hb => by
   simp only [f43.s1, xi hi, yZ, NC, Nv, yf hv, Ny hb, nx (show i ≤ _ by omega)]) q
 have e2 (y : Int × Int) (q : List zI) : zY (f43.s2 (l.length + 1) l y) (l.length + 1) (0, ((0 : Int), q)) = some l.flatten :=
  gR hf hl (NG _) (fun S k q => by simp only [f43.s2, yi, Nu]) (fun S i v k q hi hv hb => by
   simp only [f43.s2, xi hi, yZ, NC, Nv, yf hv, Ny hb, nx (show i ≤ _ by omega)]) q
 have := z9 (step := f43.s3 (l.length + 1) l) l (fun i (a : Nat) => ((a : Int), (i : Int))) (fun i a => a = (l.take i).flatten.length) (fun _ _ _ => some l.flatten)
  (fun S a ha => by
   rw [NI] at ha
   have d0 : decide ((a : Int) < (0 : Int)) = false := NR (by omega)
   have w : IntKind.wrap .i64 ((a : Int) - (0 : Int)) = (a : Int) := by rw [Int.sub_zero, xj (by omega)]
   simp only [f43.s3, yi, Nu, d0, w, e1, e2]
   by_cases hp : 0 < a
   ·rw [Ny (show (a : Int) > 0 by omega), Int.toNat_natCast, Ny (show a * 64 ≤ zo by rw [show zo = 140737488355328 from rfl]; omega), Ny (show (0 : Int) ≤ (a : Int) by omega)]
    rfl
   ·rw [NR (show ¬ (a : Int) > 0 by omega)]; rfl)
  (fun S i a v r hi hv hr ha ih => by
   have e : a + v.length = (l.take (i + 1)).flatten.length := by rw [← su hv, List.flatten_append, NV, ← ha]; simp
   have hle := jc l (i + 1)
   rw [← e] at hle
   have w : IntKind.wrap .i64 ((a : Int) + (v.length : Int)) = ((a + v.length : Nat) : Int) := by rw [show ((a : Int) + (v.length : Int)) = ((a + v.length : Nat) : Int) by omega, xj (by omega)]
   have d0 : decide (((a + v.length : Nat) : Int) < (0 : Int)) = false := NR (by omega)
   simp only [f43.s3, xi hi, yZ, NC, Nv, yf hv, w, d0, Nu, nx (show i ≤ _ by omega)]
   exact ih (a + v.length) e) (l.length + 1) (NG _) 0 (by simp)
 exact this
theorem WU : ConOk Tryz.prog 43 TA := f43.ok Qd
def eU (lo : Bool) (c : Int) (p : zI) (o : Option zI) : Option zI := bif p.1 == c && qK lo p.2.1 then (match o with
  | none => some p
  | some q => bif om lo p q then some p else some q) else o
theorem Z7 (lo : Bool) (c : Int) (p : zI) (r : List zI) (o : Option zI) : vP lo c (p :: r) o = vP lo c r (eU lo c p o) := rfl
theorem Yt {l : List zI} {lo : Bool} {c : Int} {step : ((Bool × Int × zI) → Option (zI × Bool)) → (Bool × Int × zI) → Option (zI × Bool)} {n : Nat} (hn : l.length < n)
  (hend : ∀ S z p, step S (z, ((l.length : Int), p)) = some (p, z))
  (hstep : ∀ S i v o, i < l.length → l[i]? = some v → step S ((yP o).2, ((i : Int), (yP o).1)) = S ((yP (eU lo c v o)).2, (((i + 1 : Nat) : Int), (yP (eU lo c v o)).1))) :
  zY step n (false, ((0 : Int), (0, (noS, zeroV)))) = some (yP (vP lo c l none)) :=
 z9 (step := step) l (fun i (o : Option zI) => ((yP o).2, ((i : Int), (yP o).1))) (fun _ _ => True) (fun i o r => some (yP (vP lo c r o)))
  (fun S o _ => by show step S ((yP o).2, ((l.length : Int), (yP o).1)) = _; rw [hend]; rfl)
  (fun S i o v r hi hv hr _ ih => by
   show step S ((yP o).2, ((i : Int), (yP o).1)) = _
   rw [hstep S i v o hi hv, Z7]
   exact ih _ trivial) n hn none trivial
end Go.Proofs.YtefddghdaimklaaGreatDoor.AI
/- Parts of a condition: the one that leaves the least; all of them. -/
namespace Go.Proofs.YtefddghdaimklaaGreatDoor.AI
open Go
theorem Z5 {r : Int} (h : r = -1 ∨ r = 0 ∨ r = 1) : IntKind.wrap .i64 ((-1 : Int) * r) = 0 - r ∧ IntKind.wrap .i64 ((1 : Int) * r) = r ∧ IntKind.wrap .i64 ((0 : Int) - r) = 0 - r := by
 rcases h with rfl | rfl | rfl <;> exact ⟨rfl, rfl, rfl⟩
theorem T5 (r : Int) : decide (0 - r < 0) = decide (0 < r) := by congr 1; apply propext; omega
theorem Yz (r : Int) : (0 - r == 0) = (r == 0) := by rw [Bool.eq_iff_iff, beq_iff_eq, beq_iff_eq]; omega
theorem SK (r : Int) : decide (r < 0) = decide (0 < 0 - r) := by congr 1; apply propext; omega
theorem oD (q : zI) : yP (some q) = (q, true) := rfl
theorem cE {R : Type} (S : (Bool × Int × zI) → R) (lo : Bool) (c : Int) (v : zI) (o : Option zI) (j : Int) (skip take : Bool)
  (hs : skip = !(v.1 == c && qK lo v.2.1)) (ht : v.1 == c && qK lo v.2.1 → take = match o with | none => true | some q => om lo v q) :
  (bif skip then S ((yP o).2, (j, (yP o).1)) else bif take then S (true, (j, v)) else S ((yP o).2, (j, (yP o).1))) = S ((yP (eU lo c v o)).2, (j, (yP (eU lo c v o)).1)) := by
 unfold eU
 cases hq : (v.1 == c && qK lo v.2.1) with
 | false => rw [hs, hq]; rfl
 | true =>
  have := ht hq
  rw [hs, hq, this]
  cases o with
  | none => rfl
  | some q => cases ht' : om lo v q <;> simp only [ht', Nv, Nu, NJ] <;> rfl
theorem R0 : ∀ X Y, F20 X = some Y → ∃ n, f20.g n X = some Y := by
 rintro ⟨l, c, s1, s2, sg⟩ y h
 have key : ∀ (lo : Bool), okB 64 l = true → s1 = (bif lo then gtS else ltS) → s2 = (bif lo then geS else leS) → sg = (bif lo then -1 else 1) →
   ∃ n, f20.g n (l, c, s1, s2, sg) = some (yP (vP lo c l none)) := fun lo hb e1 e2 e3 => by
  subst e1; subst e2; subst e3
  have hl := yy (by omega) hb
  refine ⟨l.length + 1, ?_⟩
  refine Yt (l := l) (lo := lo) (c := c) (step := f20.s1 (l.length + 1) (l, c, (bif lo then gtS else ltS), (bif lo then geS else leS), (bif lo then -1 else 1))) (NG _) (fun S z p => by
   simp only [f20.s1, yi, Nu]) (fun S i v o hi hv => ?_)
  have ec : F45 (v.2.2, (yP o).1.2.2) = some (ul v.2.2 (yP o).1.2.2) := rfl
  simp only [f20.s1, xi hi, yZ, NC, Nv, yf hv, nx (show i ≤ _ by omega), ec, Nx]
  obtain ⟨w1, w2, _⟩ := Z5 (uW v.2.2 (yP o).1.2.2)
  refine cE S lo c v o _ _ _ ?_ ?_
  ·cases lo with
   | true => simp only [bne, qK, Nv, Nu]; cases v.1 == c <;> cases zd v.2.1 gtS <;> cases zd v.2.1 geS <;> rfl
   | false => simp only [bne, qK, Nv, Nu]; cases v.1 == c <;> cases zd v.2.1 ltS <;> cases zd v.2.1 leS <;> rfl
  ·intro _
   cases o with
   | none => rfl
   | some q =>
    rw [oD] at w1 w2
    cases lo with
    | true => simp only [oD, NJ, Nv, Nu, w1, yK, z1, T5, Yz, om, Ws, il] <;> rfl
    | false => simp only [oD, NJ, Nv, Nu, w2, yK, z1, SK, Yz, om, Ws, il] <;> rfl
 unfold F20 at h
 cases h1 : iQ (l, c, s1, s2, sg) with
 | true =>
  rw [h1] at h
  cases h
  simp only [iQ, Nt, beq_iff_eq] at h1
  exact key true h1.1 ((zw _ _).1 h1.2.1) ((zw _ _).1 h1.2.2.1) h1.2.2.2
 | false =>
  rw [h1, Nu] at h
  cases h2 : bC (l, c, s1, s2, sg) with
  | false => rw [h2] at h; cases h
  | true =>
   rw [h2] at h
   cases h
   simp only [bC, Nt, beq_iff_eq] at h2
   exact key false h2.1 ((zw _ _).1 h2.2.1) ((zw _ _).1 h2.2.2.1) h2.2.2.2
theorem Xx : ConOk Tryz.prog 20 UY := f20.ok R0 gB
end Go.Proofs.YtefddghdaimklaaGreatDoor.AI
/- Parts of a condition: all of them. -/
namespace Go.Proofs.YtefddghdaimklaaGreatDoor.AI
open Go
theorem i7 (cs : List Int) (e : zg) : yV cs e = bif e.lab.1 == 4 && zd e.lab.2.1 xu then mv cs e.kids else mj cs e.lab e.kids := by cases e; rfl
theorem aW (cs : List Int) (c : zg) (op : ByteArray) (v : zg) : (rc cs c op v).length ≤ 1 := by
 unfold rc
 cases (c.lab.1 == 2 && (v.lab.1 == 1 && v.lab.2.2.2.1 == cs.getD c.lab.2.2.1.toNat 0)) <;> simp
theorem Zk (cs : List Int) (a : Int × ByteArray × Int × zc) (ks : List zg) : (mj cs a ks).length ≤ 1 := by
 unfold mj
 cases (a.1 == 4 && (inS cpL a.2.1 && !(zd a.2.1 ⟨#[60, 62]⟩))) with
 | false => simp
 | true =>
  rw [Nv]
  cases ((ks.getD 0 qI).lab.1 == 1) <;> simp only [Nv, Nu] <;> exact aW ..
mutual
theorem pd (cs : List Int) : ∀ e : zg, (yV cs e).length ≤ z4 e
 | .node a ks => by
  simp only [yV, z4]
  cases (a.1 == 4 && zd a.2.1 xu) with
  | true => have := kL cs ks; simp only [Nv]; omega
  | false => have := Zk cs a ks; simp only [Nu]; omega
theorem kL (cs : List Int) : ∀ l : List zg, (mv cs l).length ≤ xo l
 | [] => by simp [mv]
 | k :: r => by
  have h1 := pd cs k
  have h2 := kL cs r
  simp only [mv, xo, NV]; omega
end
theorem Qm (op : ByteArray) : (inS cpL op = false ∧ up (fun w => zd w op) cpL = -1) ∨ (inS cpL op = true ∧ 0 ≤ up (fun w => zd w op) cpL ∧ up (fun w => zd w op) cpL < (tnL.length : Int) ∧ tnL.getD (up (fun w => zd w op) cpL).toNat (Ty.dflt .str) = je op) := by
 cases h : inS cpL op with
 | false =>
  refine .inl ⟨rfl, ?_⟩
  unfold up
  have : List.findIdx? (fun w => zd w op) cpL = none := by
   rw [List.findIdx?_eq_none_iff]
   intro x hx
   unfold inS at h
   rw [List.any_eq_false] at h
   simpa using h x hx
  rw [this]
 | true =>
  refine .inr ⟨rfl, ?_⟩
  unfold inS at h
  rw [List.any_eq_true] at h
  obtain ⟨x, hx, hxo⟩ := h
  rw [(zw _ _).1 hxo] at hx
  simp only [cpL, NM, List.not_mem_nil, or_false] at hx
  rcases hx with rfl | rfl | rfl | rfl | rfl | rfl
  ·exact ⟨NK (by kernel_rfl), NK (by kernel_rfl), by kernel_rfl⟩
  ·exact ⟨NK (by kernel_rfl), NK (by kernel_rfl), by kernel_rfl⟩
  ·exact ⟨NK (by kernel_rfl), NK (by kernel_rfl), by kernel_rfl⟩
  ·exact ⟨NK (by kernel_rfl), NK (by kernel_rfl), by kernel_rfl⟩
  ·exact ⟨NK (by kernel_rfl), NK (by kernel_rfl), by kernel_rfl⟩
  ·exact ⟨NK (by kernel_rfl), NK (by kernel_rfl), by kernel_rfl⟩
theorem ko {R : Type} {t : zi} {c v : zg} {op : ByteArray} (hc : xK t.2.1.length c = true) (k : List zI → Option R) :
  (bif bif (c.lab.1 != (2 : Int)) then true else (v.lab.1 != (1 : Int)) then k [] else (bif decide (0 ≤ c.lab.2.2.1) && decide (c.lab.2.2.1 < (t.2.1.length : Int)) then (bif v.lab.2.2.2.1 != (t.2.1.getD (c.lab.2.2.1.toNat) tColumn.dflt).2.1 then k [] else k (List.take 1 [(c.lab.2.2.1, (op, v.lab.2.2.2))])) else none)) = k (rc (xQ t) c op v) := by
 unfold rc
 cases h2 : c.lab.1 == 2 with
 | false => simp only [bne, h2, NW, Nv, Bool.false_and, Nu]
 | true =>
  cases h1 : v.lab.1 == 1 with
  | false => simp only [bne, h1, h2, NJ, NW, Nv, Bool.false_and, Nu, Bool.and_false]
  | true =>
   have hl : c.lab.1 = 2 := by simpa using h2
   rw [oJ, Nt] at hc
   have hn := hc.1
   unfold vV t8 at hn
   rw [hl] at hn
   simp only [show ((2 : Int) == 1) = false from rfl, show ((2 : Int) == 2) = true from rfl, Bool.false_or, Nv, Nu, Nt, NO] at hn
   have hg := fD t c.lab.2.2.1 hn.2.2.1 hn.2.2.2.1
   simp only [bne, h1, h2, NJ, Nu, Ny hn.2.2.1, Ny hn.2.2.2.1, NC, Nv, NT, hg]
   cases v.lab.2.2.2.1 == (t.2.1.getD c.lab.2.2.1.toNat tColumn.dflt).2.1 <;> rfl
theorem Wj {n : Nat} {e : zg} (hf : xK n e = true) (h4 : (e.lab.1 == 4) = true) : ∃ p q, e.kids = [p, q] ∧ xK n p = true ∧ xK n q = true := by
 rw [oJ, Nt] at hf
 have h4' : e.lab.1 = 4 := by simpa using h4
 have hnb := hf.1
 unfold vV at hnb
 rw [h4'] at hnb
 have hi : wz e.lab e.kids.length = true := hnb
 unfold wz UU at hi
 rw [h4'] at hi
 simp only [show ((4 : Int) == 3) = false from rfl, show ((4 : Int) == 4) = true from rfl, Nv, Nu, Nt, beq_iff_eq] at hi
 have hlen := hi.1.1
 match hk : e.kids, hlen with
 | [p, q], _ =>
  rw [hk] at hf
  simp only [tr, Nt] at hf
  exact ⟨p, q, rfl, hf.2.1, hf.2.2.1⟩
theorem cu (cs : List Int) (e p q : zg) (hk : e.kids = [p, q]) : mj cs e.lab e.kids = bif e.lab.1 == 4 && (inS cpL e.lab.2.1 && !(zd e.lab.2.1 ⟨#[60, 62]⟩)) then (bif p.lab.1 == 1 then rc cs q (je e.lab.2.1) p else rc cs p e.lab.2.1 q) else [] := by rw [hk]; rfl
theorem Xz {e p q : zg} (hk : e.kids = [p, q]) : z4 e = z4 p + (z4 q + 0) + 1 := by rw [pr, hk]; rfl
theorem XE {cs : List Int} {e p q : zg} (hk : e.kids = [p, q]) (h : (e.lab.1 == 4 && zd e.lab.2.1 xu) = true) : yV cs e = [yV cs p, yV cs q].flatten := by rw [i7, h, hk]; rfl
theorem QQ (p q d : zg) : [p, q].getD 0 d = p := rfl
theorem Qf (p q d : zg) : [p, q].getD 1 d = q := rfl
theorem nU (op : ByteArray) : F44 (cpL, op) = some (up (fun w => zd w op) cpL) := rfl
theorem Rk (k : Nat) : ∀ X Y, V2 (k + 1) X = some Y → ∃ n, @f17.g ⟨V2 k⟩ n X = some Y := by
 rintro ⟨t, e⟩ y hh
 obtain ⟨ho, rfl⟩ := zr hh
 simp only [okQ, Nt, NE] at ho
 obtain ⟨hf, hs, hsk⟩ := ho
 letI : Rec17 := ⟨V2 k⟩
 refine ⟨0, ?_⟩
 show f17.g 0 (t, e) = some (yV (xQ t) e)
 have hrec : ∀ p : zg, xK t.2.1.length p = true → z4 p < z4 e → (Rec17.F (t, p) : Option (List zI)) = some (yV (xQ t) p) := fun p hp hlt => zp (by
  simp only [okQ, hp, Ny (show z4 p ≤ 1048576 by omega), Ny (show z4 p < k by omega), NC])
 cases h4 : e.lab.1 == 4 with
 | false =>
  rw [i7, h4]
  simp only [f17.g, h4, bne, Nu, nU, Nx, NW, Nv, Bool.false_and]
  unfold mj
  rw [h4]; rfl
 | true =>
  obtain ⟨p, q, hk, hp, hq⟩ := Wj hf h4
  have hsz := Xz hk
  cases ha : zd e.lab.2.1 xu with
  | true =>
   rw [XE hk (by rw [h4, ha]; rfl)]
   have l1 := pd (xQ t) p
   have l2 := pd (xQ t) q
   have hcat : F43 (List.take 2 [yV (xQ t) p, yV (xQ t) q]) = some [yV (xQ t) p, yV (xQ t) q].flatten := zp (by
    rw [Nt]
    refine ⟨rfl, Ny ?_⟩
    show (yV (xQ t) p ++ (yV (xQ t) q ++ [])).length ≤ _
    simp only [NV, List.length_nil]; omega)
   have hand : zd e.lab.2.1 (⟨#[97, 110, 100]⟩ : ByteArray) = true := ha
   simp only [f17.g, h4, hand, Nv, hk, QQ, Qf, Rose.eta, hrec p hp (by omega), hrec q hq (by omega), Nx, hcat]
   rfl
  | false =>
   rw [i7, h4, ha, cu _ e p q hk, h4]
   have hand : zd e.lab.2.1 (⟨#[97, 110, 100]⟩ : ByteArray) = false := ha
   have tw0 : (decide ((0 : Int) ≤ (0 : Int)) && decide ((0 : Int) < (([p, q] : List zg).length : Int))) = true := rfl
   have tw1 : (decide ((0 : Int) ≤ (1 : Int)) && decide ((1 : Int) < (([p, q] : List zg).length : Int))) = true := rfl
   simp only [f17.g, h4, bne, hand, Nv, Nu, Bool.and_false, nU, Nx, NJ, NT, hk, QQ, Qf, tw0, tw1]
   rcases Qm e.lab.2.1 with ⟨c1, c2⟩ | ⟨c1, c2, c3, c4⟩
   ·rw [c1, c2]; rfl
   ·have c5 : decide (up (fun w => zd w e.lab.2.1) cpL < (0 : Int)) = false := NR (by omega)
    simp only [c1, c5, c4, Ny c2, Ny c3, NC, Nu, Nv, NT]
    cases hne : zd e.lab.2.1 (⟨#[60, 62]⟩ : ByteArray) with
    | true => rfl
    | false =>
     simp only [Nu, NW, Nv]
     cases hv : p.lab.1 == 1 with
     | true =>
      have := ko (op := je e.lab.2.1) (v := p) hq (fun l => some l)
      simp only [bne] at this
      simp only [hv, Nv] at this ⊢
      exact this
     | false =>
      have := ko (op := e.lab.2.1) (v := q) hp (fun l => some l)
      simp only [bne] at this
      simp only [Nu]
      exact this
theorem lO : ∀ k, ConOk Tryz.prog 17 (zk [(true, tTable), (true, tExpr)] [(false, .sl (.pair (.int .i64) (.pair .str tValue)))] false (V2 k))
 | 0 => uZ fun X => by unfold V2 okQ; simp [x5]
 | k + 1 => @f17.ok ⟨V2 k⟩ (V2 (k + 1)) (Rk k) (lO k) WU gK
theorem Vf : ConOk Tryz.prog 17 U1 := lO 1048577
end Go.Proofs.YtefddghdaimklaaGreatDoor.AI
/- The range of a condition: what is asked of the parts, step by step. -/
namespace Go.Proofs.YtefddghdaimklaaGreatDoor.AI
open Go
mutual
theorem g8 (cs : List Int) : ∀ e : zg, qG e = true → ∀ p ∈ yV cs e, okZ p.2.2 = true
 | .node a ks, hb, p, hp => by
  simp only [qG, Nt] at hb
  simp only [yV] at hp
  cases hq : a.1 == 4 && zd a.2.1 xu with
  | true => rw [hq] at hp; exact jD cs ks hb.2.2.2 p hp
  | false =>
   rw [hq] at hp
   exact aE cs a ks hb.2.2.2 p hp
theorem jD (cs : List Int) : ∀ l : List zg, lq l = true → ∀ p ∈ mv cs l, okZ p.2.2 = true
 | [], _, p, hp => by simp [mv] at hp
 | k :: r, hb, p, hp => by
  simp only [lq, Nt] at hb
  simp only [mv, NS] at hp
  rcases hp with hp | hp
  ·exact g8 cs k hb.1 p hp
  ·exact jD cs r hb.2 p hp
theorem aE (cs : List Int) (a : Int × ByteArray × Int × zc) : ∀ ks : List zg, lq ks = true → ∀ p ∈ mj cs a ks, okZ p.2.2 = true := fun ks hb p hp => by
 have hz : ∀ d : zg, (d = qI ∨ d ∈ ks) → okZ d.lab.2.2.2 = true := fun d h => by
  rcases h with rfl | h
  ·exact t7
  ·have := qT hb d h
   cases d with
   | node b q => simp only [qG, Nt] at this; exact this.2.1
 have hg : ∀ i, ks.getD i qI = qI ∨ ks.getD i qI ∈ ks := fun i => by
  by_cases h : i < ks.length
  ·right; rw [List.getD_eq_getElem?_getD, NL h]; exact List.getElem_mem h
  ·left; rw [List.getD_eq_getElem?_getD, List.getElem?_eq_none (by omega)]; rfl
 have hq : ∀ c v op, okZ v.lab.2.2.2 = true → ∀ p ∈ rc cs c op v, okZ p.2.2 = true := fun c v op hv p hp => by
  unfold rc at hp
  cases hc : (c.lab.1 == 2 && (v.lab.1 == 1 && v.lab.2.2.2.1 == cs.getD c.lab.2.2.1.toNat 0)) with
  | false => rw [hc] at hp; cases hp
  | true => rw [hc, Nv] at hp; rw [List.mem_singleton.1 hp]; exact hv
 unfold mj at hp
 cases hc : (a.1 == 4 && (inS cpL a.2.1 && !(zd a.2.1 ⟨#[60, 62]⟩))) with
 | false => rw [hc] at hp; cases hp
 | true =>
  rw [hc, Nv] at hp
  cases hv : ((ks.getD 0 qI).lab.1 == 1) with
  | true => rw [hv, Nv] at hp; exact hq _ _ _ (hz _ (hg 0)) p hp
  | false => rw [hv, Nu] at hp; exact hq _ _ _ (hz _ (hg 1)) p hp
end
theorem kD {t : zi} {e : zg} (h : wD t e = 0) : xK t.2.1.length e = true := by
 have hc : (yM t e).2 = 0 := by
  unfold wD at h
  cases h1 : ((yM t e).2 == 0 && !qb (yM t e).1) with
  | true => rw [h1] at h; cases h
  | false => rw [h1] at h; exact h
 unfold yM at hc
 cases h1 : wB t != 0 with
 | true =>
  rw [h1, Nv] at hc
  have : wB t = 0 := hc
  rw [this] at h1; cases h1
 | false =>
  rw [h1, Nu] at hc
  cases h2 : YI t e with
  | false => rw [h2] at hc; cases hc
  | true =>
   unfold YI at h2
   simp only [Nt] at h2
   exact h2.2.2
theorem fE {α : Type} (p : α → Bool) (d : α) : ∀ l : List α, (l.find? p = none ∧ up p l = -1) ∨ ∃ v, v ∈ l ∧ l.find? p = some v ∧ 0 ≤ up p l ∧ up p l < (l.length : Int) ∧ l.getD (up p l).toNat d = v
  | [] => .inl ⟨rfl, rfl⟩
  | a :: r => by
    cases ha : p a with
    | true =>
      refine .inr ⟨a, by simp, by simp [List.find?, ha], ?_⟩
      have : up p (a :: r) = 0 := by unfold up; rw [List.findIdx?_cons, ha]; rfl
      rw [this]
      exact ⟨by omega, by simp, rfl⟩
    | false =>
      have hf : (a :: r).find? p = r.find? p := by simp [List.find?, ha]
      have hi : (a :: r).findIdx? p = (r.findIdx? p).map (· + 1) := by rw [List.findIdx?_cons, ha]; rfl
      rcases fE p d r with ⟨h1, h2⟩ | ⟨v, h0, h1, h2, h3, h4⟩
      · refine .inl ⟨by rw [hf, h1], ?_⟩
        unfold up at h2 ⊢
        rw [hi]
        cases hr : r.findIdx? p with
        | none => rfl
        | some i => rw [hr] at h2; simp at h2
      · refine .inr ⟨v, by simp [h0], by rw [hf, h1], ?_⟩
        unfold up at h2 h3 h4 ⊢
        rw [hi]
        cases hr : r.findIdx? p with
        | none => rw [hr] at h2; simp at h2
        | some i =>
          rw [hr] at h3 h4
          simp only [Option.map_some] at h3 h4 ⊢
          refine ⟨by omega, by simp; omega, ?_⟩
          have : (((i + 1 : Nat) : Int)).toNat = i + 1 := by omega
          rw [this]
          simpa using h4
theorem Vd {o : Option zI} (h : ∀ p, o = some p → okZ p.2.2 = true) : okZ (yP o).1.2.2 = true := by
 cases o with
 | none => exact t7
 | some p => exact h p rfl
theorem me {f : List zc} {v : zc} (h : okR f = true) (hl : f.length ≤ 64) (hv : okZ v = true) : okR (f ++ [v]) = true := by
 unfold okR at h ⊢
 rw [Nt] at h ⊢
 refine ⟨xB.2 (by rw [NV, List.length_singleton]; omega), ?_⟩
 rw [List.all_append, h.2]
 simp [hv]
def RN (r : vM × Int) : vM := bif r.2 != 0 then PQ else r.1
theorem Qt {f : List zc} {z : zc} : List.take (f.length + 1) (List.take f.length f ++ [z]) = f ++ [z] := by
 rw [NI, List.take_of_length_le (by simp)]
end Go.Proofs.YtefddghdaimklaaGreatDoor.AI
/- The range of a condition: both functions. -/
namespace Go.Proofs.YtefddghdaimklaaGreatDoor.AI
open Go
def S6 (c : Int) : zI → Bool := fun p => p.1 == c && zd p.2.1 eqS
theorem gq (ps : List zI) (c : Int) (r : List Int) : vJ ps (c :: r) = match ps.find? (S6 c) with
  | some p => p.2.2 :: vJ ps r
  | none => [] := rfl
theorem fh (ps : List zI) (cols : List Int) (f : List zc) (hf : vJ ps cols = f) : tA ps cols = RN (Zo (Zo (zP f) (Tl f (wI true ps cols) (wI false ps cols))) (iG f (wI false ps cols))) := by
 unfold tA nP RN
 rw [hf]
theorem lP {ps : List zI} {cols : List Int} {lo : Bool} {i : Nat} {c : Int} {f : List zc} (hf : vJ ps cols = f) (hl : f.length = i) (hc : cols[i]? = some c) : wI lo ps cols = vP lo c ps none := by
 have hlt := (NB.1 hc).1
 unfold wI
 rw [hf, hl, Ny hlt, Nv, List.getD_eq_getElem?_getD, hc]; rfl
theorem kd {ps : List zI} {cols : List Int} {lo : Bool} {f : List zc} (hf : vJ ps cols = f) (hl : f.length = cols.length) : wI lo ps cols = none := by
 unfold wI
 rw [hf, hl, NR (by omega)]; rfl
theorem fW {ps : List zI} (h : ∀ p ∈ ps, okZ p.2.2 = true) (lo : Bool) (c : Int) : okZ (yP (vP lo c ps none)).1.2.2 = true := Vd fun p hp => by
 rcases iZ lo c ps none p hp with h1 | h1
 ·cases h1
 ·exact h p h1.1
structure FixI (ps : List zI) (cols : List Int) (i : Nat) (acc : List zc) : Prop where
 len : acc.length = i
 fix : vJ ps cols = acc ++ vJ ps (cols.drop i)
 ok : okR acc = true
 le : i ≤ cols.length
theorem FixI.zero (ps : List zI) (cols : List Int) : FixI ps cols 0 [] := ⟨rfl, rfl, rfl, Nat.zero_le _⟩
theorem FixI.next {ps : List zI} {cols : List Int} {i : Nat} {acc : List zc} {c : Int} {p : zI} (h : FixI ps cols i acc) (hok : ∀ p ∈ ps, okZ p.2.2 = true) (hcols : cols.length ≤ 64) (hc : cols[i]? = some c) (hp : ps.find? (S6 c) = some p) : FixI ps cols (i + 1) (acc ++ [p.2.2]) := by
 have hlt := (NB.1 hc).1
 refine ⟨by simp [h.len], ?_, me h.ok (by rw [h.len]; omega) (hok p (List.mem_of_find?_eq_some hp)), hlt⟩
 have hd : cols.drop i = c :: cols.drop (i + 1) := by
  rw [List.drop_eq_getElem_cons hlt]
  congr 1
  rw [NL hlt] at hc
  exact Option.some.inj hc
 rw [h.fix, hd, gq, hp, NU]; rfl
theorem FixI.stop {ps : List zI} {cols : List Int} {i : Nat} {acc : List zc} {c : Int} (h : FixI ps cols i acc) (hc : cols[i]? = some c) (hp : ps.find? (S6 c) = none) : vJ ps cols = acc := by
 have hlt := (NB.1 hc).1
 have hd : cols.drop i = c :: cols.drop (i + 1) := by
  rw [List.drop_eq_getElem_cons hlt]
  congr 1
  rw [NL hlt] at hc
  exact Option.some.inj hc
 rw [h.fix, hd, gq, hp, List.append_nil]
theorem FixI.last {ps : List zI} {cols : List Int} {acc : List zc} (h : FixI ps cols cols.length acc) : vJ ps cols = acc := by
 rw [h.fix, List.drop_length]
 show acc ++ [] = acc
 rw [List.append_nil]
theorem UV {f : List zc} (h : okR f = true) : okB 40 f = true := (gj h).1
theorem fb {acc : List zc} : List.take acc.length acc = acc := NI
theorem QR {f : List zc} (hl : f.length ≤ 64) : decide ((f.length + 1) * 40 ≤ zo) = true := Ny (by rw [show zo = 140737488355328 from rfl]; omega)
theorem Wo {cs : List Int} {e : zg} (hs : z4 e ≤ 1048576) : okB 64 (yV cs e) = true := xB.2 (by have := pd cs e; omega)
theorem az {e : zg} (h : okE e = true) : qG e = true ∧ z4 e ≤ 1048576 := by
 unfold okE at h
 rw [Nt, NO] at h
 exact ⟨h.2, h.1⟩
def iO (t : zi) (e : zg) (cols : List Int) : vM × Int := (tA (yV (xQ t) e) cols, 0)
theorem au (t : zi) (e : zg) (cols : List Int) : v6 (t, (e, cols)) = bif wD t e != 0 then (U0, wD t e) else bif decide (cols.length < 1) || decide (cols.length > 64) then (U0, 1) else bif qD t.2.1.length [] cols then iO t e cols else (U0, 1) := by
 unfold v6 uz iO
 cases wD t e != 0 <;> cases decide (cols.length < 1) || decide (cols.length > 64) <;> cases qD t.2.1.length [] cols <;> rfl
theorem PZ : ∀ X Y, F6 X = some Y → ∃ n, f6.g n X = some Y := by
 rintro ⟨t, e, cols⟩ y h
 obtain ⟨ho, rfl⟩ := zr h
 simp only [Nt] at ho
 obtain ⟨ht, hok, hcb⟩ := ho
 obtain ⟨hbig, hsz⟩ := az hok
 have hcl := yy (by omega) hcb
 refine ⟨cols.length + 1, ?_⟩
 rw [au]
 have eC : F15 (t, e) = some (wD t e) := zp (by rw [ht, hok]; rfl)
 simp only [f6.g, Rose.eta, eC, Nx]
 cases hc : wD t e != 0 with
 | true => rfl
 | false =>
  have hc0 : wD t e = 0 := by simpa using hc
  have hfine := kD hc0
  simp only [Nu, xF, gU, oz]
  have e1 : decide ((cols.length : Int) < (1 : Int)) = decide (cols.length < 1) := gU _ 1
  have e2 : decide ((cols.length : Int) > (64 : Int)) = decide (cols.length > 64) := oz _ 64
  rw [e1, e2]
  cases hlen : decide (cols.length < 1) || decide (cols.length > 64) with
  | true => rfl
  | false =>
   rw [Bool.or_eq_false_iff, decide_eq_false_iff_not, decide_eq_false_iff_not] at hlen
   have h64 : cols.length ≤ 64 := by omega
   simp only [Nu]
   have eP : F17 (t, e) = some (yV (xQ t) e) := zp (by
    simp only [okQ, hfine, Ny hsz, Ny (show z4 e < 1048577 by omega), NC])
   generalize hps : yV (xQ t) e = ps at eP
   have hpz : ∀ p ∈ ps, okZ p.2.2 = true := by rw [← hps]; exact g8 _ e hbig
   have hpb : okB 64 ps = true := by rw [← hps]; exact Wo hsz
   have inner : zY (f6.s1 (cols.length + 1) (t, (e, cols)) (wD t e) (cols.length : Int) ps) (cols.length + 1) (0, ((0 : Int), [])) = some (iO t e cols) := by
    refine z9 (step := f6.s1 (cols.length + 1) (t, (e, cols)) (wD t e) (cols.length : Int) ps) cols (fun i (acc : List zc) => (i, ((i : Int), acc))) (fun i acc => FixI ps cols i acc) (fun _ _ _ => some (iO t e cols))
     (fun S acc hI => ?_) (fun S i acc c r hi hv hr hI ih => ?_) (cols.length + 1) (NG _) [] (FixI.zero ps cols)
    ·have hf := hI.last
     have eB : F21 (List.take cols.length acc) = some (zP acc) := by rw [← hI.len, fb]; exact zp hI.ok
     simp only [f6.s1, yi, Nu, eB, Nx]
     unfold iO
     rw [hps, fh ps cols acc hf, kd hf hI.len, kd hf hI.len]
     show _ = some (RN (zP acc), 0)
     unfold RN
     cases (zP acc).2 != 0 <;> rfl
    ·have eI : F18 (ps, c) = some (up (S6 c) ps) := zp hpb
     have htk : List.take i acc = acc := by rw [← hI.len, fb]
     simp only [f6.s1, xi hi, yZ, NC, Nv, yf hv, eI, Nx, htk]
     have h64a : acc.length ≤ 64 := by rw [hI.len]; omega
     rcases fE (S6 c) (Ty.dflt (.pair (.int .i64) (.pair .str tValue))) ps with ⟨q1, q2⟩ | ⟨p, q0, q1, q2, q3, q4⟩
     ·have hf := hI.stop hv q1
      have eL : F20 (ps, (c, ((⟨#[62]⟩ : ByteArray), ((⟨#[62, 61]⟩ : ByteArray), (-1 : Int))))) = some (yP (vP true c ps none)) := by
       unfold F20
       have : iQ (ps, (c, ((⟨#[62]⟩ : ByteArray), ((⟨#[62, 61]⟩ : ByteArray), (-1 : Int))))) = true := by
        unfold iQ
        simp only [hpb, NT]
        kernel_rfl
       rw [this]; rfl
      have eH : F20 (ps, (c, ((⟨#[60]⟩ : ByteArray), ((⟨#[60, 61]⟩ : ByteArray), (1 : Int))))) = some (yP (vP false c ps none)) := by
       unfold F20
       have h1 : iQ (ps, (c, ((⟨#[60]⟩ : ByteArray), ((⟨#[60, 61]⟩ : ByteArray), (1 : Int))))) = false := by
        unfold iQ
        simp only [hpb, NT]
        kernel_rfl
       have h2 : bC (ps, (c, ((⟨#[60]⟩ : ByteArray), ((⟨#[60, 61]⟩ : ByteArray), (1 : Int))))) = true := by
        unfold bC
        simp only [hpb, NT]
        kernel_rfl
       rw [h1, h2]; rfl
      have zl := fW hpz true c
      have zh := fW hpz false c
      have ed1 : wI true ps cols = vP true c ps none := lP hf hI.len hv
      have ed2 : wI false ps cols = vP false c ps none := lP hf hI.len hv
      have eB : F21 acc = some (zP acc) := zp hI.ok
      have eK : F25 acc = some ((acc, ()), ()) := zp (UV hI.ok)
      have eF : ∀ v b, okZ v = true → F24 (acc ++ [v], b) = some (oE (acc ++ [v]) b) := fun v b hv => zp (me hI.ok h64a hv)
      have eT : ∀ v b, okZ v = true → F26 (acc ++ [v], b) = some (toE (acc ++ [v]) b) := fun v b hv => zp (me hI.ok h64a hv)
      have e2 : ∀ a b, F23 (a, b) = some (ZY a b) := fun _ _ => rfl
      unfold iO
      rw [hps, fh ps cols acc hf, ed1, ed2]
      generalize vP true c ps none = lo at *
      generalize vP false c ps none = hi at *
      have dn : decide ((-1 : Int) < (0 : Int)) = true := rfl
      simp only [q2, dn, Nv, eL, eH, Nx, eB, eK, QR h64a, Qt, eF _ _ zl, eF _ _ t7, eT _ _ zh, e2]
      simp only [show (⟨#[60, 61]⟩ : ByteArray) = leS from rfl, show (⟨#[62, 61]⟩ : ByteArray) = geS from rfl]
      unfold RN
      cases lo with
      | none =>
       cases hi with
       | none =>
        simp only [yP, Nu, Tl, iG, Zo]
        cases (zP acc).2 != 0 <;> rfl
       | some q =>
        simp only [yP, Nv, Nu, Tl, iG, Zo]
        cases h1 : (toE (acc ++ [q.2.2]) (zd q.2.1 leS)).2 != 0 <;> cases h2 : (oE (acc ++ [zeroV]) false).2 != 0 <;> cases h3 : (zP acc).2 != 0 <;> simp only [Nv, Nu, h1, h2, h3] <;> rfl
      | some p =>
       cases hi with
       | none =>
        simp only [yP, Nv, Nu, Tl, iG, Zo]
        cases h2 : (oE (acc ++ [p.2.2]) (zd p.2.1 geS)).2 != 0 <;> cases h3 : (zP acc).2 != 0 <;> simp only [Nv, Nu, h2, h3] <;> rfl
       | some q =>
        simp only [yP, Nv, Nu, Tl, iG, Zo]
        cases h1 : (toE (acc ++ [q.2.2]) (zd q.2.1 leS)).2 != 0 <;> cases h2 : (oE (acc ++ [p.2.2]) (zd p.2.1 geS)).2 != 0 <;> cases h3 : (zP acc).2 != 0 <;> simp only [Nv, Nu, h1, h2, h3] <;> rfl
     ·have dn : decide (up (S6 c) ps < (0 : Int)) = false := NR (by omega)
      have hroom : decide ((i + 1) * 40 ≤ zo) = true := Ny (by rw [show zo = 140737488355328 from rfl]; omega)
      simp only [dn, Nu, Ny q2, Ny q3, NC, Nv, hroom, q4, nx (show i ≤ _ by omega)]
      exact ih (acc ++ [p.2.2]) (hI.next hpz h64 hv q1)
   have key := uJ (l := cols) (step := f6.s2 (cols.length + 1) (t, (e, cols)) (wD t e)) (fun seen r => bif qD t.2.1.length seen r then iO t e cols else (U0, 1)) (NG _) (fun S => by
     simp only [f6.s2, yi, Nu, Rose.eta, eP, Nx, inner, qD, Nv]) (fun S i v r hi hv hr ih => by
     simp only [f6.s2, xi hi, yZ, YR hi, yf hv, mC, nx (show i ≤ _ by omega), NC, Nv, gP (pa hcb i) v, Nx, xF, ih, qD]
     cases decide (v < 0) || decide (v ≥ (t.2.1.length : Int)) with
     | true => rfl
     | false =>
      simp only [Nu]
      cases (cols.take i).any (fun w => w == v) <;> rfl)
   rw [key]
theorem Tu : ConOk Tryz.prog 6 P9 := f6.ok PZ gS eg Vf WB Xx lm XG Xj WA YZ
end Go.Proofs.YtefddghdaimklaaGreatDoor.AI
/- The range of a condition: the reference's. -/
namespace Go.Proofs.YtefddghdaimklaaGreatDoor.AI
open Go
end Go.Proofs.YtefddghdaimklaaGreatDoor.AI
