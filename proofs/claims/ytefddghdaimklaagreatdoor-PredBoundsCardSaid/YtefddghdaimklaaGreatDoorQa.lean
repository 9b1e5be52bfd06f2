/- A part of the proof. -/
import Derived.Test.YtefddghdaimklaaGreatDoorPd
import Derived.Test.YtefddghdaimklaaGreatDoorPz
import Derived.Test.YtefddghdaimklaaGreatDoorBz
import Derived.Test.YtefddghdaimklaaGreatDoorCz
import Derived.Test.YtefddghdaimklaaGreatDoorPm
set_option linter.unusedVariables false
set_option linter.unusedSimpArgs false
/- Keys, and ranges of keys. -/
namespace Go.Proofs.YtefddghdaimklaaGreatDoor.AI
open Go
theorem mM {l : List zc} (h : okR l = true) : okB 40 l = true ∧ ∀ v ∈ l, okZ v = true := by
 unfold okR at h
 rw [Li] at h
 exact ⟨h.1, Ll.1 h.2⟩
theorem bc {v : zc} (h : okZ v = true) : okV v = true := by
 unfold okZ at h
 rw [Li] at h
 exact h.1
theorem WW {v : zc} {b : List Int} (hz : okZ v = true) (hc : zO v = 0) (hb : b.length ≤ 1048576) : F76 (v, b) = some (b ++ wA v) := by
 refine zo ?_
 rw [Li, Li, beq_iff_eq]
 exact ⟨⟨hz, hc⟩, Ln hb⟩
theorem Xt {v : zc} (hz : okZ v = true) (hc : zO v = 0) : F38 v = some (wA v) := by
 refine zo ?_
 rw [Li, beq_iff_eq]
 exact ⟨hz, hc⟩
theorem jP {l : List zc} (h : l.any (fun v => zO v != 0) = false) : ∀ v ∈ l, zO v = 0 := fun v hv => by
 have := List.any_eq_false.1 h v hv
 simpa using this
theorem ij {l : List zc} (h : l.any (fun v => zO v != 0) = true) : nF l = (fJ, 10) := by unfold nF; rw [h]; rfl
theorem mg {l : List zc} (h : l.any (fun v => zO v != 0) = false) : nF l = bif decide (1024 < (mD l).length) then (fJ, 3) else (yF (mD l), 0) := by unfold nF; rw [h]; rfl
def uM (a : List Int) (r : List zc) : Option (ByteArray × Int) := some (bif decide (1024 < (a ++ mD r).length) then (fJ, 3) else (yF (a ++ mD r), 0))
theorem jA {a : List Int} {v : zc} {r : List zc} (h : 1024 < (a ++ wA v).length) : uM a (v :: r) = some (fJ, 3) := by
 unfold uM
 have : 1024 < (a ++ mD (v :: r)).length := by
  have e : a ++ mD (v :: r) = (a ++ wA v) ++ mD r := by unfold mD; simp
  rw [e, LM]; omega
 rw [Ln this]; rfl
theorem lO (a : List Int) (v : zc) (r : List zc) : uM a (v :: r) = uM (a ++ wA v) r := by
 unfold uM
 have e : a ++ mD (v :: r) = (a ++ wA v) ++ mD r := by unfold mD; simp
 rw [e]
theorem iS {l : List zc} (ho : ∀ v ∈ l, okZ v = true) (hc : ∀ v ∈ l, zO v = 0) (hl : l.length ≤ 140737488355328) (y : Int) {n : Nat} (hn : l.length < n) :
  zF (f46.s1 n l y) n (0, ((0 : Int), [])) = uM [] l :=
 zP (step := f46.s1 n l y) l (fun i (a : List Int) => (a.length, ((i : Int), a))) (fun i a => a.length ≤ 1024) (fun i a r => uM a r)
  (fun S a ha => by
   simp only [f46.s1, zM, Lj, Lz]
   unfold uM
   have : mD [] = [] := rfl
   rw [this, List.append_nil, LI (by omega)]; rfl)
  (fun S i a v r hi hv hr ha ih => by
   have hmem : v ∈ l := Ls hv
   simp only [f46.s1, zX hi, z1, Lr, Lk, zE hv, Lz, WW (ho v hmem) (hc v hmem) (show a.length ≤ 1048576 by omega), Lm, nx (show i ≤ _ by omega)]
   by_cases h : 1024 < (a ++ wA v).length
   ·rw [Ln (show (((a ++ wA v).length : Nat) : Int) > 1024 by omega), Lk, jA h]; rfl
   ·rw [LI (show ¬ (((a ++ wA v).length : Nat) : Int) > 1024 by omega), Lj, ih (a ++ wA v) (by omega), lO])
  n hn [] (by simp)
theorem Q7 : ∀ X Y, F46 X = some Y → ∃ n, f46.g n X = some Y := by
 intro l y h
 obtain ⟨hr, rfl⟩ := zr h
 obtain ⟨hb, ho⟩ := mM hr
 have hl := zS (by omega) hb
 refine ⟨l.length + 1, ?_⟩
 have := zP (step := f46.s2 (l.length + 1) l) l (fun i (_ : Unit) => (i : Int)) (fun _ _ => True)
  (fun i _ r => bif r.any (fun v => zO v != 0) then some (fJ, 10) else zF (f46.s1 (l.length + 1) l (l.length : Int)) (l.length + 1) (0, ((0 : Int), [])))
  (fun S a _ => by simp only [f46.s2, zM, Lj, List.any_nil])
  (fun S i a v r hi hv hr _ ih => by
   have hmem : v ∈ l := Ls hv
   simp only [f46.s2, zX hi, z1, Lr, Lk, zE hv, s8 (bc (ho v hmem)), Lm, nx (show i ≤ _ by omega), List.any_cons]
   cases zO v != 0 with
   | true => rfl
   | false => rw [Lj, Bool.false_or]; exact ih () trivial)
  (l.length + 1) (Lv _) () trivial
 show zF (f46.s2 (l.length + 1) l) (l.length + 1) ((0 : Nat) : Int) = _
 rw [this]
 cases ha : l.any (fun v => zO v != 0) with
 | true => rw [Lk, ij ha]
 | false =>
  rw [Lj, iS ho (jP ha) hl _ (Lv _), mg ha]
  rfl
theorem Ve : ConOk Tryz.prog 46 RB := f46.ok Q7 tg Xy
theorem ZW {v : zc} (hz : okZ v = true) (hc : zO v = 0) : (wA v).length ≤ 200001 := by
 obtain ⟨k, i, u, s⟩ := v
 obtain ⟨hi, hu⟩ := pM hz
 obtain ⟨k0, k5, k1, hs⟩ := rY hc
 have l1 := jS hi
 have l2 : (qe (tI (wv u))).length = 8 := by unfold qe; exact nP _ _
 have l3 := bH (zR s)
 rw [td] at l3
 unfold wA
 rw [List.length_cons]
 have : (bif k == 1 then [i] else bif k == 2 then pw i else bif k == 3 then qe (tI (wv u)) else bif k == 4 || k == 5 then j3 (zR s) else []).length ≤ 200000 := by
  cases k == 1 with
  | true => simp
  | false => cases k == 2 with
   | true => simp only [Lk, Lj]; omega
   | false => cases k == 3 with
    | true => simp only [Lk, Lj]; omega
    | false => cases k == 4 || k == 5 with
     | true => simp only [Lk, Lj]; omega
     | false => simp
 exact Nat.succ_le_succ this
theorem jf {l : List zc} (ho : ∀ v ∈ l, okZ v = true) (hc : ∀ v ∈ l, zO v = 0) (hl : l.length ≤ 140737488355328) (y : Int) {n : Nat} (hn : l.length < n) :
  zF (f12.s1 n l y) n (0, ((0 : Int), [])) = uM [] l :=
 zP (step := f12.s1 n l y) l (fun i (a : List Int) => (a.length, ((i : Int), a))) (fun i a => a.length ≤ 1024) (fun i a r => uM a r)
  (fun S a ha => by
   simp only [f12.s1, zM, Lj, Lz]
   unfold uM
   have : mD [] = [] := rfl
   rw [this, List.append_nil, LI (by omega)]; rfl)
  (fun S i a v r hi hv hr ha ih => by
   have hmem : v ∈ l := Ls hv
   have hcl := ZW (ho v hmem) (hc v hmem)
   have hr : decide ((a.length + (wA v).length) * 1 ≤ zq) = true := wx (by omega)
   simp only [f12.s1, zX hi, z1, Lr, Lk, zE hv, Lz, Xt (ho v hmem) (hc v hmem), Lm, nx (show i ≤ _ by omega), hr]
   have e : (a ++ wA v).length = a.length + (wA v).length := LM
   by_cases h : 1024 < (a ++ wA v).length
   ·rw [Ln (show ((a.length + (wA v).length : Nat) : Int) > 1024 by omega), Lk, jA h]; rfl
   ·have := ih (a ++ wA v) (by omega)
    rw [e] at this
    rw [LI (show ¬ ((a.length + (wA v).length : Nat) : Int) > 1024 by omega), Lj, this, lO])
  n hn [] (by simp)
theorem Pz : ∀ X Y, F12 X = some Y → ∃ n, f12.g n X = some Y := by
 intro l y h
 obtain ⟨hr, rfl⟩ := zr h
 obtain ⟨hb, ho⟩ := mM hr
 have hl := zS (by omega) hb
 refine ⟨l.length + 1, ?_⟩
 have := zP (step := f12.s2 (l.length + 1) l) l (fun i (_ : Unit) => (i : Int)) (fun _ _ => True)
  (fun i _ r => bif r.any (fun v => zO v != 0) then some (fJ, 10) else zF (f12.s1 (l.length + 1) l (l.length : Int)) (l.length + 1) (0, ((0 : Int), [])))
  (fun S a _ => by simp only [f12.s2, zM, Lj, List.any_nil])
  (fun S i a v r hi hv hr _ ih => by
   have hmem : v ∈ l := Ls hv
   simp only [f12.s2, zX hi, z1, Lr, Lk, zE hv, my (bc (ho v hmem)), Lm, nx (show i ≤ _ by omega), List.any_cons]
   cases zO v != 0 with
   | true => rfl
   | false => rw [Lj, Bool.false_or]; exact ih () trivial)
  (l.length + 1) (Lv _) () trivial
 show zF (f12.s2 (l.length + 1) l) (l.length + 1) ((0 : Nat) : Int) = _
 rw [this]
 cases ha : l.any (fun v => zO v != 0) with
 | true => rw [Lk, ij ha]
 | false =>
  rw [Lj, jf ho (jP ha) hl _ (Lv _), mg ha]
  rfl
theorem Xd : ConOk Tryz.prog 12 So := f12.ok Pz mw WK
theorem fW {l : List zc} (h : (nF l).2 = 0) : (nF l).1.size ≤ 1024 := by
 cases ha : l.any (fun v => zO v != 0) with
 | true => rw [ij ha] at h; cases h
 | false =>
  rw [mg ha] at h ⊢
  by_cases hl : 1024 < (mD l).length
  ·rw [Ln hl] at h; cases h
  ·rw [LI hl, Lj]
   have : (yF (mD l)).size = (mD l).length := by
    unfold yF
    show (List.toArray _).size = _
    simp
   show (yF (mD l)).size ≤ 1024
   omega
theorem PR : ∀ X Y, F21 X = some Y → ∃ n, f21.g n X = some Y := by
 intro l y h
 obtain ⟨hr, rfl⟩ := zr h
 refine ⟨0, ?_⟩
 have e : F46 l = some (nF l) := zo hr
 simp only [f21.g, e, Lm, zx]
 cases hb : (nF l).2 != 0 with
 | true => rfl
 | false =>
  have h0 : (nF l).2 = 0 := by simpa using hb
  have hs := fW h0
  have h1 : decide ((nF l).1.size + (⟨#[255]⟩ : ByteArray).size ≤ xk) = true := Ln (by
   have : (⟨#[255]⟩ : ByteArray).size = 1 := rfl
   rw [show xk = 9223372036854775807 from rfl]; omega)
  rw [Lj, h1, Lk, Lj]; rfl
theorem lj : ConOk Tryz.prog 21 iJ := f21.ok PR Ve
theorem Ot : ∀ X Y, F24 X = some Y → ∃ n, f24.g n X = some Y := by
 rintro ⟨l, inn⟩ y h
 obtain ⟨hr, rfl⟩ := zr h
 refine ⟨0, ?_⟩
 have e : F21 l = some (zx l) := zo hr
 simp only [f24.g, e, Lm, uZ]
 cases (zx l).2 != 0 with
 | true => rfl
 | false => cases inn <;> rfl
theorem W5 : ConOk Tryz.prog 24 SE := f24.ok Ot lj
theorem Qo : ∀ X Y, F26 X = some Y → ∃ n, f26.g n X = some Y := by
 rintro ⟨l, inn⟩ y h
 obtain ⟨hr, rfl⟩ := zr h
 refine ⟨0, ?_⟩
 have e : F21 l = some (zx l) := zo hr
 simp only [f26.g, e, Lm, toE]
 cases (zx l).2 != 0 with
 | true => rfl
 | false => cases inn <;> rfl
theorem XW : ConOk Tryz.prog 26 Rm := f26.ok Qo lj
theorem Pu : ∀ X Y, F53 X = some Y → ∃ n, f53.g n X = some Y := by
 intro l y h
 obtain ⟨hr, rfl⟩ := zr h
 refine ⟨0, ?_⟩
 have e : F12 l = some (nF l) := zo hr
 simp only [f53.g, e, Lm, zx]
 cases hb : (nF l).2 != 0 with
 | true => rfl
 | false =>
  have h0 : (nF l).2 = 0 := by simpa using hb
  have hs := fW h0
  have h1 : decide ((nF l).1.size + (⟨#[255]⟩ : ByteArray).size ≤ xk) = true := Ln (by
   have : (⟨#[255]⟩ : ByteArray).size = 1 := rfl
   rw [show xk = 9223372036854775807 from rfl]; omega)
  rw [Lj, h1, Lk, Lj]; rfl
theorem mC : ConOk Tryz.prog 53 ir := f53.ok Pu Xd
theorem Pj : ∀ X Y, F55 X = some Y → ∃ n, f55.g n X = some Y := by
 rintro ⟨l, inn⟩ y h
 obtain ⟨hr, rfl⟩ := zr h
 refine ⟨0, ?_⟩
 have e : F53 l = some (zx l) := zo hr
 simp only [f55.g, e, Lm, uZ]
 cases (zx l).2 != 0 with
 | true => rfl
 | false => cases inn <;> rfl
theorem Wg : ConOk Tryz.prog 55 Tq := f55.ok Pj mC
theorem Q8 : ∀ X Y, F57 X = some Y → ∃ n, f57.g n X = some Y := by
 rintro ⟨l, inn⟩ y h
 obtain ⟨hr, rfl⟩ := zr h
 refine ⟨0, ?_⟩
 have e : F53 l = some (zx l) := zo hr
 simp only [f57.g, e, Lm, toE]
 cases (zx l).2 != 0 with
 | true => rfl
 | false => cases inn <;> rfl
theorem Wq : ConOk Tryz.prog 57 UA := f57.ok Q8 mC
theorem ki {α : Type} {c : Bool} {x y : α} : (bif c then some x else some y) = some (bif c then x else y) := by cases c <;> rfl
theorem QB : ∀ X Y, F23 X = some Y → ∃ n, f23.g n X = some Y := by
 rintro ⟨⟨a1, a2, a3⟩, ⟨b1, b2, b3⟩⟩ y h
 cases h
 refine ⟨0, ?_⟩
 cases a3 <;> cases b3 <;> exact ki
theorem Vk : ConOk Tryz.prog 23 SM := f23.ok QB
theorem PD (a b : ByteArray) : (yT b a || zd b a) = !(yT a b) := by
 rw [(ll b a).1, (ll b a).2, (ll a b).1, WM a b]
 rcases rn a.data.toList b.data.toList with h | h | h
 ·have h' : iW a b = -1 := h
  rw [h']; rfl
 ·have h' : iW a b = 0 := h
  rw [h']; rfl
 ·have h' : iW a b = 1 := h
  rw [h']; rfl
theorem QW : ∀ X Y, F56 X = some Y → ∃ n, f56.g n X = some Y := by
 rintro ⟨⟨a1, a2, a3⟩, ⟨b1, b2, b3⟩⟩ y h
 cases h
 refine ⟨0, ?_⟩
 simp only [f56.g, tE, Us, SP, lp, PD, Bool.not_not, Lk, Lj]
 cases h1 : yT a1 b1 <;> cases h2 : yT b2 a2 <;> cases a3 <;> cases b3 <;> simp only [Lk, Lj, LA, LN, Bool.and_true, Bool.and_false, LK, Bool.false_and, h1, h2] <;> first | rfl | exact ki
theorem Vh : ConOk Tryz.prog 56 Td := f56.ok QW
end Go.Proofs.YtefddghdaimklaaGreatDoor.AI
/- Parts of a condition: what finds them. -/
namespace Go.Proofs.YtefddghdaimklaaGreatDoor.AI
open Go
theorem Q2 : ∀ X Y, F51 X = some Y → ∃ n, f51.g n X = some Y := by
 intro op y h
 cases h
 refine ⟨0, ?_⟩
 simp only [f51.g, lr]
 cases zd op ⟨#[60]⟩ <;> cases zd op ⟨#[60, 61]⟩ <;> cases zd op ⟨#[62]⟩ <;> cases zd op ⟨#[62, 61]⟩ <;> rfl
theorem WA : ConOk Tryz.prog 51 Tz := f51.ok Q2
theorem WS : ConOk Tryz.prog 25 SZ := f25.ok (fun l y h z hz => by
 obtain ⟨hb, rfl⟩ := zr h
 refine ⟨0, ?_⟩
 cases z with
 | true => rw [hz rfl]; rfl
 | false =>
  have hl := xJ.1 hb
  have h1 : decide (l.length * 40 ≤ zq) = true := Ln (by rw [show zq = 140737488355328 from rfl]; omega)
  simp only [f25.g, Lj, Nat.zero_add, h1, Lk]
  rw [show List.take l.length (List.take 0 ([] : List zc) ++ l) = l from Lz])
theorem QQ : ∀ X Y, F18 X = some Y → ∃ n, f18.g n X = some Y := by
 rintro ⟨l, c⟩ y h
 obtain ⟨hb, rfl⟩ := zr h
 have hl := zS (by omega) (show okB 64 l = true from hb)
 refine ⟨l.length + 1, ?_⟩
 exact wH (l := l) (fun p => p.1 == c && zd p.2.1 eqS) (step := f18.s1 (l.length + 1) (l, c)) (Lv _)
  (fun S => by simp only [f18.s1, zM, Lj])
  (fun S i v hi hv => by
   simp only [f18.s1, zX hi, z1, Lr, Lk, zE hv, nx (show i ≤ _ by omega), zW]
   rfl)
theorem Xs : ConOk Tryz.prog 18 T7 := f18.ok QQ
theorem kZ {α : Type} (l : List (List α)) (i : Nat) : (l.take i).flatten.length ≤ l.flatten.length := by
 conv => rhs; rw [← List.take_append_drop i l, List.flatten_append, LM]
 omega
theorem gz {l : List (List zD)} (hf : l.flatten.length ≤ 1048576) (hl : l.length ≤ 2) {step : ((Nat × Int × List zD) → Option (List zD)) → (Nat × Int × List zD) → Option (List zD)} {n : Nat} (hn : l.length < n)
  (hend : ∀ S k q, step S (k, ((l.length : Int), q)) = some (List.take k q))
  (hstep : ∀ S i v k q, i < l.length → l[i]? = some v → (k + v.length) * 64 ≤ zq → step S (k, ((i : Int), q)) = S (k + v.length, (((i + 1 : Nat) : Int), List.take k q ++ v))) (q : List zD) :
  zF step n (0, ((0 : Int), q)) = some l.flatten := by
 have := zP (step := step) l (fun i (p : List zD × List zD) => (p.1.length, ((i : Int), p.2))) (fun i p => List.take p.1.length p.2 = p.1 ∧ p.1 = (l.take i).flatten) (fun i p r => some (p.1 ++ r.flatten))
  (fun S p hp => by show step S (p.1.length, ((l.length : Int), p.2)) = _; rw [hend, hp.1]; simp)
  (fun S i p v r hi hv hr hp ih => by
   have e : p.1 ++ v = (l.take (i + 1)).flatten := by rw [← xo hv, List.flatten_append, ← hp.2]; simp
   have hle := kZ l (i + 1)
   rw [← e, LM] at hle
   show step S (p.1.length, ((i : Int), p.2)) = _
   rw [hstep S i v _ _ hi hv (by rw [show zq = 140737488355328 from rfl]; omega), hp.1]
   have := ih (p.1 ++ v, p.1 ++ v) ⟨Lz, e⟩
   rw [LM] at this
   show S (p.1.length + v.length, (((i + 1 : Nat) : Int), p.1 ++ v)) = _
   rw [this, List.flatten_cons, LL]) n hn ([], q) ⟨by simp, by simp⟩
 simpa using this
theorem QS : ∀ X Y, F43 X = some Y → ∃ n, f43.g n X = some Y := by
 intro l y h
 obtain ⟨hc, rfl⟩ := zr h
 simp only [Li, LF] at hc
 obtain ⟨hl, hf⟩ := hc
 refine ⟨l.length + 1, ?_⟩
 have e1 (y : Int × Int) (q : List zD) : zF (f43.s1 (l.length + 1) l y) (l.length + 1) (0, ((0 : Int), q)) = some l.flatten :=
  gz hf hl (Lv _) (fun S k q => by simp only [f43.s1, zM, Lj]) (fun S i v k q hi hv hb => by
   simp only [f43.s1, zX hi, z1, Lr, Lk, zE hv, Ln hb, nx (show i ≤ _ by omega)]) q
 have e2 (y : Int × Int) (q : List zD) : zF (f43.s2 (l.length + 1) l y) (l.length + 1) (0, ((0 : Int), q)) = some l.flatten :=
  gz hf hl (Lv _) (fun S k q => by simp only [f43.s2, zM, Lj]) (fun S i v k q hi hv hb => by
   simp only [f43.s2, zX hi, z1, Lr, Lk, zE hv, Ln hb, nx (show i ≤ _ by omega)]) q
 have := zP (step := f43.s3 (l.length + 1) l) l (fun i (a : Nat) => ((a : Int), (i : Int))) (fun i a => a = (l.take i).flatten.length) (fun _ _ _ => some l.flatten)
  (fun S a ha => by
   rw [Lz] at ha
   have d0 : decide ((a : Int) < (0 : Int)) = false := LI (by omega)
   have w : IntKind.wrap .i64 ((a : Int) - (0 : Int)) = (a : Int) := by rw [Int.sub_zero, xu (by omega)]
   simp only [f43.s3, zM, Lj, d0, w, e1, e2]
   by_cases hp : 0 < a
   ·rw [Ln (show (a : Int) > 0 by omega), Int.toNat_natCast, Ln (show a * 64 ≤ zq by rw [show zq = 140737488355328 from rfl]; omega), Ln (show (0 : Int) ≤ (a : Int) by omega)]
    rfl
   ·rw [LI (show ¬ (a : Int) > 0 by omega)]; rfl)
  (fun S i a v r hi hv hr ha ih => by
   have e : a + v.length = (l.take (i + 1)).flatten.length := by rw [← xo hv, List.flatten_append, LM, ← ha]; simp
   have hle := kZ l (i + 1)
   rw [← e] at hle
   have w : IntKind.wrap .i64 ((a : Int) + (v.length : Int)) = ((a + v.length : Nat) : Int) := by rw [show ((a : Int) + (v.length : Int)) = ((a + v.length : Nat) : Int) by omega, xu (by omega)]
   have d0 : decide (((a + v.length : Nat) : Int) < (0 : Int)) = false := LI (by omega)
   simp only [f43.s3, zX hi, z1, Lr, Lk, zE hv, w, d0, Lj, nx (show i ≤ _ by omega)]
   exact ih (a + v.length) e) (l.length + 1) (Lv _) 0 (by simp)
 exact this
theorem Wv : ConOk Tryz.prog 43 TU := f43.ok QS
def d4 (lo : Bool) (c : Int) (p : zD) (o : Option zD) : Option zD := bif p.1 == c && rz lo p.2.1 then (match o with
  | none => some p
  | some q => bif sR lo p q then some p else some q) else o
theorem br (lo : Bool) (c : Int) (p : zD) (r : List zD) (o : Option zD) : yE lo c (p :: r) o = yE lo c r (d4 lo c p o) := rfl
theorem lv {l : List zD} {lo : Bool} {c : Int} {step : ((Bool × Int × zD) → Option (zD × Bool)) → (Bool × Int × zD) → Option (zD × Bool)} {n : Nat} (hn : l.length < n)
  (hend : ∀ S z p, step S (z, ((l.length : Int), p)) = some (p, z))
  (hstep : ∀ S i v o, i < l.length → l[i]? = some v → step S ((z6 o).2, ((i : Int), (z6 o).1)) = S ((z6 (d4 lo c v o)).2, (((i + 1 : Nat) : Int), (z6 (d4 lo c v o)).1))) :
  zF step n (false, ((0 : Int), (0, (noS, zeroV)))) = some (z6 (yE lo c l none)) :=
 zP (step := step) l (fun i (o : Option zD) => ((z6 o).2, ((i : Int), (z6 o).1))) (fun _ _ => True) (fun i o r => some (z6 (yE lo c r o)))
  (fun S o _ => by show step S ((z6 o).2, ((l.length : Int), (z6 o).1)) = _; rw [hend]; rfl)
  (fun S i o v r hi hv hr _ ih => by
   show step S ((z6 o).2, ((i : Int), (z6 o).1)) = _
   rw [hstep S i v o hi hv, br]
   exact ih _ trivial) n hn none trivial
end Go.Proofs.YtefddghdaimklaaGreatDoor.AI
/- Parts of a condition: the one that leaves the least; all of them. -/
namespace Go.Proofs.YtefddghdaimklaaGreatDoor.AI
open Go
theorem jw {r : Int} (h : r = -1 ∨ r = 0 ∨ r = 1) : IntKind.wrap .i64 ((-1 : Int) * r) = 0 - r ∧ IntKind.wrap .i64 ((1 : Int) * r) = r ∧ IntKind.wrap .i64 ((0 : Int) - r) = 0 - r := by
 rcases h with rfl | rfl | rfl <;> exact ⟨rfl, rfl, rfl⟩
theorem UB (r : Int) : decide (0 - r < 0) = decide (0 < r) := by congr 1; apply propext; omega
theorem bW (r : Int) : (0 - r == 0) = (r == 0) := by rw [Bool.eq_iff_iff, beq_iff_eq, beq_iff_eq]; omega
theorem SQ (r : Int) : decide (r < 0) = decide (0 < 0 - r) := by congr 1; apply propext; omega
theorem w9 (q : zD) : z6 (some q) = (q, true) := rfl
theorem pZ {R : Type} (S : (Bool × Int × zD) → R) (lo : Bool) (c : Int) (v : zD) (o : Option zD) (j : Int) (skip take : Bool)
  (hs : skip = !(v.1 == c && rz lo v.2.1)) (ht : v.1 == c && rz lo v.2.1 → take = match o with | none => true | some q => sR lo v q) :
  (bif skip then S ((z6 o).2, (j, (z6 o).1)) else bif take then S (true, (j, v)) else S ((z6 o).2, (j, (z6 o).1))) = S ((z6 (d4 lo c v o)).2, (j, (z6 (d4 lo c v o)).1)) := by
 unfold d4
 cases hq : (v.1 == c && rz lo v.2.1) with
 | false => rw [hs, hq]; rfl
 | true =>
  have := ht hq
  rw [hs, hq, this]
  cases o with
  | none => rfl
  | some q => cases ht' : sR lo v q <;> simp only [ht', Lk, Lj, LA] <;> rfl
theorem PW : ∀ X Y, F20 X = some Y → ∃ n, f20.g n X = some Y := by
 rintro ⟨l, c, s1, s2, sg⟩ y h
 have key : ∀ (lo : Bool), okB 64 l = true → s1 = (bif lo then gtS else ltS) → s2 = (bif lo then geS else leS) → sg = (bif lo then -1 else 1) →
   ∃ n, f20.g n (l, c, s1, s2, sg) = some (z6 (yE lo c l none)) := fun lo hb e1 e2 e3 => by
  subst e1; subst e2; subst e3
  have hl := zS (by omega) hb
  refine ⟨l.length + 1, ?_⟩
  refine lv (l := l) (lo := lo) (c := c) (step := f20.s1 (l.length + 1) (l, c, (bif lo then gtS else ltS), (bif lo then geS else leS), (bif lo then -1 else 1))) (Lv _) (fun S z p => by
   simp only [f20.s1, zM, Lj]) (fun S i v o hi hv => ?_)
  have ec : F45 (v.2.2, (z6 o).1.2.2) = some (kG v.2.2 (z6 o).1.2.2) := rfl
  simp only [f20.s1, zX hi, z1, Lr, Lk, zE hv, nx (show i ≤ _ by omega), ec, Lm]
  obtain ⟨w1, w2, _⟩ := jw (nE v.2.2 (z6 o).1.2.2)
  refine pZ S lo c v o _ _ _ ?_ ?_
  ·cases lo with
   | true => simp only [bne, rz, Lk, Lj]; cases v.1 == c <;> cases zd v.2.1 gtS <;> cases zd v.2.1 geS <;> rfl
   | false => simp only [bne, rz, Lk, Lj]; cases v.1 == c <;> cases zd v.2.1 ltS <;> cases zd v.2.1 leS <;> rfl
  ·intro _
   cases o with
   | none => rfl
   | some q =>
    rw [w9] at w1 w2
    cases lo with
    | true => simp only [w9, LA, Lk, Lj, w1, yf, zW, UB, bW, sR, co, mX] <;> rfl
    | false => simp only [w9, LA, Lk, Lj, w2, yf, zW, SQ, bW, sR, co, mX] <;> rfl
 unfold F20 at h
 cases h1 : j5 (l, c, s1, s2, sg) with
 | true =>
  rw [h1] at h
  cases h
  simp only [j5, Li, beq_iff_eq] at h1
  exact key true h1.1 ((zI _ _).1 h1.2.1) ((zI _ _).1 h1.2.2.1) h1.2.2.2
 | false =>
  rw [h1, Lj] at h
  cases h2 : bT (l, c, s1, s2, sg) with
  | false => rw [h2] at h; cases h
  | true =>
   rw [h2] at h
   cases h
   simp only [bT, Li, beq_iff_eq] at h2
   exact key false h2.1 ((zI _ _).1 h2.2.1) ((zI _ _).1 h2.2.2.1) h2.2.2.2
theorem XS : ConOk Tryz.prog 20 RT := f20.ok PW eE
theorem fE {lo : Bool} {op : ByteArray} (h : rz lo op = true) : ((op.size : Int) == (1 : Int)) = mX lo op := by
 unfold rz at h
 cases lo with
 | true =>
  rw [Lk, Bool.or_eq_true] at h
  rcases h with h | h
  ·rw [(zI _ _).1 h]; kernel_rfl
  ·rw [(zI _ _).1 h]; kernel_rfl
 | false =>
  rw [Lj, Bool.or_eq_true] at h
  rcases h with h | h
  ·rw [(zI _ _).1 h]; kernel_rfl
  ·rw [(zI _ _).1 h]; kernel_rfl
theorem Qj : ∀ X Y, F30 X = some Y → ∃ n, f30.g n X = some Y := by
 rintro ⟨l, c, lo⟩ y h
 obtain ⟨hb, rfl⟩ := zr h
 have hl := zS (by omega) (show okB 64 l = true from hb)
 refine ⟨l.length + 1, ?_⟩
 refine lv (l := l) (lo := lo) (c := c) (step := f30.s1 (l.length + 1) (l, c, lo)) (Lv _) (fun S z p => by
  simp only [f30.s1, zM, Lj]) (fun S i v o hi hv => ?_)
 have ec : F52 (v.2.2, (z6 o).1.2.2) = some (kG v.2.2 (z6 o).1.2.2) := rfl
 simp only [f30.s1, zX hi, z1, Lr, Lk, zE hv, nx (show i ≤ _ by omega), ec, Lm]
 obtain ⟨_, _, w3⟩ := jw (nE v.2.2 (z6 o).1.2.2)
 cases lo with
 | true =>
  simp only [LA, Lj]
  refine pZ S true c v o _ _ _ ?_ ?_
  ·simp only [bne, rz, Lk, Lj]
   show _ = !(v.1 == c && (zd v.2.1 ⟨#[62]⟩ || zd v.2.1 ⟨#[62, 61]⟩))
   cases v.1 == c <;> cases zd v.2.1 ⟨#[62]⟩ <;> cases zd v.2.1 ⟨#[62, 61]⟩ <;> rfl
  ·intro hq
   rw [Li] at hq
   cases o with
   | none => rfl
   | some q => simp only [w9, LA, Lk, Lj, yf, zW, fE hq.2, sR, co, Bool.false_or] <;> rfl
 | false =>
  simp only [LN, Lk]
  refine pZ S false c v o _ _ _ ?_ ?_
  ·simp only [bne, rz, Lk, Lj]
   show _ = !(v.1 == c && (zd v.2.1 ⟨#[60]⟩ || zd v.2.1 ⟨#[60, 61]⟩))
   cases v.1 == c <;> cases zd v.2.1 ⟨#[60]⟩ <;> cases zd v.2.1 ⟨#[60, 61]⟩ <;> rfl
  ·intro hq
   rw [Li] at hq
   cases o with
   | none => rfl
   | some q =>
    rw [w9] at w3
    simp only [w3, w9, LA, Lk, Lj, yf, zW, fE hq.2, sR, co, Bool.false_or] <;> rfl
theorem Xl : ConOk Tryz.prog 30 T4 := f30.ok Qj Xu
end Go.Proofs.YtefddghdaimklaaGreatDoor.AI
/- Parts of a condition: all of them. -/
namespace Go.Proofs.YtefddghdaimklaaGreatDoor.AI
open Go
theorem io {P : Program} {f : FuncId} {s : Sig} {l : List (Bool × List Rc)} {F : s.den → Option (RdL l)} (h : ∀ X, F X = none) : ConOk P f (vD s l F) :=
 sP fun x vals z Y hI hvx hF => by rw [h] at hF; cases hF
theorem pn (cs : List Int) (e : zn) : yH cs e = bif e.lab.1 == 4 && zd e.lab.2.1 xY then n9 cs e.kids else mI cs e.lab e.kids := by cases e; rfl
theorem Ya (cs : List Int) (c : zn) (op : ByteArray) (v : zn) : (oV cs c op v).length ≤ 1 := by
 unfold oV
 cases (c.lab.1 == 2 && (v.lab.1 == 1 && v.lab.2.2.2.1 == cs.getD c.lab.2.2.1.toNat 0)) <;> simp
theorem Zd (cs : List Int) (a : Int × ByteArray × Int × zc) (ks : List zn) : (mI cs a ks).length ≤ 1 := by
 unfold mI
 cases (a.1 == 4 && (inS cpL a.2.1 && !(zd a.2.1 ⟨#[60, 62]⟩))) with
 | false => simp
 | true =>
  rw [Lk]
  cases ((ks.getD 0 qJ).lab.1 == 1) <;> simp only [Lk, Lj] <;> exact Ya ..
mutual
theorem vZ (cs : List Int) : ∀ e : zn, (yH cs e).length ≤ zT e
 | .node a ks => by
  simp only [yH, zT]
  cases (a.1 == 4 && zd a.2.1 xY) with
  | true => have := kF cs ks; simp only [Lk]; omega
  | false => have := Zd cs a ks; simp only [Lj]; omega
theorem kF (cs : List Int) : ∀ l : List zn, (n9 cs l).length ≤ xz l
 | [] => by simp [n9]
 | k :: r => by
  have h1 := vZ cs k
  have h2 := kF cs r
  simp only [n9, xz, LM]; omega
end
theorem Ou (op : ByteArray) : (inS cpL op = false ∧ ut (fun w => zd w op) cpL = -1) ∨ (inS cpL op = true ∧ 0 ≤ ut (fun w => zd w op) cpL ∧ ut (fun w => zd w op) cpL < (tnL.length : Int) ∧ tnL.getD (ut (fun w => zd w op) cpL).toNat (Ty.dflt .str) = lr op) := by
 cases h : inS cpL op with
 | false =>
  refine .inl ⟨rfl, ?_⟩
  unfold ut
  have : List.findIdx? (fun w => zd w op) cpL = none := by
   rw [List.findIdx?_eq_none_iff]
   intro x hx
   unfold inS at h
   rw [List.any_eq_false] at h
   simpa using h x hx
  rw [this]
 | true =>
  refine .inr ⟨rfl, ?_⟩
  unfold inS at h
  rw [List.any_eq_true] at h
  obtain ⟨x, hx, hxo⟩ := h
  rw [(zI _ _).1 hxo] at hx
  simp only [cpL, LD, List.not_mem_nil, or_false] at hx
  rcases hx with rfl | rfl | rfl | rfl | rfl | rfl
  ·exact ⟨LB (by kernel_rfl), LB (by kernel_rfl), by kernel_rfl⟩
  ·exact ⟨LB (by kernel_rfl), LB (by kernel_rfl), by kernel_rfl⟩
  ·exact ⟨LB (by kernel_rfl), LB (by kernel_rfl), by kernel_rfl⟩
  ·exact ⟨LB (by kernel_rfl), LB (by kernel_rfl), by kernel_rfl⟩
  ·exact ⟨LB (by kernel_rfl), LB (by kernel_rfl), by kernel_rfl⟩
  ·exact ⟨LB (by kernel_rfl), LB (by kernel_rfl), by kernel_rfl⟩
theorem sY {R : Type} {t : zg} {c v : zn} {op : ByteArray} (hc : yS t.2.1.length c = true) (k : List zD → Option R) :
  (bif bif (c.lab.1 != (2 : Int)) then true else (v.lab.1 != (1 : Int)) then k [] else (bif decide (0 ≤ c.lab.2.2.1) && decide (c.lab.2.2.1 < (t.2.1.length : Int)) then (bif v.lab.2.2.2.1 != (t.2.1.getD (c.lab.2.2.1.toNat) tColumn.dflt).2.1 then k [] else k (List.take 1 [(c.lab.2.2.1, (op, v.lab.2.2.2))])) else none)) = k (oV (yG t) c op v) := by
 unfold oV
 cases h2 : c.lab.1 == 2 with
 | false => simp only [bne, h2, LN, Lk, Bool.false_and, Lj]
 | true =>
  cases h1 : v.lab.1 == 1 with
  | false => simp only [bne, h1, h2, LA, LN, Lk, Bool.false_and, Lj, Bool.and_false]
  | true =>
   have hl : c.lab.1 = 2 := by simpa using h2
   rw [tY, Li] at hc
   have hn := hc.1
   unfold wt rN at hn
   rw [hl] at hn
   simp only [show ((2 : Int) == 1) = false from rfl, show ((2 : Int) == 2) = true from rfl, Bool.false_or, Lk, Lj, Li, LF] at hn
   have hg := m7 t c.lab.2.2.1 hn.2.2.1 hn.2.2.2.1
   simp only [bne, h1, h2, LA, Lj, Ln hn.2.2.1, Ln hn.2.2.2.1, Lr, Lk, LK, hg]
   cases v.lab.2.2.2.1 == (t.2.1.getD c.lab.2.2.1.toNat tColumn.dflt).2.1 <;> rfl
theorem gr {n : Nat} {e : zn} (hf : yS n e = true) (h4 : (e.lab.1 == 4) = true) : ∃ p q, e.kids = [p, q] ∧ yS n p = true ∧ yS n q = true := by
 rw [tY, Li] at hf
 have h4' : e.lab.1 = 4 := by simpa using h4
 have hnb := hf.1
 unfold wt at hnb
 rw [h4'] at hnb
 have hi : wF e.lab e.kids.length = true := hnb
 unfold wF Qf at hi
 rw [h4'] at hi
 simp only [show ((4 : Int) == 3) = false from rfl, show ((4 : Int) == 4) = true from rfl, Lk, Lj, Li, beq_iff_eq] at hi
 have hlen := hi.1.1
 match hk : e.kids, hlen with
 | [p, q], _ =>
  rw [hk] at hf
  simp only [ux, Li] at hf
  exact ⟨p, q, rfl, hf.2.1, hf.2.2.1⟩
theorem lF (cs : List Int) (e p q : zn) (hk : e.kids = [p, q]) : mI cs e.lab e.kids = bif e.lab.1 == 4 && (inS cpL e.lab.2.1 && !(zd e.lab.2.1 ⟨#[60, 62]⟩)) then (bif p.lab.1 == 1 then oV cs q (lr e.lab.2.1) p else oV cs p e.lab.2.1 q) else [] := by rw [hk]; rfl
theorem gT {e p q : zn} (hk : e.kids = [p, q]) : zT e = zT p + (zT q + 0) + 1 := by rw [ud, hk]; rfl
theorem fR {cs : List Int} {e p q : zn} (hk : e.kids = [p, q]) (h : (e.lab.1 == 4 && zd e.lab.2.1 xY) = true) : yH cs e = [yH cs p, yH cs q].flatten := by rw [pn, h, hk]; rfl
theorem Vw (p q d : zn) : [p, q].getD 0 d = p := rfl
theorem Vo (p q d : zn) : [p, q].getD 1 d = q := rfl
theorem nj (op : ByteArray) : F44 (cpL, op) = some (ut (fun w => zd w op) cpL) := rfl
theorem Q3 (k : Nat) : ∀ X Y, V3 (k + 1) X = some Y → ∃ n, @f17.g ⟨V3 k⟩ n X = some Y := by
 rintro ⟨t, e⟩ y hh
 obtain ⟨ho, rfl⟩ := zr hh
 simp only [okQ, Li, Lt] at ho
 obtain ⟨hf, hs, hsk⟩ := ho
 letI : Rec17 := ⟨V3 k⟩
 refine ⟨0, ?_⟩
 show f17.g 0 (t, e) = some (yH (yG t) e)
 have hrec : ∀ p : zn, yS t.2.1.length p = true → zT p < zT e → (Rec17.F (t, p) : Option (List zD)) = some (yH (yG t) p) := fun p hp hlt => zo (by
  simp only [okQ, hp, Ln (show zT p ≤ 1048576 by omega), Ln (show zT p < k by omega), Lr])
 cases h4 : e.lab.1 == 4 with
 | false =>
  rw [pn, h4]
  simp only [f17.g, h4, bne, Lj, nj, Lm, LN, Lk, Bool.false_and]
  unfold mI
  rw [h4]; rfl
 | true =>
  obtain ⟨p, q, hk, hp, hq⟩ := gr hf h4
  have hsz := gT hk
  cases ha : zd e.lab.2.1 xY with
  | true =>
   rw [fR hk (by rw [h4, ha]; rfl)]
   have l1 := vZ (yG t) p
   have l2 := vZ (yG t) q
   have hcat : F43 (List.take 2 [yH (yG t) p, yH (yG t) q]) = some [yH (yG t) p, yH (yG t) q].flatten := zo (by
    rw [Li]
    refine ⟨rfl, Ln ?_⟩
    show (yH (yG t) p ++ (yH (yG t) q ++ [])).length ≤ _
    simp only [LM, List.length_nil]; omega)
   have hand : zd e.lab.2.1 (⟨#[97, 110, 100]⟩ : ByteArray) = true := ha
   simp only [f17.g, h4, hand, Lk, hk, Vw, Vo, Rose.eta, hrec p hp (by omega), hrec q hq (by omega), Lm, hcat]
   rfl
  | false =>
   rw [pn, h4, ha, lF _ e p q hk, h4]
   have hand : zd e.lab.2.1 (⟨#[97, 110, 100]⟩ : ByteArray) = false := ha
   have tw0 : (decide ((0 : Int) ≤ (0 : Int)) && decide ((0 : Int) < (([p, q] : List zn).length : Int))) = true := rfl
   have tw1 : (decide ((0 : Int) ≤ (1 : Int)) && decide ((1 : Int) < (([p, q] : List zn).length : Int))) = true := rfl
   simp only [f17.g, h4, bne, hand, Lk, Lj, Bool.and_false, nj, Lm, LA, LK, hk, Vw, Vo, tw0, tw1]
   rcases Ou e.lab.2.1 with ⟨c1, c2⟩ | ⟨c1, c2, c3, c4⟩
   ·rw [c1, c2]; rfl
   ·have c5 : decide (ut (fun w => zd w e.lab.2.1) cpL < (0 : Int)) = false := LI (by omega)
    simp only [c1, c5, c4, Ln c2, Ln c3, Lr, Lj, Lk, LK]
    cases hne : zd e.lab.2.1 (⟨#[60, 62]⟩ : ByteArray) with
    | true => rfl
    | false =>
     simp only [Lj, LN, Lk]
     cases hv : p.lab.1 == 1 with
     | true =>
      have := sY (op := lr e.lab.2.1) (v := p) hq (fun l => some l)
      simp only [bne] at this
      simp only [hv, Lk] at this ⊢
      exact this
     | false =>
      have := sY (op := e.lab.2.1) (v := q) hp (fun l => some l)
      simp only [bne] at this
      simp only [Lj]
      exact this
theorem lM : ∀ k, ConOk Tryz.prog 17 (zj [(true, tTable), (true, tExpr)] [(false, .sl (.pair (.int .i64) (.pair .str tValue)))] false (V3 k))
 | 0 => xf fun X => by unfold V3 okQ; simp [yM]
 | k + 1 => @f17.ok ⟨V3 k⟩ (V3 (k + 1)) (Q3 k) (lM k) Wv fh
theorem W9 : ConOk Tryz.prog 17 UU := lM 1048577
theorem aM {l m : List zD} (hl : l.length + m.length ≤ 2097152) {step : ((Nat × Int × List zD) → Option ((List zD × Unit) × Unit)) → (Nat × Int × List zD) → Option ((List zD × Unit) × Unit)} {n : Nat} (hn : m.length < n)
  (hend : ∀ S k q, step S (k, ((m.length : Int), q)) = some ((List.take k q, ()), ()))
  (hstep : ∀ S i v k q, i < m.length → m[i]? = some v → (k + 1) * 64 ≤ zq → step S (k, ((i : Int), q)) = S (k + 1, (((i + 1 : Nat) : Int), List.take k q ++ [v]))) :
  zF step n (l.length, ((0 : Int), l)) = some ((l ++ m, ()), ()) :=
 zP (step := step) m (fun i (a : List zD) => (a.length, ((i : Int), a))) (fun i a => a.length = l.length + i) (fun i a r => some ((a ++ r, ()), ()))
  (fun S a _ => by show step S (a.length, ((m.length : Int), a)) = _; rw [hend, Lz, List.append_nil])
  (fun S i a v r hi hv hr ha ih => by
   show step S (a.length, ((i : Int), a)) = _
   rw [hstep S i v _ _ hi hv (by rw [show zq = 140737488355328 from rfl]; omega), Lz]
   have e : a.length + 1 = (a ++ [v]).length := by simp
   rw [e]
   have := ih (a ++ [v]) (by simp [ha]; omega)
   show S ((a ++ [v]).length, (((i + 1 : Nat) : Int), a ++ [v])) = _
   rw [this, LL]; rfl) n hn l (by simp)
theorem Su (op : ByteArray) : F50 op = some (inS cpL op) := rfl
theorem XI (op : ByteArray) : F51 op = some (lr op) := rfl
theorem PE (k : Nat) : ∀ X Y, V1 (k + 1) X = some Y → ∃ n, @f29.g ⟨V1 k⟩ n X = some Y := by
 rintro ⟨t, e⟩ y hh
 obtain ⟨ho, rfl⟩ := zr hh
 simp only [okQ, Li, Lt] at ho
 obtain ⟨hf, hs, hsk⟩ := ho
 letI : Rec29 := ⟨V1 k⟩
 refine ⟨1048577, ?_⟩
 show f29.g 1048577 (t, e) = some ((yH (yG t) e, ()), ())
 have hrec : ∀ p : zn, yS t.2.1.length p = true → zT p < zT e → (Rec29.F (t, p) : Option ((List zD × Unit) × Unit)) = some ((yH (yG t) p, ()), ()) := fun p hp hlt => zo (by
  simp only [okQ, hp, Ln (show zT p ≤ 1048576 by omega), Ln (show zT p < k by omega), Lr])
 cases h4 : e.lab.1 == 4 with
 | false =>
  rw [pn, h4]
  simp only [f29.g, h4, bne, Lj, LN, Lk, Bool.false_and]
  unfold mI
  rw [h4]; rfl
 | true =>
  obtain ⟨p, q, hk, hp, hq⟩ := gr hf h4
  have hsz := gT hk
  have tw0 : (decide ((0 : Int) ≤ (0 : Int)) && decide ((0 : Int) < (([p, q] : List zn).length : Int))) = true := rfl
  have tw1 : (decide ((0 : Int) ≤ (1 : Int)) && decide ((1 : Int) < (([p, q] : List zn).length : Int))) = true := rfl
  cases ha : zd e.lab.2.1 xY with
  | true =>
   rw [fR hk (by rw [h4, ha]; rfl)]
   have l1 := vZ (yG t) p
   have l2 := vZ (yG t) q
   have hand : zd e.lab.2.1 (⟨#[97, 110, 100]⟩ : ByteArray) = true := ha
   simp only [f29.g, h4, bne, hand, LA, Lj, Lk, hk, Vw, Vo, Rose.eta, hrec p hp (by omega), hrec q hq (by omega), Lm, tw0, tw1]
   have := aM (l := yH (yG t) p) (m := yH (yG t) q) (by omega) (step := f29.s1 1048577 (t, e) ((yH (yG t) p, ()), ()) ((yH (yG t) q, ()), ())) (n := 1048577) (by omega)
    (fun S k q => by simp only [f29.s1, zM, Lj]) (fun S i v k q hi hv hb => by
     simp only [f29.s1, zX hi, z1, Lr, Lk, zE hv, Ln hb, nx (show i ≤ _ by omega)])
   rw [this]
   show _ = some ((yH (yG t) p ++ (yH (yG t) q ++ []), ()), ())
   rw [List.append_nil]
  | false =>
   rw [pn, h4, ha, lF _ e p q hk, h4]
   have hand : zd e.lab.2.1 (⟨#[97, 110, 100]⟩ : ByteArray) = false := ha
   simp only [f29.g, h4, bne, hand, Lk, Lj, Bool.and_false, Su, XI, Lm, LA, LK, hk, Vw, Vo, tw0, tw1]
   cases c1 : inS cpL e.lab.2.1 with
   | false => rfl
   | true =>
    simp only [LA, Lj, LK]
    cases hne : zd e.lab.2.1 (⟨#[60, 62]⟩ : ByteArray) with
    | true => rfl
    | false =>
     simp only [Lj, LN, Lk]
     cases hv : p.lab.1 == 1 with
     | true =>
      have := sY (op := lr e.lab.2.1) (v := p) hq (fun l => some ((l, ()), ()))
      simp only [bne] at this
      simp only [hv, Lk] at this ⊢
      exact this
     | false =>
      have := sY (op := e.lab.2.1) (v := q) hp (fun l => some ((l, ()), ()))
      simp only [bne] at this
      simp only [Lj]
      exact this
theorem jK : ∀ k, ConOk Tryz.prog 29 (vD [(true, tTable), (true, tExpr)] [(false, [.own 77 (.pair (.int .i64) (.pair .str tValue))])] (V1 k))
 | 0 => io fun X => by unfold V1 okQ; simp [yM]
 | k + 1 => @f29.ok ⟨V1 k⟩ (V1 (k + 1)) (PE k) (jK k) fG WA
theorem Xo : ConOk Tryz.prog 29 TM := jK 1048577
end Go.Proofs.YtefddghdaimklaaGreatDoor.AI
/- The range of a condition: what is asked of the parts, step by step. -/
namespace Go.Proofs.YtefddghdaimklaaGreatDoor.AI
open Go
mutual
theorem mf (cs : List Int) : ∀ e : zn, oW e = true → ∀ p ∈ yH cs e, okZ p.2.2 = true
 | .node a ks, hb, p, hp => by
  simp only [oW, Li] at hb
  simp only [yH] at hp
  cases hq : a.1 == 4 && zd a.2.1 xY with
  | true => rw [hq] at hp; exact k7 cs ks hb.2.2.2 p hp
  | false =>
   rw [hq] at hp
   exact Zh cs a ks hb.2.2.2 p hp
theorem k7 (cs : List Int) : ∀ l : List zn, hP l = true → ∀ p ∈ n9 cs l, okZ p.2.2 = true
 | [], _, p, hp => by simp [n9] at hp
 | k :: r, hb, p, hp => by
  simp only [hP, Li] at hb
  simp only [n9, LJ] at hp
  rcases hp with hp | hp
  ·exact mf cs k hb.1 p hp
  ·exact k7 cs r hb.2 p hp
theorem Zh (cs : List Int) (a : Int × ByteArray × Int × zc) : ∀ ks : List zn, hP ks = true → ∀ p ∈ mI cs a ks, okZ p.2.2 = true := fun ks hb p hp => by
 have hz : ∀ d : zn, (d = qJ ∨ d ∈ ks) → okZ d.lab.2.2.2 = true := fun d h => by
  rcases h with rfl | h
  ·exact u7
  ·have := qP hb d h
   cases d with
   | node b q => simp only [oW, Li] at this; exact this.2.1
 have hg : ∀ i, ks.getD i qJ = qJ ∨ ks.getD i qJ ∈ ks := fun i => by
  by_cases h : i < ks.length
  ·right; rw [List.getD_eq_getElem?_getD, LC h]; exact List.getElem_mem h
  ·left; rw [List.getD_eq_getElem?_getD, List.getElem?_eq_none (by omega)]; rfl
 have hq : ∀ c v op, okZ v.lab.2.2.2 = true → ∀ p ∈ oV cs c op v, okZ p.2.2 = true := fun c v op hv p hp => by
  unfold oV at hp
  cases hc : (c.lab.1 == 2 && (v.lab.1 == 1 && v.lab.2.2.2.1 == cs.getD c.lab.2.2.1.toNat 0)) with
  | false => rw [hc] at hp; cases hp
  | true => rw [hc, Lk] at hp; rw [List.mem_singleton.1 hp]; exact hv
 unfold mI at hp
 cases hc : (a.1 == 4 && (inS cpL a.2.1 && !(zd a.2.1 ⟨#[60, 62]⟩))) with
 | false => rw [hc] at hp; cases hp
 | true =>
  rw [hc, Lk] at hp
  cases hv : ((ks.getD 0 qJ).lab.1 == 1) with
  | true => rw [hv, Lk] at hp; exact hq _ _ _ (hz _ (hg 0)) p hp
  | false => rw [hv, Lj] at hp; exact hq _ _ _ (hz _ (hg 1)) p hp
end
theorem lP {t : zg} {e : zn} (h : yR t e = 0) : yS t.2.1.length e = true := by
 have hc : (yB t e).2 = 0 := by
  unfold yR at h
  cases h1 : ((yB t e).2 == 0 && !uq (yB t e).1) with
  | true => rw [h1] at h; cases h
  | false => rw [h1] at h; exact h
 unfold yB at hc
 cases h1 : xw t != 0 with
 | true =>
  rw [h1, Lk] at hc
  have : xw t = 0 := hc
  rw [this] at h1; cases h1
 | false =>
  rw [h1, Lj] at hc
  cases h2 : cp t e with
  | false => rw [h2] at hc; cases hc
  | true =>
   unfold cp at h2
   simp only [Li] at h2
   exact h2.2.2
theorem gN {α : Type} (p : α → Bool) (d : α) : ∀ l : List α, (l.find? p = none ∧ ut p l = -1) ∨ ∃ v, v ∈ l ∧ l.find? p = some v ∧ 0 ≤ ut p l ∧ ut p l < (l.length : Int) ∧ l.getD (ut p l).toNat d = v
  | [] => .inl ⟨rfl, rfl⟩
  | a :: r => by
    cases ha : p a with
    | true =>
      refine .inr ⟨a, by simp, by simp [List.find?, ha], ?_⟩
      have : ut p (a :: r) = 0 := by unfold ut; rw [List.findIdx?_cons, ha]; rfl
      rw [this]
      exact ⟨by omega, by simp, rfl⟩
    | false =>
      have hf : (a :: r).find? p = r.find? p := by simp [List.find?, ha]
      have hi : (a :: r).findIdx? p = (r.findIdx? p).map (· + 1) := by rw [List.findIdx?_cons, ha]; rfl
      rcases gN p d r with ⟨h1, h2⟩ | ⟨v, h0, h1, h2, h3, h4⟩
      · refine .inl ⟨by rw [hf, h1], ?_⟩
        unfold ut at h2 ⊢
        rw [hi]
        cases hr : r.findIdx? p with
        | none => rfl
        | some i => rw [hr] at h2; simp at h2
      · refine .inr ⟨v, by simp [h0], by rw [hf, h1], ?_⟩
        unfold ut at h2 h3 h4 ⊢
        rw [hi]
        cases hr : r.findIdx? p with
        | none => rw [hr] at h2; simp at h2
        | some i =>
          rw [hr] at h3 h4
          simp only [Option.map_some] at h3 h4 ⊢
          refine ⟨by omega, by simp; omega, ?_⟩
          have : (((i + 1 : Nat) : Int)).toNat = i + 1 := by omega
          rw [this]
          simpa using h4
theorem jF (o : Option zD) : kf (z6 o).1 (z6 o).2 = o := by cases o <;> rfl
theorem Xe {o : Option zD} (h : ∀ p, o = some p → okZ p.2.2 = true) : okZ (z6 o).1.2.2 = true := by
 cases o with
 | none => exact u7
 | some p => exact h p rfl
theorem sn {f : List zc} {v : zc} (h : okR f = true) (hl : f.length ≤ 64) (hv : okZ v = true) : okR (f ++ [v]) = true := by
 unfold okR at h ⊢
 rw [Li] at h ⊢
 refine ⟨xJ.2 (by rw [LM, List.length_singleton]; omega), ?_⟩
 rw [List.all_append, h.2]
 simp [hv]
def o7 (r : wU × Int) : wU := bif r.2 != 0 then Pt else r.1
theorem nz (f : List zc) (lo hi : Option zD) : o7 (v6 f lo hi) = o7 (iw (iw (zx f) (eM f lo hi)) (tV f hi)) := by
 unfold v6
 cases hb : (zx f).2 != 0 with
 | true =>
  rw [Lk]
  have key : ∀ (r : wU × Int) (w : Option (wU × Int)), (r.2 != 0) = true → ((iw r w).2 != 0) = true := fun r w h => by
   cases w with
   | none => exact h
   | some x =>
    show ((bif x.2 != 0 then x.2 else r.2) != 0) = true
    cases hx : x.2 != 0 with
    | true => rw [Lk]; exact hx
    | false => rw [Lj]; exact h
  have k2 := key _ (tV f hi) (key _ (eM f lo hi) hb)
  unfold o7
  rw [hb, k2]; rfl
 | false =>
  rw [Lj]
  cases hl : eM f lo hi with
  | none =>
   have : hi = none := by
    cases lo <;> cases hi <;> first | rfl | cases hl
   subst this
   show o7 ((zx f).1, 0) = o7 (zx f)
   unfold o7
   rw [hb]; rfl
  | some w =>
   simp only
   cases hw : w.2 != 0 with
   | true =>
    rw [Lk]
    have k1 : ((iw (zx f) (some w)).2 != 0) = true := by
     show ((bif w.2 != 0 then w.2 else _) != 0) = true
     rw [hw, Lk]; exact hw
    have k2 : ((iw (iw (zx f) (some w)) (tV f hi)).2 != 0) = true := by
     cases tV f hi with
     | none => exact k1
     | some x =>
      show ((bif x.2 != 0 then x.2 else _) != 0) = true
      cases hx : x.2 != 0 with
      | true => rw [Lk]; exact hx
      | false => rw [Lj]; exact k1
    unfold o7
    rw [k2]
    show (bif w.2 != 0 then Pt else _) = _
    rw [hw]; rfl
   | false =>
    rw [Lj]
    have e1 : iw (zx f) (some w) = (tE (zx f).1 w.1, (zx f).2) := by
     show (tE (zx f).1 w.1, bif w.2 != 0 then w.2 else (zx f).2) = _
     rw [hw]; rfl
    rw [e1]
    cases hh : tV f hi with
    | none =>
     show o7 (tE (zx f).1 w.1, 0) = o7 (tE (zx f).1 w.1, (zx f).2)
     unfold o7
     rw [hb]; rfl
    | some u =>
     show o7 (bif u.2 != 0 then _ else _) = o7 (tE (tE (zx f).1 w.1) u.1, bif u.2 != 0 then u.2 else (zx f).2)
     cases hu : u.2 != 0 with
     | true =>
      unfold o7
      rw [Lk, Lk]
      show (bif u.2 != 0 then Pt else _) = (bif u.2 != 0 then Pt else _)
      rw [hu]; rfl
     | false =>
      unfold o7
      rw [Lj, Lj, hb]; rfl
theorem Ul {f : List zc} {z v : zc} : List.take (f.length + 1) (List.set (List.take f.length f ++ [z]) ((f.length : Int).toNat) v) = f ++ [v] := by
 rw [Lz, show ((f.length : Int).toNat) = f.length by omega, List.set_append_right _ _ (Lu _), Nat.sub_self]
 rw [List.take_of_length_le (by simp)]; rfl
theorem Tn {f : List zc} {z v w : zc} : List.take (f.length + 1) (List.set (List.set (List.take f.length f ++ [z]) ((f.length : Int).toNat) v) ((f.length : Int).toNat) w) = f ++ [w] := by
 rw [List.set_set]; exact Ul
theorem VR {f : List zc} {z : zc} : List.take (f.length + 1) (List.take f.length f ++ [z]) = f ++ [z] := by
 rw [Lz, List.take_of_length_le (by simp)]
theorem Oc : ∀ X Y, F31 X = some Y → ∃ n, f31.g n X = some Y := by
 rintro ⟨f, lo, hi, low, high⟩ y h
 obtain ⟨ho, rfl⟩ := zr h
 simp only [Li, Lt] at ho
 obtain ⟨hr, hlo, hhi, hl⟩ := ho
 refine ⟨0, ?_⟩
 have hrb := mM hr
 have eB : F53 f = some (zx f) := zo hr
 have eR : F54 f = some ((f, ()), ()) := by show (bif okB 40 f then _ else _) = _; rw [hrb.1]; rfl
 have eF : ∀ v b, okZ v = true → F55 (f ++ [v], b) = some (uZ (f ++ [v]) b) := fun v b hv => zo (sn hr hl hv)
 have eT : ∀ v b, okZ v = true → F57 (f ++ [v], b) = some (toE (f ++ [v]) b) := fun v b hv => zo (sn hr hl hv)
 have e2 : ∀ a b, F56 (a, b) = some (tE a b) := fun _ _ => rfl
 have hroom : decide ((f.length + 1) * 40 ≤ zq) = true := Ln (by rw [show zq = 140737488355328 from rfl]; omega)
 have hin : (decide (0 ≤ (f.length : Int)) && decide ((f.length : Int) < ((f.length + 1 : Nat) : Int))) = true := by
  rw [Li]; exact ⟨Ln (by omega), Ln (by omega)⟩
 have hz : okZ ((0 : Int), ((0 : Int), (0, (⟨#[]⟩ : ByteArray)))) = true := u7
 simp only [f31.g, eB, eR, Lm, hroom, hin, Lk, Ul, Tn, VR, eF _ _ hlo, eF _ _ hhi, eF _ _ hz, eT _ _ hlo, eT _ _ hhi, e2]
 unfold v6
 cases hb : (zx f).2 != 0 with
 | true => rfl
 | false =>
  cases low with
  | true =>
   cases high with
   | true =>
    simp only [Lk, Lj, kf, eM, tV]
    show (bif (uZ (f ++ [lo.2.2]) (zd lo.2.1 geS)).2 != 0 then _ else _) = _
    cases h1 : (uZ (f ++ [lo.2.2]) (zd lo.2.1 geS)).2 != 0 with
    | true => rfl
    | false =>
     simp only [Lj]
     show (bif (toE (f ++ [hi.2.2]) (zd hi.2.1 leS)).2 != 0 then _ else _) = _
     cases h2 : (toE (f ++ [hi.2.2]) (zd hi.2.1 leS)).2 != 0 <;> rfl
   | false =>
    simp only [Lk, Lj, kf, eM, tV]
    show (bif (uZ (f ++ [lo.2.2]) (zd lo.2.1 geS)).2 != 0 then _ else _) = _
    cases h1 : (uZ (f ++ [lo.2.2]) (zd lo.2.1 geS)).2 != 0 <;> rfl
  | false =>
   cases high with
   | true =>
    simp only [Lk, Lj, kf, eM, tV]
    show (bif (uZ (f ++ [zeroV]) false).2 != 0 then _ else _) = _
    cases h1 : (uZ (f ++ [zeroV]) false).2 != 0 with
    | true => rfl
    | false =>
     simp only [Lj]
     show (bif (toE (f ++ [hi.2.2]) (zd hi.2.1 leS)).2 != 0 then _ else _) = _
     cases h2 : (toE (f ++ [hi.2.2]) (zd hi.2.1 leS)).2 != 0 <;> rfl
   | false => rfl
theorem Wm : ConOk Tryz.prog 31 U6 := f31.ok Oc mC VA Wg Vh Wq
end Go.Proofs.YtefddghdaimklaaGreatDoor.AI
/- The range of a condition: both functions. -/
namespace Go.Proofs.YtefddghdaimklaaGreatDoor.AI
open Go
def lU (c : Int) : zD → Bool := fun p => p.1 == c && zd p.2.1 eqS
theorem g8 (ps : List zD) (c : Int) (r : List Int) : iE ps (c :: r) = match ps.find? (lU c) with
  | some p => p.2.2 :: iE ps r
  | none => [] := rfl
theorem qU (ps : List zD) (cols : List Int) (f : List zc) (hf : iE ps cols = f) : ew ps cols = o7 (iw (iw (zx f) (eM f (uo true ps cols) (uo false ps cols))) (tV f (uo false ps cols))) := by
 unfold ew a8 o7
 rw [hf]
theorem sk {ps : List zD} {cols : List Int} {lo : Bool} {i : Nat} {c : Int} {f : List zc} (hf : iE ps cols = f) (hl : f.length = i) (hc : cols[i]? = some c) : uo lo ps cols = yE lo c ps none := by
 have hlt := (Lq.1 hc).1
 unfold uo
 rw [hf, hl, Ln hlt, Lk, List.getD_eq_getElem?_getD, hc]; rfl
theorem sm {ps : List zD} {cols : List Int} {lo : Bool} {f : List zc} (hf : iE ps cols = f) (hl : f.length = cols.length) : uo lo ps cols = none := by
 unfold uo
 rw [hf, hl, LI (by omega)]; rfl
theorem qT {ps : List zD} (h : ∀ p ∈ ps, okZ p.2.2 = true) (lo : Bool) (c : Int) : okZ (z6 (yE lo c ps none)).1.2.2 = true := Xe fun p hp => by
 rcases bw lo c ps none p hp with h1 | h1
 ·cases h1
 ·exact h p h1.1
structure FixI (ps : List zD) (cols : List Int) (i : Nat) (acc : List zc) : Prop where
 len : acc.length = i
 fix : iE ps cols = acc ++ iE ps (cols.drop i)
 ok : okR acc = true
 le : i ≤ cols.length
theorem FixI.zero (ps : List zD) (cols : List Int) : FixI ps cols 0 [] := ⟨rfl, rfl, rfl, Nat.zero_le _⟩
theorem FixI.next {ps : List zD} {cols : List Int} {i : Nat} {acc : List zc} {c : Int} {p : zD} (h : FixI ps cols i acc) (hok : ∀ p ∈ ps, okZ p.2.2 = true) (hcols : cols.length ≤ 64) (hc : cols[i]? = some c) (hp : ps.find? (lU c) = some p) : FixI ps cols (i + 1) (acc ++ [p.2.2]) := by
 have hlt := (Lq.1 hc).1
 refine ⟨by simp [h.len], ?_, sn h.ok (by rw [h.len]; omega) (hok p (List.mem_of_find?_eq_some hp)), hlt⟩
 have hd : cols.drop i = c :: cols.drop (i + 1) := by
  rw [List.drop_eq_getElem_cons hlt]
  congr 1
  rw [LC hlt] at hc
  exact Option.some.inj hc
 rw [h.fix, hd, g8, hp, LL]; rfl
theorem FixI.stop {ps : List zD} {cols : List Int} {i : Nat} {acc : List zc} {c : Int} (h : FixI ps cols i acc) (hc : cols[i]? = some c) (hp : ps.find? (lU c) = none) : iE ps cols = acc := by
 have hlt := (Lq.1 hc).1
 have hd : cols.drop i = c :: cols.drop (i + 1) := by
  rw [List.drop_eq_getElem_cons hlt]
  congr 1
  rw [LC hlt] at hc
  exact Option.some.inj hc
 rw [h.fix, hd, g8, hp, List.append_nil]
theorem FixI.last {ps : List zD} {cols : List Int} {acc : List zc} (h : FixI ps cols cols.length acc) : iE ps cols = acc := by
 rw [h.fix, List.drop_length]
 show acc ++ [] = acc
 rw [List.append_nil]
theorem SO {f : List zc} (h : okR f = true) : okB 40 f = true := (mM h).1
theorem qS {acc : List zc} : List.take acc.length acc = acc := Lz
theorem Q4 {f : List zc} (hl : f.length ≤ 64) : decide ((f.length + 1) * 40 ≤ zq) = true := Ln (by rw [show zq = 140737488355328 from rfl]; omega)
theorem ef {cs : List Int} {e : zn} (hs : zT e ≤ 1048576) : okB 64 (yH cs e) = true := xJ.2 (by have := vZ cs e; omega)
theorem bv {e : zn} (h : okE e = true) : oW e = true ∧ zT e ≤ 1048576 := by
 unfold okE at h
 rw [Li, LF] at h
 exact ⟨h.2, h.1⟩
def uO (t : zg) (e : zn) (cols : List Int) : wU × Int := (ew (yH (yG t) e) cols, 0)
theorem lz (t : zg) (e : zn) (cols : List Int) : oN (t, (e, cols)) = bif yR t e != 0 then (Wo, yR t e) else bif decide (cols.length < 1) || decide (cols.length > 64) then (Wo, 1) else bif ur t.2.1.length [] cols then uO t e cols else (Wo, 1) := by
 unfold oN ve uO
 cases yR t e != 0 <;> cases decide (cols.length < 1) || decide (cols.length > 64) <;> cases ur t.2.1.length [] cols <;> rfl
theorem Nk : ∀ X Y, F6 X = some Y → ∃ n, f6.g n X = some Y := by
 rintro ⟨t, e, cols⟩ y h
 obtain ⟨ho, rfl⟩ := zr h
 simp only [Li] at ho
 obtain ⟨ht, hok, hcb⟩ := ho
 obtain ⟨hbig, hsz⟩ := bv hok
 have hcl := zS (by omega) hcb
 refine ⟨cols.length + 1, ?_⟩
 rw [lz]
 have eC : F15 (t, e) = some (yR t e) := zo (by rw [ht, hok]; rfl)
 simp only [f6.g, Rose.eta, eC, Lm]
 cases hc : yR t e != 0 with
 | true => rfl
 | false =>
  have hc0 : yR t e = 0 := by simpa using hc
  have hfine := lP hc0
  simp only [Lj, yx, qh, uB]
  have e1 : decide ((cols.length : Int) < (1 : Int)) = decide (cols.length < 1) := qh _ 1
  have e2 : decide ((cols.length : Int) > (64 : Int)) = decide (cols.length > 64) := uB _ 64
  rw [e1, e2]
  cases hlen : decide (cols.length < 1) || decide (cols.length > 64) with
  | true => rfl
  | false =>
   rw [Bool.or_eq_false_iff, decide_eq_false_iff_not, decide_eq_false_iff_not] at hlen
   have h64 : cols.length ≤ 64 := by omega
   simp only [Lj]
   have eP : F17 (t, e) = some (yH (yG t) e) := zo (by
    simp only [okQ, hfine, Ln hsz, Ln (show zT e < 1048577 by omega), Lr])
   generalize hps : yH (yG t) e = ps at eP
   have hpz : ∀ p ∈ ps, okZ p.2.2 = true := by rw [← hps]; exact mf _ e hbig
   have hpb : okB 64 ps = true := by rw [← hps]; exact ef hsz
   have inner : zF (f6.s1 (cols.length + 1) (t, (e, cols)) (yR t e) (cols.length : Int) ps) (cols.length + 1) (0, ((0 : Int), [])) = some (uO t e cols) := by
    refine zP (step := f6.s1 (cols.length + 1) (t, (e, cols)) (yR t e) (cols.length : Int) ps) cols (fun i (acc : List zc) => (i, ((i : Int), acc))) (fun i acc => FixI ps cols i acc) (fun _ _ _ => some (uO t e cols))
     (fun S acc hI => ?_) (fun S i acc c r hi hv hr hI ih => ?_) (cols.length + 1) (Lv _) [] (FixI.zero ps cols)
    ·have hf := hI.last
     have eB : F21 (List.take cols.length acc) = some (zx acc) := by rw [← hI.len, qS]; exact zo hI.ok
     simp only [f6.s1, zM, Lj, eB, Lm]
     unfold uO
     rw [hps, qU ps cols acc hf, sm hf hI.len, sm hf hI.len]
     show _ = some (o7 (zx acc), 0)
     unfold o7
     cases (zx acc).2 != 0 <;> rfl
    ·have eI : F18 (ps, c) = some (ut (lU c) ps) := zo hpb
     have htk : List.take i acc = acc := by rw [← hI.len, qS]
     simp only [f6.s1, zX hi, z1, Lr, Lk, zE hv, eI, Lm, htk]
     have h64a : acc.length ≤ 64 := by rw [hI.len]; omega
     rcases gN (lU c) (Ty.dflt (.pair (.int .i64) (.pair .str tValue))) ps with ⟨q1, q2⟩ | ⟨p, q0, q1, q2, q3, q4⟩
     ·have hf := hI.stop hv q1
      have eL : F20 (ps, (c, ((⟨#[62]⟩ : ByteArray), ((⟨#[62, 61]⟩ : ByteArray), (-1 : Int))))) = some (z6 (yE true c ps none)) := by
       unfold F20
       have : j5 (ps, (c, ((⟨#[62]⟩ : ByteArray), ((⟨#[62, 61]⟩ : ByteArray), (-1 : Int))))) = true := by
        unfold j5
        simp only [hpb, LK]
        kernel_rfl
       rw [this]; rfl
      have eH : F20 (ps, (c, ((⟨#[60]⟩ : ByteArray), ((⟨#[60, 61]⟩ : ByteArray), (1 : Int))))) = some (z6 (yE false c ps none)) := by
       unfold F20
       have h1 : j5 (ps, (c, ((⟨#[60]⟩ : ByteArray), ((⟨#[60, 61]⟩ : ByteArray), (1 : Int))))) = false := by
        unfold j5
        simp only [hpb, LK]
        kernel_rfl
       have h2 : bT (ps, (c, ((⟨#[60]⟩ : ByteArray), ((⟨#[60, 61]⟩ : ByteArray), (1 : Int))))) = true := by
        unfold bT
        simp only [hpb, LK]
        kernel_rfl
       rw [h1, h2]; rfl
      have zl := qT hpz true c
      have zh := qT hpz false c
      have ed1 : uo true ps cols = yE true c ps none := sk hf hI.len hv
      have ed2 : uo false ps cols = yE false c ps none := sk hf hI.len hv
      have eB : F21 acc = some (zx acc) := zo hI.ok
      have eK : F25 acc = some ((acc, ()), ()) := zo (SO hI.ok)
      have eF : ∀ v b, okZ v = true → F24 (acc ++ [v], b) = some (uZ (acc ++ [v]) b) := fun v b hv => zo (sn hI.ok h64a hv)
      have eT : ∀ v b, okZ v = true → F26 (acc ++ [v], b) = some (toE (acc ++ [v]) b) := fun v b hv => zo (sn hI.ok h64a hv)
      have e2 : ∀ a b, F23 (a, b) = some (tE a b) := fun _ _ => rfl
      unfold uO
      rw [hps, qU ps cols acc hf, ed1, ed2]
      generalize yE true c ps none = lo at *
      generalize yE false c ps none = hi at *
      have dn : decide ((-1 : Int) < (0 : Int)) = true := rfl
      simp only [q2, dn, Lk, eL, eH, Lm, eB, eK, Q4 h64a, VR, eF _ _ zl, eF _ _ u7, eT _ _ zh, e2]
      simp only [show (⟨#[60, 61]⟩ : ByteArray) = leS from rfl, show (⟨#[62, 61]⟩ : ByteArray) = geS from rfl]
      unfold o7
      cases lo with
      | none =>
       cases hi with
       | none =>
        simp only [z6, Lj, eM, tV, iw]
        cases (zx acc).2 != 0 <;> rfl
       | some q =>
        simp only [z6, Lk, Lj, eM, tV, iw]
        cases h1 : (toE (acc ++ [q.2.2]) (zd q.2.1 leS)).2 != 0 <;> cases h2 : (uZ (acc ++ [zeroV]) false).2 != 0 <;> cases h3 : (zx acc).2 != 0 <;> simp only [Lk, Lj, h1, h2, h3] <;> rfl
      | some p =>
       cases hi with
       | none =>
        simp only [z6, Lk, Lj, eM, tV, iw]
        cases h2 : (uZ (acc ++ [p.2.2]) (zd p.2.1 geS)).2 != 0 <;> cases h3 : (zx acc).2 != 0 <;> simp only [Lk, Lj, h2, h3] <;> rfl
       | some q =>
        simp only [z6, Lk, Lj, eM, tV, iw]
        cases h1 : (toE (acc ++ [q.2.2]) (zd q.2.1 leS)).2 != 0 <;> cases h2 : (uZ (acc ++ [p.2.2]) (zd p.2.1 geS)).2 != 0 <;> cases h3 : (zx acc).2 != 0 <;> simp only [Lk, Lj, h1, h2, h3] <;> rfl
     ·have dn : decide (ut (lU c) ps < (0 : Int)) = false := LI (by omega)
      have hroom : decide ((i + 1) * 40 ≤ zq) = true := Ln (by rw [show zq = 140737488355328 from rfl]; omega)
      simp only [dn, Lj, Ln q2, Ln q3, Lr, Lk, hroom, q4, nx (show i ≤ _ by omega)]
      exact ih (acc ++ [p.2.2]) (hI.next hpz h64 hv q1)
   have key := yZ (l := cols) (step := f6.s2 (cols.length + 1) (t, (e, cols)) (yR t e)) (fun seen r => bif ur t.2.1.length seen r then uO t e cols else (Wo, 1)) (Lv _) (fun S => by
     simp only [f6.s2, zM, Lj, Rose.eta, eP, Lm, inner, ur, Lk]) (fun S i v r hi hv hr ih => by
     simp only [f6.s2, zX hi, z1, Wz hi, zE hv, me, nx (show i ≤ _ by omega), Lr, Lk, gB (qO hcb i) v, Lm, yx, ih, ur]
     cases decide (v < 0) || decide (v ≥ (t.2.1.length : Int)) with
     | true => rfl
     | false =>
      simp only [Lj]
      cases (cols.take i).any (fun w => w == v) <;> rfl)
   rw [key]
theorem Tc : ConOk Tryz.prog 6 NM := f6.ok Nk eG fb W9 Xs XS lj Vk W5 WS XW
end Go.Proofs.YtefddghdaimklaaGreatDoor.AI
/- The range of a condition: the reference's. -/
namespace Go.Proofs.YtefddghdaimklaaGreatDoor.AI
open Go
def Va (i : Nat) (acc : List zc) (j : Nat) : Option zc → Nat × Bool × Int × List zc
 | none => (i, (false, ((j : Int), acc)))
 | some w => (i + 1, (true, ((j : Int), acc ++ [w])))
def ju {R : Type} (c : Int) (S : zc → Option R) (bad : Option R) : Option zc → List zD → Option R
 | some w, _ => S w
 | none, r => match r.find? (lU c) with
  | some p => S p.2.2
  | none => bad
theorem pJ {c : Int} {v : zD} {r : List zD} : (v :: r).find? (lU c) = bif lU c v then some v else r.find? (lU c) := by
 rw [List.find?_cons]
 cases lU c v <;> rfl
theorem ND : ∀ X Y, F9 X = some Y → ∃ n, f9.g n X = some Y := by
  rintro ⟨t, e, cols⟩ y h
  obtain ⟨ho, rfl⟩ := zr h
  simp only [Li] at ho
  obtain ⟨ht, hok, hcb⟩ := ho
  obtain ⟨hbig, hsz⟩ := bv hok
  have hcl := zS (by omega) hcb
  obtain ⟨N, hN1, hN2⟩ : ∃ N, cols.length < N ∧ (yH (yG t) e).length < N := ⟨cols.length + (yH (yG t) e).length + 1, by omega, by omega⟩
  refine ⟨N, ?_⟩
  rw [lz]
  have eC : F28 (t, e) = some (yR t e) := zo (by rw [ht, hok]; rfl)
  simp only [f9.g, Rose.eta, eC, Lm]
  cases hc : yR t e != 0 with
  | true => rfl
  | false =>
    have hc0 : yR t e = 0 := by simpa using hc
    have hfine := lP hc0
    simp only [Lj, yx, qh, uB]
    have e1 : decide ((cols.length : Int) < (1 : Int)) = decide (cols.length < 1) := qh _ 1
    have e2 : decide ((cols.length : Int) > (64 : Int)) = decide (cols.length > 64) := uB _ 64
    rw [e1, e2]
    cases hlen : decide (cols.length < 1) || decide (cols.length > 64) with
    | true => rfl
    | false =>
      rw [Bool.or_eq_false_iff, decide_eq_false_iff_not, decide_eq_false_iff_not] at hlen
      have h64 : cols.length ≤ 64 := by omega
      simp only [Lj]
      have eP : F29 (t, e) = some ((yH (yG t) e, ()), ()) := zo (by
        simp only [okQ, hfine, Ln hsz, Ln (show zT e < 1048577 by omega), Lr])
      generalize hps : yH (yG t) e = ps at eP hN2
      have hpz : ∀ p ∈ ps, okZ p.2.2 = true := by rw [← hps]; exact mf _ e hbig
      have hpb : okB 64 ps = true := by rw [← hps]; exact ef hsz
      have hpl : ps.length ≤ 1048576 := by rw [← hps]; have := vZ (yG t) e; omega
      have ae : decide ((ps.length : Int) < (ps.length : Int)) = false := zM ps
      have edge : ∀ c lo, F30 (List.take ps.length ps, (c, lo)) = some (z6 (yE lo c ps none)) := fun c lo => by rw [Lz]; exact zo hpb
      have seek : ∀ (S5 : (Nat × Int × List zc) → Option (wU × Int)) (i : Nat) (acc : List zc) (c : Int), i < cols.length → cols[i]? = some c → FixI ps cols i acc →
          zF (f9.s2 N (t, (e, cols)) (yR t e) (cols.length : Int) ((ps, ()), ()) (i, ((i : Int), acc)) S5) N (i, (false, ((0 : Int), acc))) = ju c (fun w => S5 (i + 1, (((i + 1 : Nat) : Int), acc ++ [w]))) (some (uO t e cols)) none ps := fun S5 i acc c hi hv hI => by
        have htk : List.take i acc = acc := by rw [← hI.len, qS]
        have bad : ps.find? (lU c) = none → ((F30 (List.take ps.length ps, (c, true))).bind fun r7 => (F30 (List.take ps.length ps, (c, false))).bind fun r8 =>
            (F31 (acc, (r7.1, (r8.1, (r7.2, r8.2))))).bind fun r9 => bif r9.2 != (0 : Int) then some (((⟨#[]⟩ : ByteArray), ((⟨#[]⟩ : ByteArray), true)), (0 : Int)) else some (r9.1, (0 : Int))) = some (uO t e cols) := fun hq => by
          have hf := hI.stop hv hq
          have eR : F31 (acc, ((z6 (yE true c ps none)).1, ((z6 (yE false c ps none)).1, ((z6 (yE true c ps none)).2, (z6 (yE false c ps none)).2)))) = some (v6 acc (yE true c ps none) (yE false c ps none)) := by
            have : F31 (acc, ((z6 (yE true c ps none)).1, ((z6 (yE false c ps none)).1, ((z6 (yE true c ps none)).2, (z6 (yE false c ps none)).2)))) = some (v6 acc (kf (z6 (yE true c ps none)).1 (z6 (yE true c ps none)).2) (kf (z6 (yE false c ps none)).1 (z6 (yE false c ps none)).2)) := zo (by
              simp only [hI.ok, qT hpz true c, qT hpz false c, Ln (show acc.length ≤ 64 by rw [hI.len]; omega), Lr])
            rw [this, jF, jF]
          simp only [edge, Lm, eR]
          unfold uO
          rw [hps, qU ps cols acc hf, sk hf hI.len hv, sk hf hI.len hv, ← nz]
          unfold o7
          cases (v6 acc (yE true c ps none) (yE false c ps none)).2 != 0 <;> rfl
        have := zP (step := f9.s2 N (t, (e, cols)) (yR t e) (cols.length : Int) ((ps, ()), ()) (i, ((i : Int), acc)) S5) ps (Va i acc · ·) (fun j a => a = none → ps.find? (lU c) = (ps.drop j).find? (lU c)) (fun j a r => ju c (fun w => S5 (i + 1, (((i + 1 : Nat) : Int), acc ++ [w]))) (some (uO t e cols)) a r)
          (fun S a hA => by
            cases a with
            | some w =>
              show f9.s2 N (t, (e, cols)) (yR t e) (cols.length : Int) ((ps, ()), ()) (i, ((i : Int), acc)) S5 S (i + 1, (true, ((ps.length : Int), acc ++ [w]))) = S5 (i + 1, (((i + 1 : Nat) : Int), acc ++ [w]))
              unfold f9.s2
              dsimp only
              simp only [zM, Lj, LA, nx (show i ≤ _ by omega)]
            | none =>
              have hq : ps.find? (lU c) = none := by rw [hA rfl, List.drop_length]; rfl
              show f9.s2 N (t, (e, cols)) (yR t e) (cols.length : Int) ((ps, ()), ()) (i, ((i : Int), acc)) S5 S (i, (false, ((ps.length : Int), acc))) = some (uO t e cols)
              unfold f9.s2
              dsimp only
              simp only [zM, Lj, LN, Lk, zX hi, z1, Lr, zE hv, htk, bad hq, List.find?_nil])
          (fun S j a v r hj hw hr hA ih => by
            cases a with
            | some w =>
              show f9.s2 N (t, (e, cols)) (yR t e) (cols.length : Int) ((ps, ()), ()) (i, ((i : Int), acc)) S5 S (i + 1, (true, ((j : Int), acc ++ [w]))) = S5 (i + 1, (((i + 1 : Nat) : Int), acc ++ [w]))
              unfold f9.s2
              dsimp only
              simp only [zX hj, Lk, Lj, LA, nx (show i ≤ _ by omega)]
            | none =>
              have hd : ps.drop j = v :: r := by
                rw [List.drop_eq_getElem_cons hj, hr]
                congr 1
                rw [LC hj] at hw
                exact Option.some.inj hw
              have i1 := ih (some v.2.2) (fun h => by cases h)
              have hroom : decide ((i + 1) * 40 ≤ zq) = true := Ln (by rw [show zq = 140737488355328 from rfl]; omega)
              have hfp : lU c v = (v.1 == c && zd v.2.1 eqS) := rfl
              dsimp only [Va] at i1
              show f9.s2 N (t, (e, cols)) (yR t e) (cols.length : Int) ((ps, ()), ()) (i, ((i : Int), acc)) S5 S (i, (false, ((j : Int), acc))) = ju c (fun w => S5 (i + 1, (((i + 1 : Nat) : Int), acc ++ [w]))) (some (uO t e cols)) none (v :: r)
              unfold f9.s2
              dsimp only [ju]
              simp only [pJ, zX hj, zX hi, z1, Lk, Lj, Lr, LN, zE hw, zE hv, htk, hroom, nx (show i ≤ _ by omega), nx (show j ≤ _ by omega), i1]
              cases h1 : v.1 == c with
              | false =>
                have i0 := ih none (fun _ => by rw [hA rfl, hd, pJ, hfp, h1]; simp [hr])
                simp only [Va, ju] at i0
                rw [hfp, h1]
                simp only [Lj, Bool.false_and, i0]
              | true =>
                cases h2 : zd v.2.1 eqS with
                | false =>
                  have i0 := ih none (fun _ => by rw [hA rfl, hd, pJ, hfp, h1, h2]; simp [hr])
                  simp only [Va, ju] at i0
                  have h2' : zd v.2.1 (⟨#[61]⟩ : ByteArray) = false := h2
                  rw [hfp, h1, h2]
                  simp only [Lk, Lj, h2', LK, i0]
                | true =>
                  have h2' : zd v.2.1 (⟨#[61]⟩ : ByteArray) = true := h2
                  rw [hfp, h1, h2]
                  simp only [Lk, Lj, h2', LK]
                  rfl)
          N (by omega) none (fun _ => rfl)
        exact this
      have inner : zF (f9.s3 N (t, (e, cols)) (yR t e) (cols.length : Int) ((ps, ()), ())) N (0, ((0 : Int), [])) = some (uO t e cols) := by
        refine zP (step := f9.s3 N (t, (e, cols)) (yR t e) (cols.length : Int) ((ps, ()), ())) cols (fun i (acc : List zc) => (i, ((i : Int), acc))) (fun i acc => FixI ps cols i acc) (fun _ _ _ => some (uO t e cols))
          (fun S acc hI => ?_) (fun S i acc c r hi hv hr hI ih => ?_) N (by omega) [] (FixI.zero ps cols)
        · have hf := hI.last
          have htk : List.take cols.length acc = acc := by rw [← hI.len, qS]
          have eR : F31 (acc, (((0 : Int), ((⟨#[]⟩ : ByteArray), ((0 : Int), ((0 : Int), (0, (⟨#[]⟩ : ByteArray)))))), (((0 : Int), ((⟨#[]⟩ : ByteArray), ((0 : Int), ((0 : Int), (0, (⟨#[]⟩ : ByteArray)))))), (false, false)))) = some (v6 acc none none) := zo (by
            have z : okZ ((0 : Int), ((0 : Int), (0, (⟨#[]⟩ : ByteArray)))) = true := u7
            simp only [hI.ok, z, Ln (show acc.length ≤ 64 by rw [hI.len]; omega), Lr])
          simp only [f9.s3, zM, Lj, htk, eR, Lm]
          unfold uO
          rw [hps, qU ps cols acc hf, sm hf hI.len, sm hf hI.len, ← nz]
          unfold o7
          cases (v6 acc none none).2 != 0 <;> rfl
        · simp only [f9.s3, zX hi, Lk]
          rw [seek S i acc c hi hv hI]
          cases hq : ps.find? (lU c) with
          | none => simp only [ju, hq]
          | some p => simp only [ju, hq]; exact ih (acc ++ [p.2.2]) (hI.next hpz h64 hv hq)
      have twice : ∀ (S1 : Int → Option (wU × Int)) (i : Nat) (v : Int), i < cols.length → cols[i]? = some v → zF (f9.s1 N (t, (e, cols)) (yR t e) (i : Int) S1) N 0 = bif (cols.take i).any (fun w => w == v) then some (Wo, 1) else S1 ((i + 1 : Nat) : Int) := fun S1 i v hi hv =>
        uJ (l := cols) (Nat.le_of_lt hi) (fun w => w == v) (by omega) (fun S => by
          simp only [f9.s1, md, Lj, nx (show i ≤ _ by omega)]) (fun S j w hj hw => by
          simp only [f9.s1, eg hj, z1, zX (Xj hw), zX hi, zE hw, zE hv, nx (show j ≤ _ by omega), Lr, Lk]
          rfl)
      have key := yZ (l := cols) (step := f9.s4 N (t, (e, cols)) (yR t e)) (m := N) (fun seen r => bif ur t.2.1.length seen r then uO t e cols else (Wo, 1)) (by omega) (fun S => by
          simp only [f9.s4, zM, Lj, Rose.eta, eP, Lm, inner, ur, Lk]) (fun S i v r hi hv hr ih => by
          simp only [f9.s4, zX hi, z1, zE hv, Lr, Lk, twice S i v hi hv, ih, ur]
          generalize decide (v < 0) = b1
          generalize decide (v ≥ (t.2.1.length : Int)) = b2
          generalize (cols.take i).any (fun w => w == v) = b3
          cases b1 <;> cases b2 <;> cases b3 <;> rfl)
      rw [key]
theorem SW : ConOk Tryz.prog 9 NS := f9.ok ND Wn Xo Xl Wm
end Go.Proofs.YtefddghdaimklaaGreatDoor.AI
