/- A part of the proof. -/
import Derived.Test.YtefddghdaimklaaGreatDoorBc
import Derived.Test.YtefddghdaimklaaGreatDoorAjd
import Derived.Test.YtefddghdaimklaaGreatDoorBs
import Derived.Lib.AtoiErrMem
import Derived.Lib.Replace
import Derived.Lib.IndexMore
import Derived.KernelRfl
import GoSem.Core.Float
set_option linter.unusedVariables false
set_option linter.unusedSimpArgs false
/- Contracts of the library's functions that this seat calls, out of the kit's own calls. -/
namespace Go.Proofs.YtefddghdaimklaaGreatDoor.AI
open Go Go.RowKit Go.Shelf
theorem Uo {x : Cx} {t : Ty} {X : t.den} {vals : Array Value} (h : RepVs x (zu [(false, t)] X) vals.toList) : ∃ u, vals = #[u] ∧ RepV x (.val false (t.cells X)) u := by
 obtain ⟨u, r, hu, h1, h2⟩ := h
 have hr : r = [] := h2
 subst hr
 exact ⟨u, by cases vals; simp_all, h1⟩
theorem SR {x : Cx} {t s : Ty} {X : t.den × s.den} {vals : Array Value} (h : RepVs x (zu [(false, t), (false, s)] X) vals.toList) : ∃ u v, vals = #[u, v] ∧ RepV x (.val false (t.cells X.1)) u ∧ RepV x (.val false (s.cells X.2)) v := by
 obtain ⟨u, r, hu, h1, v, r', hr, h2, h3⟩ := h
 have hr' : r' = [] := h3
 subst hr'
 subst hr
 exact ⟨u, v, by cases vals; simp_all, h1, h2⟩
theorem Pl {x : Cx} {t s r : Ty} {X : t.den × s.den × r.den} {vals : Array Value} (h : RepVs x (zu [(false, t), (false, s), (false, r)] X) vals.toList) : ∃ u v q, vals = #[u, v, q] ∧ RepV x (.val false (t.cells X.1)) u ∧ RepV x (.val false (s.cells X.2.1)) v ∧ RepV x (.val false (r.cells X.2.2)) q := by
 obtain ⟨u, r1, hu, h1, v, r2, hr, h2, q, r3, hr2, h3, h4⟩ := h
 have h4' : r3 = [] := h4
 subst h4'
 subst hr2
 subst hr
 exact ⟨u, v, q, by cases vals; simp_all, h1, h2, h3⟩
theorem wi (a b : ByteArray) : zd a b = true ↔ a = b := by
 unfold zd
 rw [beq_iff_eq]
 exact ⟨fv, fun h => by rw [h]⟩
theorem zT {α : Type} {c : Bool} {x y : α} (h : (bif c then some x else none) = some y) : c = true ∧ x = y := by
 cases c with
 | true => exact ⟨rfl, Option.some.inj h⟩
 | false => cases h
theorem Q0 (b : Nat) (w : World) : (callFunc 63 #[.float .f64 b]).run Tryz.prog w = .ok (.value (.int .u64 b)) w := by kernel_rfl
theorem s8 : ConOk Tryz.prog 63 oB := d5 Q0
theorem bq : (Tryz.f170.name == "runtime.NumGoroutine") = false ∧ Tryz.f170.body.isSome = true := ⟨by kernel_rfl, by kernel_rfl⟩
theorem VI : (Tryz.f64.name == "runtime.NumGoroutine") = false ∧ Tryz.f64.body.isSome = true := ⟨by kernel_rfl, by kernel_rfl⟩
theorem vO {x : Cx} {s : ByteArray} {u : Value} (h : RepV x (.val false [.sc .str s]) u) : u = .string s := w9 h
theorem T2 {x : Cx} (hI : Inv x) : Lib.Utf8Tabs 4 5 x.w := ⟨(hI.tab.1 _ _ .first).2 x.w rfl, (hI.tab.1 _ _ .accept).2 x.w rfl⟩
set_option maxRecDepth 100000 in
theorem ZJ : ConOk Tryz.prog 170 YG := xA (Nw.1 rfl) (fun _ => rfl) (fun x vals X Y hI hv hF => by
 obtain ⟨u, v, rfl, h1, h2⟩ := SR (t := .str) (s := .str) hv
 obtain ⟨hc, rfl⟩ := zT (show (bif decide (X.1.size < 4294967281) then some (Lib.contains X.1.data.toList X.2.data.toList) else none) = some Y from hF)
 obtain ⟨m, hm⟩ := (hI.tab.1 _ _ .maxLen).2 x.w rfl
 rw [vO h1, vO h2]
 refine wm Tryz.func170 bq.1 bq.2 ((YtefddghdaimklaaGreatDoor.strings_Contains X.1 X.2 m x.w (NK hc) hm).mono (fun e w' he => ?_))
 obtain ⟨rfl, rfl⟩ := he
 exact ⟨_, rfl, Below.refl _ _, fun y => z5 _⟩)
set_option maxRecDepth 100000 in
theorem g9 : ConOk Tryz.prog 64 bY := xA (Nw.1 rfl) (fun _ => rfl) (fun x vals X Y hI hv hF => by
 obtain ⟨u, rfl, h1⟩ := Uo (t := .str) hv
 obtain ⟨hc, rfl⟩ := zT (show (bif decide (X.size ≤ 9223372036854775807) then some (Lib.validD X.data.toList) else none) = some Y from hF)
 rw [vO h1]
 refine wm Tryz.func64 VI.1 VI.2 ((YtefddghdaimklaaGreatDoor.validString X x.w (NK hc) (T2 hI)).mono (fun e w' he => ?_))
 obtain ⟨rfl, hb⟩ := he
 exact ⟨_, rfl, hb, fun y => z5 _⟩)
theorem TK (n : Int) (w : World) : (callFunc 163 #[.int .u64 n]).run Tryz.prog w = .ok (.value (.float .f64 n.toNat)) w := by kernel_rfl
set_option maxRecDepth 100000 in
theorem o5 : ConOk Tryz.prog 163 oc := xA (Nw.1 rfl) (fun _ => rfl) (fun x vals X Y hI hv hF => by
 obtain ⟨u, rfl, h1⟩ := Uo (t := .int .u64) hv
 rw [xM h1]
 cases hF
 exact Does.value (TK X x.w) ⟨Below.refl _ _, fun y => vG _ _⟩)
theorem Sx {b : Nat} {d : Ieee.Datum} (hd : FloatKind.f64.decode b = d) (hn : ∀ s t, d ≠ .nan s t) (w : World) : (callFunc 200 #[.float .f64 b]).run Tryz.prog w = .ok (.value (.float .f64 (FloatKind.f64.encode (d.integral .zero)))) w := by
 rw [run_callFunc_extern Tryz.func200 (by kernel_rfl) (by kernel_rfl) (by kernel_rfl) (e := Extern.MathFloor.toIntegral "math.archTrunc" .zero) (by kernel_rfl)]
 have e1 : ∃ q : Bool → Nat → Sem Value, Extern.MathFloor.toIntegral "math.archTrunc" .zero #[.float .f64 b] = (match FloatKind.f64.decode b with
   | .nan s t => q s t
   | d => pure (.float .f64 (FloatKind.f64.encode (d.integral .zero)))) := ⟨fun s t => if FloatKind.f64.format.quiet t = t then pure (.float .f64 b) else do
   let kept ← choose (.extern "math.Floor,Ceil,Trunc,RoundToEven.signallingNaN kept" 2)
   pure (.float .f64 (if kept == 1 then b else FloatKind.f64.encode (.nan s (FloatKind.f64.format.quiet t)))), rfl⟩
 obtain ⟨q, e1⟩ := e1
 rw [e1, hd]
 cases d with
 | nan s t => exact absurd rfl (hn s t)
 | number s m i => rfl
 | infinity s => rfl
set_option maxRecDepth 100000 in
theorem aI : ConOk Tryz.prog 200 ad := xA (Nw.1 rfl) (fun _ => rfl) (fun x vals X Y hI hv hF => by
 obtain ⟨u, rfl, h1⟩ := Uo (t := .float .f64) hv
 rw [yS h1]
 have hF' : Rb X = some Y := hF
 unfold Rb at hF'
 split at hF'
 ·cases hF'
 ·rename_i d hnn
  cases hF'
  exact Does.value (Sx rfl (fun s t e => hnn s t e) x.w) ⟨Below.refl _ _, fun y => vG _ _⟩)
theorem VG : (Tryz.f74.name == "runtime.NumGoroutine") = false ∧ Tryz.f74.body.isSome = true := ⟨by kernel_rfl, by kernel_rfl⟩
set_option maxRecDepth 100000 in
theorem WJ : ConOk Tryz.prog 74 Up := xA (Nw.1 rfl) (fun _ => rfl) (fun x vals X Y hI hv hF => by
 obtain ⟨u, v, rfl, h1, h2⟩ := SR (t := .str) (s := .str) hv
 rw [vO h1, vO h2]
 cases hF
 refine wm Tryz.func74 VG.1 VG.2 ((YtefddghdaimklaaGreatDoor.strings_Compare X.1 X.2 x.w).mono (fun e w' he => ?_))
 obtain ⟨rfl, rfl⟩ := he
 exact ⟨_, rfl, Below.refl _ _, fun y => zZ _ _⟩)
set_option maxRecDepth 100000 in
theorem VP : (Tryz.f93.name == "runtime.NumGoroutine") = false ∧ Tryz.f93.body.isSome = true := ⟨by kernel_rfl, by kernel_rfl⟩
set_option maxRecDepth 100000 in
theorem Xf : ConOk Tryz.prog 93 SQ := xA (Nw.1 rfl) (fun _ => rfl) (fun x vals X Y hI hv hF => by
 obtain ⟨u, v, rfl, h1, h2⟩ := SR (t := .str) (s := .int .u8) hv
 rw [vO h1, xM h2]
 cases hF
 refine wm Tryz.func93 VP.1 VP.2 ((YtefddghdaimklaaGreatDoor.indexByte X.1 X.2 x.w).mono (fun e w' he => ?_))
 obtain ⟨rfl, rfl⟩ := he
 exact ⟨_, rfl, Below.refl _ _, fun y => zZ _ _⟩)
set_option maxRecDepth 100000 in
theorem Zz : (Tryz.f236.name == "runtime.NumGoroutine") = false ∧ Tryz.f236.body.isSome = true := ⟨by kernel_rfl, by kernel_rfl⟩
theorem eM (w : World) (t : ByteArray) : w.heap.size ≤ (Lib.bytesWorld w 5 t).heap.size ∧ (∀ b, b < w.heap.size → (Lib.bytesWorld w 5 t).heap[b]? = w.heap[b]?) ∧ (Lib.bytesWorld w 5 t).os = w.os ∧ (Lib.bytesWorld w 5 t).tape = w.tape ∧ (Lib.bytesWorld w 5 t).output = w.output := by
 have h : Below w.heap.size w (Lib.bytesWorld w 5 t) := Lib.bytesWorld_below w 5 t
 exact ⟨h.size, h.block, h.os, h.tape, h.output⟩
set_option maxRecDepth 100000 in
theorem lz : ConOk Tryz.prog 236 lM := by
 refine ⟨fun x args vals X Y hI hv hl hF => ?_, fun h => (by cases h), by
  intro _ args H l X h
  exact wj H l [(false, .str), (false, .int .i64), (false, .int .i64)] args X h, fun h => by cases h⟩
 have hl' : zU [(false, .str), (false, .int .i64), (false, .int .i64)] (args.map (roV x.H)) = some X := hl
 have hI' : Inv x.lend.bare := u4 (mD hI) (qS hI)
 have hvx : RepVs x.lend.bare (zu [(false, .str), (false, .int .i64), (false, .int .i64)] X) vals.toList := yw (x := x.lend) (y := x.lend.bare) (fun t d vs h => h) [(false, .str), (false, .int .i64), (false, .int .i64)] (args.map (roV x.H)) X vals.toList hl' (wM hI _ _ hv)
 obtain ⟨u1, r1, e1, h1, u2, r2, e2, h2, u3, r3, e3, h3, h4⟩ := hvx
 have h4' : r3 = [] := h4
 subst h4'; subst e3; subst e2
 have hvals : vals = #[u1, u2, u3] := by cases vals; simp_all
 obtain ⟨s, b, z⟩ := X
 change Int at Y
 have hF' : (bif b == 10 && z == 64 then (bif zd s ⟨#[49]⟩ then some 1 else bif zd s ⟨#[53]⟩ then some 5 else none) else none) = some Y := hF
 cases hb : (b == 10 && z == 64) with
 | false => rw [hb] at hF'; cases hF'
 | true =>
  rw [hb] at hF'
  simp only [Nv, Nt] at hF' hb
  have key : s.size ≤ 9223372036854775806 ∧ Lib.parseIntB 64 s.data.toList = .ok Y := by
   cases hs : zd s ⟨#[49]⟩ with
   | true =>
    rw [hs] at hF'
    have := (wi _ _).1 hs
    subst this
    cases hF'
    exact ⟨by decide, by kernel_rfl⟩
   | false =>
    rw [hs] at hF'
    cases hs5 : zd s ⟨#[53]⟩ with
    | true =>
     rw [hs5] at hF'
     have := (wi _ _).1 hs5
     subst this
     cases hF'
     exact ⟨by decide, by kernel_rfl⟩
    | false => rw [hs5] at hF'; cases hF'
  have g1 : u1 = .string s := w9 h1
  have g2 : u2 = .int .i64 10 := by have := xM h2; rw [this]; rw [eq_of_beq hb.1]
  have g3 : u3 = .int .i64 64 := by have := xM h3; rw [this]; rw [eq_of_beq hb.2]
  rw [hvals, g1, g2, g3]
  refine wm Tryz.func236 Zz.1 Zz.2 ((YtefddghdaimklaaGreatDoor.parseInt s key.1 Y key.2 x.w).mono (fun e w' he => ?_))
  obtain ⟨rfl, hw⟩ := he
  have hw2 : x.w.heap.size ≤ w'.heap.size ∧ (∀ b, b < x.w.heap.size → w'.heap[b]? = x.w.heap[b]?) ∧ w'.os = x.w.os ∧ w'.tape = x.w.tape ∧ w'.output = x.w.output := by
   rcases hw with rfl | ⟨t, rfl⟩
   ·exact ⟨NF _, fun _ _ => rfl, rfl, rfl, rfl⟩
   ·exact eM x.w t
  obtain ⟨w1, w2, w3, w4, w5⟩ := hw2
  refine ⟨_, rfl, x.withW w', rfl, rfl, WI hI w1 w2, cr w1 w2 w3 w4 w5, fun id _ _ => pv hI w2 id, Carry.id_of (pb hI w2) (fun id _ => pv hI w2 id), NF _, ?_⟩
  exact ⟨#[.int .i64 Y, .nilIface], rfl, _, _, rfl, (zZ .i64 Y : RepV _ (.val false [.sc (.int .i64) Y]) _), _, _, rfl, (zF ⟨rfl, rfl⟩ : RepV _ (.val false [.nili]) _), rfl⟩
end Go.Proofs.YtefddghdaimklaaGreatDoor.AI
/- The plain laws of the runs: loops over lists; names. -/
namespace Go.Proofs.YtefddghdaimklaaGreatDoor.AI
open Go
theorem xZ {n : Int} (h1 : -9223372036854775808 ≤ n) (h2 : n ≤ 9223372036854775807) : IntKind.wrap .i64 n = n := by
 simp [IntKind.wrap, IntKind.min, IntKind.max, IntKind.signed, IntKind.bits]
 omega
theorem nx {i : Nat} (h : i ≤ 140737488355328) : IntKind.wrap .i64 ((i : Int) + (1 : Int)) = ((i + 1 : Nat) : Int) := by
 rw [xZ (by omega) (by omega)]; simp
theorem lT {α σ β R : Type} {step : (β → Option R) → β → Option R} (l : List α) (enc : Nat → σ → β) (I : Nat → σ → Prop) (f : Nat → σ → List α → Option R)
  (hend : ∀ S a, I l.length a → step S (enc l.length a) = f l.length a [])
  (hstep : ∀ S i a v r, i < l.length → l[i]? = some v → l.drop (i + 1) = r → I i a → (∀ a', I (i + 1) a' → S (enc (i + 1) a') = f (i + 1) a' r) → step S (enc i a) = f i a (v :: r)) :
  ∀ (r : List α) (i : Nat), l.drop i = r → i ≤ l.length → ∀ m a, I i a → r.length < m → zY step m (enc i a) = f i a r
 | [], i, hd, hi, m, a, hI, hm => by
  have hl : l.length ≤ i := List.drop_eq_nil_iff.1 hd
  have : i = l.length := by omega
  subst this
  cases m with
  | zero => simp at hm
  | succ m => exact hend _ a hI
 | v :: r, i, hd, hi, m, a, hI, hm => by
  have hlt : i < l.length := by
   rcases Nat.lt_or_ge i l.length with h | h
   ·exact h
   ·rw [List.drop_eq_nil_iff.2 h] at hd; cases hd
  have hv : l[i]? = some v := by
   have := congrArg List.head? hd
   rw [List.head?_drop] at this
   simpa using this
  have hr : l.drop (i + 1) = r := by
   have := congrArg List.tail hd
   rw [List.tail_drop] at this
   simpa using this
  cases m with
  | zero => simp at hm
  | succ m => exact hstep _ i a v r hlt hv hr hI (fun a' hI' => lT l enc I f hend hstep r (i + 1) hr (by omega) m a' hI' (by simp at hm; omega))
theorem z9 {α σ β R : Type} {step : (β → Option R) → β → Option R} (l : List α) (enc : Nat → σ → β) (I : Nat → σ → Prop) (f : Nat → σ → List α → Option R)
  (hend : ∀ S a, I l.length a → step S (enc l.length a) = f l.length a [])
  (hstep : ∀ S i a v r, i < l.length → l[i]? = some v → l.drop (i + 1) = r → I i a → (∀ a', I (i + 1) a' → S (enc (i + 1) a') = f (i + 1) a' r) → step S (enc i a) = f i a (v :: r))
  (m : Nat) (hm : l.length < m) (a : σ) (hI : I 0 a) : zY step m (enc 0 a) = f 0 a l :=
 lT l enc I f hend hstep l 0 rfl (Nat.zero_le _) m a hI hm
theorem xB {α : Type} {b : Nat} {l : List α} : okB b l = true ↔ l.length * b ≤ 140737488355328 := by
 unfold okB
 rw [NO]
theorem yy {α : Type} {b : Nat} {l : List α} (hb : 1 ≤ b) (h : okB b l = true) : l.length ≤ 140737488355328 := by
 have h1 := xB.1 h
 have : l.length * 1 ≤ l.length * b := Nat.mul_le_mul_left _ hb
 omega
theorem pa {α : Type} {b : Nat} {l : List α} (h : okB b l = true) (i : Nat) : okB b (l.take i) = true := by
 have h1 := xB.1 h
 refine xB.2 ?_
 have : (l.take i).length * b ≤ l.length * b := NP _ (by rw [List.length_take]; exact Nat.min_le_right _ _)
 omega
theorem xi {α : Type} {l : List α} {i : Nat} (h : i < l.length) : decide ((i : Int) < (l.length : Int)) = true := by simp; exact h
theorem yi {α : Type} (l : List α) : decide ((l.length : Int) < (l.length : Int)) = false := by simp
theorem yZ (i : Nat) : decide (0 ≤ (i : Int)) = true := by simp
theorem YR {α : Type} {l : List α} {i : Nat} (h : i < l.length) : decide ((i : Int) ≤ (l.length : Int)) = true := by simp; omega
theorem yf {α : Type} {l : List α} {i : Nat} {v d : α} (h : l[i]? = some v) : l.getD (i : Int).toNat d = v := by simp [List.getD, h]
theorem mC {α : Type} (l : List α) (i : Nat) : List.take (i : Int).toNat l = l.take i := by simp
theorem su {α : Type} {l : List α} {i : Nat} {v : α} (h : l[i]? = some v) : l.take i ++ [v] = l.take (i + 1) := by
 obtain ⟨hlt, rfl⟩ := NB.1 h
 simp
theorem XJ {α : Type} {l : List α} (p : α → Bool) {step : (Int → Option Bool) → Int → Option Bool} {m : Nat} (hm : l.length < m)
  (hend : ∀ S, step S (l.length : Int) = some true)
  (hstep : ∀ S i v, i < l.length → l[i]? = some v → step S (i : Int) = bif p v then S ((i + 1 : Nat) : Int) else some false) :
  zY step m 0 = some (l.all p) :=
 z9 (step := step) l (fun i (_ : Unit) => (i : Int)) (fun _ _ => True) (fun i _ r => some (r.all p))
  (fun S a _ => by simp [hend]) (fun S i a v r hi hv hr _ ih => by
   rw [hstep S i v hi hv, List.all_cons, ih () trivial]
   cases p v <;> rfl) m hm () trivial
theorem wK {α : Type} {l : List α} (p : α → Bool) {step : (Int → Option Int) → Int → Option Int} {m : Nat} (hm : l.length < m)
  (hend : ∀ S, step S (l.length : Int) = some (-1))
  (hstep : ∀ S i v, i < l.length → l[i]? = some v → step S (i : Int) = bif p v then some (i : Int) else S ((i + 1 : Nat) : Int)) :
  zY step m 0 = some (up p l) := by
 have := z9 (step := step) l (fun i (_ : Unit) => (i : Int)) (fun _ _ => True) (fun i _ r => some (match r.findIdx? p with | some j => ((i + j : Nat) : Int) | none => -1))
  (fun S a _ => by simp [hend]) (fun S i a v r hi hv hr _ ih => by
   rw [hstep S i v hi hv, List.findIdx?_cons]
   cases hp : p v with
   | true => simp
   | false =>
    have := ih () trivial
    rw [Nu, this]
    simp only [Bool.false_eq_true, if_false]
    cases r.findIdx? p with
    | none => rfl
    | some j => simp; omega) m hm () trivial
 simp only [Int.natCast_zero, Nat.zero_add] at this
 exact this
theorem uJ {α R : Type} {l : List α} (f : List α → List α → R) {step : (Int → Option R) → Int → Option R} {m : Nat} (hm : l.length < m)
  (hend : ∀ S, step S (l.length : Int) = some (f l []))
  (hstep : ∀ S i v r, i < l.length → l[i]? = some v → l.drop (i + 1) = r → S ((i + 1 : Nat) : Int) = some (f (l.take i ++ [v]) r) → step S (i : Int) = some (f (l.take i) (v :: r))) :
  zY step m 0 = some (f [] l) := by
 have := z9 (step := step) l (fun i (_ : Unit) => (i : Int)) (fun _ _ => True) (fun i _ r => some (f (l.take i) r))
  (fun S a _ => by simp [hend]) (fun S i a v r hi hv hr _ ih => by
   refine hstep S i v r hi hv hr ?_
   rw [su hv]
   exact ih () trivial) m hm () trivial
 simpa using this
theorem rq {α : Type} (p : α → Bool) (l : List α) : decide (up p l ≥ 0) = l.any p := by
 unfold up
 cases h : l.findIdx? p with
 | none =>
  have h1 := List.findIdx?_eq_none_iff.1 h
  have : l.any p = false := by
   rw [List.any_eq_false]
   intro v hv
   rw [h1 v hv]; simp
  rw [this]; rfl
 | some i =>
  obtain ⟨hlt, hp, _⟩ := List.findIdx?_eq_some_iff_getElem.1 h
  have : l.any p = true := List.any_eq_true.2 ⟨l[i], List.getElem_mem hlt, hp⟩
  rw [this]; simp
theorem xF (a b : Bool) : (bif a then true else b) = (a || b) := by cases a <;> rfl
theorem rd (a b : Bool) : (bif a then b else false) = (a && b) := by cases a <;> rfl
theorem yK (a b : Bool) : (bif a then true else b) = (a || b) := by cases a <;> rfl
theorem z1 (a b : Bool) : (bif a then b else false) = (a && b) := by cases a <;> rfl
theorem pG : ConOk Tryz.prog 115 px := f115.ok (fun x y h => ⟨0, by cases h; simp only [f115.g, yK, rN]⟩)
theorem fU : ConOk Tryz.prog 41 ZN := f41.ok (fun x y h => ⟨0, by cases h; simp only [f41.g, yK, qb]⟩)
theorem Uq : ∀ X Y, VA X = some Y → ∃ n, f114.g n X = some Y := by
 rintro ⟨a, b⟩ y h
 cases h
 refine ⟨0, ?_⟩
 simp only [f114.g, eO, Nx, ZX, yK, z1]
 cases a == b <;> cases rN a <;> cases rN b <;> cases a == 0 <;> cases b == 0 <;> rfl
theorem pB : ConOk Tryz.prog 114 pS := f114.ok Uq pG
theorem Wc {x : List Int × Int} (h : okB 8 x.1 = true) : F42 x = some (up (fun v => v == x.2) x.1) := by unfold F42; rw [h]; rfl
theorem Qz : ∀ X Y, F42 X = some Y → ∃ n, f42.g n X = some Y := by
 intro x y h
 obtain ⟨ho, rfl⟩ := zT h
 have hl := yy (by omega) ho
 refine ⟨x.1.length + 1, wK _ (NG _) (fun S => ?_) (fun S i v hi hv => ?_)⟩
 ·simp only [f42.s1, yi, Nu]
 ·have : (x.2 == v) = (v == x.2) := by rw [Bool.eq_iff_iff, beq_iff_eq, beq_iff_eq]; exact eq_comm
  simp only [f42.s1, xi hi, yZ, yf hv, nx (show i ≤ _ by omega), NC, Nv, this]
theorem XT : ConOk Tryz.prog 42 V5 := f42.ok Qz
theorem gP {l : List Int} (h : okB 8 l = true) (a : Int) : F16 (l, a) = some (l.any fun v => v == a) := by
 show (bif okB 8 l then _ else _) = _
 rw [h]; rfl
theorem R8 : ∀ X Y, F16 X = some Y → ∃ n, f16.g n X = some Y := by
 intro x y h
 obtain ⟨ho, rfl⟩ := zT h
 exact ⟨0, by simp only [f16.g, Wc ho, Nx, rq]⟩
theorem eg : ConOk Tryz.prog 16 Yu := f16.ok R8 XT
theorem Xp : ∀ X Y, d3 X = some Y → ∃ n, f171a.g n X = some Y := by
 intro x y h
 obtain ⟨ho, rfl⟩ := zT h
 have hl := yy (by omega) ho
 refine ⟨x.1.length + 1, wK _ (NG _) (fun S => ?_) (fun S i v hi hv => ?_)⟩
 ·simp only [f171a.s1, yi, Nu]
 ·simp only [f171a.s1, xi hi, yZ, yf hv, nx (show i ≤ _ by omega), NC, Nv]
theorem Xt : ∀ X Y, iE X = some Y → ∃ n, f171b.g n X = some Y := by
 intro x y h
 obtain ⟨ho, rfl⟩ := zT h
 have hl := yy (by omega) ho
 refine ⟨x.1.length + 1, wK _ (NG _) (fun S => ?_) (fun S i v hi hv => ?_)⟩
 ·simp only [f171b.s1, yi, Nu]
 ·simp only [f171b.s1, xi hi, yZ, yf hv, nx (show i ≤ _ by omega), NC, Nv]
theorem jP : ConOk Tryz.prog 171 lY := mK (f171a.ok Xp) (f171b.ok Xt)
theorem ZR {l : List zR} (h : okB 72 l = true) (a : zR) : SY (l, a) = some (l.any fun c => zd c.1 a.1) := by
 show (bif okB 72 l then _ else _) = _
 rw [h]; rfl
theorem Tj : ∀ X Y, SY X = some Y → ∃ n, f140.g n X = some Y := by
 intro x y h
 obtain ⟨ho, rfl⟩ := zT h
 have e : iE x = some (up (fun c => zd c.1 x.2.1) x.1) := by unfold iE; rw [ho]; rfl
 exact ⟨0, by simp only [f140.g, e, Nx, rq]⟩
theorem bP : ConOk Tryz.prog 140 Z6 := f140.ok Tj jP
theorem WQ : ∀ X Y, j8 X = some Y → ∃ n, f142a.g n X = some Y := by
 intro x y h
 obtain ⟨ho, rfl⟩ := zT h
 obtain ⟨ho, hin⟩ := Nt _ _ ▸ ho
 have hl := yy (by omega) ho
 refine ⟨x.1.length + 1, wK _ (NG _) (fun S => ?_) (fun S i v hi hv => ?_)⟩
 ·simp only [f142a.s1, yi, Nu]
 ·have h2 : (decide (0 ≤ v) && decide (v < (x.2.2.1.length : Int))) = true := Nw.1 hin v (ND hv)
  simp only [f142a.s1, xi hi, yZ, yf hv, nx (show i ≤ _ by omega), NC, Nv, h2, io]
theorem YS {l : List Int} (h : 0 < l.length) : (decide (0 ≤ (0 : Int)) && decide ((0 : Int) < (l.length : Int))) = true := by simp; omega
theorem Rm : ∀ X Y, gd X = some Y → ∃ n, f142b.g n X = some Y := by
 intro x y h
 obtain ⟨ho, rfl⟩ := zT h
 simp only [Nt, NE] at ho
 have hl := yy (by omega) ho.1
 refine ⟨x.1.length + 1, wK _ (NG _) (fun S => ?_) (fun S i v hi hv => ?_)⟩
 ·simp only [f142b.s1, yi, Nu]
 ·simp only [f142b.s1, xi hi, yZ, yf hv, nx (show i ≤ _ by omega), NC, Nv, YS ho.2, VA, Nx]; rfl
theorem jB : ConOk Tryz.prog 142 kV := mK (f142a.ok WQ) (f142b.ok Rm pB)
theorem Zd {l : List Int} {t : zi} (h : okB 8 l = true) (h2 : l.all (inK t) = true) : Rg (l, t) = some (l.any (io t)) := by
 show (bif okB 8 l && l.all (inK t) then _ else _) = _
 rw [h, h2]; rfl
theorem U9 : ∀ X Y, Rg X = some Y → ∃ n, f89a.g n X = some Y := by
 intro x y h
 obtain ⟨ho, rfl⟩ := zT h
 have e : j8 x = some (up (io x.2) x.1) := by unfold j8; rw [ho]; rfl
 exact ⟨0, by simp only [f89a.g, e, Nx, rq]⟩
theorem Qp : ∀ X Y, SZ X = some Y → ∃ n, f89b.g n X = some Y := by
 intro x y h
 obtain ⟨ho, rfl⟩ := zT h
 have e : gd x = some (up (fun y => !ZX (x.2.getD 0 0) y) x.1) := by unfold gd; rw [ho]; rfl
 exact ⟨0, by simp only [f89b.g, e, Nx, rq]⟩
theorem ew : ConOk Tryz.prog 89 cY := mK (f89a.ok U9 jB) (f89b.ok Qp pB jB)
theorem SJ : ∀ X Y, Ur X = some Y → ∃ n, f143.g n X = some Y := by
 intro x y h
 obtain ⟨ho, rfl⟩ := zT h
 have hl := yy (by omega) ho
 refine ⟨x.1.length + 1, wK _ (NG _) (fun S => ?_) (fun S i v hi hv => ?_)⟩
 ·simp only [f143.s1, yi, Nu]
 ·simp only [f143.s1, xi hi, yZ, yf hv, nx (show i ≤ _ by omega), NC, Nv]
theorem cX : ConOk Tryz.prog 143 aB := f143.ok SJ
theorem W7 {l : List yC} (h : okB 48 l = true) (a : yC) : F91 (l, a) = some (l.any fun c => zd c.1 a.1) := by
 show (bif okB 48 l then _ else _) = _
 rw [h]; rfl
theorem QP : ∀ X Y, F91 X = some Y → ∃ n, f91.g n X = some Y := by
 intro x y h
 obtain ⟨ho, rfl⟩ := zT h
 have e : Ur x = some (up (fun c => zd c.1 x.2.1) x.1) := by unfold Ur; rw [ho]; rfl
 exact ⟨0, by simp only [f91.g, e, Nx, rq]⟩
theorem XV : ConOk Tryz.prog 91 U5 := f91.ok QP cX
theorem gU (n : Nat) (k : Nat) : decide ((n : Int) < (k : Int)) = decide (n < k) := by simp
theorem oz (n : Nat) (k : Nat) : decide ((n : Int) > (k : Int)) = decide (n > k) := by simp
theorem m7 (n : Nat) : ∀ (seen l : List Int), qD n seen l = true → l.all (fun k => decide (0 ≤ k) && decide (k < (n : Int))) = true
 | _, [], _ => rfl
 | seen, k :: r, h => by
  unfold qD at h
  by_cases h1 : k < 0
  ·simp [h1] at h
  ·by_cases h2 : k ≥ (n : Int)
   ·simp [h2] at h
   ·have h3 : (decide (k < 0) || decide (k ≥ (n : Int))) = false := by simp; omega
    rw [h3, Nu] at h
    cases h4 : seen.any (fun v => v == k) with
    | true => rw [h4] at h; cases h
    | false =>
     rw [h4, Nu] at h
     rw [List.all_cons, m7 n _ r h]
     simp; omega
theorem lc {l : List Int} (t : zi) (h : okB 8 l = true) : F88 (t, l) = some (uz t.2.1.length l) := by
 show (bif okB 8 l then _ else _) = _
 rw [h]; rfl
theorem Qq : ∀ X Y, F88 X = some Y → ∃ n, f88.g n X = some Y := by
 intro x y h
 obtain ⟨ho, rfl⟩ := zT h
 have hl := yy (by omega) ho
 refine ⟨x.2.length + 1, ?_⟩
 have key := uJ (l := x.2) (step := f88.s1 (x.2.length + 1) x) (fun seen r => qD x.1.2.1.length seen r) (NG _) (fun S => by
   simp only [f88.s1, yi, Nu, qD]) (fun S i v r hi hv hr ih => by
   simp only [f88.s1, xi hi, yZ, YR hi, yf hv, mC, nx (show i ≤ _ by omega), NC, Nv, gP (pa ho i) v, Nx, xF, ih, qD]
   cases decide (v < 0) || decide (v ≥ (x.1.2.1.length : Int)) with
   | true => rfl
   | false =>
    simp only [Nu]
    cases (x.2.take i).any (fun w => w == v) <;> rfl)
 simp only [f88.g, key, uz, xF]
 have e1 : decide ((x.2.length : Int) < (1 : Int)) = decide (x.2.length < 1) := gU _ 1
 have e2 : decide ((x.2.length : Int) > (64 : Int)) = decide (x.2.length > 64) := oz _ 64
 rw [e1, e2]
 cases decide (x.2.length < 1) || decide (x.2.length > 64) <;> rfl
theorem WK : ConOk Tryz.prog 88 U7 := f88.ok Qq eg
end Go.Proofs.YtefddghdaimklaaGreatDoor.AI
/- The plain laws of the runs: names, and values that may be. -/
namespace Go.Proofs.YtefddghdaimklaaGreatDoor.AI
open Go
theorem v9 (b : UInt8) (l sub : List UInt8) : Lib.contains (b :: l) sub = (sub.isPrefixOf (b :: l) || Lib.contains l sub) := by
 unfold Lib.contains
 rw [Lib.index]
 have hg := Lib.index_ge l sub
 cases hp : sub.isPrefixOf (b :: l) with
 | true => rfl
 | false =>
  simp only [Bool.false_eq_true, if_false, Bool.false_or]
  by_cases h : Lib.index l sub = -1
  ·rw [h]; rfl
  ·have : (Lib.index l sub == -1) = false := by simp; exact h
   rw [this]
   simp only [Bool.false_eq_true, if_false]
   rw [Ny (show 0 ≤ Lib.index l sub + 1 by omega), Ny (show 0 ≤ Lib.index l sub by omega)]
def fm : List (List UInt8) → List UInt8
 | [] => []
 | w :: ws => w ++ 32 :: fm ws
theorem fx : ∀ (s w r : List UInt8), (32 : UInt8) ∉ s → (32 : UInt8) ∉ w → (s ++ [32]).isPrefixOf (w ++ 32 :: r) = decide (s = w)
 | [], [], r, _, _ => by simp
 | [], b :: w, r, _, hw => by
  have : ¬ (32 : UInt8) = b := fun e => hw (by simp [e])
  simp [List.isPrefixOf, this]
 | a :: s, [], r, hs, _ => by
  have : ¬ a = (32 : UInt8) := fun e => hs (by simp [e])
  simp [List.isPrefixOf, this]
 | a :: s, b :: w, r, hs, hw => by
  have ih := fx s w r (fun h => hs (List.mem_cons_of_mem _ h)) (fun h => hw (List.mem_cons_of_mem _ h))
  simp only [List.cons_append, List.isPrefixOf, ih]
  by_cases h : a = b
  ·subst h; simp
  ·simp [h]
theorem jG (pat r : List UInt8) : ∀ (w : List UInt8), (32 : UInt8) ∉ w → Lib.contains (w ++ r) (32 :: pat) = Lib.contains r (32 :: pat)
 | [], _ => rfl
 | b :: w, hw => by
  have : ((32 : UInt8) == b) = false := by simp; exact fun e => hw (by simp [e])
  rw [List.cons_append, v9, List.isPrefixOf, this, jG pat r w (fun h => hw (List.mem_cons_of_mem _ h))]
  rfl
theorem tC (s : List UInt8) (hs : (32 : UInt8) ∉ s) : ∀ (ws : List (List UInt8)), (∀ w ∈ ws, (32 : UInt8) ∉ w) → Lib.contains (32 :: fm ws) (32 :: (s ++ [32])) = ws.any (fun w => decide (s = w))
 | [], _ => by
  have hne : (32 :: (s ++ [32]) : List UInt8).isPrefixOf [32] = false := by
   cases s with
   | nil => rfl
   | cons a s => simp [List.isPrefixOf]
  show Lib.contains [32] _ = _
  rw [v9, hne]
  rfl
 | w :: ws, h => by
  have ih := tC s hs ws (fun v hv => h v (List.mem_cons_of_mem _ hv))
  rw [fm, v9, List.isPrefixOf, fx s w _ hs (h w (by simp)), jG _ _ w (h w (by simp)), ih]
  simp
theorem zw (a b : ByteArray) : zd a b = true ↔ a = b := by
 unfold zd
 rw [beq_iff_eq]
 constructor
 ·intro h
  cases a with
  | mk d => cases b with
   | mk e =>
    have h1 : d.toList = e.toList := by simpa [ByteArray.toList_eq] using h
    exact congrArg ByteArray.mk (Array.ext' h1)
 ·intro h; rw [h]
theorem cG (a b : ByteArray) : zd a b = decide (b.data.toList = a.data.toList) := by
 rw [Bool.eq_iff_iff, zw, NO]
 constructor
 ·intro h; rw [h]
 ·intro h
  cases a with
  | mk d => cases b with
   | mk e => exact congrArg ByteArray.mk (Array.ext' h.symm)
theorem po (x : ByteArray) : (zJ x).length = x.size := by
 unfold zJ
 rw [List.length_map]
 rfl
theorem Sk {x : ByteArray} {i : Nat} {v : Int} (h : (zJ x)[i]? = some v) : z7 x (i : Int) = v := by
 unfold zJ at h
 rw [List.getElem?_map, Option.map_eq_some_iff] at h
 obtain ⟨b, hb, rfl⟩ := h
 have hx : x[i]? = some b := by
  obtain ⟨hlt, e⟩ := NB.1 hb
  have hlt' : i < x.size := hlt
  rw [getElem?_pos x i hlt']
  rw [← e]; rfl
 unfold z7
 rw [Int.toNat_natCast, hx]
theorem Yx : wordsS.data.toList = 32 :: fm (wordsL.map fun w => w.data.toList) := by kernel_rfl
theorem cS : ∀ w ∈ wordsL.map fun w => w.data.toList, (32 : UInt8) ∉ w := by
 have h : ((wordsL.map fun w => w.data.toList).all fun w => w.all fun b => b != 32) = true := by kernel_rfl
 intro w hw hm
 have := Nw.1 (Nw.1 h w hw) _ hm
 simp at this
theorem ba {x : ByteArray} (h : (32 : UInt8) ∉ x.data.toList) : Lib.contains wordsS.data.toList (32 :: (x.data.toList ++ [32])) = wordsL.any fun w => zd w x := by
 rw [Yx, tC _ h _ cS, List.any_map]
 congr 1
 funext w
 simp only [Function.comp, cG]
theorem Yc {x : ByteArray} (h : x.size ≤ 140737488355328) : SL x = some (Lib.contains wordsS.data.toList (32 :: (x.data.toList ++ [32]))) := by
 unfold SL; rw [Ny h]; rfl
set_option maxRecDepth 100000 in
theorem TB : ∀ X Y, SL X = some Y → ∃ n, f138.g n X = some Y := by
 intro x y h
 obtain ⟨hq, rfl⟩ := zT h
 have hq := NK hq
 have hb : y8 = 9223372036854775807 := rfl
 have s1 : (⟨#[32]⟩ : ByteArray).size = 1 := rfl
 have s2 : ((⟨#[32]⟩ : ByteArray) ++ x).size = 1 + x.size := by rw [ByteArray.size_append, s1]
 refine ⟨0, ?_⟩
 have e : QE (wordsS, ((⟨#[32]⟩ : ByteArray) ++ x) ++ (⟨#[32]⟩ : ByteArray)) = some (Lib.contains wordsS.data.toList (32 :: (x.data.toList ++ [32]))) := by
  unfold QE
  rw [show decide (wordsS.size < 4294967281) = true from rfl, Nv]
  rw [show (((⟨#[32]⟩ : ByteArray) ++ x) ++ (⟨#[32]⟩ : ByteArray)).data.toList = 32 :: (x.data.toList ++ [32]) by simp [ByteArray.data_append]]
 have hg : f138.g 0 x = (bif decide ((⟨#[32]⟩ : ByteArray).size + x.size ≤ y8) then (bif decide (((⟨#[32]⟩ : ByteArray) ++ x).size + (⟨#[32]⟩ : ByteArray).size ≤ y8) then ((QE (wordsS, ((⟨#[32]⟩ : ByteArray) ++ x) ++ (⟨#[32]⟩ : ByteArray))).bind fun r1 => some r1) else none) else none) := rfl
 rw [hg, Ny (show (⟨#[32]⟩ : ByteArray).size + x.size ≤ y8 by rw [s1, hb]; omega), Ny (show ((⟨#[32]⟩ : ByteArray) ++ x).size + (⟨#[32]⟩ : ByteArray).size ≤ y8 by rw [s2, s1, hb]; omega), e]
 rfl
theorem Zs : ConOk Tryz.prog 138 Yi := f138.ok TB ZJ
theorem fI (c : Int) : (bif (c == (95 : Int)) then true else (bif (decide (c ≥ (97 : Int))) then (decide (c ≤ (122 : Int))) else false)) = qk c := by
 rw [xF, rd]; rfl
theorem XF (c : Int) : (bif (decide (c ≥ (48 : Int))) then (decide (c ≤ (57 : Int))) else false) = nF c := by
 rw [rd]; rfl
theorem bG {x : ByteArray} (h : (32 : UInt8) ∈ x.data.toList) : ((zJ x).all fun c => qk c || nF c) = false := by
 rw [List.all_eq_false]
 exact ⟨32, List.mem_map.2 ⟨32, h, rfl⟩, by decide⟩
theorem RH (x : ByteArray) : ∃ n, f86.g n x = some (qw x) := by
 refine ⟨x.size + 1, ?_⟩
 unfold f86.g qw
 have e1 : (bif zd x (⟨#[]⟩ : ByteArray) then true else decide ((x.size : Int) > (63 : Int))) = (decide (x.size < 1) || decide (x.size > 63)) := by
  rw [xF]
  have q1 : zd x (⟨#[]⟩ : ByteArray) = decide (x.size < 1) := by
   rw [Bool.eq_iff_iff, zw, NO]
   constructor
   ·intro h; rw [h]; decide
   ·intro h
    cases x with
    | mk d =>
     have : d.size = 0 := by
      have : d.size < 1 := h
      omega
     rw [Array.eq_empty_of_size_eq_zero this]
  rw [q1, show decide ((x.size : Int) > (63 : Int)) = decide (x.size > 63) from oz _ 63]
 rw [e1]
 cases hs : decide (x.size < 1) || decide (x.size > 63) with
 | true => rfl
 | false =>
  simp only [Bool.or_eq_false_iff, decide_eq_false_iff_not] at hs
  simp only [Nu]
  have p1 : (decide (0 ≤ (0 : Int)) && decide ((0 : Int) < (x.size : Int))) = true := by simp; omega
  have key : ∀ r1, zY (f86.s1 (x.size + 1) x r1) (x.size + 1) 0 = some ((zJ x).all fun c => qk c || nF c) := fun r1 => XJ (l := zJ x) (fun c => qk c || nF c) (by rw [po]; omega) (fun S => by
   rw [po]
   have : decide ((x.size : Int) < (x.size : Int)) = false := by simp
   simp only [f86.s1, this, Nu]) (fun S i v hi hv => by
   rw [po] at hi
   have q : decide ((i : Int) < (x.size : Int)) = true := by simp; exact hi
   simp only [f86.s1, q, yZ, Sk hv, nx (show i ≤ _ by omega), NC, Nv, fI, XF]
   cases qk v <;> cases nF v <;> rfl)
  rw [p1, Nv, fI]
  cases qk (z7 x 0) with
  | false => rfl
  | true =>
   simp only [NJ, Nu, Yc (show x.size ≤ 140737488355328 by omega), Nx, key, Bool.false_or]
   by_cases h32 : (32 : UInt8) ∈ x.data.toList
   ·rw [bG h32]
    cases Lib.contains wordsS.data.toList (32 :: (x.data.toList ++ [32])) <;> cases wordsL.any fun w => zd w x <;> rfl
   ·rw [ba h32]
    cases wordsL.any fun w => zd w x <;> rfl
theorem lh : ConOk Tryz.prog 86 iF := f86.ok (fun x y h => by cases h; exact RH x) Zs
theorem To (a b : Nat) : (((a : Int)) == ((b : Int))) = (a == b) := by
 rw [Bool.eq_iff_iff, beq_iff_eq, beq_iff_eq]; omega
theorem RA (a b : Int) : (a != b) = !(a == b) := rfl
theorem VN (a b : Nat) : (((a : Int)) != ((b : Int))) = !(a == b) := by rw [RA, To]
theorem WR {x : zc} (h : okV x = true) : x.2.2.2.size ≤ 140737488355328 := NK (show decide (x.2.2.2.size ≤ 140737488355328) = true from h)
theorem gL (x : zc) (q : okV x = true) : f75.g 0 x = some (zt x) ∧ f37.g 0 x = some (zt x) := by
 have hq := WR q
 have e21 : F64 x.2.2.2 = some (Lib.validD x.2.2.2.data.toList) := by
  show (bif decide (x.2.2.2.size ≤ 9223372036854775807) then _ else _) = _
  rw [Ny (by omega)]; rfl
 have e0 : (((x.2.2.1 : Nat) : Int) != 0) = (x.2.2.1 != 0) := VN _ 0
 simp only [f75.g, f37.g, F63, e21, Nx, e0, zt, noS]
 simp only [bne]
 generalize decide (x.1 < 0) = k0
 generalize decide (x.1 > 5) = k9
 generalize (x.1 == 1) = k1
 generalize (x.1 == 2) = k2
 generalize (x.1 == 3) = k3
 generalize (x.1 == 4) = k4
 generalize (x.1 == 5) = k5
 generalize (x.2.1 == 0) = n0
 generalize (x.2.1 == 1) = n1
 generalize (x.2.2.1 == 0) = z
 generalize zd x.2.2.2 ⟨#[]⟩ = e
 generalize Lib.validD x.2.2.2.data.toList = v
 generalize decide ((x.2.2.2.size : Int) > 65536) = g
 constructor
 ·cases k0
  ·cases k9
   ·cases k1 <;> cases n0 <;> cases n1 <;> first | rfl | (cases k2 <;> cases k3 <;> cases z <;> first | rfl | (cases k4 <;> cases k5 <;> cases e <;> cases v <;> cases g <;> rfl))
   ·rfl
  ·rfl
 ·cases k0
  ·cases k9
   ·cases k1 <;> cases n0 <;> cases n1 <;> first | rfl | (cases k2 <;> cases k3 <;> cases z <;> first | rfl | (cases k4 <;> cases k5 <;> cases e <;> cases v <;> cases g <;> rfl))
   ·rfl
  ·rfl
theorem so {x : zc} (h : okV x = true) : F75 x = some (zt x) := by unfold F75; rw [h]; rfl
theorem XU {x : zc} (h : okV x = true) : F37 x = some (zt x) := so h
theorem uV : ConOk Tryz.prog 75 rX := f75.ok (fun x y h => ⟨0, by
 obtain ⟨q, rfl⟩ := zT (show (bif okV x then some (zt x) else none) = some y from h)
 exact (gL x q).1⟩) s8 g9
theorem Xq : ConOk Tryz.prog 37 Tt := f37.ok (fun x y h => ⟨0, by
 obtain ⟨q, rfl⟩ := zT (show (bif okV x then some (zt x) else none) = some y from h)
 exact (gL x q).2⟩) s8 g9
end Go.Proofs.YtefddghdaimklaaGreatDoor.AI
/- The plain laws of the runs: tables that may be. -/
namespace Go.Proofs.YtefddghdaimklaaGreatDoor.AI
open Go
theorem wU {t : zi} (h : okT t = true) : okB 72 t.2.1 = true ∧ okB 8 t.2.2.1 = true ∧ okB 48 t.2.2.2.1 = true ∧ okB 40 t.2.2.2.2 = true ∧ (∀ c ∈ t.2.1, okV c.2.2.2 = true) ∧ (∀ c ∈ t.2.2.2.1, okB 8 c.2.1 = true) ∧ (∀ c ∈ t.2.2.2.2, okB 8 c.1 = true) := by
 unfold okT at h
 simp only [Nt] at h
 obtain ⟨⟨h1, h2, h3, h4⟩, h5, h6, h7⟩ := h
 exact ⟨h1, h2, h3, h4, Nw.1 h5, Nw.1 h6, Nw.1 h7⟩
theorem gN (s : ByteArray) : F86 s = some (qw s) := rfl
theorem Rs : ∀ X Y, F87 X = some Y → ∃ n, f87.g n X = some Y := by
 intro x y h
 obtain ⟨ho, rfl⟩ := zT h
 obtain ⟨h1, h2, h3, h4, h5, h6, h7⟩ := wU ho
 have hl := yy (by omega) h1
 refine ⟨x.2.1.length + 1, ?_⟩
 exact uJ (l := x.2.1) (step := f87.s1 (x.2.1.length + 1) x) (fun seen r => mH seen r) (NG _) (fun S => by
   simp only [f87.s1, yi, Nu, mH]) (fun S i v r hi hv hr ih => by
   simp only [f87.s1, xi hi, yZ, YR hi, yf hv, mC, nx (show i ≤ _ by omega), NC, Nv, ZR (pa h1 i) v, gN, so (h5 v (ND hv)), Nx, xF, rd, ih, mH, OS]
   generalize qw v.1 = b1
   generalize (x.2.1.take i).any (fun c => zd c.1 v.1) = b2
   generalize (decide (v.2.1 < 1) || decide (v.2.1 > 5)) = b3
   generalize (zt v.2.2.2 != 0) = b4
   generalize (v.2.2.2.1 != 0 && v.2.2.2.1 != v.2.1) = b5
   cases b1 <;> cases b2 <;> cases b3 <;> cases b4 <;> cases b5 <;> rfl)
theorem Xh : ConOk Tryz.prog 87 SS := f87.ok Rs uV lh bP
theorem Vj {t : zi} (h : okT t = true) : F87 t = some (mH [] t.2.1) := by unfold F87; rw [h]; rfl
theorem Qw {x : zi} (h : okT x = true) {n : Nat} (hn : x.2.2.2.2.length < n) (r1 : Bool) (r2 : Int) (r3 r4 : Bool) (y5 : Int) : zY (f58.s1 n x r1 r2 r3 r4 y5) n 0 = some (jL x.2.1.length x.2.2.2.2) := by
 obtain ⟨h1, h2, h3, h4, h5, h6, h7⟩ := wU h
 have hl := yy (by omega) h4
 exact uJ (l := x.2.2.2.2) (step := f58.s1 n x r1 r2 r3 r4 y5) (fun _ r => jL x.2.1.length r) hn (fun S => by
   simp only [f58.s1, yi, Nu, jL]) (fun S i v r hi hv hr ih => by
   simp only [f58.s1, xi hi, yZ, yf hv, nx (show i ≤ _ by omega), NC, Nv, gN, lc x (h7 v (ND hv)), Nx, ih, jL]
   generalize qw v.2 = b1
   generalize uz x.2.1.length v.1 = b2
   cases b1 <;> cases b2 <;> rfl)
theorem QH {x : zi} (h : okT x = true) {n : Nat} (hn : x.2.2.2.2.length < n) (hn2 : x.2.2.2.1.length < n) (r1 : Bool) (r2 : Int) (r3 r4 : Bool) :
  zY (f58.s2 n x r1 r2 r3 r4) n 0 = some (bif mZ x.2.1.length [] x.2.2.2.1 != 0 then mZ x.2.1.length [] x.2.2.2.1 else jL x.2.1.length x.2.2.2.2) := by
 obtain ⟨h1, h2, h3, h4, h5, h6, h7⟩ := wU h
 have hl := yy (by omega) h3
 exact uJ (l := x.2.2.2.1) (step := f58.s2 n x r1 r2 r3 r4) (fun seen r => bif mZ x.2.1.length seen r != 0 then mZ x.2.1.length seen r else jL x.2.1.length x.2.2.2.2) hn2 (fun S => by
   simp only [f58.s2, yi, Nu, mZ, Qw h hn]; rfl) (fun S i v r hi hv hr ih => by
   simp only [f58.s2, xi hi, yZ, YR hi, yf hv, mC, nx (show i ≤ _ by omega), NC, Nv, gN, W7 (pa h3 i) v, lc x (h6 v (ND hv)), Nx, ih, mZ]
   generalize qw v.1 = b1
   generalize (x.2.2.2.1.take i).any (fun c => zd c.1 v.1) = b2
   generalize uz x.2.1.length v.2.1 = b3
   cases b1 <;> cases b2 <;> cases b3 <;> rfl)
theorem RV {x : zi} (h : uz x.2.1.length x.2.2.1 = true) : x.2.2.1.all (inK x) = true := by
 unfold uz at h
 cases hc : decide (x.2.2.1.length < 1) || decide (x.2.2.1.length > 64) with
 | true => rw [hc] at h; cases h
 | false =>
  rw [hc, Nu] at h
  exact m7 _ _ _ h
theorem Xi (x : zi) : (bif bif bif decide ((x.2.1.length : Int) < (1 : Int)) then true else decide ((x.2.1.length : Int) > (64 : Int)) then true else decide ((x.2.2.2.1.length : Int) > (16 : Int)) then true else decide ((x.2.2.2.2.length : Int) > (16 : Int))) =
  (decide (x.2.1.length < 1) || decide (x.2.1.length > 64) || decide (x.2.2.2.1.length > 16) || decide (x.2.2.2.2.length > 16)) := by
 rw [xF, xF, xF, show decide ((x.2.1.length : Int) < (1 : Int)) = decide (x.2.1.length < 1) from gU _ 1, show decide ((x.2.1.length : Int) > (64 : Int)) = decide (x.2.1.length > 64) from oz _ 64,
  show decide ((x.2.2.2.1.length : Int) > (16 : Int)) = decide (x.2.2.2.1.length > 16) from oz _ 16, show decide ((x.2.2.2.2.length : Int) > (16 : Int)) = decide (x.2.2.2.2.length > 16) from oz _ 16]
theorem Qh : ∀ X Y, F58 X = some Y → ∃ n, f58.g n X = some Y := by
 intro x y h
 obtain ⟨ho, rfl⟩ := zT h
 obtain ⟨h1, h2, h3, h4, h5, h6, h7⟩ := wU ho
 refine ⟨x.2.2.2.1.length + x.2.2.2.2.length + 1, ?_⟩
 unfold f58.g wB
 simp only [gN, Nx, Xi, Vj ho, lc x h2]
 cases qw x.1 with
 | false => rfl
 | true =>
  simp only [NJ, Nu]
  cases decide (x.2.1.length < 1) || decide (x.2.1.length > 64) || decide (x.2.2.2.1.length > 16) || decide (x.2.2.2.2.length > 16) with
  | true => rfl
  | false =>
   simp only [Nu]
   cases mH [] x.2.1 != 0 with
   | true => rfl
   | false =>
    simp only [Nu]
    cases hs : uz x.2.1.length x.2.2.1 with
    | false => rfl
    | true =>
     simp only [NJ, Nu, Zd h2 (RV hs), Nx]
     cases x.2.2.1.any (io x) with
     | true => rfl
     | false =>
      simp only [Nu]
      exact QH ho (by omega) (by omega) _ _ _ _
theorem ll : ConOk Tryz.prog 58 iP := f58.ok Qh lh Xh WK ew XV
theorem YV {t : zi} (h : okT t = true) : F58 t = some (wB t) := by unfold F58; rw [h]; rfl
end Go.Proofs.YtefddghdaimklaaGreatDoor.AI
/- The plain laws of the runs: rows, copies, fills. -/
namespace Go.Proofs.YtefddghdaimklaaGreatDoor.AI
open Go
theorem bZ {α : Type} {l : List α} {i : Nat} {v : α} (h : l[i]? = some v) : l.drop i = v :: l.drop (i + 1) := by
 obtain ⟨hlt, rfl⟩ := NB.1 h
 exact List.drop_eq_getElem_cons hlt
theorem Pg {α : Type} {b : Nat} {l : List α} (h : okB b l = true) {i : Nat} (hi : i < l.length) : decide ((i + 1) * b ≤ zo) = true := by
 have h1 := xB.1 h
 have : (i + 1) * b ≤ l.length * b := NP _ hi
 have hb : zo = 140737488355328 := rfl
 rw [NO, hb]
 omega
theorem T3 : ∀ X Y, Q8 X = some Y → ∃ n, f221.g n X = some Y := by
 intro x y h
 obtain ⟨ho, rfl⟩ := zT h
 obtain ⟨h1, h2, h3, h4, h5, h6, h7⟩ := wU ho
 have e : d3 (x.1.2.1, x.2) = some (up (fun c => zd c.1 x.2) x.1.2.1) := by
  show (bif okB 72 x.1.2.1 then _ else _) = _
  rw [h1]; rfl
 refine ⟨0, ?_⟩
 simp only [f221.g, e, Nx, ab, up]
 cases x.1.2.1.findIdx? (fun c => zd c.1 x.2) with
 | none => rfl
 | some i =>
  have : decide ((i : Int) < 0) = false := by simp
  simp only [this, Nu]
theorem ZG : ConOk Tryz.prog 221 aU := f221.ok T3 jP
theorem Rt {α β : Type} (a : List α) (b : List β) : ((a.length : Int) != (b.length : Int)) = !(a.length == b.length) := VN _ _
theorem Nr {x : zi × List zc} {y : Int} (h : (bif okT x.1 && (okB 40 x.2 && x.2.all okV) then some (vw x.1 x.2) else none) = some y) : okT x.1 = true ∧ okB 40 x.2 = true ∧ (∀ v ∈ x.2, okV v = true) ∧ vw x.1 x.2 = y := by
 obtain ⟨ho, rfl⟩ := zT h
 simp only [Nt] at ho
 exact ⟨ho.1, ho.2.1, Nw.1 ho.2.2, rfl⟩
theorem Qn : ∀ X Y, F61 X = some Y → ∃ n, f61.g n X = some Y := by
 intro x y h
 obtain ⟨ho, ho2, ho3, rfl⟩ := Nr h
 obtain ⟨h1, h2, h3, h4, h5, h6, h7⟩ := wU ho
 have hl := yy (by omega) h1
 refine ⟨x.1.2.1.length + 1, ?_⟩
 simp only [f61.g, YV ho, Nx, vw]
 cases wB x.1 != 0 with
 | true => rfl
 | false =>
  simp only [Nu]
  cases hlen : ((x.2.length : Int) != (x.1.2.1.length : Int)) with
  | true => rfl
  | false =>
   have hlen' : x.2.length = x.1.2.1.length := by
    rw [Rt] at hlen
    simpa using hlen
   simp only [Nu]
   exact z9 (step := f61.s1 (x.1.2.1.length + 1) x (wB x.1)) x.1.2.1 (fun i (_ : Unit) => (i : Int)) (fun _ _ => True) (fun i _ r => some (pm r (x.2.drop i)))
    (fun S a _ => by simp only [f61.s1, yi, Nu]; rfl) (fun S i _ v r hi hv hr _ ih => by
     have hw : x.2[i]? = some x.2[i] := NL (by omega)
     have hiw : i < x.2.length := by omega
     generalize x.2[i] = w at hw
     simp only [f61.s1, xi hi, xi hiw, yZ, yf hv, yf hw, nx (show i ≤ _ by omega), NC, Nv, so (ho3 w (ND hw)), Nx, ih () trivial, rd, bZ hw, pm]
     generalize (zt w != 0) = b1
     generalize (w.1 == 0) = b2
     generalize v.2.2.1 = b3
     generalize (w.1 != v.2.1) = b4
     cases b1 <;> cases b2 <;> cases b3 <;> cases b4 <;> rfl) (x.1.2.1.length + 1) (NG _) () trivial
theorem X4 : ConOk Tryz.prog 61 TM := f61.ok Qn ll uV
end Go.Proofs.YtefddghdaimklaaGreatDoor.AI
/- The plain laws of the runs: what awake asks. -/
namespace Go.Proofs.YtefddghdaimklaaGreatDoor.AI
open Go
theorem Xo : ConOk Tryz.prog 71 T4 := f71.ok (fun x y h => ⟨0, by
 cases h
 have e : ∀ n : Int, (n != n) = false := fun n => by simp
 simp only [f71.g, e, Nu, pU]
 cases decide (x.1 < x.2) <;> cases decide (x.1 > x.2) <;> rfl⟩)
theorem ld : ConOk Tryz.prog 72 iN := f72.ok (fun x y h => ⟨0, by
 cases h
 have e : ∀ n : Int, (n != n) = false := fun n => by simp
 simp only [f72.g, e, Nu, pU]
 cases decide (x.1 < x.2) <;> cases decide (x.1 > x.2) <;> rfl⟩)
theorem fz : ConOk Tryz.prog 73 Yg := f73.ok (fun x y h => ⟨0, by
 cases h
 simp only [f73.g, qY, fo]
 cases FloatKind.f64.format.order x.1 x.1 != some .eq <;> cases FloatKind.f64.format.order x.2 x.2 != some .eq <;> cases FloatKind.f64.format.order x.1 x.2 == some .lt <;> cases FloatKind.f64.format.order x.1 x.2 == some .gt <;> rfl⟩)
theorem qO : ∀ (a b : List UInt8), (Op.bytesLess a b = true ↔ Lib.compareBytes a b = -1) ∧ (a = b ↔ Lib.compareBytes a b = 0)
 | [], [] => ⟨⟨fun h => (by cases h), fun h => (by cases h)⟩, ⟨fun _ => rfl, fun _ => rfl⟩⟩
 | [], _ :: _ => ⟨⟨fun _ => rfl, fun _ => rfl⟩, ⟨fun h => (by cases h), fun h => (by cases h)⟩⟩
 | _ :: _, [] => ⟨⟨fun h => (by cases h), fun h => (by cases h)⟩, ⟨fun h => (by cases h), fun h => (by cases h)⟩⟩
 | a :: l, b :: m => by
  obtain ⟨h1, h2⟩ := qO l m
  simp only [Op.bytesLess, Lib.compareBytes]
  by_cases hab : a < b
  ·have hne : a ≠ b := fun e => by subst e; exact absurd hab (UInt8.lt_irrefl a)
   rw [if_pos hab]
   simp [hab, hne]
  ·rw [if_neg hab]
   by_cases hba : b < a
   ·have hne : a ≠ b := fun e => by subst e; exact absurd hba (UInt8.lt_irrefl a)
    rw [if_pos hba]
    simp [hab, hne]
   ·have he : a = b := UInt8.le_antisymm (UInt8.not_lt.1 hba) (UInt8.not_lt.1 hab)
    subst he
    rw [if_neg hba, ← h1, ← h2]
    simp [hab]
theorem Sv (a b : ByteArray) : yA a b = decide (XH a b = -1) ∧ zd a b = decide (XH a b = 0) := by
 obtain ⟨h1, h2⟩ := qO a.data.toList b.data.toList
 unfold yA zd XH
 rw [ByteArray.toList_eq, ByteArray.toList_eq]
 refine ⟨?_, ?_⟩
 ·rw [Bool.eq_iff_iff, NO]; exact h1
 ·rw [Bool.eq_iff_iff, NO, beq_iff_eq]; exact h2
theorem jF : ∀ (a b : List UInt8), Lib.compareBytes a b = -1 ∨ Lib.compareBytes a b = 0 ∨ Lib.compareBytes a b = 1
 | [], [] => .inr (.inl rfl)
 | [], _ :: _ => .inl rfl
 | _ :: _, [] => .inr (.inr rfl)
 | a :: l, b :: m => by
  simp only [Lib.compareBytes]
  split
  ·exact .inl rfl
  ·split
   ·exact .inr (.inr rfl)
   ·exact jF l m
theorem bh {a b : Int} : (pU a b != 0) = (a != b) := by
 unfold pU
 by_cases h1 : a < b
 ·rw [Ny h1]
  have : (a != b) = true := by simp; omega
  rw [this]; rfl
 ·rw [NR h1]
  by_cases h2 : a > b
  ·rw [Ny h2]
   have : (a != b) = true := by simp; omega
   rw [this]; rfl
  ·rw [NR h2]
   have : (a != b) = false := by simp; omega
   rw [this]; rfl
theorem RZ (x : zc × zc) : f45.g 0 x = some (ul x.1 x.2) := by
 simp only [f45.g, F71, F72, F73, F74, Nx, bh, ul]
 cases x.1.1 != x.2.1 <;> cases x.1.1 == 1 <;> cases x.1.1 == 2 <;> cases x.1.1 == 3 <;> cases x.1.1 == 4 <;> cases x.1.1 == 5 <;> rfl
theorem gB : ConOk Tryz.prog 45 ZC := f45.ok (fun x y h => ⟨0, by cases h; exact RZ x⟩) Xo ld fz WJ
end Go.Proofs.YtefddghdaimklaaGreatDoor.AI
/- Doubles as numbers: whole parts, and what is written and read again. -/
namespace Go.Proofs.YtefddghdaimklaaGreatDoor.AI
open Go
theorem Wx (neg : Bool) (n drop : Nat) : Ieee.Toward.zero.cut neg n drop = n / 2 ^ drop := by
 simp only [Ieee.Toward.cut, Bool.toNat_false, Nat.add_zero, Nat.one_shiftLeft]
 rcases Nat.le_total drop (n.log2 + 2) with h | h
 ·rw [Nat.min_eq_left h]
 ·rw [Nat.min_eq_right h]
  have h1 : n < 2 ^ (n.log2 + 1) := Nat.lt_log2_self
  have h2 : n < 2 ^ (n.log2 + 2) := Nat.lt_of_lt_of_le h1 (Nat.pow_le_pow_right (by decide) (by omega))
  have h3 : n < 2 ^ drop := Nat.lt_of_lt_of_le h2 (Nat.pow_le_pow_right (by decide) h)
  rw [Nat.div_eq_of_lt h2, Nat.div_eq_of_lt h3]
def whole (m : Nat) (i : Int) : Nat := (m <<< i.toNat) / 2 ^ (-i).toNat
theorem qc (s : Bool) (m : Nat) (i : Int) : (Ieee.Datum.number s m i).integral .zero = .number s (whole m i) 0 := by
 simp only [Ieee.Datum.integral, Wx, whole]
theorem pJ (s : Bool) (m : Nat) (i : Int) : (Ieee.Datum.number s m i).toInt .zero = some (Ieee.signed s (whole m i) 0) := by
 simp only [Ieee.Datum.toInt, qc]
theorem tT (s : Bool) (m : Nat) : Ieee.signed s m 0 = if s then -(m : Int) else (m : Int) := by
 unfold Ieee.signed
 simp
theorem ro {b : Nat} {s : Bool} {m : Nat} {i : Int} (h : Ieee.double.read b = .number s m i) : m < 2 ^ 53 ∧ -1074 ≤ i := by
 unfold Ieee.Format.read at h
 have e1 : Ieee.double.leastPlace = -1074 := by decide
 have e2 : Ieee.double.binade = 2 ^ 52 := by decide
 simp only [e1, e2] at h
 split at h
 ·rename_i hr
  cases h
  exact ⟨by omega, Int.le_refl _⟩
 ·split at h
  ·cases h
   have := Nat.mod_lt (b % Ieee.double.signWeight) (show 2 ^ 52 > 0 by decide)
   refine ⟨by omega, by omega⟩
  ·split at h <;> cases h
def P5 (w : Nat) : Prop := w.log2 ≤ 52 ∨ 2 ^ (w.log2 - 52) ∣ w
theorem jx {m : Nat} (hm : m ≠ 0) (k : Nat) : (m * 2 ^ k).log2 = m.log2 + k := by
 have hp : 0 < 2 ^ k := Nat.two_pow_pos k
 have h0 : m * 2 ^ k ≠ 0 := Nat.mul_ne_zero hm (by omega)
 apply Nat.le_antisymm
 ·have : (m * 2 ^ k).log2 < m.log2 + k + 1 := by
   rw [Nat.log2_lt h0]
   have := @Nat.lt_log2_self m
   calc m * 2 ^ k < 2 ^ (m.log2 + 1) * 2 ^ k := Nat.mul_lt_mul_of_pos_right this hp
    _ = 2 ^ (m.log2 + k + 1) := by rw [← Nat.pow_add]; congr 1; omega
  omega
 ·rw [Nat.le_log2 h0, Nat.pow_add]
  exact NP _ (Nat.log2_self_le hm)
theorem n8 {m : Nat} {i : Int} (hm : m < 2 ^ 53) : P5 (whole m i) := by
 unfold whole P5
 by_cases hi : 0 ≤ i
 ·have e : (-i).toNat = 0 := by omega
  rw [e, Nat.pow_zero, Nat.div_one, Nat.shiftLeft_eq]
  by_cases h0 : m = 0
  ·subst h0; left; simp
  ·rw [jx h0]
   have hl : m.log2 < 53 := (Nat.log2_lt h0).2 hm
   by_cases hc : m.log2 + i.toNat ≤ 52
   ·exact .inl hc
   ·right
    refine Nat.dvd_trans (Nat.pow_dvd_pow 2 (show m.log2 + i.toNat - 52 ≤ i.toNat by omega)) (Nat.dvd_mul_left _ _)
 ·have e : i.toNat = 0 := by omega
  rw [e, Nat.shiftLeft_zero]
  left
  by_cases h0 : m / 2 ^ (-i).toNat = 0
  ·rw [h0]; decide
  ·have h1 : m / 2 ^ (-i).toNat ≤ m := Nat.div_le_self _ _
   have : (m / 2 ^ (-i).toNat).log2 < 53 := (Nat.log2_lt h0).2 (Nat.lt_of_le_of_lt h1 hm)
   omega
theorem gQ {neg : Bool} {n drop : Nat} (h : drop ≤ n.log2 + 2) (hd : 2 ^ drop ∣ n) : Ieee.Toward.even.cut neg n drop = n / 2 ^ drop := by
 simp only [Ieee.Toward.cut, Nat.one_shiftLeft, Nat.min_eq_left h, Nat.mod_eq_zero_of_dvd hd]
 have hp : 0 < 2 ^ drop := Nat.two_pow_pos drop
 have e1 : decide (2 ^ drop < 2 * 0) = false := by simp
 have e2 : (2 ^ drop == 2 * 0) = false := by simp
 simp only [e1, e2, Bool.false_and, Bool.or_self, Bool.toNat_false, Nat.add_zero]
theorem kN {neg : Bool} {R k L : Nat} (hR : R = (L + 1022) * 4503599627370496 + k) (h1 : 4503599627370496 ≤ k) (h2 : k < 9007199254740992) (hL : L ≤ 64) :
  Ieee.double.read (Ieee.double.word neg (min R Ieee.double.infRung)) = .number neg k ((L : Int) - 52) := by
 have e0 : Ieee.double.infRung = 9218868437227405312 := by decide
 have e1 : Ieee.double.leastPlace = -1074 := by decide
 have e2 : Ieee.double.binade = 4503599627370496 := by decide
 have e3 : Ieee.double.signWeight = 9223372036854775808 := by decide
 have hm : min R Ieee.double.infRung = R := by rw [e0]; omega
 rw [hm]
 have hw : Ieee.double.word neg R = if neg then 9223372036854775808 + R else R := by unfold Ieee.Format.word; rw [e3]
 rw [hw]
 unfold Ieee.Format.read
 simp only [e0, e1, e2, e3]
 have hmod : (if neg = true then 9223372036854775808 + R else R) % 9223372036854775808 = R := by
  cases neg
  ·simp only [Bool.false_eq_true, if_false]; omega
  ·simp only [if_true]; omega
 have hdiv : ((if neg = true then 9223372036854775808 + R else R) / 9223372036854775808 % 2 == 1) = neg := by
  cases neg
  ·simp only [Bool.false_eq_true, if_false]
   have : R / 9223372036854775808 = 0 := Nat.div_eq_of_lt (by omega)
   rw [this]; rfl
  ·simp only [if_true]
   have : (9223372036854775808 + R) / 9223372036854775808 = 1 := by omega
   rw [this]; rfl
 rw [hmod, hdiv, if_neg (by omega), if_pos (by omega)]
 have h3 : R % 4503599627370496 = k - 4503599627370496 := by omega
 have h4 : R / 4503599627370496 = L + 1023 := by omega
 have h5 : 4503599627370496 + (k - 4503599627370496) = k := by omega
 have h6 : (-1074 : Int) + ((L + 1023 - 1 : Nat) : Int) = (L : Int) - 52 := by omega
 rw [h3, h4, h5, h6]
theorem qi {neg : Bool} {w : Nat} (h0 : w ≠ 0) (hw : w < 2 ^ 64) (hf : P5 w) : ∃ k l, Ieee.double.read (Ieee.double.nearest neg w 0) = .number neg k l ∧ whole k l = w := by
 have hL : w.log2 < 64 := (Nat.log2_lt h0).2 hw
 have lo : 2 ^ w.log2 ≤ w := Nat.log2_self_le h0
 have hi : w < 2 ^ (w.log2 + 1) := Nat.lt_log2_self
 have e1 : Ieee.double.leastPlace = -1074 := by decide
 have e2 : Ieee.double.binade = 4503599627370496 := by decide
 have e4 : Ieee.double.fractionBits = 52 := rfl
 have hlast : max ((0 : Int) + (w.log2 : Int) - ((52 : Nat) : Int)) (-1074) = (w.log2 : Int) - 52 := by omega
 unfold Ieee.Format.nearest
 rw [if_neg h0]
 simp only [e1, e2, e4, hlast]
 have e5 : ((w.log2 : Int) - 52 - -1074).toNat = w.log2 + 1022 := by omega
 rw [e5]
 by_cases hc : w.log2 ≤ 52
 ·have a1 : ((0 : Int) - ((w.log2 : Int) - 52)).toNat = 52 - w.log2 := by omega
  have a2 : ((w.log2 : Int) - 52 - 0).toNat = 0 := by omega
  rw [a1, a2, gQ (Nat.zero_le _) (by simp), Nat.pow_zero, Nat.div_one, Nat.shiftLeft_eq]
  have hp : 2 ^ w.log2 * 2 ^ (52 - w.log2) = 4503599627370496 := by rw [← Nat.pow_add, show w.log2 + (52 - w.log2) = 52 by omega]
  have hp2 : 2 ^ (w.log2 + 1) * 2 ^ (52 - w.log2) = 9007199254740992 := by rw [← Nat.pow_add, show w.log2 + 1 + (52 - w.log2) = 53 by omega]
  have b1 : 4503599627370496 ≤ w * 2 ^ (52 - w.log2) := by rw [← hp]; exact NP _ lo
  have b2 : w * 2 ^ (52 - w.log2) < 9007199254740992 := by rw [← hp2]; exact Nat.mul_lt_mul_of_pos_right hi (Nat.two_pow_pos _)
  refine ⟨w * 2 ^ (52 - w.log2), (w.log2 : Int) - 52, kN rfl b1 b2 (by omega), ?_⟩
  unfold whole
  have c1 : ((w.log2 : Int) - 52).toNat = 0 := by omega
  have c2 : (-((w.log2 : Int) - 52)).toNat = 52 - w.log2 := by omega
  rw [c1, c2, Nat.shiftLeft_zero]
  exact Nat.mul_div_cancel _ (Nat.two_pow_pos _)
 ·have hd : 2 ^ (w.log2 - 52) ∣ w := by
   rcases hf with h | h
   ·exact absurd h hc
   ·exact h
  have a1 : ((0 : Int) - ((w.log2 : Int) - 52)).toNat = 0 := by omega
  have a2 : ((w.log2 : Int) - 52 - 0).toNat = w.log2 - 52 := by omega
  rw [a1, a2, Nat.shiftLeft_zero, gQ (by omega) hd]
  obtain ⟨q, hq⟩ := hd
  have hpos : 0 < 2 ^ (w.log2 - 52) := Nat.two_pow_pos _
  have hdq : w / 2 ^ (w.log2 - 52) = q := by
   conv => lhs; lhs; rw [hq]
   exact Nat.mul_div_cancel_left _ hpos
  rw [hdq]
  have hp : 2 ^ (w.log2 - 52) * 4503599627370496 = 2 ^ w.log2 := by
   rw [show (4503599627370496 : Nat) = 2 ^ 52 by decide, ← Nat.pow_add, show w.log2 - 52 + 52 = w.log2 by omega]
  have hp2 : 2 ^ (w.log2 - 52) * 9007199254740992 = 2 ^ (w.log2 + 1) := by
   rw [show (9007199254740992 : Nat) = 2 ^ 53 by decide, ← Nat.pow_add, show w.log2 - 52 + 53 = w.log2 + 1 by omega]
  have b1 : 4503599627370496 ≤ q := by
   refine Nat.le_of_mul_le_mul_left ?_ hpos
   rw [hp, ← hq]; exact lo
  have b2 : q < 9007199254740992 := by
   refine Nat.lt_of_mul_lt_mul_left (a := 2 ^ (w.log2 - 52)) ?_
   rw [hp2, ← hq]; exact hi
  refine ⟨q, (w.log2 : Int) - 52, kN rfl b1 b2 (by omega), ?_⟩
  unfold whole
  have c1 : ((w.log2 : Int) - 52).toNat = w.log2 - 52 := by omega
  have c2 : (-((w.log2 : Int) - 52)).toNat = 0 := by omega
  rw [c1, c2, Nat.pow_zero, Nat.div_one, Nat.shiftLeft_eq, Nat.mul_comm]
  exact hq.symm
theorem kO (neg : Bool) : Ieee.double.read (Ieee.double.nearest neg 0 0) = .number neg 0 (-1074) := by
 cases neg <;> decide
theorem WL {m : Nat} {i : Int} {Q : Nat} (h : (m : Nat) * 2 ^ (i - min i 11).toNat ≤ Q * 2 ^ ((11 : Int) - min i 11).toNat) : whole m i ≤ Q * 2048 := by
 unfold whole
 by_cases hi : 11 ≤ i
 ·have a1 : (i - min i 11).toNat = (i - 11).toNat := by omega
  have a2 : ((11 : Int) - min i 11).toNat = 0 := by omega
  have a3 : (-i).toNat = 0 := by omega
  rw [a1, a2, Nat.pow_zero, Nat.mul_one] at h
  rw [a3, Nat.pow_zero, Nat.div_one, Nat.shiftLeft_eq]
  have : i.toNat = (i - 11).toNat + 11 := by omega
  rw [this, Nat.pow_add, ← Nat.mul_assoc]
  exact NP 2048 h
 ·have a1 : (i - min i 11).toNat = 0 := by omega
  have a2 : ((11 : Int) - min i 11).toNat = (11 - i).toNat := by omega
  rw [a1, a2, Nat.pow_zero, Nat.mul_one] at h
  by_cases h0 : 0 ≤ i
  ·have a3 : (-i).toNat = 0 := by omega
   rw [a3, Nat.pow_zero, Nat.div_one, Nat.shiftLeft_eq]
   have e : 2 ^ (11 - i).toNat * 2 ^ i.toNat = 2048 := by rw [← Nat.pow_add, show (11 - i).toNat + i.toNat = 11 by omega]
   calc m * 2 ^ i.toNat ≤ Q * 2 ^ (11 - i).toNat * 2 ^ i.toNat := NP _ h
    _ = Q * 2048 := by rw [Nat.mul_assoc, e]
  ·have a3 : i.toNat = 0 := by omega
   rw [a3, Nat.shiftLeft_zero]
   have e : 2 ^ (11 - i).toNat = 2048 * 2 ^ (-i).toNat := by rw [show (2048 : Nat) = 2 ^ 11 by decide, ← Nat.pow_add, show 11 + (-i).toNat = (11 - i).toNat by omega]
   rw [e, ← Nat.mul_assoc] at h
   exact Nat.div_le_of_le_mul (by rw [Nat.mul_comm]; exact h)
theorem sf (s : Bool) (m u : Nat) : Ieee.signed s m u = if s then -((m * 2 ^ u : Nat) : Int) else ((m * 2 ^ u : Nat) : Int) := by
 unfold Ieee.signed
 rw [Nat.shiftLeft_eq]
def D63 : Ieee.Datum := .number false 4503599627370496 11
def N63 : Ieee.Datum := .number true 4503599627370496 11
theorem Q6 (x y : Int) : (x < y ∧ compare x y = .lt) ∨ (x = y ∧ compare x y = .eq) ∨ (y < x ∧ compare x y = .gt) := by
 show (x < y ∧ compareOfLessAndEq x y = .lt) ∨ (x = y ∧ compareOfLessAndEq x y = .eq) ∨ (y < x ∧ compareOfLessAndEq x y = .gt)
 unfold compareOfLessAndEq
 by_cases h1 : x < y
 ·exact .inl ⟨h1, if_pos h1⟩
 ·by_cases h2 : x = y
  ·exact .inr (.inl ⟨h2, by rw [if_neg h1, if_pos h2]⟩)
  ·exact .inr (.inr ⟨by omega, by rw [if_neg h1, if_neg h2]⟩)
theorem Y4 {d : Ieee.Datum} (hn : (d.order d != some .eq) = false) (h1 : (d.order D63 == some .gt || d.order D63 == some .eq) = false) (h2 : (d.order N63 == some .lt) = false) :
  ∃ s m i, d = .number s m i ∧ whole m i < 2 ^ 64 ∧ -9223372036854775808 ≤ Ieee.signed s (whole m i) 0 ∧ Ieee.signed s (whole m i) 0 ≤ 9223372036854775807 := by
 cases d with
 | nan s t => cases hn
 | infinity s =>
  cases s
  ·cases h1
  ·cases h2
 | number s m i =>
  refine ⟨s, m, i, rfl, ?_⟩
  have q1 : Ieee.signed s m (i - min i 11).toNat < Ieee.signed false 4503599627370496 ((11 : Int) - min i 11).toNat := by
   simp only [D63, Ieee.Datum.order] at h1
   rcases Q6 (Ieee.signed s m (i - min i 11).toNat) (Ieee.signed false 4503599627370496 ((11 : Int) - min i 11).toNat) with ⟨q, _⟩ | ⟨_, q⟩ | ⟨_, q⟩
   ·exact q
   ·rw [q] at h1; cases h1
   ·rw [q] at h1; cases h1
  have q2 : Ieee.signed true 4503599627370496 ((11 : Int) - min i 11).toNat ≤ Ieee.signed s m (i - min i 11).toNat := by
   simp only [N63, Ieee.Datum.order] at h2
   rcases Q6 (Ieee.signed s m (i - min i 11).toNat) (Ieee.signed true 4503599627370496 ((11 : Int) - min i 11).toNat) with ⟨_, q⟩ | ⟨q, _⟩ | ⟨q, _⟩
   ·rw [q] at h2; cases h2
   ·omega
   ·omega
  rw [sf, sf] at q1 q2
  rw [tT]
  cases s with
  | false =>
   simp only [Bool.false_eq_true, if_false] at q1 q2 ⊢
   have q3 : m * 2 ^ (i - min i 11).toNat < 4503599627370496 * 2 ^ ((11 : Int) - min i 11).toNat := by exact Int.ofNat_lt.1 q1
   have hlt : whole m i < 9223372036854775808 := by
    have hp : 0 < 2 ^ ((11 : Int) - min i 11).toNat := Nat.two_pow_pos _
    unfold whole
    by_cases hi : 11 ≤ i
    ·have a1 : (i - min i 11).toNat = (i - 11).toNat := by omega
     have a2 : ((11 : Int) - min i 11).toNat = 0 := by omega
     have a3 : (-i).toNat = 0 := by omega
     rw [a1, a2, Nat.pow_zero, Nat.mul_one] at q3
     rw [a3, Nat.pow_zero, Nat.div_one, Nat.shiftLeft_eq]
     have : i.toNat = (i - 11).toNat + 11 := by omega
     rw [this, Nat.pow_add, ← Nat.mul_assoc]
     exact Nat.mul_lt_mul_of_pos_right q3 (by decide : 0 < 2048)
    ·have a1 : (i - min i 11).toNat = 0 := by omega
     have a2 : ((11 : Int) - min i 11).toNat = (11 - i).toNat := by omega
     rw [a1, a2, Nat.pow_zero, Nat.mul_one] at q3
     by_cases h0 : 0 ≤ i
     ·have a3 : (-i).toNat = 0 := by omega
      rw [a3, Nat.pow_zero, Nat.div_one, Nat.shiftLeft_eq]
      have e : 2 ^ (11 - i).toNat * 2 ^ i.toNat = 2048 := by rw [← Nat.pow_add, show (11 - i).toNat + i.toNat = 11 by omega]
      calc m * 2 ^ i.toNat < 4503599627370496 * 2 ^ (11 - i).toNat * 2 ^ i.toNat := Nat.mul_lt_mul_of_pos_right q3 (Nat.two_pow_pos _)
       _ = 4503599627370496 * 2048 := by rw [Nat.mul_assoc, e]
     ·have a3 : i.toNat = 0 := by omega
      rw [a3, Nat.shiftLeft_zero]
      have e : 2 ^ (11 - i).toNat = 2048 * 2 ^ (-i).toNat := by rw [show (2048 : Nat) = 2 ^ 11 by decide, ← Nat.pow_add, show 11 + (-i).toNat = (11 - i).toNat by omega]
      rw [e, ← Nat.mul_assoc] at q3
      exact Nat.div_lt_of_lt_mul (by rw [Nat.mul_comm]; exact q3)
   refine ⟨by omega, by omega, by omega⟩
  | true =>
   simp only [if_true] at q1 q2 ⊢
   have q3 : m * 2 ^ (i - min i 11).toNat ≤ 4503599627370496 * 2 ^ ((11 : Int) - min i 11).toNat := by
    have := Int.neg_le_neg_iff.1 q2
    exact Int.ofNat_le.1 this
   have hle := WL q3
   refine ⟨by omega, by omega, by omega⟩
theorem pE (s : Bool) (m : Nat) (p : Int) : ((Ieee.double.read (Ieee.double.nearest s m p)).order (Ieee.double.read (Ieee.double.nearest s m p)) != some .eq) = false := by
 have key : ∀ (neg : Bool) (R : Nat), R ≤ Ieee.double.infRung → ((Ieee.double.read (Ieee.double.word neg R)).order (Ieee.double.read (Ieee.double.word neg R)) != some .eq) = false := by
  intro neg R hR
  have e0 : Ieee.double.infRung = 9218868437227405312 := by decide
  have e3 : Ieee.double.signWeight = 9223372036854775808 := by decide
  rw [e0] at hR
  have hw : Ieee.double.word neg R = if neg then 9223372036854775808 + R else R := by unfold Ieee.Format.word; rw [e3]
  have hmod : Ieee.double.word neg R % Ieee.double.signWeight = R := by
   rw [hw, e3]
   cases neg
   ·simp only [Bool.false_eq_true, if_false]; omega
   ·simp only [if_true]; omega
  unfold Ieee.Format.read
  simp only [hmod]
  split
  ·rename_i hr
   simp only [Ieee.Datum.order]
   rcases Q6 (Ieee.signed (Ieee.double.word neg R / Ieee.double.signWeight % 2 == 1) R (Ieee.double.leastPlace - min Ieee.double.leastPlace Ieee.double.leastPlace).toNat) (Ieee.signed (Ieee.double.word neg R / Ieee.double.signWeight % 2 == 1) R (Ieee.double.leastPlace - min Ieee.double.leastPlace Ieee.double.leastPlace).toNat) with h | h | h
   ·omega
   ·rw [h.2]; rfl
   ·omega
  ·split
   ·generalize Ieee.double.binade + R % Ieee.double.binade = k
    generalize Ieee.double.leastPlace + ((R / Ieee.double.binade - 1 : Nat) : Int) = l
    generalize (Ieee.double.word neg R / Ieee.double.signWeight % 2 == 1) = sg
    simp only [Ieee.Datum.order]
    rcases Q6 (Ieee.signed sg k (l - min l l).toNat) (Ieee.signed sg k (l - min l l).toNat) with h | h | h
    ·omega
    ·rw [h.2]; rfl
    ·omega
   ·split
    ·generalize (Ieee.double.word neg R / Ieee.double.signWeight % 2 == 1) = sg
     cases sg <;> rfl
    ·rename_i h1 h2 h3
     rw [e0] at h2 h3
     omega
 unfold Ieee.Format.nearest
 split
 ·exact key s 0 (Nat.zero_le _)
 ·exact key s _ (Nat.min_le_right _ _)
end Go.Proofs.YtefddghdaimklaaGreatDoor.AI
/- The plain laws of doubles: their order; an int beside a double. -/
namespace Go.Proofs.YtefddghdaimklaaGreatDoor.AI
open Go
def rk : Ieee.Datum → Int
 | .infinity s => if s then -1 else 1
 | .number _ _ _ => 0
 | .nan _ _ => 2
def kv (B : Int) : Ieee.Datum → Int
 | .number s m i => Ieee.signed s m (i - B).toNat
 | _ => 0
def YC : Ieee.Datum → Int
 | .number _ _ i => i
 | _ => 0
theorem j7 (s : Bool) (m u v : Nat) : Ieee.signed s m (u + v) = Ieee.signed s m u * (2 : Int) ^ v := by
 unfold Ieee.signed
 have h : ((m <<< (u + v) : Nat) : Int) = ((m <<< u : Nat) : Int) * (2 : Int) ^ v := by
  rw [Nat.shiftLeft_eq, Nat.shiftLeft_eq, Nat.pow_add, ← Nat.mul_assoc]
  simp
 cases s with
 | true => simp only [if_true]; rw [h, Int.neg_mul]
 | false => simp only [Bool.false_eq_true, if_false]; rw [h]
theorem jT (x y : Int) : (x < y ∧ compare x y = .lt) ∨ (x = y ∧ compare x y = .eq) ∨ (y < x ∧ compare x y = .gt) := by
 show (x < y ∧ compareOfLessAndEq x y = .lt) ∨ (x = y ∧ compareOfLessAndEq x y = .eq) ∨ (y < x ∧ compareOfLessAndEq x y = .gt)
 unfold compareOfLessAndEq
 by_cases h1 : x < y
 ·exact .inl ⟨h1, if_pos h1⟩
 ·by_cases h2 : x = y
  ·exact .inr (.inl ⟨h2, by rw [if_neg h1, if_pos h2]⟩)
  ·exact .inr (.inr ⟨by omega, by rw [if_neg h1, if_neg h2]⟩)
def o6 (r k r' k' : Int) : Int := if r < r' ∨ (r = r' ∧ k < k') then -1 else if r' < r ∨ (r = r' ∧ k' < k) then 1 else 0
theorem mP (r k r' k' : Int) : o6 r' k' r k = 0 - o6 r k r' k' := by
 unfold o6
 repeat' split
 all_goals omega
theorem oT (r k r' k' : Int) : o6 r k r' k' = -1 ∨ o6 r k r' k' = 0 ∨ o6 r k r' k' = 1 := by
 unfold o6
 repeat' split
 all_goals simp
theorem th (d : Ieee.Datum) : (d.order d != some .eq) = decide (rk d = 2) := by
 cases d with
 | number s m i =>
  have : (Ieee.Datum.number s m i).order (.number s m i) = some .eq := by
   simp only [Ieee.Datum.order]
   rcases jT (Ieee.signed s m (i - min i i).toNat) (Ieee.signed s m (i - min i i).toNat) with h | h | h
   ·omega
   ·rw [h.2]
   ·omega
  rw [this]; rfl
 | infinity s => cases s <;> rfl
 | nan s t => rfl
theorem jr {s : Bool} {m : Nat} {i b B : Int} (h1 : b ≤ i) (h2 : B ≤ b) : Ieee.signed s m (i - B).toNat = Ieee.signed s m (i - b).toNat * (2 : Int) ^ (b - B).toNat := by
 rw [← j7]
 congr 1
 omega
theorem Wh (v : Nat) : (0 : Int) < (2 : Int) ^ v := Int.pow_pos (by decide)
def PJ (d e : Ieee.Datum) : Int :=
 bif d.order d != some .eq then (bif e.order e != some .eq then 0 else 1)
 else bif e.order e != some .eq then -1 else bif d.order e == some .lt then -1 else bif d.order e == some .gt then 1 else 0
theorem yT (d e : Ieee.Datum) (B : Int) (h1 : B ≤ YC d) (h2 : B ≤ YC e) : PJ d e = o6 (rk d) (kv B d) (rk e) (kv B e) := by
 unfold PJ
 rw [th, th]
 cases d with
 | nan s t => cases e with
  | nan s' t' => rfl
  | infinity s' => cases s' <;> rfl
  | number s' m' i' => rfl
 | infinity s => cases e with
  | nan s' t' => cases s <;> rfl
  | infinity s' => cases s <;> cases s' <;> rfl
  | number s' m' i' => cases s <;> rfl
 | number s m i => cases e with
  | nan s' t' => rfl
  | infinity s' => cases s' <;> rfl
  | number t n j =>
   have h1' : B ≤ i := h1
   have h2' : B ≤ j := h2
   have e1 := jr (s := s) (m := m) (i := i) (b := min i j) (B := B) (Int.min_le_left i j) (by omega)
   have e2 := jr (s := t) (m := n) (i := j) (b := min i j) (B := B) (Int.min_le_right i j) (by omega)
   have hp := Wh (min i j - B).toNat
   simp only [rk, kv, e1, e2, Ieee.Datum.order]
   generalize Ieee.signed s m (i - min i j).toNat = x
   generalize Ieee.signed t n (j - min i j).toNat = y
   generalize (2 : Int) ^ (min i j - B).toNat = p at hp
   rcases jT x y with ⟨q1, q2⟩ | ⟨q1, q2⟩ | ⟨q1, q2⟩
   ·rw [q2]
    have : x * p < y * p := Int.mul_lt_mul_of_pos_right q1 hp
    unfold o6
    rw [if_pos (.inr ⟨rfl, this⟩)]; rfl
   ·rw [q2, q1]
    unfold o6
    rw [if_neg (by omega), if_neg (by omega)]; rfl
   ·rw [q2]
    have : y * p < x * p := Int.mul_lt_mul_of_pos_right q1 hp
    unfold o6
    rw [if_neg (by omega), if_pos (.inr ⟨rfl, this⟩)]; rfl
def dat (a : Nat) : Ieee.Datum := FloatKind.f64.format.read a
theorem xP (a b : Nat) : qY a b = PJ (dat a) (dat b) := rfl
theorem WD (a b : Nat) : qY b a = 0 - qY a b := by
 rw [xP, xP, yT _ _ (min (YC (dat a)) (YC (dat b))) (by omega) (by omega), yT _ _ (min (YC (dat a)) (YC (dat b))) (by omega) (by omega)]
 exact mP _ _ _ _
theorem kq (a b : Nat) : qY a b = -1 ∨ qY a b = 0 ∨ qY a b = 1 := by
 rw [xP, yT _ _ (min (YC (dat a)) (YC (dat b))) (by omega) (by omega)]
 exact oT _ _ _ _
theorem pL : (FloatKind.f64.format.order 0 0 != some .eq) = false := by kernel_rfl
theorem RM : qY 0 (Ieee.double.word false 0) = 0 := by kernel_rfl
theorem RP : qY 0 (Ieee.double.word true 0) = 0 := by kernel_rfl
theorem bT (b : Bool) (p : Int) : qY 0 (Ieee.double.nearest b 0 p) = 0 := by
 have e : Ieee.double.nearest b 0 p = Ieee.double.word b 0 := by unfold Ieee.Format.nearest; rw [if_pos rfl]
 rw [e]
 cases b
 ·exact RM
 ·exact RP
theorem P2 : dat 4890909195324358656 = D63 := by kernel_rfl
theorem QT : dat 14114281232179134464 = N63 := by kernel_rfl
theorem j6 (s : Bool) (W : Nat) (h : W ≠ 0) : FloatKind.f64.nearest (Ieee.signed s W 0) = Ieee.double.nearest s W 0 := by
 rw [tT]
 show Ieee.double.nearest (decide ((if s then -(W : Int) else (W : Int)) < 0)) (if s then -(W : Int) else (W : Int)).natAbs 0 = _
 cases s with
 | true =>
  simp only [if_true]
  rw [Ny (show -(W : Int) < 0 by omega), Int.natAbs_neg, Int.natAbs_natCast]
 | false =>
  simp only [Bool.false_eq_true, if_false]
  rw [NR (show ¬ (W : Int) < 0 by omega), Int.natAbs_natCast]
theorem mb (s : Bool) (u : Nat) : Ieee.signed s 0 u = 0 := by
 rw [sf]; simp
theorem W2 (s x : Bool) (m : Nat) (i : Int) (hi : -1074 ≤ i) : (Ieee.Datum.number s m i).sum (.number x 0 (-1074)) =
  some (.number (if Ieee.signed s m (i - -1074).toNat = 0 then s && x else decide (Ieee.signed s m (i - -1074).toNat < 0)) (Ieee.signed s m (i - -1074).toNat).natAbs (-1074)) := by
 have e : min i (-1074) = -1074 := by omega
 simp only [Ieee.Datum.sum, e, mb, Int.add_zero]
theorem yR (s : Bool) (m : Nat) (p : Int) : (fo (Ieee.double.nearest s m p) (Ieee.double.nearest s m p) != some .eq) = false := pE s m p
structure MixOk (f : Nat) (s : Bool) (m : Nat) (i : Int) : Prop where
 d : dat f = .number s m i
 fits : whole m i < 2 ^ 64
 lo : -9223372036854775808 ≤ Ieee.signed s (whole m i) 0
 hi : Ieee.signed s (whole m i) 0 ≤ 9223372036854775807
theorem Zp (l : Int) : whole 0 l = 0 := by unfold whole; simp
theorem jh {f : Nat} {s : Bool} {m : Nat} {i : Int} (h : MixOk f s m i) : ur f = Ieee.signed s (whole m i) 0 := by
 unfold ur
 have : FloatKind.f64.decode f = .number s m i := h.d
 rw [this, pJ]
theorem Yl {f : Nat} {s : Bool} {m : Nat} {i : Int} (h : MixOk f s m i) : Rb f = some (Ieee.double.nearest s (whole m i) 0) ∧ QZ .f64 .i64 (Ieee.double.nearest s (whole m i) 0) = some (ur f) := by
 constructor
 ·unfold Rb
  have : FloatKind.f64.decode f = .number s m i := h.d
  rw [this]
  simp only [qc]
  rfl
 ·rw [jh h]
  unfold QZ
  have key : (FloatKind.f64.decode (Ieee.double.nearest s (whole m i) 0)).toInt .zero = some (Ieee.signed s (whole m i) 0) := by
   show (Ieee.double.read (Ieee.double.nearest s (whole m i) 0)).toInt .zero = _
   by_cases h0 : whole m i = 0
   ·rw [h0, kO, pJ, Zp]
   ·obtain ⟨k, l, e1, e2⟩ := qi (neg := s) h0 h.fits (n8 (ro (b := f) h.d).1)
    rw [e1, pJ, e2]
  rw [key]
  simp only
  rw [Ny (show IntKind.min .i64 ≤ Ieee.signed s (whole m i) 0 from h.lo), Ny (show Ieee.signed s (whole m i) 0 ≤ IntKind.max .i64 from h.hi)]
  rfl
theorem XN {f : Nat} {s : Bool} {m : Nat} {i : Int} (h : MixOk f s m i) : ∃ r r', FloatKind.f64.format.sub f (Ieee.double.nearest s (whole m i) 0) = some r ∧ FloatKind.f64.format.sub f (FloatKind.f64.nearest (ur f)) = some r' ∧
  (fo r r != some .eq) = false ∧ (fo r' r' != some .eq) = false ∧ qY 0 r = qY 0 r' := by
 rw [jh h]
 have hd : Ieee.double.read f = .number s m i := h.d
 by_cases h0 : whole m i = 0
 ·rw [h0]
  have en : FloatKind.f64.nearest (Ieee.signed s 0 0) = Ieee.double.nearest false 0 0 := by
   rw [mb]
   rfl
  rw [en]
  have sub0 : ∀ x : Bool, FloatKind.f64.format.sub f (Ieee.double.nearest x 0 0) = some (Ieee.double.nearest (if Ieee.signed s m (i - -1074).toNat = 0 then s && !x else decide (Ieee.signed s m (i - -1074).toNat < 0)) (Ieee.signed s m (i - -1074).toNat).natAbs (-1074)) := by
   intro x
   show ((Ieee.double.read f).sum (Ieee.double.read (Ieee.double.nearest x 0 0)).opposite).map Ieee.double.write = _
   rw [hd, kO]
   show ((Ieee.Datum.number s m i).sum (.number (!x) 0 (-1074))).map Ieee.double.write = _
   rw [W2 s (!x) m i (ro (b := f) hd).2]
   rfl
  refine ⟨_, _, sub0 s, sub0 false, yR _ _ _, yR _ _ _, ?_⟩
  by_cases hT : Ieee.signed s m (i - -1074).toNat = 0
  ·rw [hT]
   simp only [Int.natAbs_zero, bT]
  ·rw [if_neg hT, if_neg hT]
 ·rw [j6 s _ h0]
  obtain ⟨k, l, e1, e2⟩ := qi (neg := s) h0 h.fits (n8 (ro (b := f) h.d).1)
  have sub1 : ∃ b M p, FloatKind.f64.format.sub f (Ieee.double.nearest s (whole m i) 0) = some (Ieee.double.nearest b M p) := by
   show ∃ b M p, ((Ieee.double.read f).sum (Ieee.double.read (Ieee.double.nearest s (whole m i) 0)).opposite).map Ieee.double.write = some (Ieee.double.nearest b M p)
   rw [hd, e1]
   exact ⟨_, _, _, rfl⟩
  obtain ⟨b, M, p, e⟩ := sub1
  exact ⟨_, _, e, e, yR _ _ _, yR _ _ _, rfl⟩
theorem QW {f : Nat} (h1 : (fo f f != some .eq) = false) (h2 : (fo f 4890909195324358656 == some .gt || fo f 4890909195324358656 == some .eq) = false) (h3 : (fo f 14114281232179134464 == some .lt) = false) : ∃ s m i, MixOk f s m i := by
 have g1 : ((dat f).order (dat f) != some .eq) = false := h1
 have g2 : ((dat f).order D63 == some .gt || (dat f).order D63 == some .eq) = false := by rw [← P2]; exact h2
 have g3 : ((dat f).order N63 == some .lt) = false := by rw [← QT]; exact h3
 obtain ⟨s, m, i, q1, q2, q3, q4⟩ := Y4 g1 g2 g3
 exact ⟨s, m, i, q1, q2, q3, q4⟩
theorem Ss (x : Int × Nat) : f175.g 0 x = some (cK x.1 x.2) := by
 unfold f175.g cK
 show (bif bif fo x.2 x.2 != some .eq then true else (fo x.2 4890909195324358656 == some .gt || fo x.2 4890909195324358656 == some .eq) then _ else _) = _
 cases h1 : fo x.2 x.2 != some .eq with
 | true => rfl
 | false =>
  simp only [Nu, Bool.false_or]
  cases h2 : (fo x.2 4890909195324358656 == some .gt || fo x.2 4890909195324358656 == some .eq) with
  | true => rfl
  | false =>
   simp only [Nu]
   show (bif fo x.2 14114281232179134464 == some .lt then _ else _) = _
   cases h3 : fo x.2 14114281232179134464 == some .lt with
   | true => rfl
   | false =>
    obtain ⟨s, m, i, h⟩ := QW h1 h2 h3
    obtain ⟨t1, t2⟩ := Yl h
    obtain ⟨r, r', q1, q2, q3, q4, q5⟩ := XN h
    simp only [Nu, t1, t2, Nx, F72, bh, q2]
    cases x.1 != ur x.2 with
    | true => rfl
    | false =>
     simp only [Nu, q1, Nx, pL]
     rw [← q5]
     show (bif fo r r != some .eq then _ else _) = _
     rw [q3]
     unfold qY
     have e0 : (fo 0 0 != some .eq) = false := pL
     rw [e0, q3]
     show (bif fo 0 r == some .lt then some (-1 : Int) else bif fo 0 r == some .gt then some (1 : Int) else some 0) = some (bif fo 0 r == some .lt then -1 else bif fo 0 r == some .gt then 1 else 0)
     cases fo 0 r == some .lt <;> cases fo 0 r == some .gt <;> rfl
theorem bk : ConOk Tryz.prog 175 Zt := f175.ok (fun x y h => ⟨0, by cases h; exact Ss x⟩) ld aI
theorem aX (n : Int) (f : Nat) : cK n f = -1 ∨ cK n f = 0 ∨ cK n f = 1 := by
 unfold cK
 cases (fo f f != some .eq || (fo f 4890909195324358656 == some .gt || fo f 4890909195324358656 == some .eq)) with
 | true => exact .inl rfl
 | false =>
  cases fo f 14114281232179134464 == some .lt with
  | true => exact .inr (.inr rfl)
  | false =>
   cases n != ur f with
   | true =>
    show pU _ _ = -1 ∨ pU _ _ = 0 ∨ pU _ _ = 1
    unfold pU
    cases decide (n < ur f) <;> cases decide (n > ur f) <;> simp
   | false =>
    simp only [Nu]
    split
    ·exact kq _ _
    ·exact .inr (.inl rfl)
theorem X8 {n : Int} (h : n = -1 ∨ n = 0 ∨ n = 1) : IntKind.wrap .i64 (0 - n) = 0 - n := by
 rcases h with rfl | rfl | rfl <;> rfl
theorem U6 (x : zc × zc) : f157.g 0 x = some (co x.1 x.2) := by
 simp only [f157.g, F72, F73, jX, Nx, X8 (aX _ _), co]
 cases x.1.1 == 2 <;> cases x.2.1 == 2 <;> cases x.1.1 == 3 <;> cases x.2.1 == 3 <;> rfl
theorem Yk : ConOk Tryz.prog 157 aZ := f157.ok (fun x y h => ⟨0, by cases h; exact U6 x⟩) ld fz bk
end Go.Proofs.YtefddghdaimklaaGreatDoor.AI
/- The plain laws of values: one order of all of them. -/
namespace Go.Proofs.YtefddghdaimklaaGreatDoor.AI
open Go
theorem pt (a b : Int) : pU a b = o6 0 a 0 b := by
 unfold pU o6
 by_cases h1 : a < b
 ·rw [Ny h1, if_pos (.inr ⟨rfl, h1⟩)]; rfl
 ·rw [NR h1, if_neg (by omega)]
  by_cases h2 : a > b
  ·rw [Ny h2, if_pos (.inr ⟨rfl, h2⟩)]; rfl
  ·rw [NR h2, if_neg (by omega)]; rfl
theorem nH : ∀ (a b : List UInt8), Lib.compareBytes b a = 0 - Lib.compareBytes a b
 | [], [] => rfl
 | [], _ :: _ => rfl
 | _ :: _, [] => rfl
 | a :: l, b :: m => by
  have ih := nH l m
  simp only [Lib.compareBytes]
  by_cases h1 : a < b
  ·have h2 : ¬ b < a := by rw [UInt8.lt_iff_toNat_lt] at *; omega
   rw [if_pos h1, if_neg h2, if_pos h1]; rfl
  ·by_cases h2 : b < a
   ·rw [if_pos h2, if_neg h1, if_pos h2]; rfl
   ·rw [if_neg h2, if_neg h1, if_neg h1, if_neg h2]; exact ih
def Rd (a b : zc) : Int :=
 bif a.1 == 1 || a.1 == 2 then pU a.2.1 b.2.1
 else bif a.1 == 3 then qY a.2.2.1 b.2.2.1
 else bif a.1 == 4 || a.1 == 5 then XH a.2.2.2 b.2.2.2 else 0
theorem bJ {a b : zc} (h : a.1 ≠ b.1) : ul a b = pU a.1 b.1 := by
 unfold ul
 rw [show (a.1 != b.1) = true by simp; exact h]; rfl
theorem cx {a b : zc} (h : a.1 = b.1) : ul a b = Rd a b := by
 unfold ul Rd
 rw [show (a.1 != b.1) = false by simp; exact h]; rfl
theorem WP (a b : ByteArray) : XH b a = 0 - XH a b := nH _ _
theorem Xe {a b : zc} (h : a.1 = b.1) : Rd b a = 0 - Rd a b := by
 unfold Rd
 rw [← h]
 cases (a.1 == 1 || a.1 == 2) with
 | true => simp only [Nv, pt]; exact mP _ _ _ _
 | false =>
  cases a.1 == 3 with
  | true => exact WD _ _
  | false =>
   cases (a.1 == 4 || a.1 == 5) with
   | true => exact WP _ _
   | false => rfl
theorem gr (a b : zc) : ul b a = 0 - ul a b := by
 by_cases h : a.1 = b.1
 ·rw [cx h, cx h.symm]; exact Xe h
 ·rw [bJ h, bJ (Ne.symm h), pt, pt]; exact mP _ _ _ _
theorem uW (a b : zc) : ul a b = -1 ∨ ul a b = 0 ∨ ul a b = 1 := by
 by_cases h : a.1 = b.1
 ·rw [cx h]
  unfold Rd
  cases (a.1 == 1 || a.1 == 2) with
  | true => simp only [Nv, pt]; exact oT _ _ _ _
  | false =>
   cases a.1 == 3 with
   | true => exact kq _ _
   | false =>
    cases (a.1 == 4 || a.1 == 5) with
    | true => exact jF _ _
    | false => exact .inr (.inl rfl)
 ·rw [bJ h, pt]; exact oT _ _ _ _
theorem TF {a b : zc} (h : SW a b = true) : a = b := by
 unfold SW at h
 simp only [Nt] at h
 obtain ⟨⟨⟨h1, h2⟩, h3⟩, h4⟩ := h
 exact Prod.ext (eq_of_beq h1) (Prod.ext (eq_of_beq h2) (Prod.ext (eq_of_beq h3) ((zw _ _).1 h4)))
theorem mq {a b : Nat} (h : (fo a a != some .eq) = true) : fo a b = none := by
 have h1 : ((dat a).order (dat a) != some .eq) = true := h
 rw [th] at h1
 have h2 := NK h1
 show (dat a).order (dat b) = none
 cases hd : dat a with
 | number s m i => rw [hd] at h2; cases h2
 | infinity s => rw [hd] at h2; cases s <;> cases h2
 | nan s t => cases dat b <;> rfl
theorem Ti (x : zc) : f123.g 0 x = some (wV x) := by
 have e : qN 9221120237041090560 = some cl := rfl
 simp only [f123.g, wV, fo, pL, e, Nx, Nu]
 cases x.1 != 3 <;> cases FloatKind.f64.format.order x.2.2.1 0 == some .eq <;> cases FloatKind.f64.format.order x.2.2.1 x.2.2.1 != some .eq <;> rfl
theorem aD : ConOk Tryz.prog 123 Zg := f123.ok (fun x y h => ⟨0, by cases h; exact Ti x⟩) o5
theorem tz {a k : Int} (h : a = k) : (a == k) = true := by rw [h]; simp
theorem xe {a k : Int} (h : a ≠ k) : (a == k) = false := by simp; exact h
theorem Zf (a b : zc) : (a.1 = 2 ∧ b.1 = 2 ∧ co a b = (pU a.2.1 b.2.1, true)) ∨ (a.1 = 3 ∧ b.1 = 3 ∧ co a b = (qY a.2.2.1 b.2.2.1, true)) ∨ (a.1 = 2 ∧ b.1 = 3 ∧ co a b = (cK a.2.1 b.2.2.1, true)) ∨
  (a.1 = 3 ∧ b.1 = 2 ∧ co a b = (0 - cK b.2.1 a.2.2.1, true)) ∨ (¬ ((a.1 = 2 ∨ a.1 = 3) ∧ (b.1 = 2 ∨ b.1 = 3)) ∧ co a b = (0, false)) := by
 unfold co
 by_cases a2 : a.1 = 2
 ·by_cases b2 : b.1 = 2
  ·exact .inl ⟨a2, b2, by rw [tz a2, tz b2]; rfl⟩
  ·by_cases b3 : b.1 = 3
   ·exact .inr (.inr (.inl ⟨a2, b3, by rw [tz a2, xe b2, xe (show a.1 ≠ 3 by omega), tz b3]; rfl⟩))
   ·exact .inr (.inr (.inr (.inr ⟨by omega, by rw [tz a2, xe b2, xe (show a.1 ≠ 3 by omega), xe b3]; rfl⟩)))
 ·by_cases a3 : a.1 = 3
  ·by_cases b2 : b.1 = 2
   ·exact .inr (.inr (.inr (.inl ⟨a3, b2, by rw [xe a2, tz a3, tz b2, xe (show b.1 ≠ 3 by omega)]; rfl⟩)))
   ·by_cases b3 : b.1 = 3
    ·exact .inr (.inl ⟨a3, b3, by rw [xe a2, tz a3, xe b2, tz b3]; rfl⟩)
    ·exact .inr (.inr (.inr (.inr ⟨by omega, by rw [xe a2, tz a3, xe b2, xe b3]; rfl⟩)))
  ·exact .inr (.inr (.inr (.inr ⟨by omega, by rw [xe a2, xe a3]; rfl⟩)))
end Go.Proofs.YtefddghdaimklaaGreatDoor.AI
/- vU laws of expressions: how many nodes, how deep, what may be. -/
namespace Go.Proofs.YtefddghdaimklaaGreatDoor.AI
open Go
theorem zr {α : Type} {c : Bool} {x y : α} (h : x5 c x = some y) : c = true ∧ x = y := by
 unfold x5 at h
 cases c with
 | true => exact ⟨rfl, Option.some.inj h⟩
 | false => cases h
theorem zp {α : Type} {c : Bool} {x : α} (h : c = true) : x5 c x = some x := by rw [h]; rfl
theorem gG {α : Type} {p : Prop} {x y : α} (h : ifG p x = some y) : p ∧ x = y := by
 unfold ifG at h
 split at h
 ·rename_i hp; exact ⟨hp, Option.some.inj h⟩
 ·cases h
theorem mS {α : Type} {p : Prop} {x : α} (h : p) : ifG p x = some x := by unfold ifG; rw [if_pos h]
mutual
theorem tR : ∀ (e : zg) (h : Int), 0 ≤ h → h ≤ 262144 → h + 1 ≤ xb e h ∧ xb e h ≤ 262145 ∧ (xb e h ≤ 262144 → xb e h = h + z4 e)
 | .node a ks, h, h0, h1 => by
  obtain ⟨q1, q2, q3⟩ := pR ks (h + 1) (by omega) (by omega)
  simp only [xb, z4]
  exact ⟨q1, q2, fun q => by have := q3 q; omega⟩
theorem pR : ∀ (ks : List zg) (h : Int), 0 ≤ h → h ≤ 262145 → h ≤ ui ks h ∧ ui ks h ≤ 262145 ∧ (ui ks h ≤ 262144 → ui ks h = h + xo ks)
 | [], h, h0, h1 => by simp only [ui, xo]; omega
 | k :: r, h, h0, h1 => by
  simp only [ui, xo]
  cases hd : decide (h ≤ 262144) with
  | false =>
   have := of_decide_eq_false hd
   simp only [Nu]; omega
  | true =>
   have hd' := NK hd
   obtain ⟨q1, q2, q3⟩ := tR k h h0 hd'
   obtain ⟨p1, p2, p3⟩ := pR r (xb k h) (by omega) q2
   simp only [Nv]
   exact ⟨by omega, p2, fun q => by have := p3 q; have := q3 (by omega); omega⟩
end
mutual
theorem jm (n : Nat) : ∀ (e : zg) (left deep : Int), 0 ≤ left → ((rm n e left deep).2 = true → (z4 e : Int) ≤ left ∧ (rm n e left deep).1 = left - z4 e ∧ deep + l9 e ≤ 101 ∧ xK n e = true) ∧
  ((z4 e : Int) ≤ left → deep + l9 e ≤ 101 → xK n e = true → (rm n e left deep).2 = true)
 | .node a ks, left, deep, h0 => by
  simp only [rm, z4, l9, xK]
  cases hc : decide (left - 1 < 0) || decide (deep > 100) with
  | true =>
   simp only [Nv, Bool.or_eq_true, NE] at hc ⊢
   exact ⟨fun h => (by cases h), fun h1 h2 h3 => by omega⟩
  | false =>
   simp only [Bool.or_eq_false_iff, decide_eq_false_iff_not] at hc
   simp only [Nu]
   cases hl : a.1 == 1 || a.1 == 2 with
   | true =>
    simp only [Nv, vV, hl, Nt]
    have hk : t8 n a ks.length = true → ks = [] := fun h => by
     unfold t8 at h
     have : (ks.length == 0) = true := by
      cases hq : a.1 == 1 <;> rw [hq] at h <;> simp only [Nv, Nu, Nt] at h <;> exact h.1
     exact List.length_eq_zero_iff.1 (by simpa using this)
    refine ⟨fun h => ?_, fun _ _ h => h.1⟩
    have hk' := hk h
    subst hk'
    simp only [xo, oV, tr]
    exact ⟨by omega, by omega, by omega, h, trivial⟩
   | false =>
    simp only [Nu, vV, hl]
    cases hi : wz a ks.length with
    | false => simp only [NW, Nv, Bool.false_and]; exact ⟨fun h => (by cases h), fun _ _ h => by cases h⟩
    | true =>
     simp only [NJ, Nu, NT]
     obtain ⟨q1, q2⟩ := jo n ks (left - 1) (deep + 1) (by omega) (by omega)
     refine ⟨fun h => ?_, fun h1 h2 h3 => q2 (by omega) (by omega) h3⟩
     obtain ⟨p1, p2, p3, p4⟩ := q1 h
     exact ⟨by omega, by omega, by omega, p4⟩
theorem jo (n : Nat) : ∀ (ks : List zg) (left deep : Int), 0 ≤ left → deep ≤ 101 → ((o9 n ks left deep).2 = true → (xo ks : Int) ≤ left ∧ (o9 n ks left deep).1 = left - xo ks ∧ deep + oV ks ≤ 101 ∧ tr n ks = true) ∧
  ((xo ks : Int) ≤ left → deep + oV ks ≤ 101 → tr n ks = true → (o9 n ks left deep).2 = true)
 | [], left, deep, h0, h1 => by
  simp only [o9, xo, oV, tr]
  exact ⟨fun _ => ⟨by omega, by omega, by omega, trivial⟩, fun _ _ _ => trivial⟩
 | k :: r, left, deep, h0, h1 => by
  obtain ⟨q1, q2⟩ := jm n k left deep h0
  simp only [o9, xo, oV, tr, Nt]
  cases hk : (rm n k left deep).2 with
  | false =>
   simp only [NW, Nv]
   refine ⟨fun h => (by cases h), fun p1 p2 p3 => ?_⟩
   have := q2 (by omega) (by omega) p3.1
   rw [hk] at this; exact this
  | true =>
   obtain ⟨p1, p2, p3, p4⟩ := q1 hk
   obtain ⟨r1, r2⟩ := jo n r (rm n k left deep).1 deep (by omega) h1
   simp only [NJ, Nu]
   refine ⟨fun h => ?_, fun s1 s2 s3 => r2 (by omega) (by omega) s3.2⟩
   obtain ⟨t1, t2, t3, t4⟩ := r1 h
   exact ⟨by omega, by omega, by omega, p4, t4⟩
end
mutual
theorem iq : ∀ (e : zg) (had deep : Int), ((t9 e had deep).2 = true → had + z4 e ≤ 1024 ∧ (t9 e had deep).1 = had + z4 e ∧ deep + l9 e ≤ 101) ∧
  (had + z4 e ≤ 1024 → deep + l9 e ≤ 101 → (t9 e had deep).2 = true)
 | .node a ks, had, deep => by
  simp only [t9, z4, l9]
  cases hc : decide (had + 1 > 1024) || decide (deep > 100) with
  | true =>
   simp only [Nv, Bool.or_eq_true, NE] at hc ⊢
   exact ⟨fun h => (by cases h), fun h1 h2 => by omega⟩
  | false =>
   simp only [Bool.or_eq_false_iff, decide_eq_false_iff_not] at hc
   simp only [Nu]
   obtain ⟨q1, q2⟩ := oC ks (had + 1) (deep + 1) (by omega) (by omega)
   refine ⟨fun h => ?_, fun h1 h2 => q2 (by omega) (by omega)⟩
   obtain ⟨p1, p2, p3⟩ := q1 h
   exact ⟨by omega, by omega, by omega⟩
theorem oC : ∀ (ks : List zg) (had deep : Int), had ≤ 1024 → deep ≤ 101 → ((oA ks had deep).2 = true → had + xo ks ≤ 1024 ∧ (oA ks had deep).1 = had + xo ks ∧ deep + oV ks ≤ 101) ∧
  (had + xo ks ≤ 1024 → deep + oV ks ≤ 101 → (oA ks had deep).2 = true)
 | [], had, deep, h0, h1 => by
  simp only [oA, xo, oV]
  exact ⟨fun _ => ⟨by omega, by omega, by omega⟩, fun _ _ => trivial⟩
 | k :: r, had, deep, h0, h1 => by
  obtain ⟨q1, q2⟩ := iq k had deep
  simp only [oA, xo, oV]
  cases hk : (t9 k had deep).2 with
  | false =>
   simp only [Nu]
   refine ⟨fun h => (by cases h), fun p1 p2 => ?_⟩
   have := q2 (by omega) (by omega)
   rw [hk] at this; exact this
  | true =>
   obtain ⟨p1, p2, p3⟩ := q1 hk
   obtain ⟨r1, r2⟩ := oC r (t9 k had deep).1 deep (by omega) h1
   simp only [Nv]
   refine ⟨fun h => ?_, fun s1 s2 => r2 (by omega) (by omega)⟩
   obtain ⟨t1, t2, t3⟩ := r1 h
   exact ⟨by omega, by omega, by omega⟩
end
theorem UA (t : zi) (e : zg) : (rm t.2.1.length e 1024 1).2 = YI t e := by
 obtain ⟨q1, q2⟩ := jm t.2.1.length e 1024 1 (by omega)
 rw [Bool.eq_iff_iff]
 unfold YI
 simp only [Nt, NE]
 exact ⟨fun h => by obtain ⟨a, b, c, d⟩ := q1 h; exact ⟨by omega, by omega, d⟩, fun h => q2 (by omega) (by omega) h.2.2⟩
theorem ZW : ∀ e : zg, 1 ≤ z4 e
 | .node a ks => by simp only [z4]; omega
theorem mO : ∀ {ks : List zg} {k : zg}, k ∈ ks → z4 k ≤ xo ks
 | k' :: r, k, h => by
  simp only [xo]
  rcases NM.1 h with rfl | h
  ·omega
  ·have := mO h; omega
theorem pc : ∀ ks : List zg, ks.length ≤ xo ks
 | [] => by simp [xo]
 | k :: r => by
  have := pc r
  have := ZW k
  simp only [xo, List.length_cons]; omega
theorem qT : ∀ {ks : List zg}, lq ks = true → ∀ k ∈ ks, qG k = true
 | k' :: r, h, k, hk => by
  simp only [lq, Nt] at h
  rcases NM.1 hk with rfl | hk
  ·exact h.1
  ·exact qT h.2 k hk
theorem pu {n : Nat} : ∀ {ks : List zg}, tr n ks = true → ∀ k ∈ ks, xK n k = true
 | k' :: r, h, k, hk => by
  simp only [tr, Nt] at h
  rcases NM.1 hk with rfl | hk
  ·exact h.1
  ·exact pu h.2 k hk
theorem fw {a : Int × ByteArray × Int × zc} {ks : List zg} (h : okE (.node a ks) = true) : okS a.2.1 = true ∧ okZ a.2.2.2 = true ∧ okB 96 ks = true ∧ lq ks = true ∧ xo ks + 1 ≤ 1048576 := by
 unfold okE at h
 simp only [qG, z4, Nt, NE] at h
 exact ⟨h.2.1, h.2.2.1, h.2.2.2.1, h.2.2.2.2, by first | exact h.1 | exact NK h.1⟩
theorem Sb {a : Int × ByteArray × Int × zc} {ks : List zg} (h : okE (.node a ks) = true) {k : zg} (hk : k ∈ ks) : okE k = true ∧ z4 k < xo ks + 1 := by
 obtain ⟨_, _, _, h4, h5⟩ := fw h
 have h1 := mO hk
 have h2 := qT h4 k hk
 unfold okE
 rw [h2, Ny (show z4 k ≤ 1048576 by omega)]
 exact ⟨rfl, by omega⟩
theorem Qk {e : zg} (h : qG e = true) : okE (S8 e) = true := by
 obtain ⟨q1, q2, q3⟩ := tR e 0 (by omega) (by omega)
 unfold S8
 cases hc : decide (xb e 0 > 262144) with
 | true => rw [Nv]; rfl
 | false =>
  have hc' := of_decide_eq_false hc
  have := q3 (by omega)
  rw [Nu]
  unfold okE
  rw [h, Ny (show z4 e ≤ 1048576 by omega)]
  rfl
theorem tV {l : List ByteArray} {s : ByteArray} (h : inS l s = true) : s ∈ l := by
 unfold inS at h
 obtain ⟨w, hw, he⟩ := List.any_eq_true.1 h
 rw [← (zw _ _).1 he]; exact hw
def YK (op : ByteArray) (x y : Int) : Int × Bool := bif zd op qv then (1, qb x) else bif inS cpL op then (1, ZX x y) else bif zd op xu || zd op orS then (1, qb x && qb y) else nb op x y
theorem sS {a : Int × ByteArray × Int × zc} {m : Nat} (h : UU a m = true) : (a.1 = 3 ∧ m = 1 ∧ a.2.1 ∈ unL) ∨ (a.1 = 4 ∧ m = 2 ∧ a.2.1 ∈ biL) ∨ (a.1 = 5 ∧ 2 ≤ m ∧ a.2.1 = noS) := by
 obtain ⟨k, op, c, v⟩ := a
 unfold UU at h
 simp only at h ⊢
 by_cases h3 : k = 3
 ·subst h3
  simp only [show ((3 : Int) == 3) = true from rfl, Nv, Nt] at h
  exact .inl ⟨rfl, by simpa using h.1, tV h.2⟩
 by_cases h4 : k = 4
 ·subst h4
  simp only [show ((4 : Int) == 3) = false from rfl, show ((4 : Int) == 4) = true from rfl, Nv, Nu, Nt] at h
  refine .inr (.inl ⟨rfl, by simpa using h.1, ?_⟩)
  have := h.2
  simp only [Bool.or_eq_true] at this
  rcases this with h | h | h | h
  ·have := tV h
   simp only [arL, NM, List.not_mem_nil, or_false] at this
   simp only [biL, NM]
   rcases this with rfl | rfl | rfl | rfl | rfl <;> simp
  ·have := tV h
   simp only [cpL, NM, List.not_mem_nil, or_false] at this
   simp only [biL, NM]
   rcases this with rfl | rfl | rfl | rfl | rfl | rfl <;> simp
  ·rw [(zw _ _).1 h]; simp [biL, xu]
  ·rw [(zw _ _).1 h]; simp [biL, orS]
 ·have e3 : (k == 3) = false := by simpa using h3
  have e4 : (k == 4) = false := by simpa using h4
  rw [e3, e4] at h
  simp only [Nu] at h
  cases h5 : k == 5 with
  | false => rw [h5] at h; cases h
  | true =>
   rw [h5] at h
   simp only [Nv, Nt, NE] at h
   exact .inr (.inr ⟨by simpa using h5, h.1, (zw _ _).1 h.2⟩)
end Go.Proofs.YtefddghdaimklaaGreatDoor.AI
