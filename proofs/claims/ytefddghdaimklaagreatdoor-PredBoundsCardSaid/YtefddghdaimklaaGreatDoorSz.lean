/- A part of the proof. -/
import Derived.Test.YtefddghdaimklaaGreatDoorBc
import Derived.Test.YtefddghdaimklaaGreatDoorAjd
import Derived.Test.YtefddghdaimklaaGreatDoorBs
import Derived.Lib.AtoiErrMem
import Derived.Lib.Replace
import Derived.Lib.IndexMore
import Derived.KernelRfl
import GoSem.Core.Float
set_option linter.unusedVariables false
set_option linter.unusedSimpArgs false
/- Contracts of the library's functions that this seat calls, out of the kit's own calls. -/
namespace Go.Proofs.YtefddghdaimklaaGreatDoor.AI
open Go Go.RowKit Go.Shelf
theorem Rz {x : Cx} {t : Ty} {X : t.den} {vals : Array Value} (h : RepVs x (zt [(false, t)] X) vals.toList) : ∃ u, vals = #[u] ∧ RepV x (.val false (t.cells X)) u := by
 obtain ⟨u, r, hu, h1, h2⟩ := h
 have hr : r = [] := h2
 subst hr
 exact ⟨u, by cases vals; simp_all, h1⟩
theorem UC {x : Cx} {t s : Ty} {X : t.den × s.den} {vals : Array Value} (h : RepVs x (zt [(false, t), (false, s)] X) vals.toList) : ∃ u v, vals = #[u, v] ∧ RepV x (.val false (t.cells X.1)) u ∧ RepV x (.val false (s.cells X.2)) v := by
 obtain ⟨u, r, hu, h1, v, r', hr, h2, h3⟩ := h
 have hr' : r' = [] := h3
 subst hr'
 subst hr
 exact ⟨u, v, by cases vals; simp_all, h1, h2⟩
theorem Ng {x : Cx} {t s r : Ty} {X : t.den × s.den × r.den} {vals : Array Value} (h : RepVs x (zt [(false, t), (false, s), (false, r)] X) vals.toList) : ∃ u v q, vals = #[u, v, q] ∧ RepV x (.val false (t.cells X.1)) u ∧ RepV x (.val false (s.cells X.2.1)) v ∧ RepV x (.val false (r.cells X.2.2)) q := by
 obtain ⟨u, r1, hu, h1, v, r2, hr, h2, q, r3, hr2, h3, h4⟩ := h
 have h4' : r3 = [] := h4
 subst h4'
 subst hr2
 subst hr
 exact ⟨u, v, q, by cases vals; simp_all, h1, h2, h3⟩
theorem wh (a b : ByteArray) : zd a b = true ↔ a = b := by
 unfold zd
 rw [beq_iff_eq]
 exact ⟨gA, fun h => by rw [h]⟩
theorem zL {α : Type} {c : Bool} {x y : α} (h : (bif c then some x else none) = some y) : c = true ∧ x = y := by
 cases c with
 | true => exact ⟨rfl, Option.some.inj h⟩
 | false => cases h
theorem Pp (b : Nat) (w : World) : (callFunc 63 #[.float .f64 b]).run Tryz.prog w = .ok (.value (.int .u64 b)) w := by kernel_rfl
theorem tq : ConOk Tryz.prog 63 rA := cl Pp
theorem bE : (Tryz.f170.name == "runtime.NumGoroutine") = false ∧ Tryz.f170.body.isSome = true := ⟨by kernel_rfl, by kernel_rfl⟩
theorem Uh : (Tryz.f64.name == "runtime.NumGoroutine") = false ∧ Tryz.f64.body.isSome = true := ⟨by kernel_rfl, by kernel_rfl⟩
theorem ue {x : Cx} {s : ByteArray} {u : Value} (h : RepV x (.val false [.sc .str s]) u) : u = .string s := vC h
theorem Tr {x : Cx} (hI : Inv x) : Lib.Utf8Tabs 4 5 x.w := ⟨(hI.tab.1 _ _ .first).2 x.w rfl, (hI.tab.1 _ _ .accept).2 x.w rfl⟩
set_option maxRecDepth 100000 in
theorem cR : ConOk Tryz.prog 170 c6 := xF (Ll.1 rfl) (fun _ => rfl) (fun x vals X Y hI hv hF => by
 obtain ⟨u, v, rfl, h1, h2⟩ := UC (t := .str) (s := .str) hv
 obtain ⟨hc, rfl⟩ := zL (show (bif decide (X.1.size < 4294967281) then some (Lib.contains X.1.data.toList X.2.data.toList) else none) = some Y from hF)
 obtain ⟨m, hm⟩ := (hI.tab.1 _ _ .maxLen).2 x.w rfl
 rw [ue h1, ue h2]
 refine wj Tryz.func170 bE.1 bE.2 ((YtefddghdaimklaaGreatDoor.strings_Contains X.1 X.2 m x.w (LB hc) hm).mono (fun e w' he => ?_))
 obtain ⟨rfl, rfl⟩ := he
 exact ⟨_, rfl, Below.refl _ _, fun y => yb _⟩)
set_option maxRecDepth 100000 in
theorem g7 : ConOk Tryz.prog 64 aT := xF (Ll.1 rfl) (fun _ => rfl) (fun x vals X Y hI hv hF => by
 obtain ⟨u, rfl, h1⟩ := Rz (t := .str) hv
 obtain ⟨hc, rfl⟩ := zL (show (bif decide (X.size ≤ 9223372036854775807) then some (Lib.validD X.data.toList) else none) = some Y from hF)
 rw [ue h1]
 refine wj Tryz.func64 Uh.1 Uh.2 ((YtefddghdaimklaaGreatDoor.validString X x.w (LB hc) (Tr hI)).mono (fun e w' he => ?_))
 obtain ⟨rfl, hb⟩ := he
 exact ⟨_, rfl, hb, fun y => yb _⟩)
theorem Tg (n : Int) (w : World) : (callFunc 163 #[.int .u64 n]).run Tryz.prog w = .ok (.value (.float .f64 n.toNat)) w := by kernel_rfl
set_option maxRecDepth 100000 in
theorem pU : ConOk Tryz.prog 163 pD := xF (Ll.1 rfl) (fun _ => rfl) (fun x vals X Y hI hv hF => by
 obtain ⟨u, rfl, h1⟩ := Rz (t := .int .u64) hv
 rw [xQ h1]
 cases hF
 exact Does.value (Tg X x.w) ⟨Below.refl _ _, fun y => vd _ _⟩)
theorem T9 {b : Nat} {d : Ieee.Datum} (hd : FloatKind.f64.decode b = d) (hn : ∀ s t, d ≠ .nan s t) (w : World) : (callFunc 200 #[.float .f64 b]).run Tryz.prog w = .ok (.value (.float .f64 (FloatKind.f64.encode (d.integral .zero)))) w := by
 rw [run_callFunc_extern Tryz.func200 (by kernel_rfl) (by kernel_rfl) (by kernel_rfl) (e := Extern.MathFloor.toIntegral "math.archTrunc" .zero) (by kernel_rfl)]
 have e1 : ∃ q : Bool → Nat → Sem Value, Extern.MathFloor.toIntegral "math.archTrunc" .zero #[.float .f64 b] = (match FloatKind.f64.decode b with
   | .nan s t => q s t
   | d => pure (.float .f64 (FloatKind.f64.encode (d.integral .zero)))) := ⟨fun s t => if FloatKind.f64.format.quiet t = t then pure (.float .f64 b) else do
   let kept ← choose (.extern "math.Floor,Ceil,Trunc,RoundToEven.signallingNaN kept" 2)
   pure (.float .f64 (if kept == 1 then b else FloatKind.f64.encode (.nan s (FloatKind.f64.format.quiet t)))), rfl⟩
 obtain ⟨q, e1⟩ := e1
 rw [e1, hd]
 cases d with
 | nan s t => exact absurd rfl (hn s t)
 | number s m i => rfl
 | infinity s => rfl
set_option maxRecDepth 100000 in
theorem ZB : ConOk Tryz.prog 200 YA := xF (Ll.1 rfl) (fun _ => rfl) (fun x vals X Y hI hv hF => by
 obtain ⟨u, rfl, h1⟩ := Rz (t := .float .f64) hv
 rw [y7 h1]
 have hF' : R4 X = some Y := hF
 unfold R4 at hF'
 split at hF'
 ·cases hF'
 ·rename_i d hnn
  cases hF'
  exact Does.value (T9 rfl (fun s t e => hnn s t e) x.w) ⟨Below.refl _ _, fun y => vd _ _⟩)
theorem Ug : (Tryz.f74.name == "runtime.NumGoroutine") = false ∧ Tryz.f74.body.isSome = true := ⟨by kernel_rfl, by kernel_rfl⟩
set_option maxRecDepth 100000 in
theorem X9 : ConOk Tryz.prog 74 Rn := xF (Ll.1 rfl) (fun _ => rfl) (fun x vals X Y hI hv hF => by
 obtain ⟨u, v, rfl, h1, h2⟩ := UC (t := .str) (s := .str) hv
 rw [ue h1, ue h2]
 cases hF
 refine wj Tryz.func74 Ug.1 Ug.2 ((YtefddghdaimklaaGreatDoor.strings_Compare X.1 X.2 x.w).mono (fun e w' he => ?_))
 obtain ⟨rfl, rfl⟩ := he
 exact ⟨_, rfl, Below.refl _ _, fun y => z7 _ _⟩)
set_option maxRecDepth 100000 in
theorem Um : (Tryz.f93.name == "runtime.NumGoroutine") = false ∧ Tryz.f93.body.isSome = true := ⟨by kernel_rfl, by kernel_rfl⟩
set_option maxRecDepth 100000 in
theorem WQ : ConOk Tryz.prog 93 S8 := xF (Ll.1 rfl) (fun _ => rfl) (fun x vals X Y hI hv hF => by
 obtain ⟨u, v, rfl, h1, h2⟩ := UC (t := .str) (s := .int .u8) hv
 rw [ue h1, xQ h2]
 cases hF
 refine wj Tryz.func93 Um.1 Um.2 ((YtefddghdaimklaaGreatDoor.indexByte X.1 X.2 x.w).mono (fun e w' he => ?_))
 obtain ⟨rfl, rfl⟩ := he
 exact ⟨_, rfl, Below.refl _ _, fun y => z7 _ _⟩)
set_option maxRecDepth 100000 in
theorem YF : (Tryz.f236.name == "runtime.NumGoroutine") = false ∧ Tryz.f236.body.isSome = true := ⟨by kernel_rfl, by kernel_rfl⟩
theorem d5 (w : World) (t : ByteArray) : w.heap.size ≤ (Lib.bytesWorld w 5 t).heap.size ∧ (∀ b, b < w.heap.size → (Lib.bytesWorld w 5 t).heap[b]? = w.heap[b]?) ∧ (Lib.bytesWorld w 5 t).os = w.os ∧ (Lib.bytesWorld w 5 t).tape = w.tape ∧ (Lib.bytesWorld w 5 t).output = w.output := by
 have h : Below w.heap.size w (Lib.bytesWorld w 5 t) := Lib.bytesWorld_below w 5 t
 exact ⟨h.size, h.block, h.os, h.tape, h.output⟩
set_option maxRecDepth 100000 in
theorem lw : ConOk Tryz.prog 236 lQ := by
 refine ⟨fun x args vals X Y hI hv hl hF => ?_, fun h => (by cases h), by
  intro _ args H l X h
  exact wg H l [(false, .str), (false, .int .i64), (false, .int .i64)] args X h, fun h => by cases h⟩
 have hl' : z2 [(false, .str), (false, .int .i64), (false, .int .i64)] (args.map (roV x.H)) = some X := hl
 have hI' : Inv x.lend.bare := v4 (mb hI) (qZ hI)
 have hvx : RepVs x.lend.bare (zt [(false, .str), (false, .int .i64), (false, .int .i64)] X) vals.toList := yA (x := x.lend) (y := x.lend.bare) (fun t d vs h => h) [(false, .str), (false, .int .i64), (false, .int .i64)] (args.map (roV x.H)) X vals.toList hl' (wB hI _ _ hv)
 obtain ⟨u1, r1, e1, h1, u2, r2, e2, h2, u3, r3, e3, h3, h4⟩ := hvx
 have h4' : r3 = [] := h4
 subst h4'; subst e3; subst e2
 have hvals : vals = #[u1, u2, u3] := by cases vals; simp_all
 obtain ⟨s, b, z⟩ := X
 change Int at Y
 have hF' : (bif b == 10 && z == 64 then (bif zd s ⟨#[49]⟩ then some 1 else bif zd s ⟨#[53]⟩ then some 5 else none) else none) = some Y := hF
 cases hb : (b == 10 && z == 64) with
 | false => rw [hb] at hF'; cases hF'
 | true =>
  rw [hb] at hF'
  simp only [Lk, Li] at hF' hb
  have key : s.size ≤ 9223372036854775806 ∧ Lib.parseIntB 64 s.data.toList = .ok Y := by
   cases hs : zd s ⟨#[49]⟩ with
   | true =>
    rw [hs] at hF'
    have := (wh _ _).1 hs
    subst this
    cases hF'
    exact ⟨by decide, by kernel_rfl⟩
   | false =>
    rw [hs] at hF'
    cases hs5 : zd s ⟨#[53]⟩ with
    | true =>
     rw [hs5] at hF'
     have := (wh _ _).1 hs5
     subst this
     cases hF'
     exact ⟨by decide, by kernel_rfl⟩
    | false => rw [hs5] at hF'; cases hF'
  have g1 : u1 = .string s := vC h1
  have g2 : u2 = .int .i64 10 := by have := xQ h2; rw [this]; rw [eq_of_beq hb.1]
  have g3 : u3 = .int .i64 64 := by have := xQ h3; rw [this]; rw [eq_of_beq hb.2]
  rw [hvals, g1, g2, g3]
  refine wj Tryz.func236 YF.1 YF.2 ((YtefddghdaimklaaGreatDoor.parseInt s key.1 Y key.2 x.w).mono (fun e w' he => ?_))
  obtain ⟨rfl, hw⟩ := he
  have hw2 : x.w.heap.size ≤ w'.heap.size ∧ (∀ b, b < x.w.heap.size → w'.heap[b]? = x.w.heap[b]?) ∧ w'.os = x.w.os ∧ w'.tape = x.w.tape ∧ w'.output = x.w.output := by
   rcases hw with rfl | ⟨t, rfl⟩
   ·exact ⟨Lu _, fun _ _ => rfl, rfl, rfl, rfl⟩
   ·exact d5 x.w t
  obtain ⟨w1, w2, w3, w4, w5⟩ := hw2
  refine ⟨_, rfl, x.withW w', rfl, rfl, Vq hI w1 w2, aD w1 w2 w3 w4 w5, fun id _ _ => ph hI w2 id, Carry.id_of (qN hI w2) (fun id _ => ph hI w2 id), Lu _, ?_⟩
  exact ⟨#[.int .i64 Y, .nilIface], rfl, _, _, rfl, (z7 .i64 Y : RepV _ (.val false [.sc (.int .i64) Y]) _), _, _, rfl, (zG ⟨rfl, rfl⟩ : RepV _ (.val false [.nili]) _), rfl⟩
end Go.Proofs.YtefddghdaimklaaGreatDoor.AI
/- The plain laws of the runs: loops over lists; names. -/
namespace Go.Proofs.YtefddghdaimklaaGreatDoor.AI
open Go
theorem xU {n : Int} (h1 : -9223372036854775808 ≤ n) (h2 : n ≤ 9223372036854775807) : IntKind.wrap .i64 n = n := by
 simp [IntKind.wrap, IntKind.min, IntKind.max, IntKind.signed, IntKind.bits]
 omega
theorem nx {i : Nat} (h : i ≤ 140737488355328) : IntKind.wrap .i64 ((i : Int) + (1 : Int)) = ((i + 1 : Nat) : Int) := by
 rw [xU (by omega) (by omega)]; simp
theorem ls {α σ β R : Type} {step : (β → Option R) → β → Option R} (l : List α) (enc : Nat → σ → β) (I : Nat → σ → Prop) (f : Nat → σ → List α → Option R)
  (hend : ∀ S a, I l.length a → step S (enc l.length a) = f l.length a [])
  (hstep : ∀ S i a v r, i < l.length → l[i]? = some v → l.drop (i + 1) = r → I i a → (∀ a', I (i + 1) a' → S (enc (i + 1) a') = f (i + 1) a' r) → step S (enc i a) = f i a (v :: r)) :
  ∀ (r : List α) (i : Nat), l.drop i = r → i ≤ l.length → ∀ m a, I i a → r.length < m → zF step m (enc i a) = f i a r
 | [], i, hd, hi, m, a, hI, hm => by
  have hl : l.length ≤ i := List.drop_eq_nil_iff.1 hd
  have : i = l.length := by omega
  subst this
  cases m with
  | zero => simp at hm
  | succ m => exact hend _ a hI
 | v :: r, i, hd, hi, m, a, hI, hm => by
  have hlt : i < l.length := by
   rcases Nat.lt_or_ge i l.length with h | h
   ·exact h
   ·rw [List.drop_eq_nil_iff.2 h] at hd; cases hd
  have hv : l[i]? = some v := by
   have := congrArg List.head? hd
   rw [List.head?_drop] at this
   simpa using this
  have hr : l.drop (i + 1) = r := by
   have := congrArg List.tail hd
   rw [List.tail_drop] at this
   simpa using this
  cases m with
  | zero => simp at hm
  | succ m => exact hstep _ i a v r hlt hv hr hI (fun a' hI' => ls l enc I f hend hstep r (i + 1) hr (by omega) m a' hI' (by simp at hm; omega))
theorem zP {α σ β R : Type} {step : (β → Option R) → β → Option R} (l : List α) (enc : Nat → σ → β) (I : Nat → σ → Prop) (f : Nat → σ → List α → Option R)
  (hend : ∀ S a, I l.length a → step S (enc l.length a) = f l.length a [])
  (hstep : ∀ S i a v r, i < l.length → l[i]? = some v → l.drop (i + 1) = r → I i a → (∀ a', I (i + 1) a' → S (enc (i + 1) a') = f (i + 1) a' r) → step S (enc i a) = f i a (v :: r))
  (m : Nat) (hm : l.length < m) (a : σ) (hI : I 0 a) : zF step m (enc 0 a) = f 0 a l :=
 ls l enc I f hend hstep l 0 rfl (Nat.zero_le _) m a hI hm
theorem xJ {α : Type} {b : Nat} {l : List α} : okB b l = true ↔ l.length * b ≤ 140737488355328 := by
 unfold okB
 rw [LF]
theorem zS {α : Type} {b : Nat} {l : List α} (hb : 1 ≤ b) (h : okB b l = true) : l.length ≤ 140737488355328 := by
 have h1 := xJ.1 h
 have : l.length * 1 ≤ l.length * b := Nat.mul_le_mul_left _ hb
 omega
theorem qO {α : Type} {b : Nat} {l : List α} (h : okB b l = true) (i : Nat) : okB b (l.take i) = true := by
 have h1 := xJ.1 h
 refine xJ.2 ?_
 have : (l.take i).length * b ≤ l.length * b := LG _ (by rw [List.length_take]; exact Nat.min_le_right _ _)
 omega
theorem zX {α : Type} {l : List α} {i : Nat} (h : i < l.length) : decide ((i : Int) < (l.length : Int)) = true := by simp; exact h
theorem zM {α : Type} (l : List α) : decide ((l.length : Int) < (l.length : Int)) = false := by simp
theorem z1 (i : Nat) : decide (0 ≤ (i : Int)) = true := by simp
theorem Wz {α : Type} {l : List α} {i : Nat} (h : i < l.length) : decide ((i : Int) ≤ (l.length : Int)) = true := by simp; omega
theorem zE {α : Type} {l : List α} {i : Nat} {v d : α} (h : l[i]? = some v) : l.getD (i : Int).toNat d = v := by simp [List.getD, h]
theorem me {α : Type} (l : List α) (i : Nat) : List.take (i : Int).toNat l = l.take i := by simp
theorem xo {α : Type} {l : List α} {i : Nat} {v : α} (h : l[i]? = some v) : l.take i ++ [v] = l.take (i + 1) := by
 obtain ⟨hlt, rfl⟩ := Lq.1 h
 simp
theorem Xj {α : Type} {l : List α} {i : Nat} {v : α} (h : l[i]? = some v) : i < l.length := (Lq.1 h).1
theorem gP {α : Type} {l : List α} (p : α → Bool) {step : (Int → Option Bool) → Int → Option Bool} {m : Nat} (hm : l.length < m)
  (hend : ∀ S, step S (l.length : Int) = some false)
  (hstep : ∀ S i v, i < l.length → l[i]? = some v → step S (i : Int) = bif p v then some true else S ((i + 1 : Nat) : Int)) :
  zF step m 0 = some (l.any p) :=
 zP (step := step) l (fun i (_ : Unit) => (i : Int)) (fun _ _ => True) (fun i _ r => some (r.any p))
  (fun S a _ => by simp [hend]) (fun S i a v r hi hv hr _ ih => by
   rw [hstep S i v hi hv, List.any_cons, ih () trivial]
   cases p v <;> rfl) m hm () trivial
theorem fy {α : Type} {l : List α} (p : α → Bool) {step : (Int → Option Bool) → Int → Option Bool} {m : Nat} (hm : l.length < m)
  (hend : ∀ S, step S (l.length : Int) = some true)
  (hstep : ∀ S i v, i < l.length → l[i]? = some v → step S (i : Int) = bif p v then S ((i + 1 : Nat) : Int) else some false) :
  zF step m 0 = some (l.all p) :=
 zP (step := step) l (fun i (_ : Unit) => (i : Int)) (fun _ _ => True) (fun i _ r => some (r.all p))
  (fun S a _ => by simp [hend]) (fun S i a v r hi hv hr _ ih => by
   rw [hstep S i v hi hv, List.all_cons, ih () trivial]
   cases p v <;> rfl) m hm () trivial
theorem wH {α : Type} {l : List α} (p : α → Bool) {step : (Int → Option Int) → Int → Option Int} {m : Nat} (hm : l.length < m)
  (hend : ∀ S, step S (l.length : Int) = some (-1))
  (hstep : ∀ S i v, i < l.length → l[i]? = some v → step S (i : Int) = bif p v then some (i : Int) else S ((i + 1 : Nat) : Int)) :
  zF step m 0 = some (ut p l) := by
 have := zP (step := step) l (fun i (_ : Unit) => (i : Int)) (fun _ _ => True) (fun i _ r => some (match r.findIdx? p with | some j => ((i + j : Nat) : Int) | none => -1))
  (fun S a _ => by simp [hend]) (fun S i a v r hi hv hr _ ih => by
   rw [hstep S i v hi hv, List.findIdx?_cons]
   cases hp : p v with
   | true => simp
   | false =>
    have := ih () trivial
    rw [Lj, this]
    simp only [Bool.false_eq_true, if_false]
    cases r.findIdx? p with
    | none => rfl
    | some j => simp; omega) m hm () trivial
 simp only [Int.natCast_zero, Nat.zero_add] at this
 exact this
theorem yZ {α R : Type} {l : List α} (f : List α → List α → R) {step : (Int → Option R) → Int → Option R} {m : Nat} (hm : l.length < m)
  (hend : ∀ S, step S (l.length : Int) = some (f l []))
  (hstep : ∀ S i v r, i < l.length → l[i]? = some v → l.drop (i + 1) = r → S ((i + 1 : Nat) : Int) = some (f (l.take i ++ [v]) r) → step S (i : Int) = some (f (l.take i) (v :: r))) :
  zF step m 0 = some (f [] l) := by
 have := zP (step := step) l (fun i (_ : Unit) => (i : Int)) (fun _ _ => True) (fun i _ r => some (f (l.take i) r))
  (fun S a _ => by simp [hend]) (fun S i a v r hi hv hr _ ih => by
   refine hstep S i v r hi hv hr ?_
   rw [xo hv]
   exact ih () trivial) m hm () trivial
 simpa using this
theorem rF {α : Type} (p : α → Bool) (l : List α) : decide (ut p l ≥ 0) = l.any p := by
 unfold ut
 cases h : l.findIdx? p with
 | none =>
  have h1 := List.findIdx?_eq_none_iff.1 h
  have : l.any p = false := by
   rw [List.any_eq_false]
   intro v hv
   rw [h1 v hv]; simp
  rw [this]; rfl
 | some i =>
  obtain ⟨hlt, hp, _⟩ := List.findIdx?_eq_some_iff_getElem.1 h
  have : l.any p = true := List.any_eq_true.2 ⟨l[i], List.getElem_mem hlt, hp⟩
  rw [this]; simp
theorem yx (a b : Bool) : (bif a then true else b) = (a || b) := by cases a <;> rfl
theorem vK (a b : Bool) : (bif a then b else false) = (a && b) := by cases a <;> rfl
theorem yf (a b : Bool) : (bif a then true else b) = (a || b) := by cases a <;> rfl
theorem zW (a b : Bool) : (bif a then b else false) = (a && b) := by cases a <;> rfl
theorem oE : ConOk Tryz.prog 115 p9 := f115.ok (fun x y h => ⟨0, by cases h; simp only [f115.g, yf, wC]⟩)
theorem fH : ConOk Tryz.prog 41 bt := f41.ok (fun x y h => ⟨0, by cases h; simp only [f41.g, yf, uq]⟩)
theorem SH : ∀ X Y, Ub X = some Y → ∃ n, f114.g n X = some Y := by
 rintro ⟨a, b⟩ y h
 cases h
 refine ⟨0, ?_⟩
 simp only [f114.g, d6, Lm, oS, yf, zW]
 cases a == b <;> cases wC a <;> cases wC b <;> cases a == 0 <;> cases b == 0 <;> rfl
theorem ol : ConOk Tryz.prog 114 pQ := f114.ok SH oE
theorem WU {x : List Int × Int} (h : okB 8 x.1 = true) : F42 x = some (ut (fun v => v == x.2) x.1) := by unfold F42; rw [h]; rfl
theorem QV : ∀ X Y, F42 X = some Y → ∃ n, f42.g n X = some Y := by
 intro x y h
 obtain ⟨ho, rfl⟩ := zL h
 have hl := zS (by omega) ho
 refine ⟨x.1.length + 1, wH _ (Lv _) (fun S => ?_) (fun S i v hi hv => ?_)⟩
 ·simp only [f42.s1, zM, Lj]
 ·have : (x.2 == v) = (v == x.2) := by rw [Bool.eq_iff_iff, beq_iff_eq, beq_iff_eq]; exact eq_comm
  simp only [f42.s1, zX hi, z1, zE hv, nx (show i ≤ _ by omega), Lr, Lk, this]
theorem Wt : ConOk Tryz.prog 42 SS := f42.ok QV
theorem gB {l : List Int} (h : okB 8 l = true) (a : Int) : F16 (l, a) = some (l.any fun v => v == a) := by
 show (bif okB 8 l then _ else _) = _
 rw [h]; rfl
theorem Qi : ∀ X Y, F16 X = some Y → ∃ n, f16.g n X = some Y := by
 intro x y h
 obtain ⟨ho, rfl⟩ := zL h
 exact ⟨0, by simp only [f16.g, WU ho, Lm, rF]⟩
theorem fb : ConOk Tryz.prog 16 bU := f16.ok Qi Wt
theorem S7 : ∀ X Y, R2 X = some Y → ∃ n, f166.g n X = some Y := by
 intro x y h
 obtain ⟨ho, rfl⟩ := zL (show (bif okB 16 x.1 then some (x.1.any fun w => zd w x.2) else none) = some y from h)
 have hl := zS (by omega) ho
 refine ⟨x.1.length + 1, gP _ (Lv _) (fun S => ?_) (fun S i v hi hv => ?_)⟩
 ·simp only [f166.s1, zM, Lj]
 ·simp only [f166.s1, zX hi, z1, zE hv, nx (show i ≤ _ by omega), Lr, Lk]
theorem ad : ConOk Tryz.prog 166 bJ := f166.ok S7
theorem ZI : ConOk Tryz.prog 167 bO := f167.ok (fun x y h => ⟨0, by cases h; rfl⟩)
theorem Y5 : ∀ X Y, eJ X = some Y → ∃ n, f171a.g n X = some Y := by
 intro x y h
 obtain ⟨ho, rfl⟩ := zL h
 have hl := zS (by omega) ho
 refine ⟨x.1.length + 1, wH _ (Lv _) (fun S => ?_) (fun S i v hi hv => ?_)⟩
 ·simp only [f171a.s1, zM, Lj]
 ·simp only [f171a.s1, zX hi, z1, zE hv, nx (show i ≤ _ by omega), Lr, Lk]
theorem X7 : ∀ X Y, iT X = some Y → ∃ n, f171b.g n X = some Y := by
 intro x y h
 obtain ⟨ho, rfl⟩ := zL h
 have hl := zS (by omega) ho
 refine ⟨x.1.length + 1, wH _ (Lv _) (fun S => ?_) (fun S i v hi hv => ?_)⟩
 ·simp only [f171b.s1, zM, Lj]
 ·simp only [f171b.s1, zX hi, z1, zE hv, nx (show i ≤ _ by omega), Lr, Lk]
theorem lL : ConOk Tryz.prog 171 kM := mq (f171a.ok Y5) (f171b.ok X7)
theorem ZV {l : List zQ} (h : okB 72 l = true) (a : zQ) : R7 (l, a) = some (l.any fun c => zd c.1 a.1) := by
 show (bif okB 72 l then _ else _) = _
 rw [h]; rfl
theorem Uw : ∀ X Y, R7 X = some Y → ∃ n, f140.g n X = some Y := by
 intro x y h
 obtain ⟨ho, rfl⟩ := zL h
 have e : iT x = some (ut (fun c => zd c.1 x.2.1) x.1) := by unfold iT; rw [ho]; rfl
 exact ⟨0, by simp only [f140.g, e, Lm, rF]⟩
theorem bC : ConOk Tryz.prog 140 aO := f140.ok Uw lL
theorem XQ : ∀ X Y, ik X = some Y → ∃ n, f142a.g n X = some Y := by
 intro x y h
 obtain ⟨ho, rfl⟩ := zL h
 obtain ⟨ho, hin⟩ := Li _ _ ▸ ho
 have hl := zS (by omega) ho
 refine ⟨x.1.length + 1, wH _ (Lv _) (fun S => ?_) (fun S i v hi hv => ?_)⟩
 ·simp only [f142a.s1, zM, Lj]
 ·have h2 : (decide (0 ≤ v) && decide (v < (x.2.2.1.length : Int))) = true := Ll.1 hin v (Ls hv)
  simp only [f142a.s1, zX hi, z1, zE hv, nx (show i ≤ _ by omega), Lr, Lk, h2, pL]
theorem Wy {l : List Int} (h : 0 < l.length) : (decide (0 ≤ (0 : Int)) && decide ((0 : Int) < (l.length : Int))) = true := by simp; omega
theorem Og : ∀ X Y, iX X = some Y → ∃ n, f142b.g n X = some Y := by
 intro x y h
 obtain ⟨ho, rfl⟩ := zL h
 simp only [Li, Lt] at ho
 have hl := zS (by omega) ho.1
 refine ⟨x.1.length + 1, wH _ (Lv _) (fun S => ?_) (fun S i v hi hv => ?_)⟩
 ·simp only [f142b.s1, zM, Lj]
 ·simp only [f142b.s1, zX hi, z1, zE hv, nx (show i ≤ _ by omega), Lr, Lk, Wy ho.2, Ub, Lm]; rfl
theorem jx : ConOk Tryz.prog 142 jO := mq (f142a.ok XQ) (f142b.ok Og ol)
theorem Yd {l : List Int} {t : zg} (h : okB 8 l = true) (h2 : l.all (inK t) = true) : Qd (l, t) = some (l.any (pL t)) := by
 show (bif okB 8 l && l.all (inK t) then _ else _) = _
 rw [h, h2]; rfl
theorem UW : ∀ X Y, Qd X = some Y → ∃ n, f89a.g n X = some Y := by
 intro x y h
 obtain ⟨ho, rfl⟩ := zL h
 have e : ik x = some (ut (pL x.2) x.1) := by unfold ik; rw [ho]; rfl
 exact ⟨0, by simp only [f89a.g, e, Lm, rF]⟩
theorem PY : ∀ X Y, R5 X = some Y → ∃ n, f89b.g n X = some Y := by
 intro x y h
 obtain ⟨ho, rfl⟩ := zL h
 have e : iX x = some (ut (fun y => !oS (x.2.getD 0 0) y) x.1) := by unfold iX; rw [ho]; rfl
 exact ⟨0, by simp only [f89b.g, e, Lm, rF]⟩
theorem fc : ConOk Tryz.prog 89 ax := mq (f89a.ok UW jx) (f89b.ok PY ol jx)
theorem UI : ∀ X Y, TP X = some Y → ∃ n, f143.g n X = some Y := by
 intro x y h
 obtain ⟨ho, rfl⟩ := zL h
 have hl := zS (by omega) ho
 refine ⟨x.1.length + 1, wH _ (Lv _) (fun S => ?_) (fun S i v hi hv => ?_)⟩
 ·simp only [f143.s1, zM, Lj]
 ·simp only [f143.s1, zX hi, z1, zE hv, nx (show i ≤ _ by omega), Lr, Lk]
theorem ZG : ConOk Tryz.prog 143 a9 := f143.ok UI
theorem WR {l : List yn} (h : okB 48 l = true) (a : yn) : F91 (l, a) = some (l.any fun c => zd c.1 a.1) := by
 show (bif okB 48 l then _ else _) = _
 rw [h]; rfl
theorem QE : ∀ X Y, F91 X = some Y → ∃ n, f91.g n X = some Y := by
 intro x y h
 obtain ⟨ho, rfl⟩ := zL h
 have e : TP x = some (ut (fun c => zd c.1 x.2.1) x.1) := by unfold TP; rw [ho]; rfl
 exact ⟨0, by simp only [f91.g, e, Lm, rF]⟩
theorem Ww : ConOk Tryz.prog 91 Th := f91.ok QE ZG
theorem qh (n : Nat) (k : Nat) : decide ((n : Int) < (k : Int)) = decide (n < k) := by simp
theorem uB (n : Nat) (k : Nat) : decide ((n : Int) > (k : Int)) = decide (n > k) := by simp
theorem et (n : Nat) : ∀ (seen l : List Int), ur n seen l = true → l.all (fun k => decide (0 ≤ k) && decide (k < (n : Int))) = true
 | _, [], _ => rfl
 | seen, k :: r, h => by
  unfold ur at h
  by_cases h1 : k < 0
  ·simp [h1] at h
  ·by_cases h2 : k ≥ (n : Int)
   ·simp [h2] at h
   ·have h3 : (decide (k < 0) || decide (k ≥ (n : Int))) = false := by simp; omega
    rw [h3, Lj] at h
    cases h4 : seen.any (fun v => v == k) with
    | true => rw [h4] at h; cases h
    | false =>
     rw [h4, Lj] at h
     rw [List.all_cons, et n _ r h]
     simp; omega
theorem qY {l : List Int} (t : zg) (h : okB 8 l = true) : F88 (t, l) = some (ve t.2.1.length l) := by
 show (bif okB 8 l then _ else _) = _
 rw [h]; rfl
theorem oC {l : List Int} (t : zg) (h : okB 8 l = true) : VX (t, l) = some (ve t.2.1.length l) := qY t h
theorem Pv : ∀ X Y, F88 X = some Y → ∃ n, f88.g n X = some Y := by
 intro x y h
 obtain ⟨ho, rfl⟩ := zL h
 have hl := zS (by omega) ho
 refine ⟨x.2.length + 1, ?_⟩
 have key := yZ (l := x.2) (step := f88.s1 (x.2.length + 1) x) (fun seen r => ur x.1.2.1.length seen r) (Lv _) (fun S => by
   simp only [f88.s1, zM, Lj, ur]) (fun S i v r hi hv hr ih => by
   simp only [f88.s1, zX hi, z1, Wz hi, zE hv, me, nx (show i ≤ _ by omega), Lr, Lk, gB (qO ho i) v, Lm, yx, ih, ur]
   cases decide (v < 0) || decide (v ≥ (x.1.2.1.length : Int)) with
   | true => rfl
   | false =>
    simp only [Lj]
    cases (x.2.take i).any (fun w => w == v) <;> rfl)
 simp only [f88.g, key, ve, yx]
 have e1 : decide ((x.2.length : Int) < (1 : Int)) = decide (x.2.length < 1) := qh _ 1
 have e2 : decide ((x.2.length : Int) > (64 : Int)) = decide (x.2.length > 64) := uB _ 64
 rw [e1, e2]
 cases decide (x.2.length < 1) || decide (x.2.length > 64) <;> rfl
theorem Vl : ConOk Tryz.prog 88 TE := f88.ok Pv fb
end Go.Proofs.YtefddghdaimklaaGreatDoor.AI
/- The plain laws of the runs: names, and values that may be. -/
namespace Go.Proofs.YtefddghdaimklaaGreatDoor.AI
open Go
theorem v7 (b : UInt8) (l sub : List UInt8) : Lib.contains (b :: l) sub = (sub.isPrefixOf (b :: l) || Lib.contains l sub) := by
 unfold Lib.contains
 rw [Lib.index]
 have hg := Lib.index_ge l sub
 cases hp : sub.isPrefixOf (b :: l) with
 | true => rfl
 | false =>
  simp only [Bool.false_eq_true, if_false, Bool.false_or]
  by_cases h : Lib.index l sub = -1
  ·rw [h]; rfl
  ·have : (Lib.index l sub == -1) = false := by simp; exact h
   rw [this]
   simp only [Bool.false_eq_true, if_false]
   rw [Ln (show 0 ≤ Lib.index l sub + 1 by omega), Ln (show 0 ≤ Lib.index l sub by omega)]
def fK : List (List UInt8) → List UInt8
 | [] => []
 | w :: ws => w ++ 32 :: fK ws
theorem fS : ∀ (s w r : List UInt8), (32 : UInt8) ∉ s → (32 : UInt8) ∉ w → (s ++ [32]).isPrefixOf (w ++ 32 :: r) = decide (s = w)
 | [], [], r, _, _ => by simp
 | [], b :: w, r, _, hw => by
  have : ¬ (32 : UInt8) = b := fun e => hw (by simp [e])
  simp [List.isPrefixOf, this]
 | a :: s, [], r, hs, _ => by
  have : ¬ a = (32 : UInt8) := fun e => hs (by simp [e])
  simp [List.isPrefixOf, this]
 | a :: s, b :: w, r, hs, hw => by
  have ih := fS s w r (fun h => hs (List.mem_cons_of_mem _ h)) (fun h => hw (List.mem_cons_of_mem _ h))
  simp only [List.cons_append, List.isPrefixOf, ih]
  by_cases h : a = b
  ·subst h; simp
  ·simp [h]
theorem kX (pat r : List UInt8) : ∀ (w : List UInt8), (32 : UInt8) ∉ w → Lib.contains (w ++ r) (32 :: pat) = Lib.contains r (32 :: pat)
 | [], _ => rfl
 | b :: w, hw => by
  have : ((32 : UInt8) == b) = false := by simp; exact fun e => hw (by simp [e])
  rw [List.cons_append, v7, List.isPrefixOf, this, kX pat r w (fun h => hw (List.mem_cons_of_mem _ h))]
  rfl
theorem tJ (s : List UInt8) (hs : (32 : UInt8) ∉ s) : ∀ (ws : List (List UInt8)), (∀ w ∈ ws, (32 : UInt8) ∉ w) → Lib.contains (32 :: fK ws) (32 :: (s ++ [32])) = ws.any (fun w => decide (s = w))
 | [], _ => by
  have hne : (32 :: (s ++ [32]) : List UInt8).isPrefixOf [32] = false := by
   cases s with
   | nil => rfl
   | cons a s => simp [List.isPrefixOf]
  show Lib.contains [32] _ = _
  rw [v7, hne]
  rfl
 | w :: ws, h => by
  have ih := tJ s hs ws (fun v hv => h v (List.mem_cons_of_mem _ hv))
  rw [fK, v7, List.isPrefixOf, fS s w _ hs (h w (by simp)), kX _ _ w (h w (by simp)), ih]
  simp
theorem zI (a b : ByteArray) : zd a b = true ↔ a = b := by
 unfold zd
 rw [beq_iff_eq]
 constructor
 ·intro h
  cases a with
  | mk d => cases b with
   | mk e =>
    have h1 : d.toList = e.toList := by simpa [ByteArray.toList_eq] using h
    exact congrArg ByteArray.mk (Array.ext' h1)
 ·intro h; rw [h]
theorem au (a b : ByteArray) : zd a b = decide (b.data.toList = a.data.toList) := by
 rw [Bool.eq_iff_iff, zI, LF]
 constructor
 ·intro h; rw [h]
 ·intro h
  cases a with
  | mk d => cases b with
   | mk e => exact congrArg ByteArray.mk (Array.ext' h.symm)
theorem vJ (x : ByteArray) : (zR x).length = x.size := by
 unfold zR
 rw [List.length_map]
 rfl
theorem ah {x : ByteArray} {i : Nat} {v : Int} (h : (zR x)[i]? = some v) : zY x (i : Int) = v := by
 unfold zR at h
 rw [List.getElem?_map, Option.map_eq_some_iff] at h
 obtain ⟨b, hb, rfl⟩ := h
 have hx : x[i]? = some b := by
  obtain ⟨hlt, e⟩ := Lq.1 hb
  have hlt' : i < x.size := hlt
  rw [getElem?_pos x i hlt']
  rw [← e]; rfl
 unfold zY
 rw [Int.toNat_natCast, hx]
theorem Ze : wordsS.data.toList = 32 :: fK (wordsL.map fun w => w.data.toList) := by kernel_rfl
theorem aE : ∀ w ∈ wordsL.map fun w => w.data.toList, (32 : UInt8) ∉ w := by
 have h : ((wordsL.map fun w => w.data.toList).all fun w => w.all fun b => b != 32) = true := by kernel_rfl
 intro w hw hm
 have := Ll.1 (Ll.1 h w hw) _ hm
 simp at this
theorem Zx {x : ByteArray} (h : (32 : UInt8) ∉ x.data.toList) : Lib.contains wordsS.data.toList (32 :: (x.data.toList ++ [32])) = wordsL.any fun w => zd w x := by
 rw [Ze, tJ _ h _ aE, List.any_map]
 congr 1
 funext w
 simp only [Function.comp, au]
theorem cL {x : ByteArray} (h : x.size ≤ 140737488355328) : UZ x = some (Lib.contains wordsS.data.toList (32 :: (x.data.toList ++ [32]))) := by
 unfold UZ; rw [Ln h]; rfl
set_option maxRecDepth 100000 in
theorem Rb : ∀ X Y, UZ X = some Y → ∃ n, f138.g n X = some Y := by
 intro x y h
 obtain ⟨hq, rfl⟩ := zL h
 have hq := LB hq
 have hb : xk = 9223372036854775807 := rfl
 have s1 : (⟨#[32]⟩ : ByteArray).size = 1 := rfl
 have s2 : ((⟨#[32]⟩ : ByteArray) ++ x).size = 1 + x.size := by rw [ByteArray.size_append, s1]
 refine ⟨0, ?_⟩
 have e : Q1 (wordsS, ((⟨#[32]⟩ : ByteArray) ++ x) ++ (⟨#[32]⟩ : ByteArray)) = some (Lib.contains wordsS.data.toList (32 :: (x.data.toList ++ [32]))) := by
  unfold Q1
  rw [show decide (wordsS.size < 4294967281) = true from rfl, Lk]
  rw [show (((⟨#[32]⟩ : ByteArray) ++ x) ++ (⟨#[32]⟩ : ByteArray)).data.toList = 32 :: (x.data.toList ++ [32]) by simp [ByteArray.data_append]]
 have hg : f138.g 0 x = (bif decide ((⟨#[32]⟩ : ByteArray).size + x.size ≤ xk) then (bif decide (((⟨#[32]⟩ : ByteArray) ++ x).size + (⟨#[32]⟩ : ByteArray).size ≤ xk) then ((Q1 (wordsS, ((⟨#[32]⟩ : ByteArray) ++ x) ++ (⟨#[32]⟩ : ByteArray))).bind fun r1 => some r1) else none) else none) := rfl
 rw [hg, Ln (show (⟨#[32]⟩ : ByteArray).size + x.size ≤ xk by rw [s1, hb]; omega), Ln (show ((⟨#[32]⟩ : ByteArray) ++ x).size + (⟨#[32]⟩ : ByteArray).size ≤ xk by rw [s2, s1, hb]; omega), e]
 rfl
theorem cz : ConOk Tryz.prog 138 b8 := f138.ok Rb cR
theorem gw (c : Int) : (bif (c == (95 : Int)) then true else (bif (decide (c ≥ (97 : Int))) then (decide (c ≤ (122 : Int))) else false)) = vr c := by
 rw [yx, vK]; rfl
theorem l8 (c : Int) : (bif (bif (decide (c ≥ (97 : Int))) then (decide (c ≤ (122 : Int))) else false) then true else (c == (95 : Int))) = vr c := by
 rw [yx, vK, Bool.or_comm]; rfl
theorem eh (c : Int) : (bif (decide (c ≥ (48 : Int))) then (decide (c ≤ (57 : Int))) else false) = rd c := by
 rw [vK]; rfl
theorem Yq {x : ByteArray} (h : (32 : UInt8) ∈ x.data.toList) : ((zR x).all fun c => vr c || rd c) = false := by
 rw [List.all_eq_false]
 exact ⟨32, List.mem_map.2 ⟨32, h, rfl⟩, by decide⟩
theorem QO (x : ByteArray) : ∃ n, f86.g n x = some (vF x) := by
 refine ⟨x.size + 1, ?_⟩
 unfold f86.g vF
 have e1 : (bif zd x (⟨#[]⟩ : ByteArray) then true else decide ((x.size : Int) > (63 : Int))) = (decide (x.size < 1) || decide (x.size > 63)) := by
  rw [yx]
  have q1 : zd x (⟨#[]⟩ : ByteArray) = decide (x.size < 1) := by
   rw [Bool.eq_iff_iff, zI, LF]
   constructor
   ·intro h; rw [h]; decide
   ·intro h
    cases x with
    | mk d =>
     have : d.size = 0 := by
      have : d.size < 1 := h
      omega
     rw [Array.eq_empty_of_size_eq_zero this]
  rw [q1, show decide ((x.size : Int) > (63 : Int)) = decide (x.size > 63) from uB _ 63]
 rw [e1]
 cases hs : decide (x.size < 1) || decide (x.size > 63) with
 | true => rfl
 | false =>
  simp only [Bool.or_eq_false_iff, decide_eq_false_iff_not] at hs
  simp only [Lj]
  have p1 : (decide (0 ≤ (0 : Int)) && decide ((0 : Int) < (x.size : Int))) = true := by simp; omega
  have key : ∀ r1, zF (f86.s1 (x.size + 1) x r1) (x.size + 1) 0 = some ((zR x).all fun c => vr c || rd c) := fun r1 => fy (l := zR x) (fun c => vr c || rd c) (by rw [vJ]; omega) (fun S => by
   rw [vJ]
   have : decide ((x.size : Int) < (x.size : Int)) = false := by simp
   simp only [f86.s1, this, Lj]) (fun S i v hi hv => by
   rw [vJ] at hi
   have q : decide ((i : Int) < (x.size : Int)) = true := by simp; exact hi
   simp only [f86.s1, q, z1, ah hv, nx (show i ≤ _ by omega), Lr, Lk, gw, eh]
   cases vr v <;> cases rd v <;> rfl)
  rw [p1, Lk, gw]
  cases vr (zY x 0) with
  | false => rfl
  | true =>
   simp only [LA, Lj, cL (show x.size ≤ 140737488355328 by omega), Lm, key, Bool.false_or]
   by_cases h32 : (32 : UInt8) ∈ x.data.toList
   ·rw [Yq h32]
    cases Lib.contains wordsS.data.toList (32 :: (x.data.toList ++ [32])) <;> cases wordsL.any fun w => zd w x <;> rfl
   ·rw [Zx h32]
    cases wordsL.any fun w => zd w x <;> rfl
theorem mi : ConOk Tryz.prog 86 iG := f86.ok (fun x y h => by cases h; exact QO x) cz
theorem SN (x : ByteArray) : ∃ n, f125.g n x = some (vF x) := by
 refine ⟨x.size + 1, ?_⟩
 unfold f125.g vF
 rw [yx, show decide ((x.size : Int) < (1 : Int)) = decide (x.size < 1) from qh _ 1, show decide ((x.size : Int) > (63 : Int)) = decide (x.size > 63) from uB _ 63]
 cases hs : decide (x.size < 1) || decide (x.size > 63) with
 | true => rfl
 | false =>
  simp only [Bool.or_eq_false_iff, decide_eq_false_iff_not] at hs
  simp only [Lj]
  have p1 : (decide (0 ≤ (0 : Int)) && decide ((0 : Int) < (x.size : Int))) = true := by simp; omega
  have key : ∀ r1 r2, zF (f125.s1 (x.size + 1) x r1 r2) (x.size + 1) 0 = some ((zR x).all fun c => vr c || rd c) := fun r1 r2 => fy (l := zR x) (fun c => vr c || rd c) (by rw [vJ]; omega) (fun S => by
   rw [vJ]
   have : decide ((x.size : Int) < (x.size : Int)) = false := by simp
   simp only [f125.s1, this, Lj]) (fun S i v hi hv => by
   rw [vJ] at hi
   have q : decide ((i : Int) < (x.size : Int)) = true := by simp; exact hi
   simp only [f125.s1, q, z1, ah hv, nx (show i ≤ _ by omega), Lr, Lk, l8, eh]
   cases vr v <;> cases rd v <;> rfl)
  rw [p1, Lk, l8]
  have e27 : PN () = some wordsL := rfl
  have e26 : R2 (wordsL, x) = some (wordsL.any fun w => zd w x) := by
   show (bif okB 16 wordsL then some (wordsL.any fun w => zd w x) else none) = _
   rw [show okB 16 wordsL = true from rfl]; rfl
  cases vr (zY x 0) with
  | false => rfl
  | true =>
   simp only [LA, Lj, e27, e26, Lm, key, Bool.false_or]
   cases wordsL.any fun w => zd w x <;> rfl
theorem pR : ConOk Tryz.prog 125 pf := f125.ok (fun x y h => by cases h; exact SN x) ad ZI
theorem YO (a b : Nat) : (((a : Int)) == ((b : Int))) = (a == b) := by
 rw [Bool.eq_iff_iff, beq_iff_eq, beq_iff_eq]; omega
theorem PL (a b : Int) : (a != b) = !(a == b) := rfl
theorem VD (a b : Nat) : (((a : Int)) != ((b : Int))) = !(a == b) := by rw [PL, YO]
theorem XB {x : zc} (h : okV x = true) : x.2.2.2.size ≤ 140737488355328 := LB (show decide (x.2.2.2.size ≤ 140737488355328) = true from h)
theorem fF (x : zc) (q : okV x = true) : f75.g 0 x = some (zO x) ∧ f37.g 0 x = some (zO x) := by
 have hq := XB q
 have e21 : F64 x.2.2.2 = some (Lib.validD x.2.2.2.data.toList) := by
  show (bif decide (x.2.2.2.size ≤ 9223372036854775807) then _ else _) = _
  rw [Ln (by omega)]; rfl
 have e0 : (((x.2.2.1 : Nat) : Int) != 0) = (x.2.2.1 != 0) := VD _ 0
 simp only [f75.g, f37.g, F63, e21, Lm, e0, zO, noS]
 simp only [bne]
 generalize decide (x.1 < 0) = k0
 generalize decide (x.1 > 5) = k9
 generalize (x.1 == 1) = k1
 generalize (x.1 == 2) = k2
 generalize (x.1 == 3) = k3
 generalize (x.1 == 4) = k4
 generalize (x.1 == 5) = k5
 generalize (x.2.1 == 0) = n0
 generalize (x.2.1 == 1) = n1
 generalize (x.2.2.1 == 0) = z
 generalize zd x.2.2.2 ⟨#[]⟩ = e
 generalize Lib.validD x.2.2.2.data.toList = v
 generalize decide ((x.2.2.2.size : Int) > 65536) = g
 constructor
 ·cases k0
  ·cases k9
   ·cases k1 <;> cases n0 <;> cases n1 <;> first | rfl | (cases k2 <;> cases k3 <;> cases z <;> first | rfl | (cases k4 <;> cases k5 <;> cases e <;> cases v <;> cases g <;> rfl))
   ·rfl
  ·rfl
 ·cases k0
  ·cases k9
   ·cases k1 <;> cases n0 <;> cases n1 <;> first | rfl | (cases k2 <;> cases k3 <;> cases z <;> first | rfl | (cases k4 <;> cases k5 <;> cases e <;> cases v <;> cases g <;> rfl))
   ·rfl
  ·rfl
theorem s8 {x : zc} (h : okV x = true) : F75 x = some (zO x) := by unfold F75; rw [h]; rfl
theorem my {x : zc} (h : okV x = true) : F37 x = some (zO x) := s8 h
theorem tg : ConOk Tryz.prog 75 rE := f75.ok (fun x y h => ⟨0, by
 obtain ⟨q, rfl⟩ := zL (show (bif okV x then some (zO x) else none) = some y from h)
 exact (fF x q).1⟩) tq g7
theorem mw : ConOk Tryz.prog 37 j8 := f37.ok (fun x y h => ⟨0, by
 obtain ⟨q, rfl⟩ := zL (show (bif okV x then some (zO x) else none) = some y from h)
 exact (fF x q).2⟩) tq g7
theorem Yp : ConOk Tryz.prog 169 Yu := f169.ok (fun x y h => ⟨0, by
 cases h
 simp only [f169.g, F63, Lm, YO, lH]
 cases x.1.1 == x.2.1 <;> cases x.1.2.1 == x.2.2.1 <;> cases x.1.2.2.1 == x.2.2.2.1 <;> rfl⟩) tq
end Go.Proofs.YtefddghdaimklaaGreatDoor.AI
/- The plain laws of the runs: tables that may be. -/
namespace Go.Proofs.YtefddghdaimklaaGreatDoor.AI
open Go
theorem yj {t : zg} (h : okT t = true) : okB 72 t.2.1 = true ∧ okB 8 t.2.2.1 = true ∧ okB 48 t.2.2.2.1 = true ∧ okB 40 t.2.2.2.2 = true ∧ (∀ c ∈ t.2.1, okV c.2.2.2 = true) ∧ (∀ c ∈ t.2.2.2.1, okB 8 c.2.1 = true) ∧ (∀ c ∈ t.2.2.2.2, okB 8 c.1 = true) := by
 unfold okT at h
 simp only [Li] at h
 obtain ⟨⟨h1, h2, h3, h4⟩, h5, h6, h7⟩ := h
 exact ⟨h1, h2, h3, h4, Ll.1 h5, Ll.1 h6, Ll.1 h7⟩
theorem uJ {α R : Type} {l : List α} {i : Nat} (hi : i ≤ l.length) (p : α → Bool) {A K : Option R} {step : (Int → Option R) → Int → Option R} {m : Nat} (hm : i < m)
  (hend : ∀ S, step S (i : Int) = K)
  (hstep : ∀ S j v, j < i → l[j]? = some v → step S (j : Int) = bif p v then A else S ((j + 1 : Nat) : Int)) :
  zF step m 0 = bif (l.take i).any p then A else K := by
 have hlen : (l.take i).length = i := by rw [List.length_take]; omega
 exact zP (step := step) (l.take i) (fun i (_ : Unit) => (i : Int)) (fun _ _ => True) (fun _ _ r => bif r.any p then A else K)
  (fun S a _ => by rw [hlen, hend]; rfl) (fun S j _ v r hj hv hr _ ih => by
   rw [hlen] at hj
   rw [List.getElem?_take_of_lt hj] at hv
   rw [hstep S j v hj hv, List.any_cons, ih () trivial]
   cases p v <;> rfl) m (by rw [hlen]; exact hm) () trivial
theorem eg {j i : Nat} (h : j < i) : decide ((j : Int) < (i : Int)) = true := by simp; exact h
theorem md (i : Nat) : decide ((i : Int) < (i : Int)) = false := by simp
theorem gS (s : ByteArray) : F86 s = some (vF s) := rfl
theorem mF (s : ByteArray) : VJ s = some (vF s) := rfl
theorem Pd : ∀ X Y, F87 X = some Y → ∃ n, f87.g n X = some Y := by
 intro x y h
 obtain ⟨ho, rfl⟩ := zL h
 obtain ⟨h1, h2, h3, h4, h5, h6, h7⟩ := yj ho
 have hl := zS (by omega) h1
 refine ⟨x.2.1.length + 1, ?_⟩
 exact yZ (l := x.2.1) (step := f87.s1 (x.2.1.length + 1) x) (fun seen r => tK seen r) (Lv _) (fun S => by
   simp only [f87.s1, zM, Lj, tK]) (fun S i v r hi hv hr ih => by
   simp only [f87.s1, zX hi, z1, Wz hi, zE hv, me, nx (show i ≤ _ by omega), Lr, Lk, ZV (qO h1 i) v, gS, s8 (h5 v (Ls hv)), Lm, yx, vK, ih, tK, QF]
   generalize vF v.1 = b1
   generalize (x.2.1.take i).any (fun c => zd c.1 v.1) = b2
   generalize (decide (v.2.1 < 1) || decide (v.2.1 > 5)) = b3
   generalize (zO v.2.2.2 != 0) = b4
   generalize (v.2.2.2.1 != 0 && v.2.2.2.1 != v.2.1) = b5
   cases b1 <;> cases b2 <;> cases b3 <;> cases b4 <;> cases b5 <;> rfl)
theorem Vd : ConOk Tryz.prog 87 TB := f87.ok Pd tg mi bC
theorem fN {t : zg} (h : okT t = true) : F87 t = some (tK [] t.2.1) := by unfold F87; rw [h]; rfl
theorem am {t : zg} (h : okT t = true) : R9 t = some (tK [] t.2.1) := fN h
theorem Qr {x : zg} (h : okT x = true) {n : Nat} (hn : x.2.2.2.2.length < n) (r1 : Bool) (r2 : Int) (r3 r4 : Bool) (y5 : Int) : zF (f58.s1 n x r1 r2 r3 r4 y5) n 0 = some (sh x.2.1.length x.2.2.2.2) := by
 obtain ⟨h1, h2, h3, h4, h5, h6, h7⟩ := yj h
 have hl := zS (by omega) h4
 exact yZ (l := x.2.2.2.2) (step := f58.s1 n x r1 r2 r3 r4 y5) (fun _ r => sh x.2.1.length r) hn (fun S => by
   simp only [f58.s1, zM, Lj, sh]) (fun S i v r hi hv hr ih => by
   simp only [f58.s1, zX hi, z1, zE hv, nx (show i ≤ _ by omega), Lr, Lk, gS, qY x (h7 v (Ls hv)), Lm, ih, sh]
   generalize vF v.2 = b1
   generalize ve x.2.1.length v.1 = b2
   cases b1 <;> cases b2 <;> rfl)
theorem PH {x : zg} (h : okT x = true) {n : Nat} (hn : x.2.2.2.2.length < n) (hn2 : x.2.2.2.1.length < n) (r1 : Bool) (r2 : Int) (r3 r4 : Bool) :
  zF (f58.s2 n x r1 r2 r3 r4) n 0 = some (bif vU x.2.1.length [] x.2.2.2.1 != 0 then vU x.2.1.length [] x.2.2.2.1 else sh x.2.1.length x.2.2.2.2) := by
 obtain ⟨h1, h2, h3, h4, h5, h6, h7⟩ := yj h
 have hl := zS (by omega) h3
 exact yZ (l := x.2.2.2.1) (step := f58.s2 n x r1 r2 r3 r4) (fun seen r => bif vU x.2.1.length seen r != 0 then vU x.2.1.length seen r else sh x.2.1.length x.2.2.2.2) hn2 (fun S => by
   simp only [f58.s2, zM, Lj, vU, Qr h hn]; rfl) (fun S i v r hi hv hr ih => by
   simp only [f58.s2, zX hi, z1, Wz hi, zE hv, me, nx (show i ≤ _ by omega), Lr, Lk, gS, WR (qO h3 i) v, qY x (h6 v (Ls hv)), Lm, ih, vU]
   generalize vF v.1 = b1
   generalize (x.2.2.2.1.take i).any (fun c => zd c.1 v.1) = b2
   generalize ve x.2.1.length v.2.1 = b3
   cases b1 <;> cases b2 <;> cases b3 <;> rfl)
theorem V0 {x : zg} (h : ve x.2.1.length x.2.2.1 = true) : x.2.2.1.all (inK x) = true := by
 unfold ve at h
 cases hc : decide (x.2.2.1.length < 1) || decide (x.2.2.1.length > 64) with
 | true => rw [hc] at h; cases h
 | false =>
  rw [hc, Lj] at h
  exact et _ _ _ h
theorem gV (x : zg) : (bif bif bif decide ((x.2.1.length : Int) < (1 : Int)) then true else decide ((x.2.1.length : Int) > (64 : Int)) then true else decide ((x.2.2.2.1.length : Int) > (16 : Int)) then true else decide ((x.2.2.2.2.length : Int) > (16 : Int))) =
  (decide (x.2.1.length < 1) || decide (x.2.1.length > 64) || decide (x.2.2.2.1.length > 16) || decide (x.2.2.2.2.length > 16)) := by
 rw [yx, yx, yx, show decide ((x.2.1.length : Int) < (1 : Int)) = decide (x.2.1.length < 1) from qh _ 1, show decide ((x.2.1.length : Int) > (64 : Int)) = decide (x.2.1.length > 64) from uB _ 64,
  show decide ((x.2.2.2.1.length : Int) > (16 : Int)) = decide (x.2.2.2.1.length > 16) from uB _ 16, show decide ((x.2.2.2.2.length : Int) > (16 : Int)) = decide (x.2.2.2.2.length > 16) from uB _ 16]
theorem QN : ∀ X Y, F58 X = some Y → ∃ n, f58.g n X = some Y := by
 intro x y h
 obtain ⟨ho, rfl⟩ := zL h
 obtain ⟨h1, h2, h3, h4, h5, h6, h7⟩ := yj ho
 refine ⟨x.2.2.2.1.length + x.2.2.2.2.length + 1, ?_⟩
 unfold f58.g xw
 simp only [gS, Lm, gV, fN ho, qY x h2]
 cases vF x.1 with
 | false => rfl
 | true =>
  simp only [LA, Lj]
  cases decide (x.2.1.length < 1) || decide (x.2.1.length > 64) || decide (x.2.2.2.1.length > 16) || decide (x.2.2.2.2.length > 16) with
  | true => rfl
  | false =>
   simp only [Lj]
   cases tK [] x.2.1 != 0 with
   | true => rfl
   | false =>
    simp only [Lj]
    cases hs : ve x.2.1.length x.2.2.1 with
    | false => rfl
    | true =>
     simp only [LA, Lj, Yd h2 (V0 hs), Lm]
     cases x.2.2.1.any (pL x) with
     | true => rfl
     | false =>
      simp only [Lj]
      exact PH ho (by omega) (by omega) _ _ _ _
theorem mP : ConOk Tryz.prog 58 gj := f58.ok QN mi Vd Vl fc Ww
theorem WV {t : zg} (h : okT t = true) : F58 t = some (xw t) := by unfold F58; rw [h]; rfl
theorem Tb : ∀ X Y, VX X = some Y → ∃ n, f127.g n X = some Y := by
 intro x y h
 obtain ⟨ho, rfl⟩ := zL (show (bif okB 8 x.2 then some (ve x.1.2.1.length x.2) else none) = some y from h)
 have hl := zS (by omega) ho
 refine ⟨x.2.length + 1, ?_⟩
 have inner : ∀ (S1 : Int → Option Bool) (i : Nat) (v : Int), i < x.2.length → x.2[i]? = some v → zF (f127.s1 (x.2.length + 1) x (i : Int) S1) (x.2.length + 1) 0 = bif (x.2.take i).any (fun w => w == v) then some false else S1 ((i + 1 : Nat) : Int) := fun S1 i v hi hv =>
  uJ (l := x.2) (Nat.le_of_lt hi) (fun w => w == v) (by omega) (fun S => by
   simp only [f127.s1, md, Lj, nx (show i ≤ _ by omega)]) (fun S j w hj hw => by
   simp only [f127.s1, eg hj, z1, zX (Xj hw), zX hi, zE hw, zE hv, nx (show j ≤ _ by omega), Lr, Lk])
 have key := yZ (l := x.2) (step := f127.s2 (x.2.length + 1) x) (fun seen r => ur x.1.2.1.length seen r) (Lv _) (fun S => by
   simp only [f127.s2, zM, Lj, ur]) (fun S i v r hi hv hr ih => by
   simp only [f127.s2, zX hi, z1, zE hv, Lr, Lk, inner S i v hi hv, ih, ur]
   generalize decide (v < 0) = b1
   generalize decide (v ≥ (x.1.2.1.length : Int)) = b2
   generalize (x.2.take i).any (fun w => w == v) = b3
   cases b1 <;> cases b2 <;> cases b3 <;> rfl)
 simp only [f127.g, key, ve, yx]
 have e1 : decide ((x.2.length : Int) < (1 : Int)) = decide (x.2.length < 1) := qh _ 1
 have e2 : decide ((x.2.length : Int) > (64 : Int)) = decide (x.2.length > 64) := uB _ 64
 rw [e1, e2]
 cases decide (x.2.length < 1) || decide (x.2.length > 64) <;> rfl
theorem jV : ConOk Tryz.prog 127 l7 := f127.ok Tb
theorem RI : ∀ X Y, R9 X = some Y → ∃ n, f126.g n X = some Y := by
 intro x y h
 obtain ⟨ho, rfl⟩ := zL (show (bif okT x then some (tK [] x.2.1) else none) = some y from h)
 obtain ⟨h1, h2, h3, h4, h5, h6, h7⟩ := yj ho
 have hl := zS (by omega) h1
 refine ⟨x.2.1.length + 1, ?_⟩
 have inner : ∀ (r2 : Bool) (S1 : Int → Option Int) (i : Nat) (v : zQ), i < x.2.1.length → x.2.1[i]? = some v → zF (f126.s1 (x.2.1.length + 1) x (i : Int) r2 S1) (x.2.1.length + 1) 0 = bif (x.2.1.take i).any (fun c => zd c.1 v.1) then some 31 else bif QF v then some 32 else S1 ((i + 1 : Nat) : Int) := fun r2 S1 i v hi hv =>
  uJ (l := x.2.1) (Nat.le_of_lt hi) (fun c => zd c.1 v.1) (by omega) (fun S => by
   simp only [f126.s1, md, Lj, zE hv, nx (show i ≤ _ by omega), my (h5 v (Ls hv)), Lm, yx, vK, QF]
   generalize (decide (v.2.1 < 1) || decide (v.2.1 > 5)) = b3
   generalize (zO v.2.2.2 != 0) = b4
   generalize (v.2.2.2.1 != 0) = b5
   generalize (v.2.2.2.1 != v.2.1) = b6
   cases b3 <;> cases b4 <;> cases b5 <;> cases b6 <;> rfl) (fun S j w hj hw => by
   simp only [f126.s1, eg hj, z1, zX (Xj hw), zX hi, zE hw, zE hv, nx (show j ≤ _ by omega), Lr, Lk])
 exact yZ (l := x.2.1) (step := f126.s2 (x.2.1.length + 1) x) (fun seen r => tK seen r) (Lv _) (fun S => by
   simp only [f126.s2, zM, Lj, tK]) (fun S i v r hi hv hr ih => by
   simp only [f126.s2, zX hi, z1, zE hv, Lr, Lk, mF, Lm, inner _ S i v hi hv, ih, tK]
   generalize vF v.1 = b1
   generalize (x.2.1.take i).any (fun c => zd c.1 v.1) = b2
   generalize QF v = b3
   cases b1 <;> cases b2 <;> cases b3 <;> rfl)
theorem cX : ConOk Tryz.prog 126 ZD := f126.ok RI mw pR
theorem YH {t : zg} (h : okT t = true) : RV t = some (vU t.2.1.length [] t.2.2.2.1) := by unfold RV; rw [h]; rfl
theorem Sx : ∀ X Y, RV X = some Y → ∃ n, f128.g n X = some Y := by
 intro x y h
 obtain ⟨ho, rfl⟩ := zL h
 obtain ⟨h1, h2, h3, h4, h5, h6, h7⟩ := yj ho
 have hl := zS (by omega) h3
 refine ⟨x.2.2.2.1.length + 1, ?_⟩
 have inner : ∀ (r2 : Bool) (S1 : Int → Option Int) (i : Nat) (v : yn), i < x.2.2.2.1.length → x.2.2.2.1[i]? = some v → zF (f128.s1 (x.2.2.2.1.length + 1) x (i : Int) r2 S1) (x.2.2.2.1.length + 1) 0 = bif (x.2.2.2.1.take i).any (fun c => zd c.1 v.1) then some 31 else bif !ve x.2.1.length v.2.1 then some 33 else S1 ((i + 1 : Nat) : Int) := fun r2 S1 i v hi hv =>
  uJ (l := x.2.2.2.1) (Nat.le_of_lt hi) (fun c => zd c.1 v.1) (by omega) (fun S => by
   simp only [f128.s1, md, Lj, zE hv, nx (show i ≤ _ by omega), oC x (h6 v (Ls hv)), Lm]) (fun S j w hj hw => by
   simp only [f128.s1, eg hj, z1, zX (Xj hw), zX hi, zE hw, zE hv, nx (show j ≤ _ by omega), Lr, Lk])
 exact yZ (l := x.2.2.2.1) (step := f128.s2 (x.2.2.2.1.length + 1) x) (fun seen r => vU x.2.1.length seen r) (Lv _) (fun S => by
   simp only [f128.s2, zM, Lj, vU]) (fun S i v r hi hv hr ih => by
   simp only [f128.s2, zX hi, z1, zE hv, Lr, Lk, mF, Lm, inner _ S i v hi hv, ih, vU]
   generalize vF v.1 = b1
   generalize (x.2.2.2.1.take i).any (fun c => zd c.1 v.1) = b2
   generalize ve x.2.1.length v.2.1 = b3
   cases b1 <;> cases b2 <;> cases b3 <;> rfl)
theorem Yc : ConOk Tryz.prog 128 bk := f128.ok Sx pR jV
theorem QR {x : zg} (h : okT x = true) {n : Nat} (hn : x.2.2.2.2.length < n) (r1 : Bool) (r2 : Int) (r3 : Bool) (y4 r5 : Int) : zF (f77.s1 n x r1 r2 r3 y4 r5) n 0 = some (sh x.2.1.length x.2.2.2.2) := by
 obtain ⟨h1, h2, h3, h4, h5, h6, h7⟩ := yj h
 have hl := zS (by omega) h4
 exact yZ (l := x.2.2.2.2) (step := f77.s1 n x r1 r2 r3 y4 r5) (fun _ r => sh x.2.1.length r) hn (fun S => by
   simp only [f77.s1, zM, Lj, sh]) (fun S i v r hi hv hr ih => by
   simp only [f77.s1, zX hi, z1, zE hv, nx (show i ≤ _ by omega), Lr, Lk, mF, oC x (h7 v (Ls hv)), Lm, ih, sh]
   generalize vF v.2 = b1
   generalize ve x.2.1.length v.1 = b2
   cases b1 <;> cases b2 <;> rfl)
theorem O6 {x : zg} (h : okT x = true) (hin : x.2.2.1.all (inK x) = true) {n : Nat} (hn : x.2.2.2.2.length < n) (hn2 : x.2.2.1.length < n) (r1 : Bool) (r2 : Int) (r3 : Bool) :
  zF (f77.s2 n x r1 r2 r3) n 0 = bif x.2.2.1.any (pL x) then some 33 else some (bif vU x.2.1.length [] x.2.2.2.1 != 0 then vU x.2.1.length [] x.2.2.2.1 else sh x.2.1.length x.2.2.2.2) := by
 obtain ⟨h1, h2, h3, h4, h5, h6, h7⟩ := yj h
 have hl := zS (by omega) h2
 have := uJ (l := x.2.2.1) (Lu _) (pL x) (A := some (33 : Int)) (K := some (bif vU x.2.1.length [] x.2.2.2.1 != 0 then vU x.2.1.length [] x.2.2.2.1 else sh x.2.1.length x.2.2.2.2)) (step := f77.s2 n x r1 r2 r3) hn2 (fun S => by
   simp only [f77.s2, zM, Lj, YH h, Lm, QR h hn]
   cases vU x.2.1.length [] x.2.2.2.1 != 0 <;> rfl) (fun S i v hi hv => by
   have q : (decide (0 ≤ v) && decide (v < (x.2.1.length : Int))) = true := Ll.1 hin v (Ls hv)
   simp only [f77.s2, zX hi, z1, zE hv, nx (show i ≤ _ by omega), Lr, Lk, q, pL])
 rw [Lz] at this
 exact this
theorem Pf : ∀ X Y, F77 X = some Y → ∃ n, f77.g n X = some Y := by
 intro x y h
 obtain ⟨ho, rfl⟩ := zL (show (bif okT x then some (xw x) else none) = some y from h)
 obtain ⟨h1, h2, h3, h4, h5, h6, h7⟩ := yj ho
 refine ⟨x.2.2.1.length + x.2.2.2.2.length + 1, ?_⟩
 unfold f77.g xw
 simp only [mF, Lm, gV, am ho, oC x h2]
 cases vF x.1 with
 | false => rfl
 | true =>
  simp only [LA, Lj]
  cases decide (x.2.1.length < 1) || decide (x.2.1.length > 64) || decide (x.2.2.2.1.length > 16) || decide (x.2.2.2.2.length > 16) with
  | true => rfl
  | false =>
   simp only [Lj]
   cases tK [] x.2.1 != 0 with
   | true => rfl
   | false =>
    simp only [Lj]
    cases hs : ve x.2.1.length x.2.2.1 with
    | false => rfl
    | true =>
     simp only [LA, Lj]
     rw [O6 ho (V0 hs) (by omega) (by omega)]
     cases x.2.2.1.any (pL x) <;> rfl
theorem Wd : ConOk Tryz.prog 77 Sm := f77.ok Pf pR cX jV Yc
end Go.Proofs.YtefddghdaimklaaGreatDoor.AI
/- The plain laws of the runs: rows, copies, fills. -/
namespace Go.Proofs.YtefddghdaimklaaGreatDoor.AI
open Go
theorem aP {α : Type} {l : List α} {i : Nat} {v : α} (h : l[i]? = some v) : l.drop i = v :: l.drop (i + 1) := by
 obtain ⟨hlt, rfl⟩ := Lq.1 h
 exact List.drop_eq_getElem_cons hlt
theorem uV {α : Type} (l : List α) (i : Nat) : List.take i (l.take i) = l.take i := by rw [List.take_take, Nat.min_self]
theorem fa {α β : Type} (p : α × β) : (p.1, p.2) = p := rfl
theorem uY {α β R : Type} {l : List α} (enc : Nat → List α → β) {step : (β → Option R) → β → Option R} {m : Nat} (hm : l.length < m) {K : Option R}
  (hend : ∀ S, step S (enc l.length l) = K)
  (hstep : ∀ S i v, i < l.length → l[i]? = some v → step S (enc i (l.take i)) = S (enc (i + 1) (l.take (i + 1)))) : zF step m (enc 0 []) = K :=
 zP (step := step) l (fun i (_ : Unit) => enc i (l.take i)) (fun _ _ => True) (fun _ _ _ => K)
  (fun S _ _ => by show step S (enc l.length (l.take l.length)) = K; rw [Lz]; exact hend S) (fun S i _ v r hi hv hr _ ih => by rw [hstep S i v hi hv]; exact ih () trivial) m hm () trivial
theorem WD {α : Type} {b : Nat} {l : List α} (h : okB b l = true) {i : Nat} (hi : i < l.length) : decide ((i + 1) * b ≤ zq) = true := by
 have h1 := xJ.1 h
 have : (i + 1) * b ≤ l.length * b := LG _ hi
 have hb : zq = 140737488355328 := rfl
 rw [LF, hb]
 omega
theorem Oh : ∀ X Y, F27 X = some Y → ∃ n, f27.g n X = some Y := by
 intro x y h
 obtain ⟨ho, rfl⟩ := zL h
 have hl := zS (by omega) ho
 refine ⟨x.length + 1, ?_⟩
 exact uY (l := x) (fun i r => (i, ((i : Int), r))) (step := f27.s1 (x.length + 1) x) (Lv _) (fun S => by
   simp only [f27.s1, zM, Lj, Lz]) (fun S i v hi hv => by
   simp only [f27.s1, zX hi, z1, zE hv, nx (show i ≤ _ by omega), Lr, Lk, WD ho hi, uV, xo hv])
theorem XY : ConOk Tryz.prog 27 Sp := f27.ok Oh
theorem mK {l : List Int} (h : okB 8 l = true) : F27 l = some l := by unfold F27; rw [h]; rfl
theorem Qq : ∀ X Y, F54 X = some Y → ∃ n, f54.g n X = some Y := by
 intro x y h
 obtain ⟨ho, rfl⟩ := zL h
 have hl := zS (by omega) ho
 refine ⟨x.length + 1, ?_⟩
 exact uY (l := x) (fun i r => (i, ((i : Int), r))) (step := f54.s1 (x.length + 1) x) (Lv _) (fun S => by
   simp only [f54.s1, zM, Lj, Lz]) (fun S i v hi hv => by
   simp only [f54.s1, zX hi, z1, zE hv, nx (show i ≤ _ by omega), Lr, Lk, WD ho hi, uV, xo hv])
theorem VA : ConOk Tryz.prog 54 Ra := f54.ok Qq
theorem P9 {x : zg} (h : okT x = true) {n : Nat} (hn : x.2.2.2.2.length < n) (r1 : List Int) (y2 : Int × Nat × List zQ) (y3 : Int × Nat × List yn) :
  zF (f7.s1 n x r1 y2 y3) n ((0 : Int), ((0 : Nat), ([] : List ce))) = some (x.1, (List.take y2.2.1 y2.2.2, (r1, (List.take y3.2.1 y3.2.2, x.2.2.2.2)))) := by
 obtain ⟨h1, h2, h3, h4, h5, h6, h7⟩ := yj h
 have hl := zS (by omega) h4
 exact uY (l := x.2.2.2.2) (fun i r => ((i : Int), (i, r))) (step := f7.s1 n x r1 y2 y3) hn (fun S => by
   simp only [f7.s1, zM, Lj, Lz]) (fun S i v hi hv => by
   have e : F27 v.1 = some v.1 := mK (h7 v (Ls hv))
   simp only [f7.s1, zX hi, z1, zE hv, nx (show i ≤ _ by omega), Lr, Lk, e, Lm, WD h4 hi, uV, fa, xo hv])
theorem PX {x : zg} (h : okT x = true) {n : Nat} (hn : x.2.2.2.2.length < n) (hn2 : x.2.2.2.1.length < n) (r1 : List Int) (y2 : Int × Nat × List zQ) :
  zF (f7.s2 n x r1 y2) n ((0 : Int), ((0 : Nat), ([] : List yn))) = some (x.1, (List.take y2.2.1 y2.2.2, (r1, (x.2.2.2.1, x.2.2.2.2)))) := by
 obtain ⟨h1, h2, h3, h4, h5, h6, h7⟩ := yj h
 have hl := zS (by omega) h3
 exact uY (l := x.2.2.2.1) (fun i r => ((i : Int), (i, r))) (step := f7.s2 n x r1 y2) hn2 (fun S => by
   simp only [f7.s2, zM, Lj, P9 h hn, Lz]) (fun S i v hi hv => by
   have e : F27 v.2.1 = some v.2.1 := mK (h6 v (Ls hv))
   simp only [f7.s2, zX hi, z1, zE hv, nx (show i ≤ _ by omega), Lr, Lk, e, Lm, WD h3 hi, uV, fa, xo hv])
theorem OM : ∀ X Y, F7 X = some Y → ∃ n, f7.g n X = some Y := by
 intro x y h
 obtain ⟨ho, rfl⟩ := zL h
 obtain ⟨h1, h2, h3, h4, h5, h6, h7⟩ := yj ho
 have hl := zS (by omega) h1
 refine ⟨x.2.1.length + x.2.2.2.1.length + x.2.2.2.2.length + 1, ?_⟩
 generalize hn : x.2.1.length + x.2.2.2.1.length + x.2.2.2.2.length + 1 = n
 simp only [f7.g, mK h2, Lm]
 exact uY (l := x.2.1) (fun i r => ((i : Int), (i, r))) (step := f7.s3 n x x.2.2.1) (by omega) (fun S => by
   simp only [f7.s3, zM, Lj, PX ho (show x.2.2.2.2.length < n by omega) (by omega), Lz]) (fun S i v hi hv => by
   simp only [f7.s3, zX hi, z1, zE hv, nx (show i ≤ _ by omega), Lr, Lk, WD h1 hi, uV, xo hv])
theorem UQ : ConOk Tryz.prog 7 OL := f7.ok OM XY
theorem Rq {t : zg} (h : okT t = true) : F7 t = some t := by unfold F7; rw [h]; rfl
theorem RY : ∀ X Y, Ox X = some Y → ∃ n, f221.g n X = some Y := by
 intro x y h
 obtain ⟨ho, rfl⟩ := zL h
 obtain ⟨h1, h2, h3, h4, h5, h6, h7⟩ := yj ho
 have e : eJ (x.1.2.1, x.2) = some (ut (fun c => zd c.1 x.2) x.1.2.1) := by
  show (bif okB 72 x.1.2.1 then _ else _) = _
  rw [h1]; rfl
 refine ⟨0, ?_⟩
 simp only [f221.g, e, Lm, Yz, ut]
 cases x.1.2.1.findIdx? (fun c => zd c.1 x.2) with
 | none => rfl
 | some i =>
  have : decide ((i : Int) < 0) = false := by simp
  simp only [this, Lj]
theorem cG : ConOk Tryz.prog 221 Yw := f221.ok RY lL
theorem Q6 {α β : Type} (a : List α) (b : List β) : ((a.length : Int) != (b.length : Int)) = !(a.length == b.length) := VD _ _
theorem Tu (x : zc × zc) : Qg x = some (lH x.1 x.2) := rfl
theorem Lc {x : zg × List zc} {y : Int} (h : (bif okT x.1 && (okB 40 x.2 && x.2.all okV) then some (uP x.1 x.2) else none) = some y) : okT x.1 = true ∧ okB 40 x.2 = true ∧ (∀ v ∈ x.2, okV v = true) ∧ uP x.1 x.2 = y := by
 obtain ⟨ho, rfl⟩ := zL h
 simp only [Li] at ho
 exact ⟨ho.1, ho.2.1, Ll.1 ho.2.2, rfl⟩
theorem Po : ∀ X Y, F61 X = some Y → ∃ n, f61.g n X = some Y := by
 intro x y h
 obtain ⟨ho, ho2, ho3, rfl⟩ := Lc h
 obtain ⟨h1, h2, h3, h4, h5, h6, h7⟩ := yj ho
 have hl := zS (by omega) h1
 refine ⟨x.1.2.1.length + 1, ?_⟩
 simp only [f61.g, WV ho, Lm, uP]
 cases xw x.1 != 0 with
 | true => rfl
 | false =>
  simp only [Lj]
  cases hlen : ((x.2.length : Int) != (x.1.2.1.length : Int)) with
  | true => rfl
  | false =>
   have hlen' : x.2.length = x.1.2.1.length := by
    rw [Q6] at hlen
    simpa using hlen
   simp only [Lj]
   exact zP (step := f61.s1 (x.1.2.1.length + 1) x (xw x.1)) x.1.2.1 (fun i (_ : Unit) => (i : Int)) (fun _ _ => True) (fun i _ r => some (oH r (x.2.drop i)))
    (fun S a _ => by simp only [f61.s1, zM, Lj]; rfl) (fun S i _ v r hi hv hr _ ih => by
     have hw : x.2[i]? = some x.2[i] := LC (by omega)
     have hiw : i < x.2.length := by omega
     generalize x.2[i] = w at hw
     simp only [f61.s1, zX hi, zX hiw, z1, zE hv, zE hw, nx (show i ≤ _ by omega), Lr, Lk, s8 (ho3 w (Ls hw)), Lm, ih () trivial, vK, aP hw, oH]
     generalize (zO w != 0) = b1
     generalize (w.1 == 0) = b2
     generalize v.2.2.1 = b3
     generalize (w.1 != v.2.1) = b4
     cases b1 <;> cases b2 <;> cases b3 <;> cases b4 <;> rfl) (x.1.2.1.length + 1) (Lv _) () trivial
theorem W3 : ConOk Tryz.prog 61 RF := f61.ok Po mP tg
end Go.Proofs.YtefddghdaimklaaGreatDoor.AI
/- The plain laws of the runs: what awake asks. -/
namespace Go.Proofs.YtefddghdaimklaaGreatDoor.AI
open Go
theorem Wp : ConOk Tryz.prog 71 T6 := f71.ok (fun x y h => ⟨0, by
 cases h
 have e : ∀ n : Int, (n != n) = false := fun n => by simp
 simp only [f71.g, e, Lj, nS]
 cases decide (x.1 < x.2) <;> cases decide (x.1 > x.2) <;> rfl⟩)
theorem lf : ConOk Tryz.prog 72 gd := f72.ok (fun x y h => ⟨0, by
 cases h
 have e : ∀ n : Int, (n != n) = false := fun n => by simp
 simp only [f72.g, e, Lj, nS]
 cases decide (x.1 < x.2) <;> cases decide (x.1 > x.2) <;> rfl⟩)
theorem XR : ConOk Tryz.prog 82 RC := f82.ok (fun x y h => ⟨0, by
 cases h
 simp only [f82.g, nS]
 cases decide (x.1 < x.2) <;> cases decide (x.1 > x.2) <;> rfl⟩)
theorem ex : ConOk Tryz.prog 73 bQ := f73.ok (fun x y h => ⟨0, by
 cases h
 simp only [f73.g, oU, fo]
 cases FloatKind.f64.format.order x.1 x.1 != some .eq <;> cases FloatKind.f64.format.order x.2 x.2 != some .eq <;> cases FloatKind.f64.format.order x.1 x.2 == some .lt <;> cases FloatKind.f64.format.order x.1 x.2 == some .gt <;> rfl⟩)
theorem Xb : ConOk Tryz.prog 83 Sd := f83.ok (fun x y h => ⟨0, by
 cases h
 simp only [f83.g, oU, fo]
 cases FloatKind.f64.format.order x.1 x.1 != some .eq <;> cases FloatKind.f64.format.order x.2 x.2 != some .eq <;> cases FloatKind.f64.format.order x.1 x.2 == some .lt <;> cases FloatKind.f64.format.order x.1 x.2 == some .gt <;> rfl⟩)
theorem gU : ∀ (a b : List UInt8), (Op.bytesLess a b = true ↔ Lib.compareBytes a b = -1) ∧ (a = b ↔ Lib.compareBytes a b = 0)
 | [], [] => ⟨⟨fun h => (by cases h), fun h => (by cases h)⟩, ⟨fun _ => rfl, fun _ => rfl⟩⟩
 | [], _ :: _ => ⟨⟨fun _ => rfl, fun _ => rfl⟩, ⟨fun h => (by cases h), fun h => (by cases h)⟩⟩
 | _ :: _, [] => ⟨⟨fun h => (by cases h), fun h => (by cases h)⟩, ⟨fun h => (by cases h), fun h => (by cases h)⟩⟩
 | a :: l, b :: m => by
  obtain ⟨h1, h2⟩ := gU l m
  simp only [Op.bytesLess, Lib.compareBytes]
  by_cases hab : a < b
  ·have hne : a ≠ b := fun e => by subst e; exact absurd hab (UInt8.lt_irrefl a)
   rw [if_pos hab]
   simp [hab, hne]
  ·rw [if_neg hab]
   by_cases hba : b < a
   ·have hne : a ≠ b := fun e => by subst e; exact absurd hba (UInt8.lt_irrefl a)
    rw [if_pos hba]
    simp [hab, hne]
   ·have he : a = b := UInt8.le_antisymm (UInt8.not_lt.1 hba) (UInt8.not_lt.1 hab)
    subst he
    rw [if_neg hba, ← h1, ← h2]
    simp [hab]
theorem ll (a b : ByteArray) : yT a b = decide (iW a b = -1) ∧ zd a b = decide (iW a b = 0) := by
 obtain ⟨h1, h2⟩ := gU a.data.toList b.data.toList
 unfold yT zd iW
 rw [ByteArray.toList_eq, ByteArray.toList_eq]
 refine ⟨?_, ?_⟩
 ·rw [Bool.eq_iff_iff, LF]; exact h1
 ·rw [Bool.eq_iff_iff, LF, beq_iff_eq]; exact h2
theorem rn : ∀ (a b : List UInt8), Lib.compareBytes a b = -1 ∨ Lib.compareBytes a b = 0 ∨ Lib.compareBytes a b = 1
 | [], [] => .inr (.inl rfl)
 | [], _ :: _ => .inl rfl
 | _ :: _, [] => .inr (.inr rfl)
 | a :: l, b :: m => by
  simp only [Lib.compareBytes]
  split
  ·exact .inl rfl
  ·split
   ·exact .inr (.inr rfl)
   ·exact rn l m
theorem XC : ConOk Tryz.prog 84 TV := f84.ok (fun x y h => ⟨0, by
 cases h
 obtain ⟨h1, h2⟩ := ll x.1 x.2
 simp only [f84.g, h1, h2]
 have := rn x.1.data.toList x.2.data.toList
 change iW x.1 x.2 = -1 ∨ iW x.1 x.2 = 0 ∨ iW x.1 x.2 = 1 at this
 rcases this with e | e | e <;> rw [e] <;> rfl⟩)
theorem b9 {a b : Int} : (nS a b != 0) = (a != b) := by
 unfold nS
 by_cases h1 : a < b
 ·rw [Ln h1]
  have : (a != b) = true := by simp; omega
  rw [this]; rfl
 ·rw [LI h1]
  by_cases h2 : a > b
  ·rw [Ln h2]
   have : (a != b) = true := by simp; omega
   rw [this]; rfl
  ·rw [LI h2]
   have : (a != b) = false := by simp; omega
   rw [this]; rfl
theorem Ps (x : zc × zc) : f45.g 0 x = some (kG x.1 x.2) := by
 simp only [f45.g, F71, F72, F73, F74, Lm, b9, kG]
 cases x.1.1 != x.2.1 <;> cases x.1.1 == 1 <;> cases x.1.1 == 2 <;> cases x.1.1 == 3 <;> cases x.1.1 == 4 <;> cases x.1.1 == 5 <;> rfl
theorem eE : ConOk Tryz.prog 45 ba := f45.ok (fun x y h => ⟨0, by cases h; exact Ps x⟩) Wp lf ex X9
theorem Xu : ConOk Tryz.prog 52 SG := f52.ok (fun x y h => ⟨0, by
 cases h
 simp only [f52.g, F82, F83, F84, Lm, kG]
 cases x.1.1 != x.2.1 <;> cases x.1.1 == 1 <;> cases x.1.1 == 2 <;> cases x.1.1 == 3 <;> cases x.1.1 == 4 <;> cases x.1.1 == 5 <;> rfl⟩) XR Xb XC
end Go.Proofs.YtefddghdaimklaaGreatDoor.AI
/- Doubles as numbers: whole parts, and what is written and read again. -/
namespace Go.Proofs.YtefddghdaimklaaGreatDoor.AI
open Go
theorem Wr (neg : Bool) (n drop : Nat) : Ieee.Toward.zero.cut neg n drop = n / 2 ^ drop := by
 simp only [Ieee.Toward.cut, Bool.toNat_false, Nat.add_zero, Nat.one_shiftLeft]
 rcases Nat.le_total drop (n.log2 + 2) with h | h
 ·rw [Nat.min_eq_left h]
 ·rw [Nat.min_eq_right h]
  have h1 : n < 2 ^ (n.log2 + 1) := Nat.lt_log2_self
  have h2 : n < 2 ^ (n.log2 + 2) := Nat.lt_of_lt_of_le h1 (Nat.pow_le_pow_right (by decide) (by omega))
  have h3 : n < 2 ^ drop := Nat.lt_of_lt_of_le h2 (Nat.pow_le_pow_right (by decide) h)
  rw [Nat.div_eq_of_lt h2, Nat.div_eq_of_lt h3]
def whole (m : Nat) (i : Int) : Nat := (m <<< i.toNat) / 2 ^ (-i).toNat
theorem qk (s : Bool) (m : Nat) (i : Int) : (Ieee.Datum.number s m i).integral .zero = .number s (whole m i) 0 := by
 simp only [Ieee.Datum.integral, Wr, whole]
theorem p8 (s : Bool) (m : Nat) (i : Int) : (Ieee.Datum.number s m i).toInt .zero = some (Ieee.signed s (whole m i) 0) := by
 simp only [Ieee.Datum.toInt, qk]
theorem sd (s : Bool) (m : Nat) : Ieee.signed s m 0 = if s then -(m : Int) else (m : Int) := by
 unfold Ieee.signed
 simp
theorem rO {b : Nat} {s : Bool} {m : Nat} {i : Int} (h : Ieee.double.read b = .number s m i) : m < 2 ^ 53 ∧ -1074 ≤ i := by
 unfold Ieee.Format.read at h
 have e1 : Ieee.double.leastPlace = -1074 := by decide
 have e2 : Ieee.double.binade = 2 ^ 52 := by decide
 simp only [e1, e2] at h
 split at h
 ·rename_i hr
  cases h
  exact ⟨by omega, Int.le_refl _⟩
 ·split at h
  ·cases h
   have := Nat.mod_lt (b % Ieee.double.signWeight) (show 2 ^ 52 > 0 by decide)
   refine ⟨by omega, by omega⟩
  ·split at h <;> cases h
def NC (w : Nat) : Prop := w.log2 ≤ 52 ∨ 2 ^ (w.log2 - 52) ∣ w
theorem l9 {m : Nat} (hm : m ≠ 0) (k : Nat) : (m * 2 ^ k).log2 = m.log2 + k := by
 have hp : 0 < 2 ^ k := Nat.two_pow_pos k
 have h0 : m * 2 ^ k ≠ 0 := Nat.mul_ne_zero hm (by omega)
 apply Nat.le_antisymm
 ·have : (m * 2 ^ k).log2 < m.log2 + k + 1 := by
   rw [Nat.log2_lt h0]
   have := @Nat.lt_log2_self m
   calc m * 2 ^ k < 2 ^ (m.log2 + 1) * 2 ^ k := Nat.mul_lt_mul_of_pos_right this hp
    _ = 2 ^ (m.log2 + k + 1) := by rw [← Nat.pow_add]; congr 1; omega
  omega
 ·rw [Nat.le_log2 h0, Nat.pow_add]
  exact LG _ (Nat.log2_self_le hm)
theorem nC {m : Nat} {i : Int} (hm : m < 2 ^ 53) : NC (whole m i) := by
 unfold whole NC
 by_cases hi : 0 ≤ i
 ·have e : (-i).toNat = 0 := by omega
  rw [e, Nat.pow_zero, Nat.div_one, Nat.shiftLeft_eq]
  by_cases h0 : m = 0
  ·subst h0; left; simp
  ·rw [l9 h0]
   have hl : m.log2 < 53 := (Nat.log2_lt h0).2 hm
   by_cases hc : m.log2 + i.toNat ≤ 52
   ·exact .inl hc
   ·right
    refine Nat.dvd_trans (Nat.pow_dvd_pow 2 (show m.log2 + i.toNat - 52 ≤ i.toNat by omega)) (Nat.dvd_mul_left _ _)
 ·have e : i.toNat = 0 := by omega
  rw [e, Nat.shiftLeft_zero]
  left
  by_cases h0 : m / 2 ^ (-i).toNat = 0
  ·rw [h0]; decide
  ·have h1 : m / 2 ^ (-i).toNat ≤ m := Nat.div_le_self _ _
   have : (m / 2 ^ (-i).toNat).log2 < 53 := (Nat.log2_lt h0).2 (Nat.lt_of_le_of_lt h1 hm)
   omega
theorem fD {neg : Bool} {n drop : Nat} (h : drop ≤ n.log2 + 2) (hd : 2 ^ drop ∣ n) : Ieee.Toward.even.cut neg n drop = n / 2 ^ drop := by
 simp only [Ieee.Toward.cut, Nat.one_shiftLeft, Nat.min_eq_left h, Nat.mod_eq_zero_of_dvd hd]
 have hp : 0 < 2 ^ drop := Nat.two_pow_pos drop
 have e1 : decide (2 ^ drop < 2 * 0) = false := by simp
 have e2 : (2 ^ drop == 2 * 0) = false := by simp
 simp only [e1, e2, Bool.false_and, Bool.or_self, Bool.toNat_false, Nat.add_zero]
theorem jr {neg : Bool} {R k L : Nat} (hR : R = (L + 1022) * 4503599627370496 + k) (h1 : 4503599627370496 ≤ k) (h2 : k < 9007199254740992) (hL : L ≤ 64) :
  Ieee.double.read (Ieee.double.word neg (min R Ieee.double.infRung)) = .number neg k ((L : Int) - 52) := by
 have e0 : Ieee.double.infRung = 9218868437227405312 := by decide
 have e1 : Ieee.double.leastPlace = -1074 := by decide
 have e2 : Ieee.double.binade = 4503599627370496 := by decide
 have e3 : Ieee.double.signWeight = 9223372036854775808 := by decide
 have hm : min R Ieee.double.infRung = R := by rw [e0]; omega
 rw [hm]
 have hw : Ieee.double.word neg R = if neg then 9223372036854775808 + R else R := by unfold Ieee.Format.word; rw [e3]
 rw [hw]
 unfold Ieee.Format.read
 simp only [e0, e1, e2, e3]
 have hmod : (if neg = true then 9223372036854775808 + R else R) % 9223372036854775808 = R := by
  cases neg
  ·simp only [Bool.false_eq_true, if_false]; omega
  ·simp only [if_true]; omega
 have hdiv : ((if neg = true then 9223372036854775808 + R else R) / 9223372036854775808 % 2 == 1) = neg := by
  cases neg
  ·simp only [Bool.false_eq_true, if_false]
   have : R / 9223372036854775808 = 0 := Nat.div_eq_of_lt (by omega)
   rw [this]; rfl
  ·simp only [if_true]
   have : (9223372036854775808 + R) / 9223372036854775808 = 1 := by omega
   rw [this]; rfl
 rw [hmod, hdiv, if_neg (by omega), if_pos (by omega)]
 have h3 : R % 4503599627370496 = k - 4503599627370496 := by omega
 have h4 : R / 4503599627370496 = L + 1023 := by omega
 have h5 : 4503599627370496 + (k - 4503599627370496) = k := by omega
 have h6 : (-1074 : Int) + ((L + 1023 - 1 : Nat) : Int) = (L : Int) - 52 := by omega
 rw [h3, h4, h5, h6]
theorem qt {neg : Bool} {w : Nat} (h0 : w ≠ 0) (hw : w < 2 ^ 64) (hf : NC w) : ∃ k l, Ieee.double.read (Ieee.double.nearest neg w 0) = .number neg k l ∧ whole k l = w := by
 have hL : w.log2 < 64 := (Nat.log2_lt h0).2 hw
 have lo : 2 ^ w.log2 ≤ w := Nat.log2_self_le h0
 have hi : w < 2 ^ (w.log2 + 1) := Nat.lt_log2_self
 have e1 : Ieee.double.leastPlace = -1074 := by decide
 have e2 : Ieee.double.binade = 4503599627370496 := by decide
 have e4 : Ieee.double.fractionBits = 52 := rfl
 have hlast : max ((0 : Int) + (w.log2 : Int) - ((52 : Nat) : Int)) (-1074) = (w.log2 : Int) - 52 := by omega
 unfold Ieee.Format.nearest
 rw [if_neg h0]
 simp only [e1, e2, e4, hlast]
 have e5 : ((w.log2 : Int) - 52 - -1074).toNat = w.log2 + 1022 := by omega
 rw [e5]
 by_cases hc : w.log2 ≤ 52
 ·have a1 : ((0 : Int) - ((w.log2 : Int) - 52)).toNat = 52 - w.log2 := by omega
  have a2 : ((w.log2 : Int) - 52 - 0).toNat = 0 := by omega
  rw [a1, a2, fD (Nat.zero_le _) (by simp), Nat.pow_zero, Nat.div_one, Nat.shiftLeft_eq]
  have hp : 2 ^ w.log2 * 2 ^ (52 - w.log2) = 4503599627370496 := by rw [← Nat.pow_add, show w.log2 + (52 - w.log2) = 52 by omega]
  have hp2 : 2 ^ (w.log2 + 1) * 2 ^ (52 - w.log2) = 9007199254740992 := by rw [← Nat.pow_add, show w.log2 + 1 + (52 - w.log2) = 53 by omega]
  have b1 : 4503599627370496 ≤ w * 2 ^ (52 - w.log2) := by rw [← hp]; exact LG _ lo
  have b2 : w * 2 ^ (52 - w.log2) < 9007199254740992 := by rw [← hp2]; exact Nat.mul_lt_mul_of_pos_right hi (Nat.two_pow_pos _)
  refine ⟨w * 2 ^ (52 - w.log2), (w.log2 : Int) - 52, jr rfl b1 b2 (by omega), ?_⟩
  unfold whole
  have c1 : ((w.log2 : Int) - 52).toNat = 0 := by omega
  have c2 : (-((w.log2 : Int) - 52)).toNat = 52 - w.log2 := by omega
  rw [c1, c2, Nat.shiftLeft_zero]
  exact Nat.mul_div_cancel _ (Nat.two_pow_pos _)
 ·have hd : 2 ^ (w.log2 - 52) ∣ w := by
   rcases hf with h | h
   ·exact absurd h hc
   ·exact h
  have a1 : ((0 : Int) - ((w.log2 : Int) - 52)).toNat = 0 := by omega
  have a2 : ((w.log2 : Int) - 52 - 0).toNat = w.log2 - 52 := by omega
  rw [a1, a2, Nat.shiftLeft_zero, fD (by omega) hd]
  obtain ⟨q, hq⟩ := hd
  have hpos : 0 < 2 ^ (w.log2 - 52) := Nat.two_pow_pos _
  have hdq : w / 2 ^ (w.log2 - 52) = q := by
   conv => lhs; lhs; rw [hq]
   exact Nat.mul_div_cancel_left _ hpos
  rw [hdq]
  have hp : 2 ^ (w.log2 - 52) * 4503599627370496 = 2 ^ w.log2 := by
   rw [show (4503599627370496 : Nat) = 2 ^ 52 by decide, ← Nat.pow_add, show w.log2 - 52 + 52 = w.log2 by omega]
  have hp2 : 2 ^ (w.log2 - 52) * 9007199254740992 = 2 ^ (w.log2 + 1) := by
   rw [show (9007199254740992 : Nat) = 2 ^ 53 by decide, ← Nat.pow_add, show w.log2 - 52 + 53 = w.log2 + 1 by omega]
  have b1 : 4503599627370496 ≤ q := by
   refine Nat.le_of_mul_le_mul_left ?_ hpos
   rw [hp, ← hq]; exact lo
  have b2 : q < 9007199254740992 := by
   refine Nat.lt_of_mul_lt_mul_left (a := 2 ^ (w.log2 - 52)) ?_
   rw [hp2, ← hq]; exact hi
  refine ⟨q, (w.log2 : Int) - 52, jr rfl b1 b2 (by omega), ?_⟩
  unfold whole
  have c1 : ((w.log2 : Int) - 52).toNat = w.log2 - 52 := by omega
  have c2 : (-((w.log2 : Int) - 52)).toNat = 0 := by omega
  rw [c1, c2, Nat.pow_zero, Nat.div_one, Nat.shiftLeft_eq, Nat.mul_comm]
  exact hq.symm
theorem kj (neg : Bool) : Ieee.double.read (Ieee.double.nearest neg 0 0) = .number neg 0 (-1074) := by
 cases neg <;> decide
theorem Y9 {m : Nat} {i : Int} {Q : Nat} (h : (m : Nat) * 2 ^ (i - min i 11).toNat ≤ Q * 2 ^ ((11 : Int) - min i 11).toNat) : whole m i ≤ Q * 2048 := by
 unfold whole
 by_cases hi : 11 ≤ i
 ·have a1 : (i - min i 11).toNat = (i - 11).toNat := by omega
  have a2 : ((11 : Int) - min i 11).toNat = 0 := by omega
  have a3 : (-i).toNat = 0 := by omega
  rw [a1, a2, Nat.pow_zero, Nat.mul_one] at h
  rw [a3, Nat.pow_zero, Nat.div_one, Nat.shiftLeft_eq]
  have : i.toNat = (i - 11).toNat + 11 := by omega
  rw [this, Nat.pow_add, ← Nat.mul_assoc]
  exact LG 2048 h
 ·have a1 : (i - min i 11).toNat = 0 := by omega
  have a2 : ((11 : Int) - min i 11).toNat = (11 - i).toNat := by omega
  rw [a1, a2, Nat.pow_zero, Nat.mul_one] at h
  by_cases h0 : 0 ≤ i
  ·have a3 : (-i).toNat = 0 := by omega
   rw [a3, Nat.pow_zero, Nat.div_one, Nat.shiftLeft_eq]
   have e : 2 ^ (11 - i).toNat * 2 ^ i.toNat = 2048 := by rw [← Nat.pow_add, show (11 - i).toNat + i.toNat = 11 by omega]
   calc m * 2 ^ i.toNat ≤ Q * 2 ^ (11 - i).toNat * 2 ^ i.toNat := LG _ h
    _ = Q * 2048 := by rw [Nat.mul_assoc, e]
  ·have a3 : i.toNat = 0 := by omega
   rw [a3, Nat.shiftLeft_zero]
   have e : 2 ^ (11 - i).toNat = 2048 * 2 ^ (-i).toNat := by rw [show (2048 : Nat) = 2 ^ 11 by decide, ← Nat.pow_add, show 11 + (-i).toNat = (11 - i).toNat by omega]
   rw [e, ← Nat.mul_assoc] at h
   exact Nat.div_le_of_le_mul (by rw [Nat.mul_comm]; exact h)
theorem sj (s : Bool) (m u : Nat) : Ieee.signed s m u = if s then -((m * 2 ^ u : Nat) : Int) else ((m * 2 ^ u : Nat) : Int) := by
 unfold Ieee.signed
 rw [Nat.shiftLeft_eq]
def D63 : Ieee.Datum := .number false 4503599627370496 11
def N63 : Ieee.Datum := .number true 4503599627370496 11
theorem OG (x y : Int) : (x < y ∧ compare x y = .lt) ∨ (x = y ∧ compare x y = .eq) ∨ (y < x ∧ compare x y = .gt) := by
 show (x < y ∧ compareOfLessAndEq x y = .lt) ∨ (x = y ∧ compareOfLessAndEq x y = .eq) ∨ (y < x ∧ compareOfLessAndEq x y = .gt)
 unfold compareOfLessAndEq
 by_cases h1 : x < y
 ·exact .inl ⟨h1, if_pos h1⟩
 ·by_cases h2 : x = y
  ·exact .inr (.inl ⟨h2, by rw [if_neg h1, if_pos h2]⟩)
  ·exact .inr (.inr ⟨by omega, by rw [if_neg h1, if_neg h2]⟩)
theorem XF {d : Ieee.Datum} (hn : (d.order d != some .eq) = false) (h1 : (d.order D63 == some .gt || d.order D63 == some .eq) = false) (h2 : (d.order N63 == some .lt) = false) :
  ∃ s m i, d = .number s m i ∧ whole m i < 2 ^ 64 ∧ -9223372036854775808 ≤ Ieee.signed s (whole m i) 0 ∧ Ieee.signed s (whole m i) 0 ≤ 9223372036854775807 := by
 cases d with
 | nan s t => cases hn
 | infinity s =>
  cases s
  ·cases h1
  ·cases h2
 | number s m i =>
  refine ⟨s, m, i, rfl, ?_⟩
  have q1 : Ieee.signed s m (i - min i 11).toNat < Ieee.signed false 4503599627370496 ((11 : Int) - min i 11).toNat := by
   simp only [D63, Ieee.Datum.order] at h1
   rcases OG (Ieee.signed s m (i - min i 11).toNat) (Ieee.signed false 4503599627370496 ((11 : Int) - min i 11).toNat) with ⟨q, _⟩ | ⟨_, q⟩ | ⟨_, q⟩
   ·exact q
   ·rw [q] at h1; cases h1
   ·rw [q] at h1; cases h1
  have q2 : Ieee.signed true 4503599627370496 ((11 : Int) - min i 11).toNat ≤ Ieee.signed s m (i - min i 11).toNat := by
   simp only [N63, Ieee.Datum.order] at h2
   rcases OG (Ieee.signed s m (i - min i 11).toNat) (Ieee.signed true 4503599627370496 ((11 : Int) - min i 11).toNat) with ⟨_, q⟩ | ⟨q, _⟩ | ⟨q, _⟩
   ·rw [q] at h2; cases h2
   ·omega
   ·omega
  rw [sj, sj] at q1 q2
  rw [sd]
  cases s with
  | false =>
   simp only [Bool.false_eq_true, if_false] at q1 q2 ⊢
   have q3 : m * 2 ^ (i - min i 11).toNat < 4503599627370496 * 2 ^ ((11 : Int) - min i 11).toNat := by exact Int.ofNat_lt.1 q1
   have hlt : whole m i < 9223372036854775808 := by
    have hp : 0 < 2 ^ ((11 : Int) - min i 11).toNat := Nat.two_pow_pos _
    unfold whole
    by_cases hi : 11 ≤ i
    ·have a1 : (i - min i 11).toNat = (i - 11).toNat := by omega
     have a2 : ((11 : Int) - min i 11).toNat = 0 := by omega
     have a3 : (-i).toNat = 0 := by omega
     rw [a1, a2, Nat.pow_zero, Nat.mul_one] at q3
     rw [a3, Nat.pow_zero, Nat.div_one, Nat.shiftLeft_eq]
     have : i.toNat = (i - 11).toNat + 11 := by omega
     rw [this, Nat.pow_add, ← Nat.mul_assoc]
     exact Nat.mul_lt_mul_of_pos_right q3 (by decide : 0 < 2048)
    ·have a1 : (i - min i 11).toNat = 0 := by omega
     have a2 : ((11 : Int) - min i 11).toNat = (11 - i).toNat := by omega
     rw [a1, a2, Nat.pow_zero, Nat.mul_one] at q3
     by_cases h0 : 0 ≤ i
     ·have a3 : (-i).toNat = 0 := by omega
      rw [a3, Nat.pow_zero, Nat.div_one, Nat.shiftLeft_eq]
      have e : 2 ^ (11 - i).toNat * 2 ^ i.toNat = 2048 := by rw [← Nat.pow_add, show (11 - i).toNat + i.toNat = 11 by omega]
      calc m * 2 ^ i.toNat < 4503599627370496 * 2 ^ (11 - i).toNat * 2 ^ i.toNat := Nat.mul_lt_mul_of_pos_right q3 (Nat.two_pow_pos _)
       _ = 4503599627370496 * 2048 := by rw [Nat.mul_assoc, e]
     ·have a3 : i.toNat = 0 := by omega
      rw [a3, Nat.shiftLeft_zero]
      have e : 2 ^ (11 - i).toNat = 2048 * 2 ^ (-i).toNat := by rw [show (2048 : Nat) = 2 ^ 11 by decide, ← Nat.pow_add, show 11 + (-i).toNat = (11 - i).toNat by omega]
      rw [e, ← Nat.mul_assoc] at q3
      exact Nat.div_lt_of_lt_mul (by rw [Nat.mul_comm]; exact q3)
   refine ⟨by omega, by omega, by omega⟩
  | true =>
   simp only [if_true] at q1 q2 ⊢
   have q3 : m * 2 ^ (i - min i 11).toNat ≤ 4503599627370496 * 2 ^ ((11 : Int) - min i 11).toNat := by
    have := Int.neg_le_neg_iff.1 q2
    exact Int.ofNat_le.1 this
   have hle := Y9 q3
   refine ⟨by omega, by omega, by omega⟩
theorem ov (s : Bool) (m : Nat) (p : Int) : ((Ieee.double.read (Ieee.double.nearest s m p)).order (Ieee.double.read (Ieee.double.nearest s m p)) != some .eq) = false := by
 have key : ∀ (neg : Bool) (R : Nat), R ≤ Ieee.double.infRung → ((Ieee.double.read (Ieee.double.word neg R)).order (Ieee.double.read (Ieee.double.word neg R)) != some .eq) = false := by
  intro neg R hR
  have e0 : Ieee.double.infRung = 9218868437227405312 := by decide
  have e3 : Ieee.double.signWeight = 9223372036854775808 := by decide
  rw [e0] at hR
  have hw : Ieee.double.word neg R = if neg then 9223372036854775808 + R else R := by unfold Ieee.Format.word; rw [e3]
  have hmod : Ieee.double.word neg R % Ieee.double.signWeight = R := by
   rw [hw, e3]
   cases neg
   ·simp only [Bool.false_eq_true, if_false]; omega
   ·simp only [if_true]; omega
  unfold Ieee.Format.read
  simp only [hmod]
  split
  ·rename_i hr
   simp only [Ieee.Datum.order]
   rcases OG (Ieee.signed (Ieee.double.word neg R / Ieee.double.signWeight % 2 == 1) R (Ieee.double.leastPlace - min Ieee.double.leastPlace Ieee.double.leastPlace).toNat) (Ieee.signed (Ieee.double.word neg R / Ieee.double.signWeight % 2 == 1) R (Ieee.double.leastPlace - min Ieee.double.leastPlace Ieee.double.leastPlace).toNat) with h | h | h
   ·omega
   ·rw [h.2]; rfl
   ·omega
  ·split
   ·generalize Ieee.double.binade + R % Ieee.double.binade = k
    generalize Ieee.double.leastPlace + ((R / Ieee.double.binade - 1 : Nat) : Int) = l
    generalize (Ieee.double.word neg R / Ieee.double.signWeight % 2 == 1) = sg
    simp only [Ieee.Datum.order]
    rcases OG (Ieee.signed sg k (l - min l l).toNat) (Ieee.signed sg k (l - min l l).toNat) with h | h | h
    ·omega
    ·rw [h.2]; rfl
    ·omega
   ·split
    ·generalize (Ieee.double.word neg R / Ieee.double.signWeight % 2 == 1) = sg
     cases sg <;> rfl
    ·rename_i h1 h2 h3
     rw [e0] at h2 h3
     omega
 unfold Ieee.Format.nearest
 split
 ·exact key s 0 (Nat.zero_le _)
 ·exact key s _ (Nat.min_le_right _ _)
end Go.Proofs.YtefddghdaimklaaGreatDoor.AI
/- The plain laws of doubles: their order; an int beside a double. -/
namespace Go.Proofs.YtefddghdaimklaaGreatDoor.AI
open Go
def rk : Ieee.Datum → Int
 | .infinity s => if s then -1 else 1
 | .number _ _ _ => 0
 | .nan _ _ => 2
def kv (B : Int) : Ieee.Datum → Int
 | .number s m i => Ieee.signed s m (i - B).toNat
 | _ => 0
def UH : Ieee.Datum → Int
 | .number _ _ i => i
 | _ => 0
theorem i6 (s : Bool) (m u v : Nat) : Ieee.signed s m (u + v) = Ieee.signed s m u * (2 : Int) ^ v := by
 unfold Ieee.signed
 have h : ((m <<< (u + v) : Nat) : Int) = ((m <<< u : Nat) : Int) * (2 : Int) ^ v := by
  rw [Nat.shiftLeft_eq, Nat.shiftLeft_eq, Nat.pow_add, ← Nat.mul_assoc]
  simp
 cases s with
 | true => simp only [if_true]; rw [h, Int.neg_mul]
 | false => simp only [Bool.false_eq_true, if_false]; rw [h]
theorem jB (x y : Int) : (x < y ∧ compare x y = .lt) ∨ (x = y ∧ compare x y = .eq) ∨ (y < x ∧ compare x y = .gt) := by
 show (x < y ∧ compareOfLessAndEq x y = .lt) ∨ (x = y ∧ compareOfLessAndEq x y = .eq) ∨ (y < x ∧ compareOfLessAndEq x y = .gt)
 unfold compareOfLessAndEq
 by_cases h1 : x < y
 ·exact .inl ⟨h1, if_pos h1⟩
 ·by_cases h2 : x = y
  ·exact .inr (.inl ⟨h2, by rw [if_neg h1, if_pos h2]⟩)
  ·exact .inr (.inr ⟨by omega, by rw [if_neg h1, if_neg h2]⟩)
def lk (r k r' k' : Int) : Int := if r < r' ∨ (r = r' ∧ k < k') then -1 else if r' < r ∨ (r = r' ∧ k' < k) then 1 else 0
theorem oF (r k r' k' : Int) : lk r k r' k' = -1 ∨ lk r k r' k' = 0 ∨ lk r k r' k' = 1 := by
 unfold lk
 repeat' split
 all_goals simp
theorem tA (d : Ieee.Datum) : (d.order d != some .eq) = decide (rk d = 2) := by
 cases d with
 | number s m i =>
  have : (Ieee.Datum.number s m i).order (.number s m i) = some .eq := by
   simp only [Ieee.Datum.order]
   rcases jB (Ieee.signed s m (i - min i i).toNat) (Ieee.signed s m (i - min i i).toNat) with h | h | h
   ·omega
   ·rw [h.2]
   ·omega
  rw [this]; rfl
 | infinity s => cases s <;> rfl
 | nan s t => rfl
theorem jT {s : Bool} {m : Nat} {i b B : Int} (h1 : b ≤ i) (h2 : B ≤ b) : Ieee.signed s m (i - B).toNat = Ieee.signed s m (i - b).toNat * (2 : Int) ^ (b - B).toNat := by
 rw [← i6]
 congr 1
 omega
theorem Vt (v : Nat) : (0 : Int) < (2 : Int) ^ v := Int.pow_pos (by decide)
def OV (d e : Ieee.Datum) : Int :=
 bif d.order d != some .eq then (bif e.order e != some .eq then 0 else 1)
 else bif e.order e != some .eq then -1 else bif d.order e == some .lt then -1 else bif d.order e == some .gt then 1 else 0
theorem xK (d e : Ieee.Datum) (B : Int) (h1 : B ≤ UH d) (h2 : B ≤ UH e) : OV d e = lk (rk d) (kv B d) (rk e) (kv B e) := by
 unfold OV
 rw [tA, tA]
 cases d with
 | nan s t => cases e with
  | nan s' t' => rfl
  | infinity s' => cases s' <;> rfl
  | number s' m' i' => rfl
 | infinity s => cases e with
  | nan s' t' => cases s <;> rfl
  | infinity s' => cases s <;> cases s' <;> rfl
  | number s' m' i' => cases s <;> rfl
 | number s m i => cases e with
  | nan s' t' => rfl
  | infinity s' => cases s' <;> rfl
  | number t n j =>
   have h1' : B ≤ i := h1
   have h2' : B ≤ j := h2
   have e1 := jT (s := s) (m := m) (i := i) (b := min i j) (B := B) (Int.min_le_left i j) (by omega)
   have e2 := jT (s := t) (m := n) (i := j) (b := min i j) (B := B) (Int.min_le_right i j) (by omega)
   have hp := Vt (min i j - B).toNat
   simp only [rk, kv, e1, e2, Ieee.Datum.order]
   generalize Ieee.signed s m (i - min i j).toNat = x
   generalize Ieee.signed t n (j - min i j).toNat = y
   generalize (2 : Int) ^ (min i j - B).toNat = p at hp
   rcases jB x y with ⟨q1, q2⟩ | ⟨q1, q2⟩ | ⟨q1, q2⟩
   ·rw [q2]
    have : x * p < y * p := Int.mul_lt_mul_of_pos_right q1 hp
    unfold lk
    rw [if_pos (.inr ⟨rfl, this⟩)]; rfl
   ·rw [q2, q1]
    unfold lk
    rw [if_neg (by omega), if_neg (by omega)]; rfl
   ·rw [q2]
    have : y * p < x * p := Int.mul_lt_mul_of_pos_right q1 hp
    unfold lk
    rw [if_neg (by omega), if_pos (.inr ⟨rfl, this⟩)]; rfl
def dat (a : Nat) : Ieee.Datum := FloatKind.f64.format.read a
theorem wS (a b : Nat) : oU a b = OV (dat a) (dat b) := rfl
theorem jq (a b : Nat) : oU a b = -1 ∨ oU a b = 0 ∨ oU a b = 1 := by
 rw [wS, xK _ _ (min (UH (dat a)) (UH (dat b))) (by omega) (by omega)]
 exact oF _ _ _ _
theorem oy : (FloatKind.f64.format.order 0 0 != some .eq) = false := by kernel_rfl
theorem P7 : oU 0 (Ieee.double.word false 0) = 0 := by kernel_rfl
theorem Qw : oU 0 (Ieee.double.word true 0) = 0 := by kernel_rfl
theorem Zk (b : Bool) (p : Int) : oU 0 (Ieee.double.nearest b 0 p) = 0 := by
 have e : Ieee.double.nearest b 0 p = Ieee.double.word b 0 := by unfold Ieee.Format.nearest; rw [if_pos rfl]
 rw [e]
 cases b
 ·exact P7
 ·exact Qw
theorem Nb : dat 4890909195324358656 = D63 := by kernel_rfl
theorem QT : dat 14114281232179134464 = N63 := by kernel_rfl
theorem ip (s : Bool) (W : Nat) (h : W ≠ 0) : FloatKind.f64.nearest (Ieee.signed s W 0) = Ieee.double.nearest s W 0 := by
 rw [sd]
 show Ieee.double.nearest (decide ((if s then -(W : Int) else (W : Int)) < 0)) (if s then -(W : Int) else (W : Int)).natAbs 0 = _
 cases s with
 | true =>
  simp only [if_true]
  rw [Ln (show -(W : Int) < 0 by omega), Int.natAbs_neg, Int.natAbs_natCast]
 | false =>
  simp only [Bool.false_eq_true, if_false]
  rw [LI (show ¬ (W : Int) < 0 by omega), Int.natAbs_natCast]
theorem nK (s : Bool) (u : Nat) : Ieee.signed s 0 u = 0 := by
 rw [sj]; simp
theorem Y6 (s x : Bool) (m : Nat) (i : Int) (hi : -1074 ≤ i) : (Ieee.Datum.number s m i).sum (.number x 0 (-1074)) =
  some (.number (if Ieee.signed s m (i - -1074).toNat = 0 then s && x else decide (Ieee.signed s m (i - -1074).toNat < 0)) (Ieee.signed s m (i - -1074).toNat).natAbs (-1074)) := by
 have e : min i (-1074) = -1074 := by omega
 simp only [Ieee.Datum.sum, e, nK, Int.add_zero]
theorem y8 (s : Bool) (m : Nat) (p : Int) : (fo (Ieee.double.nearest s m p) (Ieee.double.nearest s m p) != some .eq) = false := ov s m p
structure MixOk (f : Nat) (s : Bool) (m : Nat) (i : Int) : Prop where
 d : dat f = .number s m i
 fits : whole m i < 2 ^ 64
 lo : -9223372036854775808 ≤ Ieee.signed s (whole m i) 0
 hi : Ieee.signed s (whole m i) 0 ≤ 9223372036854775807
theorem Yy (l : Int) : whole 0 l = 0 := by unfold whole; simp
theorem jb {f : Nat} {s : Bool} {m : Nat} {i : Int} (h : MixOk f s m i) : uT f = Ieee.signed s (whole m i) 0 := by
 unfold uT
 have : FloatKind.f64.decode f = .number s m i := h.d
 rw [this, p8]
theorem cP {f : Nat} {s : Bool} {m : Nat} {i : Int} (h : MixOk f s m i) : R4 f = some (Ieee.double.nearest s (whole m i) 0) ∧ Pb .f64 .i64 (Ieee.double.nearest s (whole m i) 0) = some (uT f) := by
 constructor
 ·unfold R4
  have : FloatKind.f64.decode f = .number s m i := h.d
  rw [this]
  simp only [qk]
  rfl
 ·rw [jb h]
  unfold Pb
  have key : (FloatKind.f64.decode (Ieee.double.nearest s (whole m i) 0)).toInt .zero = some (Ieee.signed s (whole m i) 0) := by
   show (Ieee.double.read (Ieee.double.nearest s (whole m i) 0)).toInt .zero = _
   by_cases h0 : whole m i = 0
   ·rw [h0, kj, p8, Yy]
   ·obtain ⟨k, l, e1, e2⟩ := qt (neg := s) h0 h.fits (nC (rO (b := f) h.d).1)
    rw [e1, p8, e2]
  rw [key]
  simp only
  rw [Ln (show IntKind.min .i64 ≤ Ieee.signed s (whole m i) 0 from h.lo), Ln (show Ieee.signed s (whole m i) 0 ≤ IntKind.max .i64 from h.hi)]
  rfl
theorem Vn {f : Nat} {s : Bool} {m : Nat} {i : Int} (h : MixOk f s m i) : ∃ r r', FloatKind.f64.format.sub f (Ieee.double.nearest s (whole m i) 0) = some r ∧ FloatKind.f64.format.sub f (FloatKind.f64.nearest (uT f)) = some r' ∧
  (fo r r != some .eq) = false ∧ (fo r' r' != some .eq) = false ∧ oU 0 r = oU 0 r' := by
 rw [jb h]
 have hd : Ieee.double.read f = .number s m i := h.d
 by_cases h0 : whole m i = 0
 ·rw [h0]
  have en : FloatKind.f64.nearest (Ieee.signed s 0 0) = Ieee.double.nearest false 0 0 := by
   rw [nK]
   rfl
  rw [en]
  have sub0 : ∀ x : Bool, FloatKind.f64.format.sub f (Ieee.double.nearest x 0 0) = some (Ieee.double.nearest (if Ieee.signed s m (i - -1074).toNat = 0 then s && !x else decide (Ieee.signed s m (i - -1074).toNat < 0)) (Ieee.signed s m (i - -1074).toNat).natAbs (-1074)) := by
   intro x
   show ((Ieee.double.read f).sum (Ieee.double.read (Ieee.double.nearest x 0 0)).opposite).map Ieee.double.write = _
   rw [hd, kj]
   show ((Ieee.Datum.number s m i).sum (.number (!x) 0 (-1074))).map Ieee.double.write = _
   rw [Y6 s (!x) m i (rO (b := f) hd).2]
   rfl
  refine ⟨_, _, sub0 s, sub0 false, y8 _ _ _, y8 _ _ _, ?_⟩
  by_cases hT : Ieee.signed s m (i - -1074).toNat = 0
  ·rw [hT]
   simp only [Int.natAbs_zero, Zk]
  ·rw [if_neg hT, if_neg hT]
 ·rw [ip s _ h0]
  obtain ⟨k, l, e1, e2⟩ := qt (neg := s) h0 h.fits (nC (rO (b := f) h.d).1)
  have sub1 : ∃ b M p, FloatKind.f64.format.sub f (Ieee.double.nearest s (whole m i) 0) = some (Ieee.double.nearest b M p) := by
   show ∃ b M p, ((Ieee.double.read f).sum (Ieee.double.read (Ieee.double.nearest s (whole m i) 0)).opposite).map Ieee.double.write = some (Ieee.double.nearest b M p)
   rw [hd, e1]
   exact ⟨_, _, _, rfl⟩
  obtain ⟨b, M, p, e⟩ := sub1
  exact ⟨_, _, e, e, y8 _ _ _, y8 _ _ _, rfl⟩
theorem QG {f : Nat} (h1 : (fo f f != some .eq) = false) (h2 : (fo f 4890909195324358656 == some .gt || fo f 4890909195324358656 == some .eq) = false) (h3 : (fo f 14114281232179134464 == some .lt) = false) : ∃ s m i, MixOk f s m i := by
 have g1 : ((dat f).order (dat f) != some .eq) = false := h1
 have g2 : ((dat f).order D63 == some .gt || (dat f).order D63 == some .eq) = false := by rw [← Nb]; exact h2
 have g3 : ((dat f).order N63 == some .lt) = false := by rw [← QT]; exact h3
 obtain ⟨s, m, i, q1, q2, q3, q4⟩ := XF g1 g2 g3
 exact ⟨s, m, i, q1, q2, q3, q4⟩
theorem UJ (x : Int × Nat) : f175.g 0 x = some (Vu x.1 x.2) := by
 unfold f175.g Vu
 show (bif bif fo x.2 x.2 != some .eq then true else (fo x.2 4890909195324358656 == some .gt || fo x.2 4890909195324358656 == some .eq) then _ else _) = _
 cases h1 : fo x.2 x.2 != some .eq with
 | true => rfl
 | false =>
  simp only [Lj, Bool.false_or]
  cases h2 : (fo x.2 4890909195324358656 == some .gt || fo x.2 4890909195324358656 == some .eq) with
  | true => rfl
  | false =>
   simp only [Lj]
   show (bif fo x.2 14114281232179134464 == some .lt then _ else _) = _
   cases h3 : fo x.2 14114281232179134464 == some .lt with
   | true => rfl
   | false =>
    obtain ⟨s, m, i, h⟩ := QG h1 h2 h3
    obtain ⟨t1, t2⟩ := cP h
    obtain ⟨r, r', q1, q2, q3, q4, q5⟩ := Vn h
    simp only [Lj, t1, t2, Lm, F72, b9, q2]
    cases x.1 != uT x.2 with
    | true => rfl
    | false =>
     simp only [Lj, q1, Lm, oy]
     rw [← q5]
     show (bif fo r r != some .eq then _ else _) = _
     rw [q3]
     unfold oU
     have e0 : (fo 0 0 != some .eq) = false := oy
     rw [e0, q3]
     show (bif fo 0 r == some .lt then some (-1 : Int) else bif fo 0 r == some .gt then some (1 : Int) else some 0) = some (bif fo 0 r == some .lt then -1 else bif fo 0 r == some .gt then 1 else 0)
     cases fo 0 r == some .lt <;> cases fo 0 r == some .gt <;> rfl
theorem YL : ConOk Tryz.prog 175 aA := f175.ok (fun x y h => ⟨0, by cases h; exact UJ x⟩) lf ZB
theorem YE (n : Int) (f : Nat) : Vu n f = -1 ∨ Vu n f = 0 ∨ Vu n f = 1 := by
 unfold Vu
 cases (fo f f != some .eq || (fo f 4890909195324358656 == some .gt || fo f 4890909195324358656 == some .eq)) with
 | true => exact .inl rfl
 | false =>
  cases fo f 14114281232179134464 == some .lt with
  | true => exact .inr (.inr rfl)
  | false =>
   cases n != uT f with
   | true =>
    show nS _ _ = -1 ∨ nS _ _ = 0 ∨ nS _ _ = 1
    unfold nS
    cases decide (n < uT f) <;> cases decide (n > uT f) <;> simp
   | false =>
    simp only [Lj]
    split
    ·exact jq _ _
    ·exact .inr (.inl rfl)
theorem Xv {n : Int} (h : n = -1 ∨ n = 0 ∨ n = 1) : IntKind.wrap .i64 (0 - n) = 0 - n := by
 rcases h with rfl | rfl | rfl <;> rfl
theorem TL (x : zc × zc) : f157.g 0 x = some (R1 x.1 x.2) := by
 simp only [f157.g, F72, F73, j4, Lm, Xv (YE _ _), R1]
 cases x.1.1 == 2 <;> cases x.2.1 == 2 <;> cases x.1.1 == 3 <;> cases x.2.1 == 3 <;> rfl
theorem bV : ConOk Tryz.prog 157 aV := f157.ok (fun x y h => ⟨0, by cases h; exact TL x⟩) lf ex YL
end Go.Proofs.YtefddghdaimklaaGreatDoor.AI
/- The plain laws of values: one order of all of them. -/
namespace Go.Proofs.YtefddghdaimklaaGreatDoor.AI
open Go
theorem bG (a b : Int) : nS a b = lk 0 a 0 b := by
 unfold nS lk
 by_cases h1 : a < b
 ·rw [Ln h1, if_pos (.inr ⟨rfl, h1⟩)]; rfl
 ·rw [LI h1, if_neg (by omega)]
  by_cases h2 : a > b
  ·rw [Ln h2, if_pos (.inr ⟨rfl, h2⟩)]; rfl
  ·rw [LI h2, if_neg (by omega)]; rfl
theorem nc : ∀ (a b : List UInt8), Lib.compareBytes b a = 0 - Lib.compareBytes a b
 | [], [] => rfl
 | [], _ :: _ => rfl
 | _ :: _, [] => rfl
 | a :: l, b :: m => by
  have ih := nc l m
  simp only [Lib.compareBytes]
  by_cases h1 : a < b
  ·have h2 : ¬ b < a := by rw [UInt8.lt_iff_toNat_lt] at *; omega
   rw [if_pos h1, if_neg h2, if_pos h1]; rfl
  ·by_cases h2 : b < a
   ·rw [if_pos h2, if_neg h1, if_pos h2]; rfl
   ·rw [if_neg h2, if_neg h1, if_neg h1, if_neg h2]; exact ih
def NB (a b : zc) : Int :=
 bif a.1 == 1 || a.1 == 2 then nS a.2.1 b.2.1
 else bif a.1 == 3 then oU a.2.2.1 b.2.2.1
 else bif a.1 == 4 || a.1 == 5 then iW a.2.2.2 b.2.2.2 else 0
theorem QM {a b : zc} (h : a.1 ≠ b.1) : kG a b = nS a.1 b.1 := by
 unfold kG
 rw [show (a.1 != b.1) = true by simp; exact h]; rfl
theorem QJ {a b : zc} (h : a.1 = b.1) : kG a b = NB a b := by
 unfold kG NB
 rw [show (a.1 != b.1) = false by simp; exact h]; rfl
theorem WM (a b : ByteArray) : iW b a = 0 - iW a b := nc _ _
theorem nE (a b : zc) : kG a b = -1 ∨ kG a b = 0 ∨ kG a b = 1 := by
 by_cases h : a.1 = b.1
 ·rw [QJ h]
  unfold NB
  cases (a.1 == 1 || a.1 == 2) with
  | true => simp only [Lk, bG]; exact oF _ _ _ _
  | false =>
   cases a.1 == 3 with
   | true => exact jq _ _
   | false =>
    cases (a.1 == 4 || a.1 == 5) with
    | true => exact rn _ _
    | false => exact .inr (.inl rfl)
 ·rw [QM h, bG]; exact oF _ _ _ _
theorem T1 {a b : zc} (h : lH a b = true) : a = b := by
 unfold lH at h
 simp only [Li] at h
 obtain ⟨⟨⟨h1, h2⟩, h3⟩, h4⟩ := h
 exact Prod.ext (eq_of_beq h1) (Prod.ext (eq_of_beq h2) (Prod.ext (eq_of_beq h3) ((zI _ _).1 h4)))
theorem mU {a b : Nat} (h : (fo a a != some .eq) = true) : fo a b = none := by
 have h1 : ((dat a).order (dat a) != some .eq) = true := h
 rw [tA] at h1
 have h2 := LB h1
 show (dat a).order (dat b) = none
 cases hd : dat a with
 | number s m i => rw [hd] at h2; cases h2
 | infinity s => rw [hd] at h2; cases s <;> cases h2
 | nan s t => cases dat b <;> rfl
theorem Sz (x : zc) : f123.g 0 x = some (wX x) := by
 have e : qQ 9221120237041090560 = some cu := rfl
 simp only [f123.g, wX, fo, oy, e, Lm, Lj]
 cases x.1 != 3 <;> cases FloatKind.f64.format.order x.2.2.1 0 == some .eq <;> cases FloatKind.f64.format.order x.2.2.1 x.2.2.1 != some .eq <;> rfl
theorem Yr : ConOk Tryz.prog 123 cQ := f123.ok (fun x y h => ⟨0, by cases h; exact Sz x⟩) pU
end Go.Proofs.YtefddghdaimklaaGreatDoor.AI
/- ua laws of expressions: how many nodes, how deep, what may be. -/
namespace Go.Proofs.YtefddghdaimklaaGreatDoor.AI
open Go
theorem zr {α : Type} {c : Bool} {x y : α} (h : yM c x = some y) : c = true ∧ x = y := by
 unfold yM at h
 cases c with
 | true => exact ⟨rfl, Option.some.inj h⟩
 | false => cases h
theorem zo {α : Type} {c : Bool} {x : α} (h : c = true) : yM c x = some x := by rw [h]; rfl
theorem fi {α : Type} {p : Prop} {x y : α} (h : ifG p x = some y) : p ∧ x = y := by
 unfold ifG at h
 split at h
 ·rename_i hp; exact ⟨hp, Option.some.inj h⟩
 ·cases h
theorem mZ {α : Type} {p : Prop} {x : α} (h : p) : ifG p x = some x := by unfold ifG; rw [if_pos h]
mutual
theorem tT : ∀ (e : zn) (h : Int), 0 ≤ h → h ≤ 262144 → h + 1 ≤ xv e h ∧ xv e h ≤ 262145 ∧ (xv e h ≤ 262144 → xv e h = h + zT e)
 | .node a ks, h, h0, h1 => by
  obtain ⟨q1, q2, q3⟩ := pE ks (h + 1) (by omega) (by omega)
  simp only [xv, zT]
  exact ⟨q1, q2, fun q => by have := q3 q; omega⟩
theorem pE : ∀ (ks : List zn) (h : Int), 0 ≤ h → h ≤ 262145 → h ≤ uk ks h ∧ uk ks h ≤ 262145 ∧ (uk ks h ≤ 262144 → uk ks h = h + xz ks)
 | [], h, h0, h1 => by simp only [uk, xz]; omega
 | k :: r, h, h0, h1 => by
  simp only [uk, xz]
  cases hd : decide (h ≤ 262144) with
  | false =>
   have := of_decide_eq_false hd
   simp only [Lj]; omega
  | true =>
   have hd' := LB hd
   obtain ⟨q1, q2, q3⟩ := tT k h h0 hd'
   obtain ⟨p1, p2, p3⟩ := pE r (xv k h) (by omega) q2
   simp only [Lk]
   exact ⟨by omega, p2, fun q => by have := p3 q; have := q3 (by omega); omega⟩
end
mutual
theorem kI (n : Nat) : ∀ (e : zn) (left deep : Int), 0 ≤ left → ((ry n e left deep).2 = true → (zT e : Int) ≤ left ∧ (ry n e left deep).1 = left - zT e ∧ deep + lD e ≤ 101 ∧ yS n e = true) ∧
  ((zT e : Int) ≤ left → deep + lD e ≤ 101 → yS n e = true → (ry n e left deep).2 = true)
 | .node a ks, left, deep, h0 => by
  simp only [ry, zT, lD, yS]
  cases hc : decide (left - 1 < 0) || decide (deep > 100) with
  | true =>
   simp only [Lk, Bool.or_eq_true, Lt] at hc ⊢
   exact ⟨fun h => (by cases h), fun h1 h2 h3 => by omega⟩
  | false =>
   simp only [Bool.or_eq_false_iff, decide_eq_false_iff_not] at hc
   simp only [Lj]
   cases hl : a.1 == 1 || a.1 == 2 with
   | true =>
    simp only [Lk, wt, hl, Li]
    have hk : rN n a ks.length = true → ks = [] := fun h => by
     unfold rN at h
     have : (ks.length == 0) = true := by
      cases hq : a.1 == 1 <;> rw [hq] at h <;> simp only [Lk, Lj, Li] at h <;> exact h.1
     exact List.length_eq_zero_iff.1 (by simpa using this)
    refine ⟨fun h => ?_, fun _ _ h => h.1⟩
    have hk' := hk h
    subst hk'
    simp only [xz, pK, ux]
    exact ⟨by omega, by omega, by omega, h, trivial⟩
   | false =>
    simp only [Lj, wt, hl]
    cases hi : wF a ks.length with
    | false => simp only [LN, Lk, Bool.false_and]; exact ⟨fun h => (by cases h), fun _ _ h => by cases h⟩
    | true =>
     simp only [LA, Lj, LK]
     obtain ⟨q1, q2⟩ := jY n ks (left - 1) (deep + 1) (by omega) (by omega)
     refine ⟨fun h => ?_, fun h1 h2 h3 => q2 (by omega) (by omega) h3⟩
     obtain ⟨p1, p2, p3, p4⟩ := q1 h
     exact ⟨by omega, by omega, by omega, p4⟩
theorem jY (n : Nat) : ∀ (ks : List zn) (left deep : Int), 0 ≤ left → deep ≤ 101 → ((o5 n ks left deep).2 = true → (xz ks : Int) ≤ left ∧ (o5 n ks left deep).1 = left - xz ks ∧ deep + pK ks ≤ 101 ∧ ux n ks = true) ∧
  ((xz ks : Int) ≤ left → deep + pK ks ≤ 101 → ux n ks = true → (o5 n ks left deep).2 = true)
 | [], left, deep, h0, h1 => by
  simp only [o5, xz, pK, ux]
  exact ⟨fun _ => ⟨by omega, by omega, by omega, trivial⟩, fun _ _ _ => trivial⟩
 | k :: r, left, deep, h0, h1 => by
  obtain ⟨q1, q2⟩ := kI n k left deep h0
  simp only [o5, xz, pK, ux, Li]
  cases hk : (ry n k left deep).2 with
  | false =>
   simp only [LN, Lk]
   refine ⟨fun h => (by cases h), fun p1 p2 p3 => ?_⟩
   have := q2 (by omega) (by omega) p3.1
   rw [hk] at this; exact this
  | true =>
   obtain ⟨p1, p2, p3, p4⟩ := q1 hk
   obtain ⟨r1, r2⟩ := jY n r (ry n k left deep).1 deep (by omega) h1
   simp only [LA, Lj]
   refine ⟨fun h => ?_, fun s1 s2 s3 => r2 (by omega) (by omega) s3.2⟩
   obtain ⟨t1, t2, t3, t4⟩ := r1 h
   exact ⟨by omega, by omega, by omega, p4, t4⟩
end
mutual
theorem tN : ∀ (e : zn) (had deep : Int), ((xi e had deep).2 = true → had + zT e ≤ 1024 ∧ (xi e had deep).1 = had + zT e ∧ deep + lD e ≤ 101) ∧
  (had + zT e ≤ 1024 → deep + lD e ≤ 101 → (xi e had deep).2 = true)
 | .node a ks, had, deep => by
  simp only [xi, zT, lD]
  cases hc : decide (had + 1 > 1024) || decide (deep > 100) with
  | true =>
   simp only [Lk, Bool.or_eq_true, Lt] at hc ⊢
   exact ⟨fun h => (by cases h), fun h1 h2 => by omega⟩
  | false =>
   simp only [Bool.or_eq_false_iff, decide_eq_false_iff_not] at hc
   simp only [Lj]
   obtain ⟨q1, q2⟩ := pN ks (had + 1) (deep + 1) (by omega) (by omega)
   refine ⟨fun h => ?_, fun h1 h2 => q2 (by omega) (by omega)⟩
   obtain ⟨p1, p2, p3⟩ := q1 h
   exact ⟨by omega, by omega, by omega⟩
theorem pN : ∀ (ks : List zn) (had deep : Int), had ≤ 1024 → deep ≤ 101 → ((uv ks had deep).2 = true → had + xz ks ≤ 1024 ∧ (uv ks had deep).1 = had + xz ks ∧ deep + pK ks ≤ 101) ∧
  (had + xz ks ≤ 1024 → deep + pK ks ≤ 101 → (uv ks had deep).2 = true)
 | [], had, deep, h0, h1 => by
  simp only [uv, xz, pK]
  exact ⟨fun _ => ⟨by omega, by omega, by omega⟩, fun _ _ => trivial⟩
 | k :: r, had, deep, h0, h1 => by
  obtain ⟨q1, q2⟩ := tN k had deep
  simp only [uv, xz, pK]
  cases hk : (xi k had deep).2 with
  | false =>
   simp only [Lj]
   refine ⟨fun h => (by cases h), fun p1 p2 => ?_⟩
   have := q2 (by omega) (by omega)
   rw [hk] at this; exact this
  | true =>
   obtain ⟨p1, p2, p3⟩ := q1 hk
   obtain ⟨r1, r2⟩ := pN r (xi k had deep).1 deep (by omega) h1
   simp only [Lk]
   refine ⟨fun h => ?_, fun s1 s2 => r2 (by omega) (by omega)⟩
   obtain ⟨t1, t2, t3⟩ := r1 h
   exact ⟨by omega, by omega, by omega⟩
end
theorem Ri (t : zg) (e : zn) : (ry t.2.1.length e 1024 1).2 = cp t e := by
 obtain ⟨q1, q2⟩ := kI t.2.1.length e 1024 1 (by omega)
 rw [Bool.eq_iff_iff]
 unfold cp
 simp only [Li, Lt]
 exact ⟨fun h => by obtain ⟨a, b, c, d⟩ := q1 h; exact ⟨by omega, by omega, d⟩, fun h => q2 (by omega) (by omega) h.2.2⟩
theorem ab (t : zg) (e : zn) : ((xi e 0 1).2 && yS t.2.1.length e) = cp t e := by
 obtain ⟨q1, q2⟩ := tN e 0 1
 rw [Bool.eq_iff_iff]
 unfold cp
 simp only [Li, Lt]
 exact ⟨fun h => by obtain ⟨a, b, c⟩ := q1 h.1; exact ⟨by omega, by omega, h.2⟩, fun h => ⟨q2 (by omega) (by omega), h.2.2⟩⟩
theorem Zy : ∀ e : zn, 1 ≤ zT e
 | .node a ks => by simp only [zT]; omega
theorem mS : ∀ {ks : List zn} {k : zn}, k ∈ ks → zT k ≤ xz ks
 | k' :: r, k, h => by
  simp only [xz]
  rcases LD.1 h with rfl | h
  ·omega
  ·have := mS h; omega
theorem wI : ∀ ks : List zn, ks.length ≤ xz ks
 | [] => by simp [xz]
 | k :: r => by
  have := wI r
  have := Zy k
  simp only [xz, List.length_cons]; omega
theorem qP : ∀ {ks : List zn}, hP ks = true → ∀ k ∈ ks, oW k = true
 | k' :: r, h, k, hk => by
  simp only [hP, Li] at h
  rcases LD.1 hk with rfl | hk
  ·exact h.1
  ·exact qP h.2 k hk
theorem rx {n : Nat} : ∀ {ks : List zn}, ux n ks = true → ∀ k ∈ ks, yS n k = true
 | k' :: r, h, k, hk => by
  simp only [ux, Li] at h
  rcases LD.1 hk with rfl | hk
  ·exact h.1
  ·exact rx h.2 k hk
theorem gK {a : Int × ByteArray × Int × zc} {ks : List zn} (h : okE (.node a ks) = true) : okS a.2.1 = true ∧ okZ a.2.2.2 = true ∧ okB 96 ks = true ∧ hP ks = true ∧ xz ks + 1 ≤ 1048576 := by
 unfold okE at h
 simp only [oW, zT, Li, Lt] at h
 exact ⟨h.2.1, h.2.2.1, h.2.2.2.1, h.2.2.2.2, by first | exact h.1 | exact LB h.1⟩
theorem TR {a : Int × ByteArray × Int × zc} {ks : List zn} (h : okE (.node a ks) = true) {k : zn} (hk : k ∈ ks) : okE k = true ∧ zT k < xz ks + 1 := by
 obtain ⟨_, _, _, h4, h5⟩ := gK h
 have h1 := mS hk
 have h2 := qP h4 k hk
 unfold okE
 rw [h2, Ln (show zT k ≤ 1048576 by omega)]
 exact ⟨rfl, by omega⟩
theorem PZ {e : zn} (h : oW e = true) : okE (YD e) = true := by
 obtain ⟨q1, q2, q3⟩ := tT e 0 (by omega) (by omega)
 unfold YD
 cases hc : decide (xv e 0 > 262144) with
 | true => rw [Lk]; rfl
 | false =>
  have hc' := of_decide_eq_false hc
  have := q3 (by omega)
  rw [Lj]
  unfold okE
  rw [h, Ln (show zT e ≤ 1048576 by omega)]
  rfl
theorem oQ {l : List ByteArray} {s : ByteArray} (h : inS l s = true) : s ∈ l := by
 unfold inS at h
 obtain ⟨w, hw, he⟩ := List.any_eq_true.1 h
 rw [← (zI _ _).1 he]; exact hw
theorem ak (op : ByteArray) (a b : Int) : (Qb op a b).2 = (Uf op a b).2 ∧ ((Uf op a b).2 = true → (Qb op a b).1 = (Uf op a b).1) := by
 unfold Qb Uf wC
 by_cases a0 : a = 0
 ·subst a0; exact ⟨rfl, fun _ => rfl⟩
 have ea : (a == 0) = false := by simpa using a0
 have ha : a = 2 ∨ a = 3 ∨ ((a == 2) = false ∧ (a == 3) = false) := by
  by_cases h2 : a = 2
  ·exact .inl h2
  ·by_cases h3 : a = 3
   ·exact .inr (.inl h3)
   ·exact .inr (.inr ⟨by simpa using h2, by simpa using h3⟩)
 have hb : b = 2 ∨ b = 3 ∨ b = 0 ∨ ((b == 2) = false ∧ (b == 3) = false ∧ (b == 0) = false) := by
  by_cases h2 : b = 2
  ·exact .inl h2
  ·by_cases h3 : b = 3
   ·exact .inr (.inl h3)
   ·by_cases h0 : b = 0
    ·exact .inr (.inr (.inl h0))
    ·exact .inr (.inr (.inr ⟨by simpa using h2, by simpa using h3, by simpa using h0⟩))
 rcases ha with rfl | rfl | ⟨a2, a3⟩ <;> rcases hb with rfl | rfl | rfl | ⟨b2, b3, b0⟩ <;> cases hr : zd op iL <;>
  first
   | exact ⟨rfl, fun _ => rfl⟩
   | exact ⟨rfl, fun h => by cases h⟩
   | (simp only [ea, a2, a3, b2, b3, b0, bne, Bool.or_self, LN, Bool.true_or, Bool.or_true, Lr, Bool.and_true, LK, Bool.or_false, Bool.false_or, Lk, Lj]; first | exact ⟨rfl, fun _ => rfl⟩ | exact ⟨rfl, fun h => by cases h⟩)
   | (simp only [b2, b3, b0, bne, Bool.or_self, LN, Bool.true_or, Bool.or_true, Lr, Bool.and_true, LK, Bool.or_false, Bool.false_or, Lk, Lj]; first | exact ⟨rfl, fun _ => rfl⟩ | exact ⟨rfl, fun h => by cases h⟩)
   | (simp [ea, a2, a3, b2, b3, b0]; done)
   | (simp [ea, a2, a3]; done)
   | (simp [b2, b3, b0]; done)
   | (simp only [ea, a2, a3, bne, Bool.or_self, LN, Bool.true_or, Bool.or_true, Lr, Bool.and_true, LK, Bool.or_false, Bool.false_or, Lk, Lj]; first | exact ⟨rfl, fun _ => rfl⟩ | exact ⟨rfl, fun h => by cases h⟩)
theorem sX (op : ByteArray) (a b : Int) : (rC op a b).2 = (vW op a b).2 ∧ ((vW op a b).2 = true → (rC op a b).1 = (vW op a b).1) := by
 unfold rC vW
 cases a == 0
 ·exact ak op a b
 ·exact ak op b a
def il (op : ByteArray) (x y : Int) : Int × Bool := bif inS arL op then rC op x y else bif inS cpL op then (1, oS x y) else (1, uq x && uq y)
def qp (op : ByteArray) (x y : Int) : Int × Bool := bif zd op tG then (1, uq x) else bif inS cpL op then (1, oS x y) else bif zd op xY || zd op orS then (1, uq x && uq y) else vW op x y
def unM (op : ByteArray) (x : Int) : Int × Bool := bif zd op cq then (x, wC x || x == 0) else (1, !(zd op tG) || uq x)
def unN (op : ByteArray) (x : Int) : Int × Bool := bif zd op cq then (x, wC x || x == 0) else bif zd op tG then (1, uq x) else (1, true)
theorem PF {op : ByteArray} (h : op ∈ unL) (x : Int) : unM op x = unN op x := by
 unfold unM unN
 cases zd op cq with
 | true => rfl
 | false => cases zd op tG <;> rfl
theorem TF {op : ByteArray} (h : op ∈ biL) (x y : Int) : (il op x y).2 = (qp op x y).2 ∧ ((qp op x y).2 = true → (il op x y).1 = (qp op x y).1) := by
 simp only [biL, LD, List.not_mem_nil, or_false] at h
 rcases h with rfl | rfl | rfl | rfl | rfl | rfl | rfl | rfl | rfl | rfl | rfl | rfl | rfl
 ·have e1 : il ⟨#[43]⟩ x y = rC ⟨#[43]⟩ x y := by kernel_rfl
  have e2 : qp ⟨#[43]⟩ x y = vW ⟨#[43]⟩ x y := by kernel_rfl
  rw [e1, e2]; exact sX _ x y
 ·have e1 : il ⟨#[45]⟩ x y = rC ⟨#[45]⟩ x y := by kernel_rfl
  have e2 : qp ⟨#[45]⟩ x y = vW ⟨#[45]⟩ x y := by kernel_rfl
  rw [e1, e2]; exact sX _ x y
 ·have e1 : il ⟨#[42]⟩ x y = rC ⟨#[42]⟩ x y := by kernel_rfl
  have e2 : qp ⟨#[42]⟩ x y = vW ⟨#[42]⟩ x y := by kernel_rfl
  rw [e1, e2]; exact sX _ x y
 ·have e1 : il ⟨#[47]⟩ x y = rC ⟨#[47]⟩ x y := by kernel_rfl
  have e2 : qp ⟨#[47]⟩ x y = vW ⟨#[47]⟩ x y := by kernel_rfl
  rw [e1, e2]; exact sX _ x y
 ·have e1 : il ⟨#[37]⟩ x y = rC ⟨#[37]⟩ x y := by kernel_rfl
  have e2 : qp ⟨#[37]⟩ x y = vW ⟨#[37]⟩ x y := by kernel_rfl
  rw [e1, e2]; exact sX _ x y
 ·have e : il ⟨#[61]⟩ x y = qp ⟨#[61]⟩ x y := by kernel_rfl
  rw [e]; exact ⟨rfl, fun _ => rfl⟩
 ·have e : il ⟨#[60, 62]⟩ x y = qp ⟨#[60, 62]⟩ x y := by kernel_rfl
  rw [e]; exact ⟨rfl, fun _ => rfl⟩
 ·have e : il ⟨#[60]⟩ x y = qp ⟨#[60]⟩ x y := by kernel_rfl
  rw [e]; exact ⟨rfl, fun _ => rfl⟩
 ·have e : il ⟨#[60, 61]⟩ x y = qp ⟨#[60, 61]⟩ x y := by kernel_rfl
  rw [e]; exact ⟨rfl, fun _ => rfl⟩
 ·have e : il ⟨#[62]⟩ x y = qp ⟨#[62]⟩ x y := by kernel_rfl
  rw [e]; exact ⟨rfl, fun _ => rfl⟩
 ·have e : il ⟨#[62, 61]⟩ x y = qp ⟨#[62, 61]⟩ x y := by kernel_rfl
  rw [e]; exact ⟨rfl, fun _ => rfl⟩
 ·have e : il ⟨#[97, 110, 100]⟩ x y = qp ⟨#[97, 110, 100]⟩ x y := by kernel_rfl
  rw [e]; exact ⟨rfl, fun _ => rfl⟩
 ·have e : il ⟨#[111, 114]⟩ x y = qp ⟨#[111, 114]⟩ x y := by kernel_rfl
  rw [e]; exact ⟨rfl, fun _ => rfl⟩
theorem vn {a : Int × ByteArray × Int × zc} {m : Nat} (h : Qf a m = true) : (a.1 = 3 ∧ m = 1 ∧ a.2.1 ∈ unL) ∨ (a.1 = 4 ∧ m = 2 ∧ a.2.1 ∈ biL) ∨ (a.1 = 5 ∧ 2 ≤ m ∧ a.2.1 = noS) := by
 obtain ⟨k, op, c, v⟩ := a
 unfold Qf at h
 simp only at h ⊢
 by_cases h3 : k = 3
 ·subst h3
  simp only [show ((3 : Int) == 3) = true from rfl, Lk, Li] at h
  exact .inl ⟨rfl, by simpa using h.1, oQ h.2⟩
 by_cases h4 : k = 4
 ·subst h4
  simp only [show ((4 : Int) == 3) = false from rfl, show ((4 : Int) == 4) = true from rfl, Lk, Lj, Li] at h
  refine .inr (.inl ⟨rfl, by simpa using h.1, ?_⟩)
  have := h.2
  simp only [Bool.or_eq_true] at this
  rcases this with h | h | h | h
  ·have := oQ h
   simp only [arL, LD, List.not_mem_nil, or_false] at this
   simp only [biL, LD]
   rcases this with rfl | rfl | rfl | rfl | rfl <;> simp
  ·have := oQ h
   simp only [cpL, LD, List.not_mem_nil, or_false] at this
   simp only [biL, LD]
   rcases this with rfl | rfl | rfl | rfl | rfl | rfl <;> simp
  ·rw [(zI _ _).1 h]; simp [biL, xY]
  ·rw [(zI _ _).1 h]; simp [biL, orS]
 ·have e3 : (k == 3) = false := by simpa using h3
  have e4 : (k == 4) = false := by simpa using h4
  rw [e3, e4] at h
  simp only [Lj] at h
  cases h5 : k == 5 with
  | false => rw [h5] at h; cases h
  | true =>
   rw [h5] at h
   simp only [Lk, Li, Lt] at h
   exact .inr (.inr ⟨by simpa using h5, h.1, (zI _ _).1 h.2⟩)
theorem ZM {n m : Nat} {cs : List Int} {a : Int × ByteArray × Int × zc} {l : List Int} (hf : wt n a m = true) (hl : l.length = m) :
  (iB cs a l).2 = (wY cs a l).2 ∧ ((wY cs a l).2 = true → (iB cs a l).1 = (wY cs a l).1) := by
 obtain ⟨k, op, c, v⟩ := a
 by_cases h1 : k = 1
 ·subst h1; exact ⟨rfl, fun _ => rfl⟩
 by_cases h2 : k = 2
 ·subst h2; exact ⟨rfl, fun _ => rfl⟩
 have e1 : (k == 1) = false := by simpa using h1
 have e2 : (k == 2) = false := by simpa using h2
 simp only [wt, e1, e2, Bool.or_self, Lj, wF, Li] at hf
 unfold iB wY
 simp only [e1, e2, Lj]
 rcases vn hf.1 with ⟨h, hm, hop⟩ | ⟨h, hm, hop⟩ | ⟨h, hm, hop⟩ <;> simp only at h hop <;> subst h
 ·have hm' : l.length = 1 := by omega
  simp only [show ((3 : Int) == 3) = true from rfl, show ((3 : Int) == 5) = false from rfl, Lk, Lj, hm', show ((1 : Nat) == 1) = true from rfl, Bool.and_true]
  have e : unM op (l.getD 0 0) = unN op (l.getD 0 0) := PF hop _
  unfold unM unN at e
  rw [e]; exact ⟨rfl, fun _ => rfl⟩
 ·have hm' : l.length = 2 := by omega
  simp only [show ((4 : Int) == 3) = false from rfl, show ((4 : Int) == 5) = false from rfl, Lj, hm', show ((2 : Nat) == 1) = false from rfl, Bool.and_false]
  exact TF hop _ _
 ·simp only [show ((5 : Int) == 3) = false from rfl, show ((5 : Int) == 5) = true from rfl, Lk, Lj]
  cases (l.drop 1).any fun x => !oS (l.getD 0 0) x with
  | true => exact ⟨rfl, fun h => by cases h⟩
  | false => exact ⟨rfl, fun _ => rfl⟩
end Go.Proofs.YtefddghdaimklaaGreatDoor.AI
