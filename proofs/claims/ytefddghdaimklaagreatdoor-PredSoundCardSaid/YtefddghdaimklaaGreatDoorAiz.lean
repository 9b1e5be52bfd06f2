/- A part of the proof. -/
import Derived.Test.YtefddghdaimklaaGreatDoorAiw
set_option linter.unusedVariables false
set_option linter.unusedSimpArgs false
namespace Go.Proofs.YtefddghdaimklaaGreatDoor.AI
open Go
section
variable {P : Program} {T : TypeId → Option TI} {env : FuncId → Option Con} {ann : FuncId → Nat → Ann} {code : FuncId → Option Func}
theorem ef {x x' : Cx} {f : FuncId} {vals : Array Value} {rs : Sig} {Y : rs.den} (hI : Inv x) (hxw : x'.w = x.w) (hxH : x'.H = []) (hok : (∀ p ∈ rs, p.2.flat = true) ∨ x'.ok = x.ok)
  (h : Does P (callFunc f vals) x'.w fun u w' => ∃ y' v H', y'.w = w' ∧ zq rs v H' = some Y ∧ Left x' 0 v H' u y') :
  Does P (callFunc f vals) x.w fun u w' => ∃ y : Cx, y.w = w' ∧ y.H = x.H ∧ Inv y ∧ Kept x y ∧ (∀ id, IdOk x y id) ∧ Carry (fun c => c) x y ∧ RepV y (jY rs Y) u := by
 rw [← hxw]
 refine h.mono ?_
 rintro u w' ⟨y', v, H', rfl, hk, hL⟩
 have hnm : ∀ b, ¬ x'.mine b := by
  rintro b ⟨i, o, h1, _⟩
  rw [hxH] at h1; simp at h1
 have hblk : ∀ b, b < x.w.heap.size → y'.w.heap[b]? = x.w.heap[b]? := fun b hb => by
  have := hL.kept.block b (by rw [hxw]; exact hb) (hnm b)
  rw [this, hxw]
 let y : Cx := { ok := fun b => x.ok b ∨ (x.w.heap.size ≤ b ∧ (y'.ok b ∨ y'.mine b)), at_ := x.at_, w := y'.w, H := x.H }
 have hkin : Kin x y := ⟨fun b hb => .inl hb, fun b hb => hblk b (hI.okb b hb)⟩
 have hids : ∀ id, IdOk x y id := fun id => IdOk.same hI rfl rfl (fun b _ hb => hblk b hb)
 have hcar : Carry (fun c => c) x y := Carry.id_of hkin (fun id _ => hids id)
 have hsz : x.w.heap.size ≤ y'.w.heap.size := by have := hL.kept.size; rw [hxw] at this; exact this
 have hmineb : ∀ b, y'.mine b → x.w.heap.size ≤ b := fun b hb => by
  rcases hL.kept.mine b hb with h | h
  ·exact absurd h (hnm b)
  ·rw [hxw] at h; exact h
 have hinv : Inv y := by
  refine ⟨fun b hb => ?_, hI.inj, fun i b o h1 h2 h3 h4 => ?_, fun i o h => ?_, hI.tab.kin hkin⟩
  ·rcases hb with hb | ⟨_, hb | ⟨i, o, h1, h2, h3⟩⟩
   ·exact Nat.lt_of_lt_of_le (hI.okb b hb) hsz
   ·exact hL.inv.okb b hb
   ·exact hL.inv.lt h1 h2 h3
  ·rcases h4 with h4 | ⟨h4, _⟩
   ·exact hI.off i b o h1 h2 h3 h4
   ·have := hI.lt h1 h2 h3; omega
  ·by_cases hd : o = .dead
   ·subst hd; trivial
   ·exact (hI.obs i o h).keep hkin hcar rfl (fun b hb => hblk b (hI.lt h hd hb))
 have hval : RepV y (jY rs Y) u := by
  rw [← hL.H] at hk
  refine tF hL.inv hk hL.val (fun p hp dd vs hrep => ?_)
  rcases hok with hfl | hokx
  ·exact s0 _ _ _ (hfl p hp) hrep
  ·refine RepT.imp (fun b hb => ?_) (fun b hb => rfl) _ _ _ hrep
   rcases hb with hb | hb
   ·rcases hL.kept.oknew b hb with h1 | h1 | h1
    ·left; rw [← hokx]; exact h1
    ·exact absurd h1 (hnm b)
    ·right; rw [hxw] at h1; exact ⟨h1, .inl hb⟩
   ·exact .inr ⟨hmineb b hb, .inr hb⟩
 refine ⟨y, rfl, rfl, hinv, ?_, hids, hcar, hval⟩
 have k1 := hL.kept.os; have k2 := hL.kept.tape; have k3 := hL.kept.output
 rw [hxw] at k1 k2 k3
 refine ⟨k1, k2, k3, hsz, fun b hb _ => hblk b hb, fun b hb => .inl hb, fun b hb => .inl hb, fun b hb => ?_⟩
 rcases hb with hb | ⟨hb, _⟩
 ·exact .inl hb
 ·exact .inr (.inr hb)
inductive Pm : Type where
 | dat (g : Bool) (t : Ty)
 | clo (f : FuncId) (s : Sig)
 | ref (t : Ty)
@[reducible] def Pm.den : Pm → Type
 | .dat _ t => t.den
 | .clo _ s => s.den
 | .ref t => t.den
@[reducible] def PmL : List Pm → Type
 | [] => Unit
 | [p] => p.den
 | p :: q :: l => p.den × PmL (q :: l)
def W8 : (s : Sig) → s.den → List ((t : Ty) × t.den)
 | [], _ => []
 | [p], x => [⟨p.2, x⟩]
 | p :: q :: l, x => ⟨p.2, x.1⟩ :: W8 (q :: l) x.2
def Pm.av : (p : Pm) → p.den → AV
 | .dat g t, x => .val g (t.cells x)
 | .clo f s, x => match s with
  | [] => .val false [.fn f []]
  | p :: l => .val false [.fnr f (W8 (p :: l) x)]
 | .ref t, x => .val false [.elr t x 0]
def avL : (s : List Pm) → PmL s → List AV
 | [], _ => []
 | [p], x => [p.av x]
 | p :: q :: l, x => p.av x.1 :: avL (q :: l) x.2
def qy (H : List Ob) (p : Nat × Nat) : AV :=
 match H[p.1]? with
 | some (.box cs) => bif Nat.beq p.2 0 then .val true (cs.map (roC H)) else .undef
 | _ => .undef
def hZ {u t : Ty} (x : u.den) : Option t.den := if h : u = t then some (h ▸ x) else none
def sO : (s : Sig) → List ((t : Ty) × t.den) → Option s.den
 | [], [] => some ()
 | [p], [a] => hZ (t := p.2) a.2
 | p :: q :: l, a :: avs => match hZ (t := p.2) a.2 with
  | some x => match sO (q :: l) avs with
   | some y => some (x, y)
   | none => none
  | none => none
 | _, _ => none
def tO (H : List Ob) (f : FuncId) (s : Sig) : AV → Option s.den
 | .val false [.fn g caps] => bif Nat.beq g f then zU s (caps.map (qy H)) else none
 | .val false [.fnr g caps] => bif Nat.beq g f then sO s caps else none
 | _ => none
def hB (H : List Ob) (t : Ty) : AV → Option t.den
 | .val false [.ptr id off] => nj (true, t) (qy H (id, off))
 | .val false [.elr u x off] => bif Nat.beq off 0 then hZ (t := t) x else none
 | _ => none
def jy (H : List Ob) : (p : Pm) → AV → Option p.den
 | .dat g t, a => nj (g, t) a
 | .clo f s, a => tO H f s a
 | .ref t, a => hB H t a
theorem WM {H : List Ob} {a : AV} {c : C} (hc : ∀ id n, c ≠ .own id n) (ho : ∀ t xs, c ≠ .sc t xs) (hu : c ≠ .undef) (he : roV H a = .val false [c]) : a = .val false [c] := by
 cases a with
 | val g' cs =>
  simp only [roV, AV.val.injEq] at he
  obtain ⟨rfl, h2⟩ := he
  cases cs with
  | nil => simp at h2
  | cons d r =>
   simp only [NN, List.cons.injEq, List.map_eq_nil_iff] at h2
   obtain ⟨h2, rfl⟩ := h2
   cases d with
   | own id n =>
    simp only [roC] at h2
    split at h2
    ·exact absurd h2.symm (ho _ _)
    ·exact absurd h2.symm hu
   | mp id =>
    simp only [roC] at h2
    split at h2
    ·exact absurd h2.symm (ho _ _)
    ·exact absurd h2.symm hu
   | _ => simp only [roC] at h2; rw [h2]
 | _ => simp [roV] at he
theorem qr {H : List Ob} {f : FuncId} {s : Sig} {a : AV} {X : s.den} (h : tO H f s (roV H a) = some X) :
  (∃ caps, a = .val false [.fn f caps] ∧ zU s (caps.map (qy H)) = some X) ∨ (∃ caps, a = .val false [.fnr f caps] ∧ sO s caps = some X) := by
 unfold tO at h
 split at h
 ·rename_i g caps he
  cases hb : Nat.beq g f with
  | false => rw [hb] at h; cases h
  | true =>
   rw [hb] at h
   have := Nz hb
   subst this
   exact .inl ⟨caps, WM (by simp) (by simp) (by simp) he, h⟩
 ·rename_i g caps he
  cases hb : Nat.beq g f with
  | false => rw [hb] at h; cases h
  | true =>
   rw [hb] at h
   have := Nz hb
   subst this
   exact .inr ⟨caps, WM (by simp) (by simp) (by simp) he, h⟩
 ·cases h
theorem qu {H : List Ob} {t : Ty} {a : AV} {X : t.den} (h : hB H t (roV H a) = some X) :
  (∃ id off, a = .val false [.ptr id off] ∧ nj (true, t) (qy H (id, off)) = some X) ∨ (∃ u x, a = .val false [.elr u x 0] ∧ hZ (t := t) x = some X) := by
 unfold hB at h
 split at h
 ·rename_i id off he
  exact .inl ⟨id, off, WM (by simp) (by simp) (by simp) he, h⟩
 ·rename_i u x off he
  cases hb : Nat.beq off 0 with
  | false => rw [hb] at h; cases h
  | true =>
   rw [hb] at h
   have := Nz hb
   subst this
   exact .inr ⟨u, x, WM (by simp) (by simp) (by simp) he, h⟩
 ·cases h
def yj (H : List Ob) : (s : List Pm) → List AV → Option (PmL s)
 | [], [] => some ()
 | [p], [a] => jy H p a
 | p :: q :: l, a :: avs => match jy H p a with
  | some x => match yj H (q :: l) avs with
   | some y => some (x, y)
   | none => none
  | none => none
 | _, _ => none
theorem rV (H l : List Ob) (s : Sig) (p : Nat × Nat) : ∀ (q : Bool × Ty) (d : q.2.den), nj q (qy H p) = some d → nj q (qy (H ++ l) p) = some d := by
 intro q d h
 unfold qy at h ⊢
 split at h
 ·rename_i cs hx
  have hlt : p.1 < H.length := (NB.1 hx).1
  rw [List.getElem?_append_left hlt, hx]
  simp only
  cases hb : Nat.beq p.2 0 with
  | true =>
   rw [hb] at h
   exact s5 H l q (.val true cs) d h
  | false => rw [hb] at h; exact h
 ·cases q; simp [nj] at h
theorem ju (H l : List Ob) : ∀ (s : Sig) (caps : List (Nat × Nat)) (X : s.den), zU s (caps.map (qy H)) = some X → zU s (caps.map (qy (H ++ l))) = some X
 | [], [], X, h => h
 | [], _ :: _, X, h => by simp [zU] at h
 | [p], [], X, h => by simp [zU] at h
 | [p], [a], X, h => rV H l [p] a p X h
 | [p], _ :: _ :: _, X, h => by simp [zU] at h
 | p :: q :: r, [], X, h => by simp [zU] at h
 | p :: q :: r, a :: avs, X, h => by
  simp only [NN, zU] at h ⊢
  split at h
  ·rename_i d hd
   split at h
   ·rename_i Y hY
    cases h
    rw [rV H l [] a p d hd, ju H l (q :: r) avs Y hY]
   ·cases h
  ·cases h
theorem ow (H l : List Ob) (p : Pm) (a : AV) (X : p.den) (h : jy H p (roV H a) = some X) : jy (H ++ l) p (roV (H ++ l) a) = some X := by
 cases p with
 | dat g t => exact s5 H l (g, t) a X h
 | clo f s =>
  rcases qr (s := s) h with ⟨caps, rfl, h2⟩ | ⟨caps, rfl, h2⟩
  ·show tO (H ++ l) f s (.val false [.fn f caps]) = some X
   simp only [tO, Nat.beq_refl, Nv]
   exact ju H l s caps X h2
  ·show tO (H ++ l) f s (.val false [.fnr f caps]) = some X
   simp only [tO, Nat.beq_refl, Nv]
   exact h2
 | ref t =>
  rcases qu h with ⟨id, off, rfl, h2⟩ | ⟨u, x, rfl, h2⟩
  ·exact rV H l [] (id, off) (true, t) X h2
  ·exact h2
theorem ou (H l : List Ob) : ∀ (s : List Pm) (avs : List AV) (X : PmL s), yj H s (avs.map (roV H)) = some X → yj (H ++ l) s (avs.map (roV (H ++ l))) = some X
 | [], [], X, h => h
 | [], _ :: _, X, h => by simp [yj] at h
 | [p], [], X, h => by simp [yj] at h
 | [p], [a], X, h => ow H l p a X h
 | [p], _ :: _ :: _, X, h => by simp [yj] at h
 | p :: q :: r, [], X, h => by simp [yj] at h
 | p :: q :: r, a :: avs, X, h => by
  simp only [NN, yj] at h ⊢
  split at h
  ·rename_i d hd
   split at h
   ·rename_i Y hY
    cases h
    rw [ow H l p a d hd, ou H l (q :: r) avs Y hY]
   ·cases h
  ·cases h
theorem bI {x : Cx} (hI : Inv x) : ∀ (p : Bool × Ty) (c : Nat × Nat) (d : p.2.den) (v : Value), nj p (qy x.H c) = some d → RepP x c.1 c.2 v → RepE x.lend.bare p.2 d 0 v := by
  intro p c d v h hv
  unfold qy at h
  split at h
  ·rename_i cs hx
   cases hb : Nat.beq c.2 0 with
   | false => rw [hb] at h; cases p; simp [nj] at h
   | true =>
    rw [hb] at h
    have h0 := Nz hb
    simp only [RepP, hx] at hv
    obtain ⟨b, hat, rfl⟩ := hv
    obtain ⟨b', vs, e, h1, h2, h3⟩ := hI.obs _ _ hx
    rw [hat] at h1; cases h1
    have h4 := RepCs.carry (Carry.lend hI) _ _ h3
    simp only [Nv, nj] at h
    split at h
    ·have h5 := zQ h h4
     refine ⟨b, 0, vs.toList, by rw [h0], .inr ⟨c.1, _, hx, by simp, hat⟩, h5, fun j u hj => ?_⟩
     show x.w.cell? ⟨b, 0 + j, none⟩ = some u
     simp only [World.cell?, h2, Nat.zero_add]
     simpa using hj
    ·cases h
  ·cases p; simp [nj] at h
theorem di {x : Cx} (hI : Inv x) : ∀ (s : Sig) (caps : List (Nat × Nat)) (X : s.den) (vs : List Value), zU s (caps.map (qy x.H)) = some X → RepCaps x caps vs → RepRo x.lend.bare (W8 s X) vs := by
 have one := bI hI
 intro s
 induction s with
 | nil =>
  intro caps X vs h hv
  cases caps with
  | nil => exact hv
  | cons a r => simp [zU] at h
 | cons p l ih =>
  intro caps X vs h hv
  cases l with
  | nil =>
   match caps with
   | [] => simp [zU] at h
   | [a] =>
    obtain ⟨v, r, h1, h2, h3, h4⟩ := hv
    exact ⟨v, r, h1, one p a X v h h3, h4⟩
   | _ :: _ :: _ => simp [zU] at h
  | cons q l =>
   cases caps with
   | nil => simp [zU] at h
   | cons a avs =>
    simp only [NN, zU] at h
    split at h
    ·rename_i d hd
     split at h
     ·rename_i Y hY
      cases h
      obtain ⟨v, r, h1, h2, h3, h4⟩ := hv
      exact ⟨v, r, h1, one p a d v hd h3, ih avs Y r hY h4⟩
     ·cases h
    ·cases h
theorem dH {u t : Ty} {x : u.den} {y : t.den} (h : hZ (t := t) x = some y) : ∃ e : u = t, y = e ▸ x := by
 unfold hZ at h
 split at h
 ·rename_i e; cases h; exact ⟨e, rfl⟩
 ·cases h
theorem Vs {x : Cx} : ∀ (t : Ty) (a : (t : Ty) × t.den) (d : t.den) (v : Value), hZ (t := t) a.2 = some d → RepE x a.1 a.2 0 v → RepE x.lend.bare t d 0 v := by
  intro t a d v h hv
  obtain ⟨u, y⟩ := a
  obtain ⟨e, rfl⟩ := dH h
  simp only at e
  subst e
  obtain ⟨b, o, us, r1, r2, r3, r4⟩ := hv
  exact ⟨b, o, us, r1, .inl r2, RepT.imp (fun b hb => .inl hb) (fun b hb => rfl) _ _ _ r3, r4⟩
theorem XZ {x : Cx} : ∀ (s : Sig) (caps : List ((t : Ty) × t.den)) (X : s.den) (vs : List Value), sO s caps = some X → RepRo x caps vs → RepRo x.lend.bare (W8 s X) vs := by
 have one := Vs (x := x)
 intro s
 induction s with
 | nil =>
  intro caps X vs h hv
  cases caps with
  | nil => exact hv
  | cons a r => simp [sO] at h
 | cons p l ih =>
  intro caps X vs h hv
  cases l with
  | nil =>
   match caps with
   | [] => simp [sO] at h
   | [⟨u, y⟩] =>
    obtain ⟨v, r, h1, h2, h3⟩ := hv
    exact ⟨v, r, h1, one p.2 ⟨u, y⟩ X v h h2, h3⟩
   | _ :: _ :: _ => simp [sO] at h
  | cons q l =>
   match caps with
   | [] => simp [sO] at h
   | ⟨u, y⟩ :: avs =>
    simp only [sO] at h
    split at h
    ·rename_i d hd
     split at h
     ·rename_i Y hY
      cases h
      obtain ⟨v, r, h1, h2, h3⟩ := hv
      exact ⟨v, r, h1, one p.2 ⟨u, y⟩ d v hd h2, ih avs Y r hY h3⟩
     ·cases h
    ·cases h
theorem qt {x : Cx} (hI : Inv x) (p : Pm) (a : AV) (X : p.den) (u : Value) (h : jy x.H p (roV x.H a) = some X) (hu : RepV x a u) : RepV x.lend.bare (p.av X) u := by
 cases p with
 | dat g t =>
  have := wM hI [a] [u] ⟨u, [], rfl, hu, rfl⟩
  obtain ⟨v, r, h1, h2, h3⟩ := this
  cases h1
  exact wX (x := x.lend) (y := x.lend.bare) (p := (g, t)) (fun vs h => h) (wk h h2)
 | clo f s =>
  rcases qr (s := s) h with ⟨caps, rfl, h2⟩ | ⟨caps, rfl, h2⟩
  ·have hc := zG hu
   obtain ⟨vs, h3, h4⟩ := hc.2
   have h5 := di hI s caps X _ h2 h4
   cases s with
   | nil => exact zF ⟨hc.1, vs, h3, h5⟩
   | cons p l => exact zF ⟨hc.1, vs, h3, h5⟩
  ·have hc := zG hu
   obtain ⟨vs, h3, h4⟩ := hc.2
   have h5 := XZ s caps X _ h2 h4
   cases s with
   | nil => exact zF ⟨hc.1, vs, h3, h5⟩
   | cons p l => exact zF ⟨hc.1, vs, h3, h5⟩
 | ref t =>
  rcases qu h with ⟨id, off, rfl, h2⟩ | ⟨u', y, rfl, h2⟩
  ·have hc := zG hu
   exact zF ⟨hc.1, bI hI (true, t) (id, off) X u h2 hc.2⟩
  ·have hc := zG hu
   exact zF ⟨hc.1, Vs t ⟨u', y⟩ X u h2 hc.2⟩
theorem qa {x : Cx} (hI : Inv x) : ∀ (s : List Pm) (avs : List AV) (X : PmL s) (us : List Value), yj x.H s (avs.map (roV x.H)) = some X → RepVs x avs us → RepVs x.lend.bare (avL s X) us
 | [], [], X, us, h, hu => hu
 | [], _ :: _, X, us, h, hu => by simp [yj] at h
 | [p], [], X, us, h, hu => by simp [yj] at h
 | [p], [a], X, us, h, hu => by
  obtain ⟨v, r, rfl, h1, h2⟩ := hu
  exact ⟨v, r, rfl, qt hI p a X v h h1, h2⟩
 | [p], _ :: _ :: _, X, us, h, hu => by simp [yj] at h
 | p :: q :: l, [], X, us, h, hu => by simp [yj] at h
 | p :: q :: l, a :: avs, X, us, h, hu => by
  simp only [NN, yj] at h
  split at h
  ·rename_i d hd
   split at h
   ·rename_i Y hY
    cases h
    obtain ⟨v, r, rfl, h1, h2⟩ := hu
    exact ⟨v, r, rfl, qt hI p a d v hd h1, qa hI (q :: l) avs Y r hY h2⟩
   ·cases h
  ·cases h
def sd (s : List Pm) (rs : Sig) (F : PmL s → Option rs.den) : Con :=
 {X := PmL s, Y := rs.den, look := fun avs H => yj H s avs, F := F, outV := fun _ y => jY rs y, outH := fun _ _ H => H, mode := 1, kills := fun _ _ => [] }
theorem yQ (hm : P.follows .mixedOrders = true) (hT : TOk P T) (hE : xL P env) (hC : xc P env ann code) {d : Nat} {f : FuncId} {s : List Pm} {rs : Sig} {F : PmL s → Option rs.den}
  (hfl : ∀ p ∈ rs, p.2.flat = true) (hrun : ∀ X Y, F X = some Y → ∃ n, iR T env n ann code d f (avL s X) [] (zq rs) = some Y) : ConOk P f (sd s rs F) := by
 refine ⟨fun x args vals X Y hI hv hl hF => ?_, fun h => (by cases h), fun _ args H l X h => ou H l s args X h, fun h => by cases h⟩
 have hl' : yj x.H s (args.map (roV x.H)) = some X := hl
 have hvx := qa hI s args X _ hl' hv
 obtain ⟨n, hr⟩ := hrun X Y hF
 have hd : Does P (callFunc f vals) x.lend.bare.w fun u w' => ∃ y' v H', y'.w = w' ∧ zq rs v H' = some Y ∧ Left x.lend.bare 0 v H' u y' :=
  re hm hT hE hC (x := x.lend.bare) (r := Y) (k := zq rs) hr (u4 (mD hI) (qS hI)) hvx (fun v H' y u hk hL => ⟨y, v, H', rfl, hk, hL⟩)
 refine (ef (x' := x.lend.bare) hI rfl rfl (.inl hfl) hd).mono ?_
 rintro u w' ⟨y, r1, r2, r3, r4, r5, r6, r7⟩
 exact ⟨y, r1, r2, r3, r4, fun id _ _ => r5 id, r6, by rw [r2]; exact NF _, r7⟩
end
def Sw (f : FuncId) : AV → Bool
 | .val false [.fn g _] => Nat.beq g f
 | .val false [.fnr g _] => Nat.beq g f
 | _ => false
def ck (rs : Sig) (X : Type) (look : List AV → List Ob → Option X) (F : X → Option rs.den) : Con :=
 {X := X, Y := rs.den, look := look, F := F, outV := fun _ y => jY rs y, outH := fun _ _ H => H, mode := 1, kills := fun _ _ => [] }
def tZ {X1 X2 : Type} (f : FuncId) (l1 : List AV → List Ob → Option X1) (l2 : List AV → List Ob → Option X2) (avs : List AV) (H : List Ob) : Option (X1 ⊕ X2) :=
 bif avs.any (Sw f) then (match l1 avs H with | some x => some (.inl x) | none => none) else (match l2 avs H with | some x => some (.inr x) | none => none)
def orF {X1 X2 Y : Type} (F1 : X1 → Option Y) (F2 : X2 → Option Y) : X1 ⊕ X2 → Option Y
 | .inl x => F1 x
 | .inr x => F2 x
theorem Uz (f : FuncId) (H : List Ob) (a : AV) : Sw f (roV H a) = Sw f a := by
 cases a with
 | val g cs =>
  cases g with
  | true => rfl
  | false =>
   match cs with
   | [] => rfl
   | [c] =>
    cases c with
    | own id n => simp only [roV, NN, List.map_nil, roC]; split <;> rfl
    | mp id => simp only [roV, NN, List.map_nil, roC]; split <;> rfl
    | _ => rfl
   | c :: c' :: r =>
    cases c with
    | own id n => simp only [roV, NN, roC]; split <;> rfl
    | mp id => simp only [roV, NN, roC]; split <;> rfl
    | _ => rfl
 | _ => rfl
theorem YP (f : FuncId) (H : List Ob) (avs : List AV) : (avs.map (roV H)).any (Sw f) = avs.any (Sw f) := by
 induction avs with
 | nil => rfl
 | cons a r ih => simp only [NN, List.any_cons, Uz, ih]
theorem mK {P : Program} {f g : FuncId} {rs : Sig} {X1 X2 : Type} {l1 : List AV → List Ob → Option X1} {l2 : List AV → List Ob → Option X2} {F1 : X1 → Option rs.den} {F2 : X2 → Option rs.den} (ha : ConOk P g (ck rs X1 l1 F1)) (hb : ConOk P g (ck rs X2 l2 F2)) :
  ConOk P g (ck rs (X1 ⊕ X2) (tZ f l1 l2) (orF F1 F2)) := by
 refine ⟨fun x args vals X Y hI hv hl hF => ?_, fun h => (by cases h), fun _ args H l X h => ?_, fun h => by cases h⟩
 ·have hl' : tZ f l1 l2 (args.map (roV x.H)) x.H = some X := hl
  unfold tZ at hl'
  cases hc : (args.map (roV x.H)).any (Sw f) with
  | true =>
   rw [hc] at hl'
   simp only [Nv] at hl'
   split at hl'
   ·rename_i z hz
    cases hl'
    exact ha.calls x args vals z Y hI hv hz hF
   ·cases hl'
  | false =>
   rw [hc] at hl'
   simp only [Nu] at hl'
   split at hl'
   ·rename_i z hz
    cases hl'
    exact hb.calls x args vals z Y hI hv hz hF
   ·cases hl'
 ·have h' : tZ f l1 l2 (args.map (roV H)) H = some X := h
  show tZ f l1 l2 (args.map (roV (H ++ l))) (H ++ l) = some X
  unfold tZ at h' ⊢
  rw [YP] at h' ⊢
  cases hc : args.any (Sw f) with
  | true =>
   rw [hc] at h'
   simp only [Nv] at h' ⊢
   split at h'
   ·rename_i z hz
    cases h'
    have := ha.mono rfl args H l z hz
    have : l1 (args.map (roV (H ++ l))) (H ++ l) = some z := this
    rw [this]
    rfl
   ·cases h'
  | false =>
   rw [hc] at h'
   simp only [Nu] at h' ⊢
   split at h'
   ·rename_i z hz
    cases h'
    have := hb.mono rfl args H l z hz
    have : l2 (args.map (roV (H ++ l))) (H ++ l) = some z := this
    rw [this]
    rfl
   ·cases h'
inductive Rc : Type where
 | dat (t : Ty)
 | own (e : TypeId) (t : Ty)
@[reducible] def Rc.den : Rc → Type
 | .dat t => t.den
 | .own _ t => List t.den
@[reducible] def RcL : List Rc → Type
 | [] => Unit
 | r :: l => r.den × RcL l
@[reducible] def RdL : List (Bool × List Rc) → Type
 | [] => Unit
 | p :: l => RcL p.2 × RdL l
structure OwnE where
 src : Option Nat
 e : TypeId
 t : Ty
 xs : List t.den
def xf (H : List Ob) : (l : List Rc) → List C → Option (RcL l × List OwnE)
 | [], [] => some ((), [])
 | [], _ :: _ => none
 | .dat t :: l, cs => match t.ofCells cs with
  | some (x, r) => match xf H l r with
   | some (y, es) => some ((x, y), es)
   | none => none
  | none => none
 | .own e t :: l, .nils :: cs => match xf H l cs with
  | some (y, es) => some (([], y), ⟨none, e, t, []⟩ :: es)
  | none => none
 | .own e t :: l, .own id n :: cs => match H[id]? with
  | some (.arr e' t' xs) => if e' = e then match oN (t := t) xs with
    | some xs => match xf H l cs with
     | some (y, es) => some ((xs.take n, y), ⟨some id, e, t, xs.take n⟩ :: es)
     | none => none
    | none => none
   else none
  | _ => none
 | .own _ _ :: _, _ => none
def wr (H : List Ob) : (l : List (Bool × List Rc)) → List (Bool × List C) → Option (RdL l × List OwnE)
 | [], [] => some ((), [])
 | p :: l, q :: r => if q.1 = p.1 then match xf H p.2 q.2 with
   | some (x, es) => match wr H l r with
    | some (y, fs) => some ((x, y), es ++ fs)
    | none => none
   | none => none
  else none
 | _, _ => none
def Ro : AV → Option (List (Bool × List C))
 | .val g cs => some [(g, cs)]
 | .tup l => match l with
  | [_] => none
  | l => some l
 | _ => none
def nY : List Nat → Bool
 | [] => true
 | a :: l => !(xC a l) && nY l
def cf (l : List (Bool × List Rc)) (v : AV) (H : List Ob) : Option (RdL l) :=
 match Ro v with
 | some cs => match wr H l cs with
  | some (y, es) => bif nY (es.filterMap (·.src)) then some y else none
  | none => none
 | none => none
def mI : (l : List Rc) → RcL l → Nat → List C
 | [], _, _ => []
 | .dat t :: l, x, n => t.cells x.1 ++ mI l x.2 n
 | .own _ _ :: l, x, n => .own n x.1.length :: mI l x.2 (n + 1)
def nc : (l : List Rc) → RcL l → List Ob
 | [], _ => []
 | .dat _ :: l, x => nc l x.2
 | .own e t :: l, x => .arr e t x.1 :: nc l x.2
def uq : (l : List (Bool × List Rc)) → RdL l → Nat → List (Bool × List C)
 | [], _, _ => []
 | p :: l, x, n => (p.1, mI p.2 x.1 n) :: uq l x.2 (n + (nc p.2 x.1).length)
def rJ : (l : List (Bool × List Rc)) → RdL l → List Ob
 | [], _ => []
 | p :: l, x => nc p.2 x.1 ++ rJ l x.2
def Us (l : List (Bool × List Rc)) (y : RdL l) (n : Nat) : AV :=
 match uq l y n with
 | [p] => .val p.1 p.2
 | r => .tup r
def OwnE.ob (o : OwnE) : Ob := .arr o.e o.t o.xs
def Y9 (y : Cx) (o : OwnE) : Prop :=
 match o.src with
 | none => o.xs = []
 | some id => ∃ xs' m, y.H[id]? = some (.arr o.e o.t xs') ∧ o.xs = xs'.take m ∧ m ≤ xs'.length
theorem u6 {u t : Ty} {xs : List u.den} {ys : List t.den} (h : oN (t := t) xs = some ys) : ∃ e : u = t, ys = e ▸ xs := by
 unfold oN at h
 split at h
 ·rename_i e; cases h; exact ⟨e, rfl⟩
 ·cases h
structure Laid (y' y : Cx) (n : Nat) (es : List OwnE) : Prop where
 H : ∀ (j : Nat) (o : OwnE), es[j]? = some o → y.H[n + j]? = some o.ob
 at_ : ∀ (j : Nat) (o : OwnE), es[j]? = some o → y.at_ (n + j) = o.src.bind y'.at_
theorem Laid.tail {y' y : Cx} {n : Nat} {o : OwnE} {es : List OwnE} (h : Laid y' y n (o :: es)) : Laid y' y (n + 1) es :=
 ⟨fun j p hj => by have := h.H (j + 1) p (by simpa using hj); rw [← this]; congr 1; omega, fun j p hj => by have := h.at_ (j + 1) p (by simpa using hj); rw [← this]; congr 1; omega⟩
theorem Laid.left {y' y : Cx} {n : Nat} {es fs : List OwnE} (h : Laid y' y n (es ++ fs)) : Laid y' y n es :=
 ⟨fun j p hj => h.H j p (by rw [List.getElem?_append_left (NB.1 hj).1]; exact hj), fun j p hj => h.at_ j p (by rw [List.getElem?_append_left (NB.1 hj).1]; exact hj)⟩
theorem Laid.right {y' y : Cx} {n : Nat} {es fs : List OwnE} (h : Laid y' y n (es ++ fs)) : Laid y' y (n + es.length) fs :=
  ⟨fun j p hj => by
    have := h.H (es.length + j) p (by rw [List.getElem?_append_right (by omega)]; simpa using hj)
    rw [← this]; congr 1; omega,
   fun j p hj => by
    have := h.at_ (es.length + j) p (by rw [List.getElem?_append_right (by omega)]; simpa using hj)
    rw [← this]; congr 1; omega⟩
theorem wt {y' : Cx} (hI : Inv y') : ∀ (l : List Rc) (cs : List C) (vs : List Value) (x : RcL l) (es : List OwnE), xf y'.H l cs = some (x, es) → RepCs y' cs vs → nc l x = es.map OwnE.ob ∧ ∀ o ∈ es, Y9 y' o
 | [], [], vs, x, es, h, _ => by
  simp only [xf, NA, NH, true_and] at h
  subst h
  exact ⟨rfl, fun o ho => by cases ho⟩
 | [], _ :: _, vs, x, es, h, _ => by simp [xf] at h
 | .dat t :: l, cs, vs, x, es, h, hr => by
  simp only [xf] at h
  split at h
  ·rename_i d r hd
   split at h
   ·rename_i y fs hy
    cases h
    obtain ⟨p, q, rfl, h1, h2⟩ := yL t cs d r vs hd hr
    exact wt hI l r q y es hy h2
   ·cases h
  ·cases h
 | .own e t :: l, cs, vs, x, es, h, hr => by
  cases cs with
  | nil => simp [xf] at h
  | cons c cs =>
   cases c with
   | nils =>
    simp only [xf] at h
    split at h
    ·rename_i y fs hy
     cases h
     obtain ⟨v, r, rfl, h1, h2⟩ := hr
     obtain ⟨h3, h4⟩ := wt hI l cs r y fs hy h2
     refine ⟨by simp only [nc, h3, NN]; rfl, fun o ho => ?_⟩
     rcases NM.1 ho with rfl | ho
     ·rfl
     ·exact h4 o ho
    ·cases h
   | own id n =>
    simp only [xf] at h
    split at h
    ·rename_i e' t' xs hx
     split at h
     ·rename_i he
      subst he
      split at h
      ·rename_i ys hys
       split at h
       ·rename_i y fs hy
        cases h
        obtain ⟨rfl, rfl⟩ := u6 hys
        obtain ⟨v, r, rfl, h1, h2⟩ := hr
        obtain ⟨h3, h4⟩ := wt hI l cs r y fs hy h2
        refine ⟨by simp only [nc, h3, NN]; rfl, fun o ho => ?_⟩
        rcases NM.1 ho with rfl | ho
        ·have h5 := h1.2
         simp only [zV, hx] at h5
         exact ⟨_, n, hx, rfl, h5.1⟩
        ·exact h4 o ho
       ·cases h
      ·cases h
     ·cases h
    ·cases h
   | _ => simp [xf] at h
theorem uY {y' y : Cx} (hI : Inv y') (hkin : Kin y' y) (hw : y.w = y'.w) : ∀ (l : List Rc) (cs : List C) (vs : List Value) (x : RcL l) (es : List OwnE) (n : Nat), xf y'.H l cs = some (x, es) → RepCs y' cs vs → Laid y' y n es → RepCs y (mI l x n) vs
 | [], [], vs, x, es, n, h, hr, hl => hr
 | [], _ :: _, vs, x, es, n, h, _, _ => by simp [xf] at h
 | .dat t :: l, cs, vs, x, es, n, h, hr, hl => by
  simp only [xf] at h
  split at h
  ·rename_i d r hd
   split at h
   ·rename_i y2 fs hy
    cases h
    obtain ⟨p, q, rfl, h1, h2⟩ := yL t cs d r vs hd hr
    exact RepCs.append _ _ _ _ (RepT.cells _ _ _ (RepT.kin hkin h1)) (uY hI hkin hw l r q y2 es n hy h2 hl)
   ·cases h
  ·cases h
 | .own e t :: l, cs, vs, x, es, n, h, hr, hl => by
  cases cs with
  | nil => simp [xf] at h
  | cons c cs =>
   cases c with
   | nils =>
    simp only [xf] at h
    split at h
    ·rename_i y2 fs hy
     cases h
     obtain ⟨v, r, rfl, h1, h2⟩ := hr
     refine ⟨v, r, rfl, ⟨h1.1, ?_⟩, uY hI hkin hw l cs r y2 fs (n + 1) hy h2 hl.tail⟩
     have e1 := hl.H 0 _ rfl
     have e2 := hl.at_ 0 _ rfl
     simp only [Nat.add_zero, OwnE.ob, Option.bind_none] at e1 e2
     simp only [zV, e1, e2]
     exact ⟨NF _, ⟨none, h1.2⟩, rfl⟩
    ·cases h
   | own id m =>
    simp only [xf] at h
    split at h
    ·rename_i e' t' xs hx
     split at h
     ·rename_i he
      subst he
      split at h
      ·rename_i ys hys
       split at h
       ·rename_i y2 fs hy
        cases h
        obtain ⟨rfl, rfl⟩ := u6 hys
        obtain ⟨v, r, rfl, h1, h2⟩ := hr
        refine ⟨v, r, rfl, ⟨h1.1, ?_⟩, uY hI hkin hw l cs r y2 fs (n + 1) hy h2 hl.tail⟩
        have e1 := hl.H 0 _ rfl
        have e2 := hl.at_ 0 _ rfl
        simp only [Nat.add_zero, OwnE.ob, Nx] at e1 e2
        have h5 := h1.2
        simp only [zV, hx] at h5
        obtain ⟨h6, h7⟩ := h5
        have hlen : (ys.take m).length = m := by simp [Nat.min_eq_left h6]
        simp only [zV, e1, e2]
        refine ⟨NF _, ?_⟩
        cases hat : y'.at_ id with
        | none =>
         simp only [hat] at h7
         obtain ⟨⟨A, rfl⟩, rfl⟩ := h7
         exact ⟨⟨A, rfl⟩, by simp⟩
        | some b =>
         simp only [hat] at h7
         obtain ⟨c, rfl, q1, q2, q3⟩ := h7
         refine ⟨c, by rw [hlen], by rw [hlen]; exact q1, q2, fun cur e2' fr hc => ?_⟩
         rw [hw] at hc
         exact q3 cur e2' fr hc
       ·cases h
      ·cases h
     ·cases h
    ·cases h
   | _ => simp [xf] at h
theorem oU {y' : Cx} (hI : Inv y') : ∀ (l : List (Bool × List Rc)) (cs : List (Bool × List C)) (vs : List Value) (x : RdL l) (es : List OwnE), wr y'.H l cs = some (x, es) → Rep1s y' cs vs → rJ l x = es.map OwnE.ob ∧ ∀ o ∈ es, Y9 y' o
 | [], [], vs, x, es, h, _ => by
  simp only [wr, NA, NH, true_and] at h
  subst h
  exact ⟨rfl, fun o ho => by cases ho⟩
 | [], _ :: _, vs, x, es, h, _ => by simp [wr] at h
 | _ :: _, [], vs, x, es, h, _ => by simp [wr] at h
 | p :: l, q :: r, vs, x, es, h, hr => by
  simp only [wr] at h
  split at h
  ·rename_i hg
   split at h
   ·rename_i d fs hd
    split at h
    ·rename_i y gs hy
     cases h
     obtain ⟨v, r', rfl, h1, h2⟩ := hr
     obtain ⟨h3, h4⟩ := wt hI p.2 q.2 _ d fs hd (yW h1)
     obtain ⟨h5, h6⟩ := oU hI l r r' y gs hy h2
     refine ⟨by simp only [rJ, h3, h5, List.map_append], fun o ho => ?_⟩
     rcases NS.1 ho with ho | ho
     ·exact h4 o ho
     ·exact h6 o ho
    ·cases h
   ·cases h
  ·cases h
theorem Uh {y' y : Cx} {g : Bool} {cs cs' : List C} {v : Value} (h : Rep1 y' (g, cs) v) (hc : RepCs y cs' v.cells.toList) : Rep1 y (g, cs') v := by
 cases g with
 | true =>
  obtain ⟨vs, rfl, h2⟩ := h
  exact ⟨vs, rfl, hc⟩
 | false =>
  show RepCs y cs' [v]
  have h' : RepCs y' cs [v] := h
  cases cs with
  | nil => cases h'
  | cons c r =>
   obtain ⟨u, r', h1, h2, h3⟩ := h'
   cases h1
   have := h2.1
   have e : v.cells.toList = [v] := by
    cases v <;> first | rfl | simp [Value.oneCell'] at this
   rw [e] at hc
   exact hc
theorem nX {y' y : Cx} (hI : Inv y') (hkin : Kin y' y) (hw : y.w = y'.w) : ∀ (l : List (Bool × List Rc)) (cs : List (Bool × List C)) (vs : List Value) (x : RdL l) (es : List OwnE) (n : Nat), wr y'.H l cs = some (x, es) → Rep1s y' cs vs → Laid y' y n es → Rep1s y (uq l x n) vs
 | [], [], vs, x, es, n, h, hr, _ => hr
 | [], _ :: _, vs, x, es, n, h, _, _ => by simp [wr] at h
 | _ :: _, [], vs, x, es, n, h, _, _ => by simp [wr] at h
 | p :: l, q :: r, vs, x, es, n, h, hr, hl => by
  simp only [wr] at h
  split at h
  ·rename_i hg
   split at h
   ·rename_i d fs hd
    split at h
    ·rename_i y2 gs hy
     cases h
     obtain ⟨v, r', rfl, h1, h2⟩ := hr
     have h3 := (wt hI p.2 q.2 _ d fs hd (yW h1)).1
     have hlen : (nc p.2 d).length = fs.length := by rw [h3]; simp
     refine ⟨v, r', rfl, ?_, ?_⟩
     ·rw [← hg]
      exact Uh h1 (uY hI hkin hw p.2 q.2 _ d fs n hd (yW h1) hl.left)
     ·rw [hlen]
      exact nX hI hkin hw l r r' y2 gs _ hy h2 hl.right
    ·cases h
   ·cases h
  ·cases h
theorem nZ : ∀ (l : List Nat), nY l = true ↔ l.Nodup
 | [] => by simp [nY]
 | a :: l => by
  simp only [nY, Nt, Bool.not_eq_true', List.nodup_cons, nZ l]
  constructor
  ·rintro ⟨h1, h2⟩
   exact ⟨fun h => (by rw [(tm a l).2 h] at h1; cases h1), h2⟩
  ·rintro ⟨h1, h2⟩
   refine ⟨?_, h2⟩
   cases hm : xC a l with
   | true => exact absurd ((tm a l).1 hm) h1
   | false => rfl
theorem Vz : ∀ (es : List OwnE), (es.filterMap (·.src)).Nodup → ∀ (i j : Nat) (a b : OwnE) (id : Nat), es[i]? = some a → es[j]? = some b → a.src = some id → b.src = some id → i = j
 | [], _, i, j, a, b, id, hi, _, _, _ => by simp at hi
 | e :: es, h, i, j, a, b, id, hi, hj, ha, hb => by
  have hmem : ∀ (k : Nat) (c : OwnE), es[k]? = some c → c.src = some id → id ∈ es.filterMap (·.src) := fun k c hk hc => List.mem_filterMap.2 ⟨c, ND hk, hc⟩
  have htail : (es.filterMap (·.src)).Nodup := by
   cases he : e.src with
   | none => rw [List.filterMap_cons_none he] at h; exact h
   | some q => rw [List.filterMap_cons_some he] at h; exact (List.nodup_cons.1 h).2
  cases i with
  | zero =>
   simp at hi; subst hi
   cases j with
   | zero => rfl
   | succ j =>
    rw [List.filterMap_cons_some ha] at h
    exact absurd (hmem j b (by simpa using hj) hb) (List.nodup_cons.1 h).1
  | succ i =>
   cases j with
   | zero =>
    simp at hj; subst hj
    rw [List.filterMap_cons_some hb] at h
    exact absurd (hmem i a (by simpa using hi) ha) (List.nodup_cons.1 h).1
   | succ j =>
    have := Vz es htail i j a b id (by simpa using hi) (by simpa using hj) ha hb
    omega
def gW (s : Sig) (l : List (Bool × List Rc)) (F : s.den → Option (RdL l)) : Con :=
 {X := Nat × s.den, Y := RdL l,
  look := fun avs H => match zU s avs with
   | some x => some (H.length, x)
   | none => none,
  F := fun x => F x.2, outV := fun x y => Us l y x.1, outH := fun _ y H => H ++ rJ l y, mode := 4, kills := fun _ _ => [] }
section
variable {P : Program} {T : TypeId → Option TI} {env : FuncId → Option Con} {ann : FuncId → Nat → Ann} {code : FuncId → Option Func}
theorem d6 {f : FuncId} {l : List (Bool × List Rc)} {x : Cx} {vals : Array Value} {Y : RdL l} (hI : Inv x)
  (hdoes : ∀ S : Value → World → Prop, (∀ v H' (y : Cx) u, cf l v H' = some Y → Left x.bare 0 v H' u y → S u y.w) → Does P (callFunc f vals) x.bare.w S) :
  Does P (callFunc f vals) x.bare.w fun u w' => ∃ y : Cx, y.w = w' ∧ y.H = x.H ++ rJ l Y ∧ Inv y ∧ Kept x y ∧ (∀ id, id < x.H.length → id ∉ ([] : List Nat) → IdOk x y id) ∧ Carry (yN []) x y ∧ x.H.length ≤ y.H.length ∧ RepV y (Us l Y x.H.length) u := by
 refine hdoes _ ?_
 intro v H' y' u hk hL
 have hnm : ∀ b, ¬ x.bare.mine b := by
  rintro b ⟨i, o, h1, _⟩
  simp [Cx.bare] at h1
 have hblk : ∀ b, b < x.w.heap.size → y'.w.heap[b]? = x.w.heap[b]? := fun b hb => hL.kept.block b hb (hnm b)
 have hsz : x.w.heap.size ≤ y'.w.heap.size := hL.kept.size
 have hmineb : ∀ b, y'.mine b → x.w.heap.size ≤ b := fun b hb => by
  rcases hL.kept.mine b hb with h | h
  ·exact absurd h (hnm b)
  ·exact h
 have hoknew : ∀ b, y'.ok b → x.ok b ∨ x.w.heap.size ≤ b := fun b hb => by
  rcases hL.kept.oknew b hb with h1 | h1 | h1
  ·exact .inl h1
  ·exact absurd h1 (hnm b)
  ·exact .inr h1
 unfold cf at hk
 split at hk
 ·rename_i cs hcs
  split at hk
  ·rename_i Y2 es hrd
   cases hnd : nY (es.filterMap (·.src)) with
   | false => rw [hnd] at hk; cases hk
   | true =>
   rw [hnd] at hk
   cases hk
   have hnd' := (nZ _).1 hnd
   rw [← hL.H] at hrd
   obtain ⟨us, hus, hru⟩ : ∃ us, Rep1s y' cs us ∧ ∀ (y : Cx), Rep1s y (uq l Y x.H.length) us → RepV y (Us l Y x.H.length) u := by
    have hlenc : ∀ (l : List (Bool × List Rc)) (cs : List (Bool × List C)) (Y : RdL l) (es : List OwnE) (n : Nat), wr y'.H l cs = some (Y, es) → (uq l Y n).length = cs.length := by
     intro l
     induction l with
     | nil => intro cs Y es n h; cases cs <;> simp [wr] at h; rfl
     | cons p l ih =>
      intro cs Y es n h
      cases cs with
      | nil => simp [wr] at h
      | cons q r =>
       simp only [wr] at h
       split at h
       ·split at h
        ·split at h
         ·rename_i y2 gs hy
          cases h
          simp only [uq, List.length_cons, ih r _ _ _ hy]
         ·cases h
        ·cases h
       ·cases h
    have hlen := hlenc l cs Y es x.H.length hrd
    unfold Ro at hcs
    split at hcs
    ·rename_i g cells
     cases hcs
     refine ⟨[u], ⟨u, [], rfl, hL.val, rfl⟩, fun y hy => ?_⟩
     unfold Us
     match hq : uq l Y x.H.length, hlen with
     | [p], _ =>
      rw [hq] at hy
      obtain ⟨v', r', h1, h2, h3⟩ := hy
      cases h1
      exact h2
    ·rename_i tl
     obtain ⟨vs, rfl, h2⟩ := hL.val
     split at hcs
     ·cases hcs
     ·rename_i hne
      cases hcs
      refine ⟨vs.toList, h2, fun y hy => ?_⟩
      unfold Us
      match hq : uq l Y x.H.length, hlen with
      | [], _ => rw [hq] at hy; exact ⟨vs, rfl, hy⟩
      | [p], hlen =>
       match cs, hlen, hne with
       | [c], _, hne => exact absurd rfl (hne c)
      | p :: q :: r, _ => rw [hq] at hy; exact ⟨vs, rfl, hy⟩
    ·cases hcs
   obtain ⟨hobs, hent⟩ := oU hL.inv l cs us Y es hrd hus
   let y : Cx := { ok := fun b => x.ok b ∨ (x.w.heap.size ≤ b ∧ y'.ok b), at_ := fun i => if i < x.H.length then x.at_ i else (es[i - x.H.length]?).bind fun o => o.src.bind y'.at_, w := y'.w, H := x.H ++ rJ l Y }
   have hkin : Kin x y := ⟨fun b hb => .inl hb, fun b hb => hblk b (hI.okb b hb)⟩
   have hkin' : Kin y' y := ⟨fun b hb => by
    rcases hoknew b hb with h | h
    ·exact .inl h
    ·exact .inr ⟨h, hb⟩, fun b hb => rfl⟩
   have hlaid : Laid y' y x.H.length es := by
    refine ⟨fun j o hj => ?_, fun j o hj => ?_⟩
    ·show (x.H ++ rJ l Y)[x.H.length + j]? = some o.ob
     rw [List.getElem?_append_right (by omega), hobs]
     simp [hj]
    ·show (if x.H.length + j < x.H.length then x.at_ (x.H.length + j) else (es[x.H.length + j - x.H.length]?).bind fun o => o.src.bind y'.at_) = o.src.bind y'.at_
     rw [if_neg (by omega)]
     simp [hj]
   have hat_old : ∀ i, i < x.H.length → y.at_ i = x.at_ i := fun i hi => by show (if i < x.H.length then _ else _) = _; rw [if_pos hi]
   have hH_old : ∀ i, i < x.H.length → y.H[i]? = x.H[i]? := fun i hi => List.getElem?_append_left hi
   have hids : ∀ id, id < x.H.length → IdOk x y id := fun id hid => IdOk.same hI (hH_old id hid) (hat_old id hid) (fun b _ hb => hblk b hb)
   have hcar : Carry (fun c => c) x y := Carry.id_of hkin (fun id hid => hids id hid)
   have hnew : ∀ (i : Nat) (o : Ob), y.H[i]? = some o → ¬ i < x.H.length → ∃ e, es[i - x.H.length]? = some e ∧ o = e.ob ∧ y.at_ i = e.src.bind y'.at_ := fun i o hi hge => by
    have hi' : (x.H ++ rJ l Y)[i]? = some o := hi
    rw [List.getElem?_append_right (by omega), hobs, List.getElem?_map] at hi'
    cases he : es[i - x.H.length]? with
    | none => rw [he] at hi'; cases hi'
    | some e =>
     rw [he] at hi'
     simp only [Option.map_some, NA] at hi'
     refine ⟨e, rfl, hi'.symm, ?_⟩
     have := hlaid.at_ _ e he
     rw [← this]; congr 1; omega
   have hmine : ∀ (e : OwnE) (j b : Nat), es[j]? = some e → e.src.bind y'.at_ = some b → ∃ id xs', e.src = some id ∧ y'.at_ id = some b ∧ y'.H[id]? = some (.arr e.e e.t xs') ∧ x.w.heap.size ≤ b ∧ ¬ y'.ok b := fun e j b hj hb => by
    cases hs : e.src with
    | none => rw [hs] at hb; cases hb
    | some id =>
     rw [hs] at hb
     have hent' := hent e (ND hj)
     unfold Y9 at hent'
     rw [hs] at hent'
     obtain ⟨xs', m, h1, _, _⟩ := hent'
     exact ⟨id, xs', rfl, hb, h1, hmineb b ⟨id, _, h1, by simp, hb⟩, hL.inv.off id b _ h1 (by simp) hb⟩
   have hinv : Inv y := by
    refine ⟨fun b hb => ?_, fun i j b oi oj hi hj hdi hdj h1 h2 => ?_, fun i b o hi hd hb => ?_, fun i o hi => ?_, hI.tab.kin hkin⟩
    ·rcases hb with hb | ⟨_, hb⟩
     ·exact Nat.lt_of_lt_of_le (hI.okb b hb) hsz
     ·exact hL.inv.okb b hb
    ·by_cases ei : i < x.H.length <;> by_cases ej : j < x.H.length
     ·rw [hat_old i ei] at h1; rw [hat_old j ej] at h2
      rw [hH_old i ei] at hi; rw [hH_old j ej] at hj
      exact hI.inj i j b oi oj hi hj hdi hdj h1 h2
     ·obtain ⟨e, he, _, hat⟩ := hnew j oj hj ej
      rw [hat] at h2
      obtain ⟨_, _, _, _, _, hge, _⟩ := hmine e _ b he h2
      rw [hat_old i ei] at h1; rw [hH_old i ei] at hi
      have := hI.lt hi hdi h1; omega
     ·obtain ⟨e, he, _, hat⟩ := hnew i oi hi ei
      rw [hat] at h1
      obtain ⟨_, _, _, _, _, hge, _⟩ := hmine e _ b he h1
      rw [hat_old j ej] at h2; rw [hH_old j ej] at hj
      have := hI.lt hj hdj h2; omega
     ·obtain ⟨e, he, _, hat⟩ := hnew i oi hi ei
      obtain ⟨e', he', _, hat'⟩ := hnew j oj hj ej
      rw [hat] at h1; rw [hat'] at h2
      obtain ⟨id, xs1, hs, ha, hh, _, _⟩ := hmine e _ b he h1
      obtain ⟨id', xs2, hs', ha', hh', _, _⟩ := hmine e' _ b he' h2
      have := hL.inv.inj id id' b _ _ hh hh' (by simp) (by simp) ha ha'
      subst this
      have := Vz es hnd' _ _ e e' id he he' hs hs'
      omega
    ·by_cases ei : i < x.H.length
     ·rw [hat_old i ei] at hb; rw [hH_old i ei] at hi
      have hlt := hI.lt hi hd hb
      rintro (h4 | ⟨h4, _⟩)
      ·exact hI.off i b o hi hd hb h4
      ·omega
     ·obtain ⟨e, he, _, hat⟩ := hnew i o hi ei
      rw [hat] at hb
      obtain ⟨_, _, _, _, _, hge, hno⟩ := hmine e _ b he hb
      rintro (h4 | ⟨_, h4⟩)
      ·have := hI.okb b h4; omega
      ·exact hno h4
    ·by_cases ei : i < x.H.length
     ·rw [hH_old i ei] at hi
      by_cases hd : o = .dead
      ·subst hd; trivial
      ·exact (hI.obs i o hi).keep hkin hcar (hat_old i ei) (fun b hb => hblk b (hI.lt hi hd hb))
     ·obtain ⟨e, he, rfl, hat⟩ := hnew i o hi ei
      have hent' := hent e (ND he)
      show ObRep y i (.arr e.e e.t e.xs)
      simp only [ObRep, hat]
      unfold Y9 at hent'
      cases hs : e.src with
      | none => rw [hs] at hent'; simp only [Option.bind_none]; exact hent'
      | some id =>
       rw [hs] at hent'
       obtain ⟨xs', m, h1, h2, h3⟩ := hent'
       simp only [Nx]
       have ho := hL.inv.obs _ _ h1
       simp only [ObRep] at ho
       cases ha : y'.at_ id with
       | none => rw [ha] at ho; simp only at ho ⊢; rw [h2, ho]; simp
       | some b =>
        rw [ha] at ho
        simp only at ho ⊢
        obtain ⟨cur, k1, k2, k3⟩ := ho
        refine ⟨cur, k1, ?_, fun j d hj => ?_⟩
        ·rw [h2]
         have : (xs'.take m).length ≤ xs'.length := by simp; omega
         exact Nat.le_trans (NP _ this) k2
        ·rw [h2, List.getElem?_take] at hj
         split at hj
         ·obtain ⟨ws, q1, q2⟩ := k3 j d hj
          exact ⟨ws, RepT.kin hkin' q1, q2⟩
         ·cases hj
   refine ⟨y, rfl, rfl, hinv, ?_, fun id hid _ => hids id hid, hcar, by show x.H.length ≤ (x.H ++ _).length; simp, hru y (nX hL.inv hkin' rfl l cs us Y es _ hrd hus hlaid)⟩
   refine ⟨hL.kept.os, hL.kept.tape, hL.kept.output, hsz, fun b hb _ => hblk b hb, fun b hb => ?_, fun b hb => .inl hb, fun b hb => ?_⟩
   ·obtain ⟨i, o, h1, h2, h3⟩ := hb
    by_cases ei : i < x.H.length
    ·rw [hat_old i ei] at h3; rw [hH_old i ei] at h1
     exact .inl ⟨i, o, h1, h2, h3⟩
    ·obtain ⟨e, he, _, hat⟩ := hnew i o h1 ei
     rw [hat] at h3
     obtain ⟨_, _, _, _, _, hge, _⟩ := hmine e _ b he h3
     exact .inr hge
   ·rcases hb with hb | ⟨hb, _⟩
    ·exact .inl hb
    ·exact .inr (.inr hb)
  ·cases hk
 ·cases hk
theorem lr (hm : P.follows .mixedOrders = true) (hT : TOk P T) (hE : xL P env) (hC : xc P env ann code) {n d : Nat} {f : FuncId} {l : List (Bool × List Rc)} {x : Cx} {av : List AV} {vals : Array Value} {Y : RdL l} (hI : Inv x)
  (hr : iR T env n ann code d f av [] (cf l) = some Y) (hvx : RepVs x.bare av vals.toList) :
  Does P (callFunc f vals) x.bare.w fun u w' => ∃ y : Cx, y.w = w' ∧ y.H = x.H ++ rJ l Y ∧ Inv y ∧ Kept x y ∧ (∀ id, id < x.H.length → id ∉ ([] : List Nat) → IdOk x y id) ∧ Carry (yN []) x y ∧ x.H.length ≤ y.H.length ∧ RepV y (Us l Y x.H.length) u := by
 exact d6 hI fun S hS => re hm hT hE hC (x := x.bare) (r := Y) (k := cf l) hr (u4 hI.okb hI.tab) hvx hS
theorem tM : ∀ (l : List Rc) (x : RcL l), ∀ ob ∈ nc l x, ∀ cs, ob ≠ .box cs
 | [], _, ob, h, _ => by simp [nc] at h
 | .dat t :: l, x, ob, h, cs => tM l x.2 ob h cs
 | .own e t :: l, x, ob, h, cs => by
  rcases NM.1 h with rfl | h
  ·intro e; cases e
  ·exact tM l x.2 ob h cs
theorem pC : ∀ (l : List (Bool × List Rc)) (x : RdL l), ∀ ob ∈ rJ l x, ∀ cs, ob ≠ .box cs
 | [], _, ob, h, _ => by simp [rJ] at h
 | p :: l, x, ob, h, cs => by
  rcases NS.1 h with h | h
  ·exact tM p.2 x.1 ob h cs
  ·exact pC l x.2 ob h cs
theorem Za {f : FuncId} {s : Sig} {l : List (Bool × List Rc)} {F : s.den → Option (RdL l)}
  (h : ∀ (x : Cx) (vals : Array Value) (z : s.den) (Y : RdL l), Inv x → RepVs x.bare (zu s z) vals.toList → F z = some Y → Does P (callFunc f vals) x.bare.w fun u w' => ∃ y : Cx, y.w = w' ∧ y.H = x.H ++ rJ l Y ∧ Inv y ∧ Kept x y ∧ (∀ id, id < x.H.length → id ∉ ([] : List Nat) → IdOk x y id) ∧ Carry (yN []) x y ∧ x.H.length ≤ y.H.length ∧ RepV y (Us l Y x.H.length) u) : ConOk P f (gW s l F) := by
 refine ⟨fun x args vals X Y hI hv hl hF => ?_, fun h => (by cases h), fun hm => (by cases hm), fun _ => ⟨fun X Y H => ⟨rJ l Y, rfl, pC l Y⟩, fun _ _ => rfl⟩⟩
 have hl' : (match zU s args with | some z => some (x.H.length, z) | none => none) = some X := hl
 cases hz : zU s args with
 | none => rw [hz] at hl'; cases hl'
 | some z =>
 rw [hz] at hl'
 cases hl'
 have hF' : F z = some Y := hF
 have hvx : RepVs x.bare (zu s z) vals.toList := yw (x := x) (y := x.bare) (fun t d vs h => h) s _ z _ hz hv
 exact h x vals z Y hI hvx hF'
end
end Go.Proofs.YtefddghdaimklaaGreatDoor.AI
