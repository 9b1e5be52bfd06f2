/- A part of the proof. -/
import Derived.Test.YtefddghdaimklaaGreatDoorAkm
import Derived.Test.YtefddghdaimklaaGreatDoorAjd
import Derived.Sort.Row
import Derived.Sort.Grow
set_option linter.unusedVariables false
set_option linter.unusedSimpArgs false
/- Methods that change a variable of the caller's that holds data. -/
namespace Go.Proofs.YtefddghdaimklaaGreatDoor.AI
open Go
def V8 (t0 : Ty) (s : Sig) (avs : List AV) (H : List Ob) : Option (Nat × t0.den × s.den) :=
 match avs with
 | .val false [.ptr id 0] :: rest => match H[id]? with
  | some (.box cs) => match t0.whole cs with
   | some b => match zU s rest with
    | some z => some (id, b, z)
    | none => none
   | none => none
  | _ => none
 | _ => none
def qg (t0 : Ty) (s rs : Sig) (F : t0.den × s.den → Option (t0.den × rs.den)) : Con :=
 {X := Nat × t0.den × s.den, Y := t0.den × rs.den, look := V8 t0 s, F := fun x => F (x.2.1, x.2.2), outV := fun _ y => jY rs y.2,
  outH := fun x y H => H.set x.1 (.box (t0.cells y.1)), mode := 2, kills := fun _ _ => [] }
def rj (t0 : Ty) (x : t0.den) : List Ob := [.box (t0.cells x)]
def mB (t0 : Ty) (rs : Sig) (v : AV) (H : List Ob) : Option (t0.den × rs.den) :=
 match (H[0]? : Option Ob) with
 | some (.box cs) => match t0.whole cs with
  | some b => match zq rs v H with
   | some r => some (b, r)
   | none => none
  | none => none
 | _ => none
section
variable {P : Program} {T : TypeId → Option TI} {env : FuncId → Option Con} {ann : FuncId → Nat → Ann} {code : FuncId → Option Func}
theorem ce {t0 : Ty} {rs : Sig} {v : AV} {H : List Ob} {Y : t0.den × rs.den} (h : mB t0 rs v H = some Y) : zq rs v H = some Y.2 ∧ ∃ cs, H[0]? = some (.box cs) ∧ t0.whole cs = some Y.1 := by
 unfold mB at h
 split at h
 ·rename_i cs hx
  split at h
  ·rename_i b hb
   split at h
   ·rename_i r hr
    cases h
    exact ⟨hr, cs, hx, hb⟩
   ·cases h
  ·cases h
 ·cases h
theorem Zx {x x' : Cx} (hI : Inv x) {t0 : Ty} {rs : Sig} (hfl : ∀ p ∈ rs, p.2.flat = true) {id : Nat} {cs0 : List C} (hid : x.H[id]? = some (.box cs0)) (hok : x'.ok = x.ok) (hw : x'.w = x.w) (hat0 : x'.at_ 0 = x.at_ id) (hbox : ∃ cs, x'.H[0]? = some (.box cs))
  (hmine : ∀ b, x'.mine b → x.at_ id = some b)
  {v : AV} {H' : List Ob} {u : Value} {y' : Cx} (hL : Left x' 1 v H' u y') {Y : t0.den × rs.den} (hr : mB t0 rs v H' = some Y) :
  ∃ y : Cx, y.w = y'.w ∧ y.H = x.H.set id (.box (t0.cells Y.1)) ∧ Inv y ∧ Kept x y ∧ (∀ i, i < x.H.length → i ∉ ([] : List Nat) → IdOk x y i) ∧
   Carry (yN []) x y ∧ x.H.length ≤ y.H.length ∧ RepV y (jY rs Y.2) u := by
 obtain ⟨hrL, cs, hH0, hwh⟩ := ce hr
 rw [← hL.H] at hH0 hrL
 have hlt : id < x.H.length := (NB.1 hid).1
 have hat_id : y'.at_ 0 = x.at_ id := by
  have := hL.ids 0 (by omega)
  obtain ⟨cs, hb⟩ := hbox
  unfold IdOk at this
  rw [hb] at this
  rw [this.2, hat0]
 let y : Cx := { ok := y'.ok, at_ := x.at_, w := y'.w, H := x.H.set id (.box (t0.cells Y.1)) }
 have hHid : y.H[id]? = some (.box (t0.cells Y.1)) := by
  show (x.H.set id _)[id]? = _
  rw [List.getElem?_set_self hlt]
 have hHot : ∀ i, i ≠ id → y.H[i]? = x.H[i]? := fun i h => by
  show (x.H.set id _)[i]? = _
  rw [List.getElem?_set_ne (Ne.symm h)]
 have hmx : ∀ b, x'.mine b → x.mine b := fun b hb => ⟨id, _, hid, by simp, hmine b hb⟩
 have hnot : ∀ (i : Nat) (o : Ob) (b : Nat), i ≠ id → x.H[i]? = some o → o ≠ .dead → x.at_ i = some b → ¬ x'.mine b := fun i o b h1 hi hd hb hm =>
  h1 (hI.inj i id b _ _ hi hid hd (by simp) hb (hmine b hm))
 have hblk : ∀ b, b < x.w.heap.size → ¬ x'.mine b → y'.w.heap[b]? = x.w.heap[b]? := fun b hb hm => by
  have := hL.kept.block b (by rw [hw]; exact hb) hm
  rw [this, hw]
 have hoknew : ∀ b, y'.ok b → x.ok b ∨ x'.mine b ∨ x.w.heap.size ≤ b := fun b hb => by
  rcases hL.kept.oknew b hb with h | h | h
  ·exact .inl (by rw [← hok]; exact h)
  ·exact .inr (.inl h)
  ·exact .inr (.inr (by rw [← hw]; exact h))
 have hsz : x.w.heap.size ≤ y'.w.heap.size := by have := hL.kept.size; rw [hw] at this; exact this
 have hokold : ∀ b, x.ok b → y'.ok b := fun b hb => hL.kept.ok b (by rw [hok]; exact hb)
 have hkin : Kin x y := ⟨hokold, fun b hb => hblk b (hI.okb b hb) (fun hm => hI.notMine hb (hmx b hm))⟩
 have hlow : ∀ (i : Nat) (q : Ob) (b : Nat), x.H[i]? = some q → q ≠ .dead → x.at_ i = some b → b < x.w.heap.size := fun i q b hq hd hb => hI.lt hq hd hb
 have hold : ∀ (i : Nat) (o : Ob), y.H[i]? = some o → o ≠ .dead → ∃ q, x.H[i]? = some q ∧ q ≠ .dead ∧ (i ≠ id → o = q) := fun i o hi hd => by
  by_cases h2 : i = id
  ·subst h2; exact ⟨_, hid, by simp, fun h => absurd rfl h⟩
  ·rw [hHot i h2] at hi; exact ⟨o, hi, hd, fun _ => rfl⟩
 have hids : ∀ i, i < x.H.length → IdOk x y i := fun i hi => by
  by_cases h2 : i = id
  ·subst h2
   unfold IdOk
   rw [hid]
   exact ⟨⟨_, hHid⟩, rfl⟩
  ·cases hq : x.H[i]? with
   | none => unfold IdOk; rw [hq]; trivial
   | some q =>
    by_cases hqd : q = .dead
    ·subst hqd; unfold IdOk; rw [hq]; trivial
    ·exact IdOk.same hI (hHot i h2) rfl (fun b hb hl => hblk b hl (hnot i q b h2 hq hqd hb))
 have hcar : Carry (fun c => c) x y := Carry.id_of hkin hids
 have hinv : Inv y := by
  refine ⟨hL.inv.okb, fun i j b oi oj hi hj hdi hdj h1 h2 => ?_, fun i b o hi hd hb hkb => ?_, fun i o hi => ?_, hI.tab.kin hkin⟩
  ·obtain ⟨q, hq, hqd, _⟩ := hold i oi hi hdi
   obtain ⟨q', hq', hqd', _⟩ := hold j oj hj hdj
   exact hI.inj i j b q q' hq hq' hqd hqd' h1 h2
  ·obtain ⟨q, hq, hqd, _⟩ := hold i o hi hd
   by_cases e2 : i = id
   ·subst e2
    exact hL.inv.off 0 b _ hH0 (by simp) (by rw [hat_id]; exact hb) hkb
   ·rcases hoknew b hkb with h | h | h
    ·exact hI.off i b q hq hqd hb h
    ·exact hnot i q b e2 hq hqd hb h
    ·have := hlow i q b hq hqd hb; omega
  ·by_cases e2 : i = id
   ·subst e2
    rw [hHid] at hi
    cases hi
    obtain ⟨b, vs, e', h1, h2, h3⟩ := hL.inv.obs _ _ hH0
    exact ⟨b, vs, e', by rw [← hat_id]; exact h1, h2, RepT.cells (x := y) t0 Y.1 _ (zQ (x := y') hwh h3)⟩
   ·rw [hHot i e2] at hi
    by_cases hqd : o = .dead
    ·subst hqd; trivial
    ·exact (hI.obs i o hi).keep hkin hcar rfl (fun b hb => hblk b (hlow i o b hi hqd hb) (hnot i o b e2 hi hqd hb))
 have hval : RepV y (jY rs Y.2) u := tF hL.inv hrL hL.val (fun p hp dd vs hrep => s0 _ _ _ (hfl p hp) hrep)
 refine ⟨y, rfl, rfl, hinv, ?_, fun i hi _ => hids i hi, hcar, by show x.H.length ≤ (x.H.set id _).length; simp, hval⟩
 have k1 := hL.kept.os; have k2 := hL.kept.tape; have k3 := hL.kept.output
 rw [hw] at k1 k2 k3
 refine ⟨k1, k2, k3, hsz, fun b hb hm => hblk b hb (fun h => hm (hmx b h)), fun b hb => ?_, hokold, fun b hb => ?_⟩
 ·obtain ⟨i, o, h1, h2, h3⟩ := hb
  obtain ⟨q, hq, hqd, _⟩ := hold i o h1 h2
  exact .inl ⟨i, q, hq, hqd, h3⟩
 ·rcases hoknew b hb with h | h | h
  ·exact .inl h
  ·exact .inr (.inl (hmx b h))
  ·exact .inr (.inr h)
theorem ZT (hm : P.follows .mixedOrders = true) (hT : TOk P T) (hE : xL P env) (hC : xc P env ann code) {d : Nat} {f : FuncId} {t0 : Ty} {s rs : Sig} {F : t0.den × s.den → Option (t0.den × rs.den)}
  (hfl : ∀ p ∈ rs, p.2.flat = true)
  (hrun : ∀ X Y, F X = some Y → ∃ n, Pc T env n ann code d f (UH s X.2) (rj t0 X.1) (mB t0 rs) = some Y) : ConOk P f (qg t0 s rs F) := by
 refine ⟨fun x args vals X Y hI hv hl hF => ?_, fun h => (by cases h), fun hm => (by cases hm), fun hm => by cases hm⟩
 have hl' : V8 t0 s args x.H = some X := hl
 unfold V8 at hl'
 split at hl'
 ·rename_i id rest
  split at hl'
  ·rename_i cs hid
   split at hl'
   ·rename_i b hb
    split at hl'
    ·rename_i z hz
     cases hl'
     have hF' : F (b, z) = some Y := hF
     obtain ⟨n, hr⟩ := hrun _ _ hF'
     have ho : ObRep (x.two id none (rj t0 b)) 0 (.box (t0.cells b)) := by
      obtain ⟨bb, vs, e', h1, h2, h3⟩ := hI.obs _ _ hid
      exact ⟨bb, vs, e', h1, h2, RepT.cells (x := x.two id none (rj t0 b)) t0 b _ (zQ (x := x) hb h3)⟩
     have hI' := Tg hI (oj := none) (H := rj t0 b) hid ho (.inl ⟨rfl, rfl⟩)
     have hv' := X7 (oj := none) (H := rj t0 b) hid rfl hz hv
     show Does P (callFunc f vals) (x.two id none (rj t0 b)).w _
     refine d8 hm hT hE hC (x := x.two id none (rj t0 b)) hr hI' hv' (NF _) (fun v H' y u' hk hL => ?_)
     exact Zx (x' := x.two id none (rj t0 b)) hI hfl hid rfl rfl rfl ⟨_, rfl⟩ (fun b hb => by
      rcases Xn b hb with h | ⟨j, h, _⟩
      ·exact h
      ·cases h) hL hk
    ·cases hl'
   ·cases hl'
  ·cases hl'
 ·cases hl'
end
end Go.Proofs.YtefddghdaimklaaGreatDoor.AI
/- Functions to which a row of the caller's own is handed, and that hand one back. -/
namespace Go.Proofs.YtefddghdaimklaaGreatDoor.AI
open Go
def Wf : List AV → Option (List AV × AV)
 | [] => none
 | [a] => some ([], a)
 | a :: b :: l => match Wf (b :: l) with
  | some (i, z) => some (a :: i, z)
  | none => none
def QC (s : Sig) (e : TypeId) (t : Ty) (avs : List AV) (H : List Ob) : Option (Option Nat × Nat × (s.den × List t.den)) :=
 match Wf avs with
 | some (init, .val false [c]) => match zU s init with
  | some z => match c with
   | .nils => some (none, H.length, (z, []))
   | .own j n => match H[j]? with
    | some (.arr e' t' xs) => if e' = e then match oN (t := t) xs with
     | some xs => some (some j, H.length, (z, xs.take n))
     | none => none
     else none
    | _ => none
   | _ => none
  | none => none
 | _ => none
def qA (e : TypeId) (t : Ty) (oj : Option Nat) (y : List t.den) (H : List Ob) : List Ob :=
 match oj with
 | some j => (Sub.h (.kill j) H).set j (.arr e t y)
 | none => H ++ [.arr e t y]
def Pz (oj : Option Nat) (n : Nat) : Nat :=
 match oj with
 | some j => j
 | none => n
def qo : Option Nat → List Nat
 | some j => [j]
 | none => []
def uT (e : TypeId) (t : Ty) (xs : List t.den) : List Ob := [.arr e t xs]
def wQ (e : TypeId) (t : Ty) (v : AV) (H : List Ob) : Option (List t.den) :=
 match v with
 | .val false [c] => match c with
  | .nils => some []
  | .own j n => match H[j]? with
   | some (.arr e' t' xs) => if e' = e then match oN (t := t) xs with
    | some xs => some (xs.take n)
    | none => none
    else none
   | _ => none
  | _ => none
 | _ => none
section
variable {P : Program} {T : TypeId → Option TI} {env : FuncId → Option Con} {ann : FuncId → Nat → Ann} {code : FuncId → Option Func}
theorem lR {e : TypeId} {t : Ty} {v : AV} {H : List Ob} {Y : List t.den} (h : wQ e t v H = some Y) :
  ∃ c, v = .val false [c] ∧ ((c = .nils ∧ Y = []) ∨ ∃ j n xs, c = .own j n ∧ H[j]? = some (.arr e t xs) ∧ Y = xs.take n) := by
 unfold wQ at h
 split at h
 ·rename_i c
  refine ⟨c, rfl, ?_⟩
  split at h
  ·cases h; exact .inl ⟨rfl, rfl⟩
  ·rename_i j n
   split at h
   ·rename_i e' t' xs hj
    split at h
    ·rename_i he
     split at h
     ·rename_i ys hys
      cases h
      obtain ⟨rfl, rfl⟩ := u6 hys
      subst he
      exact .inr ⟨j, n, _, rfl, hj, rfl⟩
     ·cases h
    ·cases h
   ·cases h
  ·cases h
 ·cases h
theorem Yd {x x' : Cx} (hI : Inv x) {e : TypeId} {t : Ty} {oj : Option Nat}
  (hoj : ∀ j, oj = some j → ∃ xs : List t.den, x.H[j]? = some (.arr e t xs)) (hok : x'.ok = x.ok) (hw : x'.w = x.w)
  (hmine : ∀ b, x'.mine b → ∃ j, oj = some j ∧ x.at_ j = some b)
  {v : AV} {H' : List Ob} {u : Value} {y' : Cx} (hL : Left x' 0 v H' u y') {Y : List t.den} (hr : wQ e t v H' = some Y) :
  ∃ y : Cx, y.w = y'.w ∧ y.H = qA e t oj Y x.H ∧ Inv y ∧ Kept x y ∧ (∀ i, i < x.H.length → i ∉ (qo oj) → IdOk x y i) ∧
   Carry (yN (qo oj)) x y ∧ x.H.length ≤ y.H.length ∧ RepV y (.val false [.own (Pz oj x.H.length) Y.length]) u := by
 obtain ⟨c, hvc, hrow⟩ := lR hr
 rw [← hL.H] at hrow
 obtain ⟨ri, hri⟩ : ∃ ri, oj = some ri ∨ (oj = none ∧ ri = x.H.length) := by
  cases oj with
  | some j => exact ⟨j, .inl rfl⟩
  | none => exact ⟨_, .inr ⟨rfl, rfl⟩⟩
 have hrid : Pz oj x.H.length = ri := by
  rcases hri with h | ⟨h, h2⟩
  ·subst h; rfl
  ·subst h; subst h2; rfl
 let σ : Ob → Ob := Qs oj
 let Hn : List Ob := qA e t oj Y x.H
 have hHri : Hn[ri]? = some (.arr e t Y) := by
  show (qA e t oj Y x.H)[ri]? = _
  rcases hri with h | ⟨h, h2⟩
  ·obtain ⟨xs, hx⟩ := hoj ri h
   have hl2 : ri < x.H.length := (NB.1 hx).1
   subst h
   simp only [qA]
   rw [List.getElem?_set_self (by simpa [Sub.h] using hl2)]
  ·subst h; subst h2
   simp only [qA]
   rw [List.getElem?_append_right (by simp)]
   simp
 have hHot : ∀ i, i ≠ ri → Hn[i]? = (x.H[i]?).map σ := fun i h2 => by
  show (qA e t oj Y x.H)[i]? = _
  rcases hri with h | ⟨h, h3⟩
  ·subst h
   simp only [qA, σ, Qs]
   rw [List.getElem?_set_ne (Ne.symm h2)]
   simp only [Sub.h, List.getElem?_map]
   rfl
  ·subst h; subst h3
   simp only [qA, σ, Qs]
   rcases Nat.lt_or_ge i x.H.length with hl | hl
   ·rw [List.getElem?_append_left (by simpa using hl)]
    cases x.H[i]? <;> rfl
   ·rw [List.getElem?_append_right (by simpa using hl), List.getElem?_eq_none hl]
    rw [List.getElem?_eq_none (by simp; omega)]
    rfl
 let src : Option Nat := VX c
 let y : Cx := { ok := y'.ok, at_ := fun i => if i = ri then src.bind y'.at_ else x.at_ i, w := y'.w, H := Hn }
 have hat_ri : y.at_ ri = src.bind y'.at_ := by show (if ri = ri then _ else _) = _; rw [if_pos rfl]
 have hat_ot : ∀ i, i ≠ ri → y.at_ i = x.at_ i := fun i h => by show (if i = ri then _ else _) = _; rw [if_neg h]
 have hmn : ∀ b, (∃ j, oj = some j ∧ x.at_ j = some b) → x.mine b := fun b hb => by
  obtain ⟨j, h1, h2⟩ := hb
  obtain ⟨xs, hx⟩ := hoj j h1
  exact ⟨j, _, hx, by simp, h2⟩
 have hmx : ∀ b, x'.mine b → x.mine b := fun b hb => hmn b (hmine b hb)
 have hnotn : ∀ (i : Nat) (o : Ob) (b : Nat), i ≠ ri → x.H[i]? = some o → o ≠ .dead → x.at_ i = some b → ¬ (∃ j, oj = some j ∧ x.at_ j = some b) := fun i o b h2 hi hd hb hm => by
  obtain ⟨j, h3, h4⟩ := hm
  obtain ⟨xs, hx⟩ := hoj j h3
  have hij := hI.inj i j b _ _ hi hx hd (by simp) hb h4
  rcases hri with h5 | ⟨h5, _⟩
  ·rw [h5] at h3; exact h2 (hij.trans (Option.some.inj h3).symm)
  ·rw [h5] at h3; cases h3
 have hnot : ∀ (i : Nat) (o : Ob) (b : Nat), i ≠ ri → x.H[i]? = some o → o ≠ .dead → x.at_ i = some b → ¬ x'.mine b := fun i o b h2 hi hd hb hm => hnotn i o b h2 hi hd hb (hmine b hm)
 have hblk : ∀ b, b < x.w.heap.size → ¬ x'.mine b → y'.w.heap[b]? = x.w.heap[b]? := fun b hb hm => by
  have := hL.kept.block b (by rw [hw]; exact hb) hm
  rw [this, hw]
 have hoknew : ∀ b, y'.ok b → x.ok b ∨ (∃ j, oj = some j ∧ x.at_ j = some b) ∨ x.w.heap.size ≤ b := fun b hb => by
  rcases hL.kept.oknew b hb with h | h | h
  ·exact .inl (by rw [← hok]; exact h)
  ·exact .inr (.inl (hmine b h))
  ·exact .inr (.inr (by rw [← hw]; exact h))
 have hmine' : ∀ b, y'.mine b → x'.mine b ∨ x.w.heap.size ≤ b := fun b hb => by
  rcases hL.kept.mine b hb with h | h
  ·exact .inl h
  ·exact .inr (by rw [← hw]; exact h)
 have hsz : x.w.heap.size ≤ y'.w.heap.size := by have := hL.kept.size; rw [hw] at this; exact this
 have hokold : ∀ b, x.ok b → y'.ok b := fun b hb => hL.kept.ok b (by rw [hok]; exact hb)
 have hkin : Kin x y := ⟨hokold, fun b hb => hblk b (hI.okb b hb) (fun hm => hI.notMine hb (hmx b hm))⟩
 have hold : ∀ (i : Nat) (o : Ob), i ≠ ri → Hn[i]? = some o → o ≠ .dead → ∃ q, x.H[i]? = some q ∧ q ≠ .dead ∧ o = σ q := fun i o h1 hi hd => by
  rw [hHot i h1] at hi
  cases hq : x.H[i]? with
  | none => rw [hq] at hi; cases hi
  | some q =>
   rw [hq] at hi
   simp only [Option.map_some, NA] at hi
   refine ⟨q, rfl, fun hqd => hd ?_, hi.symm⟩
   rw [← hi, hqd]
   simp only [σ, Qs]
   split <;> rfl
 have hrow_src : ∀ b, src.bind y'.at_ = some b → ∃ j' xs', src = some j' ∧ y'.at_ j' = some b ∧ y'.H[j']? = some (.arr e t xs') := fun b hb => by
  rcases hrow with ⟨hc, _⟩ | ⟨j', n', xs', hc, hj', _⟩
  ·simp only [src, hc, VX, Option.bind_none] at hb; cases hb
  ·simp only [src, hc, VX, Nx] at hb
   exact ⟨j', xs', by simp only [src, hc, VX], hb, hj'⟩
 have hids : ∀ i, i < x.H.length → i ∉ (qo oj) → IdOk x y i := fun i hi hni => by
  have h1 : i ≠ ri := by
   rcases hri with h | ⟨_, h⟩
   ·rw [h] at hni; simpa [qo] using hni
   ·omega
  unfold IdOk
  have hg : y.H[i]? = (x.H[i]?).map σ := hHot i h1
  cases hq : x.H[i]? with
  | none => trivial
  | some q =>
   rw [hq] at hg
   cases q with
   | dead => trivial
   | box cs =>
    refine ⟨?_, hat_ot i h1⟩
    rcases hri with h | ⟨h, _⟩
    ·subst h; exact ⟨_, hg⟩
    ·subst h; exact ⟨_, hg⟩
   | mp t1 xs =>
    refine ⟨?_, hat_ot i h1⟩
    rcases hri with h | ⟨h, _⟩
    ·subst h; exact ⟨_, hg⟩
    ·subst h; exact ⟨_, hg⟩
   | tb xs =>
    refine ⟨?_, hat_ot i h1⟩
    rcases hri with h | ⟨h, _⟩
    ·subst h; exact ⟨_, hg⟩
    ·subst h; exact ⟨_, hg⟩
   | arr e1 t1 xs =>
    refine ⟨xs, ?_, NF _, hat_ot i h1, fun b hb cur' e' fr' hc => ?_⟩
    ·rcases hri with h | ⟨h, _⟩
     ·subst h; exact hg
     ·subst h; exact hg
    ·have hb2 := hI.lt hq (by simp) hb
     have := hblk b hb2 (hnot i _ b h1 hq (by simp) hb)
     have hc' : y'.w.heap[b]? = some (.cells cur' e' fr') := hc
     rw [this] at hc'
     exact ⟨cur', e', fr', hc', NF _⟩
 have hcar : Carry (yN (qo oj)) x y := by
  rcases hri with h | ⟨h, _⟩
  ·obtain ⟨xs, hx⟩ := hoj ri h
   subst h
   exact Carry.kill hkin ri ⟨e, t, xs, hx⟩ (fun i hi hn => hids i hi (by simpa [qo] using hn))
  ·subst h
   exact Carry.id_of hkin (fun i hi => hids i hi (by simp [qo]))
 have hlow : ∀ (i : Nat) (q : Ob) (b : Nat), x.H[i]? = some q → q ≠ .dead → x.at_ i = some b → b < x.w.heap.size := fun i q b hq hd hb => hI.lt hq hd hb
 have hinv : Inv y := by
  refine ⟨hL.inv.okb, fun i j b oi oj' hi hj hdi hdj h1 h2 => ?_, fun i b o hi hd hb hkb => ?_, fun i o hi => ?_, hI.tab.kin hkin⟩
  ·by_cases ei : i = ri <;> by_cases ej : j = ri
   ·rw [ei, ej]
   ·exfalso
    subst ei
    rw [hat_ri] at h1
    rw [hat_ot j ej] at h2
    obtain ⟨j', xs', _, ha, hh⟩ := hrow_src b h1
    obtain ⟨q, hq, hqd, _⟩ := hold j oj' ej hj hdj
    have hm' : y'.mine b := ⟨j', _, hh, by simp, ha⟩
    rcases hmine' b hm' with h | h
    ·exact hnot j q b ej hq hqd h2 h
    ·have := hlow j q b hq hqd h2; omega
   ·exfalso
    subst ej
    rw [hat_ri] at h2
    rw [hat_ot i ei] at h1
    obtain ⟨j', xs', _, ha, hh⟩ := hrow_src b h2
    obtain ⟨q, hq, hqd, _⟩ := hold i oi ei hi hdi
    have hm' : y'.mine b := ⟨j', _, hh, by simp, ha⟩
    rcases hmine' b hm' with h | h
    ·exact hnot i q b ei hq hqd h1 h
    ·have := hlow i q b hq hqd h1; omega
   ·rw [hat_ot i ei] at h1
    rw [hat_ot j ej] at h2
    obtain ⟨q, hq, hqd, _⟩ := hold i oi ei hi hdi
    obtain ⟨q', hq', hqd', _⟩ := hold j oj' ej hj hdj
    exact hI.inj i j b q q' hq hq' hqd hqd' h1 h2
  ·by_cases ei : i = ri
   ·subst ei
    rw [hat_ri] at hb
    obtain ⟨j', xs', _, ha, hh⟩ := hrow_src b hb
    exact hL.inv.off j' b _ hh (by simp) ha hkb
   ·rw [hat_ot i ei] at hb
    obtain ⟨q, hq, hqd, _⟩ := hold i o ei hi hd
    rcases hoknew b hkb with h | h | h
    ·exact hI.off i b q hq hqd hb h
    ·exact hnotn i q b ei hq hqd hb h
    ·have := hlow i q b hq hqd hb; omega
  ·by_cases ei : i = ri
   ·subst ei
    have : o = .arr e t Y := by
     have hi' : Hn[i]? = some o := hi
     rw [hHri] at hi'; exact (Option.some.inj hi').symm
    subst this
    show ObRep y i (.arr e t Y)
    simp only [ObRep, hat_ri]
    rcases hrow with ⟨hc, hys⟩ | ⟨j', n', xs', hc, hj', hys⟩
    ·simp only [src, hc, VX, Option.bind_none]; exact hys
    ·simp only [src, hc, VX, Nx]
     have ho := hL.inv.obs _ _ hj'
     simp only [ObRep] at ho
     cases ha : y'.at_ j' with
     | none => rw [ha] at ho; simp only at ho ⊢; rw [hys, ho]; simp
     | some b =>
      rw [ha] at ho
      simp only at ho ⊢
      obtain ⟨cur, k1, k2, k3⟩ := ho
      refine ⟨cur, k1, ?_, fun q d hq => ?_⟩
      ·rw [hys]
       have : (xs'.take n').length ≤ xs'.length := by simp; omega
       exact Nat.le_trans (NP _ this) k2
      ·rw [hys, List.getElem?_take] at hq
       split at hq
       ·exact k3 q d hq
       ·cases hq
   ·have hi' : Hn[i]? = some o := hi
    rw [hHot i ei] at hi'
    cases hq : x.H[i]? with
    | none => rw [hq] at hi'; cases hi'
    | some q =>
     rw [hq] at hi'
     simp only [Option.map_some, NA] at hi'
     subst hi'
     by_cases hqd : q = .dead
     ·subst hqd
      have : σ Ob.dead = Ob.dead := by simp only [σ, Qs]; split <;> rfl
      rw [this]; trivial
     ·have hb : ∀ b, x.at_ i = some b → y.w.heap[b]? = x.w.heap[b]? := fun b hb => hblk b (hlow i q b hq hqd hb) (hnot i q b ei hq hqd hb)
      rcases hri with h | ⟨h, _⟩
      ·subst h
       exact (hI.obs i q hq).move (s := .kill ri) hkin hcar (hat_ot i ei) hb
      ·subst h
       exact (hI.obs i q hq).keep hkin hcar (hat_ot i ei) hb
 refine ⟨y, rfl, rfl, hinv, ?_, hids, hcar, ?_, ?_⟩
 ·have k1 := hL.kept.os; have k2 := hL.kept.tape; have k3 := hL.kept.output
  rw [hw] at k1 k2 k3
  refine ⟨k1, k2, k3, hsz, fun b hb hm => hblk b hb (fun h => hm (hmx b h)), fun b hb => ?_, hokold, fun b hb => ?_⟩
  ·obtain ⟨i, o, h1, h2, h3⟩ := hb
   by_cases ei : i = ri
   ·subst ei
    rw [hat_ri] at h3
    obtain ⟨j', xs', _, ha, hh⟩ := hrow_src b h3
    rcases hmine' b ⟨j', _, hh, by simp, ha⟩ with h | h
    ·exact .inl (hmx b h)
    ·exact .inr h
   ·rw [hat_ot i ei] at h3
    obtain ⟨q, hq, hqd, _⟩ := hold i o ei h1 h2
    exact .inl ⟨i, q, hq, hqd, h3⟩
  ·rcases hoknew b hb with h | h | h
   ·exact .inl h
   ·exact .inr (.inl (hmn b h))
   ·exact .inr (.inr h)
 ·show x.H.length ≤ (qA e t oj Y x.H).length
  cases oj with
  | some j => simp [qA, Sub.h]
  | none => simp [qA]
 ·rw [hrid]
  have hval := hL.val
  rw [hvc] at hval
  have q4 := zG hval
  refine zF ⟨q4.1, ?_⟩
  have hy : y.H[ri]? = some (.arr e t Y) := hHri
  simp only [zV, hy, hat_ri]
  refine ⟨NF _, ?_⟩
  rcases hrow with ⟨hc, hys⟩ | ⟨j', n', xs', hc, hj', hys⟩
  ·simp only [src, hc, VX, Option.bind_none]
   have q6 := q4.2
   rw [hc] at q6
   exact ⟨⟨none, q6⟩, by rw [hys]; rfl⟩
  ·simp only [src, hc, VX, Nx]
   have q6 := q4.2
   rw [hc] at q6
   simp only [zV, hj'] at q6
   obtain ⟨q7, q8⟩ := q6
   have hlen : Y.length = n' := by rw [hys]; simp [Nat.min_eq_left q7]
   cases ha : y'.at_ j' with
   | none => rw [ha] at q8; simp only at q8 ⊢; exact ⟨q8.1, by rw [hlen]; exact q8.2⟩
   | some b2 =>
    rw [ha] at q8
    simp only at q8 ⊢
    rw [hlen]; exact q8
def Cx.sole (x : Cx) (oj : Option Nat) (H : List Ob) : Cx :=
 {ok := x.ok, at_ := fun i => if i = 0 then oj.bind x.at_ else none, w := x.w, H := H }
theorem W3 {x : Cx} (hI : Inv x) {e : TypeId} {t : Ty} {oj : Option Nat} {ys : List t.den} (hoj : ∀ j, oj = some j → ∃ xs : List t.den, x.H[j]? = some (.arr e t xs)) (ho : ObRep (x.sole oj [.arr e t ys]) 0 (.arr e t ys)) : Inv (x.sole oj [.arr e t ys]) := by
 have get : ∀ (i : Nat) (o : Ob), (x.sole oj [.arr e t ys]).H[i]? = some o → i = 0 ∧ o = .arr e t ys := fun i o hi => by
  cases i with
  | zero => exact ⟨rfl, (Option.some.inj hi).symm⟩
  | succ i => simp [Cx.sole] at hi
 refine ⟨hI.okb, fun i j b oi oj' hi hj _ _ _ _ => by rw [(get i oi hi).1, (get j oj' hj).1], fun i b o hi hd hb hok => ?_, fun i o hi => ?_, hI.tab⟩
 ·obtain ⟨rfl, _⟩ := get i o hi
  have hb' : oj.bind x.at_ = some b := hb
  cases hq : oj with
  | none => rw [hq] at hb'; cases hb'
  | some j =>
   rw [hq] at hb'
   obtain ⟨xs, hx⟩ := hoj j hq
   exact hI.off j b _ hx (by simp) hb' hok
 ·obtain ⟨rfl, rfl⟩ := get i o hi
  exact ho
theorem bm {x : Cx} {oj : Option Nat} {H : List Ob} (b : Nat) (hb : (x.sole oj H).mine b) : ∃ j, oj = some j ∧ x.at_ j = some b := by
 obtain ⟨i, o, h1, h2, h3⟩ := hb
 have h3' : (if i = 0 then oj.bind x.at_ else none) = some b := h3
 by_cases e0 : i = 0
 ·rw [if_pos e0] at h3'
  cases oj with
  | none => cases h3'
  | some j => exact ⟨j, rfl, h3'⟩
 ·rw [if_neg e0] at h3'; cases h3'
theorem jn : ∀ (l : List AV) (a : AV), Wf (l ++ [a]) = some (l, a)
 | [], a => rfl
 | [b], a => rfl
 | b :: c :: l, a => by
  have h := jn (c :: l) a
  rw [List.cons_append] at h
  simp only [List.cons_append, Wf, h]
def Sd (s : Sig) (e : TypeId) (t : Ty) (avs : List AV) (H : List Ob) : Option (Option Nat × Nat × (s.den × List t.den)) :=
 match avs with
 | a :: rest => QC s e t (rest ++ [a]) H
 | [] => none
def xv (s : Sig) (e : TypeId) (t : Ty) (F : s.den × List t.den → Option (List t.den)) : Con :=
 {X := Option Nat × Nat × (s.den × List t.den), Y := List t.den, look := Sd s e t, F := fun x => F x.2.2,
  outV := fun x y => .val false [.own (Pz x.1 x.2.1) y.length], outH := fun x y H => qA e t x.1 y H, mode := 0,
  kills := fun x _ => qo x.1 }
def v7 (s : Sig) (t : Ty) (x : s.den × List t.den) : List AV := .val false [.own 0 x.2.length] :: zu s x.1
theorem uD (hm : P.follows .mixedOrders = true) (hT : TOk P T) (hE : xL P env) (hC : xc P env ann code) {d : Nat} {f : FuncId} {s : Sig} {e : TypeId} {t : Ty} {F : s.den × List t.den → Option (List t.den)}
  (hrun : ∀ X Y, F X = some Y → ∃ n, iR T env n ann code d f (v7 s t X) (uT e t X.2) (wQ e t) = some Y) : ConOk P f (xv s e t F) := by
 refine ⟨fun x args vals X Y hI hv hl hF => ?_, fun h => (by cases h), fun hm => (by cases hm), fun hm => by cases hm⟩
 have hl' : Sd s e t args x.H = some X := hl
 unfold Sd at hl'
 split at hl' <;> first | (cases hl'; done) | skip
 unfold QC at hl'
 rw [jn] at hl'
 split at hl'
 ·rename_i _ a0 init0 _ init c heq
  obtain ⟨rfl, rfl⟩ := Prod.mk.inj (Option.some.inj heq)
  obtain ⟨u0, us, hus, hlastv, hinit⟩ := hv
  split at hl'
  ·rename_i z hz
   have fin : ∀ (oj : Option Nat) (ys : List t.den), (∀ j, oj = some j → ∃ xs : List t.den, x.H[j]? = some (.arr e t xs)) → X = (oj, x.H.length, (z, ys)) → ObRep (x.sole oj [.arr e t ys]) 0 (.arr e t ys) → RepC (x.sole oj [.arr e t ys]) (.own 0 ys.length) u0 →
     Does P (callFunc f vals) x.w fun u w' => ∃ y : Cx, y.w = w' ∧ y.H = (bif Nat.beq (xv s e t F).mode 1 then x.H else (xv s e t F).outH X Y x.H) ∧ Inv y ∧ Kept x y ∧
      (∀ id, id < x.H.length → id ∉ (bif Nat.beq (xv s e t F).mode 1 then [] else (xv s e t F).kills X (.val false [c] :: init0)) → IdOk x y id) ∧ Carry (yN (bif Nat.beq (xv s e t F).mode 1 then [] else (xv s e t F).kills X (.val false [c] :: init0))) x y ∧ x.H.length ≤ y.H.length ∧ RepV y ((xv s e t F).outV X Y) u := by
    intro oj ys hoj hX ho hc
    subst hX
    have hF' : F (z, ys) = some Y := hF
    obtain ⟨n, hr⟩ := hrun _ _ hF'
    have hI' := W3 hI hoj ho
    have hv' : RepVs (x.sole oj [.arr e t ys]) (v7 s t (z, ys)) vals.toList := by
     rw [hus]
     exact ⟨u0, us, rfl, zF hc, yw (x := x) (y := x.sole oj [.arr e t ys]) (fun t d vs h => h) s init0 z us hz hinit⟩
    show Does P (callFunc f vals) (x.sole oj [.arr e t ys]).w _
    refine re hm hT hE hC (x := x.sole oj [.arr e t ys]) hr hI' hv' (fun v H' y u' hk hL => ?_)
    exact Yd (x' := x.sole oj [.arr e t ys]) (oj := oj) (e := e) (t := t) hI hoj rfl rfl (fun b hb => bm b hb) hL hk
   split at hl'
   ·cases hl'
    have hu := zG hlastv
    refine fin none [] (fun j hj => by cases hj) rfl rfl ⟨hu.1, ?_⟩
    exact ⟨NF _, ⟨none, hu.2⟩, rfl⟩
   ·rename_i j n
    split at hl'
    ·rename_i e' t' xs hj
     split at hl'
     ·rename_i he
      subst he
      split at hl'
      ·rename_i ys hys
       obtain ⟨rfl, rfl⟩ := u6 hys
       cases hl'
       have hu := zG hlastv
       have q6 := hu.2
       simp only [zV, hj] at q6
       obtain ⟨q7, q8⟩ := q6
       have hlen : (ys.take n).length = n := by simp [Nat.min_eq_left q7]
       refine fin (some j) (ys.take n) (fun j' hj' => by cases hj'; exact ⟨_, hj⟩) rfl ?_ ⟨hu.1, ?_⟩
       ·have ho := hI.obs _ _ hj
        simp only [ObRep] at ho
        show match x.at_ j with | none => _ | some b => _
        cases ha : x.at_ j with
        | none => rw [ha] at ho; simp only at ho ⊢; rw [ho]; simp
        | some b2 =>
         rw [ha] at ho
         simp only at ho ⊢
         obtain ⟨cur, k1, k2, k3⟩ := ho
         refine ⟨cur, k1, ?_, fun q dd hq => ?_⟩
         ·have : (ys.take n).length ≤ ys.length := by simp; omega
          exact Nat.le_trans (NP _ this) k2
         ·rw [List.getElem?_take] at hq
          split at hq
          ·exact k3 q dd hq
          ·cases hq
       ·show _ ∧ _
        refine ⟨NF _, ?_⟩
        show match x.at_ j with | none => _ | some b => _
        rw [hlen]
        exact q8
      ·cases hl'
     ·cases hl'
    ·cases hl'
   ·cases hl'
  ·cases hl'
 ·cases hl'
end
end Go.Proofs.YtefddghdaimklaaGreatDoor.AI
/- A region whose order is open, where two neighbours (two variables that are made) come in either order and their names change places: what follows is run behind both. -/
namespace Go.Proofs.YtefddghdaimklaaGreatDoor.AI
open Go
def TS (env : FuncId → Option Con) (pl : List Nat) (ops : Array Oper) (p : Nat) : Bool :=
 let M := wH ops.toList []
 (List.range ops.size).all fun i =>
  match ops[i]? with
  | none => false
  | some o =>
   (z2 o).all (fun j => Nat.blt j i) &&
   (M.getD i []).all (fun j => xC j (z2 o) || (z2 o).any fun m => xC j (M.getD m [])) &&
   (List.range i).all fun a => xC a (M.getD i []) || (Nat.beq a p && Nat.beq i (p + 1)) || (match ops[a]? with
    | some oa => UO env pl ops oa o
    | none => false)
section
variable {T : TypeId → Option TI} {h0 : Nat} {env : FuncId → Option Con} {inl : FuncId → List AV → List Ob → (AV → List Ob → Option (AV × List Ob)) → Option (AV × List Ob)} {pl : List Nat} {ops : Array Oper}
theorem rT (hm : Mono1 env) (Bef : Nat → Nat → Prop) : ∀ (σ idx : List Nat) (st st' : St), σ.Perm idx → σ.Pairwise (fun p q => ¬ Bef q p) →
  idx.Pairwise (fun a i => Bef a i ∨ QI env pl ops a i) → tL T h0 env inl true pl ops idx st = some st' → tL T h0 env inl true pl ops σ st = some st'
 | [], idx, st, st', hp, _, _, h => by
  have : idx = [] := List.Perm.eq_nil hp.symm
  rw [this] at h; exact h
 | i :: σ, idx, st, st', hp, ho, hf, h => by
  have hi : i ∈ idx := hp.subset (by simp)
  obtain ⟨A, B, rfl⟩ := List.append_of_mem hi
  have hp2 : σ.Perm (A ++ B) := (List.perm_cons i).1 (hp.trans List.perm_middle)
  have hf' := List.pairwise_append.1 hf
  have ho' := List.pairwise_cons.1 ho
  have hb := YB hm i B A st st' h (fun a ha => by
   rcases hf'.2.2 a ha i (by simp) with h1 | h1
   ·exact absurd h1 (ho'.1 a (hp2.symm.subset (by simp [ha])))
   ·exact h1)
  have hsub : (A ++ B).Pairwise (fun a i => Bef a i ∨ QI env pl ops a i) := hf.sublist (List.Sublist.append_left (List.sublist_cons_self i B) A)
  simp only [tL] at hb ⊢
  split at hb
  ·rename_i hn
   exact rT hm Bef σ (A ++ B) st st' hp2 ho'.2 hsub hb
  ·rename_i o hn
   split at hb
   ·rename_i s hst
    exact rT hm Bef σ (A ++ B) s st' hp2 ho'.2 hsub hb
   ·cases hb
theorem l7 (draw : Bool) : ∀ (idx : List Nat) (l : List Oper), idx.map (fun i => ops[i]?) = l.map some → ∀ st, tL T h0 env inl draw pl ops idx st = fZ T h0 env inl draw pl ops.toList l st
 | [], [], _, st => rfl
 | [], _ :: _, h, st => by simp at h
 | _ :: _, [], h, st => by simp at h
 | i :: idx, o :: l, h, st => by
  simp only [NN, List.cons.injEq] at h
  simp only [tL, h.1, fZ]
  cases yt T h0 env inl draw pl ops.toList o st with
  | none => rfl
  | some s => exact l7 draw idx l h.2 s
end
def W6 (env : FuncId → Option Con) (ann : Nat → Ann) (p : Nat) : Code → Bool
 | .seq a (.seq (.region id ops draw) b) => yv env ann a && (draw && (!(ann id).dead && TS env (ann id).plain ops p)) && yv env ann b
 | _ => false
structure Code2Ok (P : Program) (env : FuncId → Option Con) (ann : FuncId → Nat → Ann) (p : Nat) (f : FuncId) (fn : Func) : Prop where
 at_ : P.funcs[f]? = some fn
 name : (fn.name == "runtime.NumGoroutine") = false
 draws : (match fn.body with
  | some c => W6 env (ann f) p c
  | none => false) = true
section
variable {R : Type} {P : Program} {T : TypeId → Option TI} {env : FuncId → Option Con} {ann : FuncId → Nat → Ann} {code : FuncId → Option Func}
end
end Go.Proofs.YtefddghdaimklaaGreatDoor.AI
/- Rows of whole numbers of the caller's own, that a call writes over in place. -/
namespace Go.Proofs.YtefddghdaimklaaGreatDoor.AI
open Go Go.Sort
section
variable {x : Cx} {w : World}
theorem pb (hI : Inv x) (hb : ∀ b, b < x.w.heap.size → w.heap[b]? = x.w.heap[b]?) : Kin x (x.withW w) := ⟨fun _ h => h, fun b h => hb b (hI.okb b h)⟩
theorem pv (hI : Inv x) (hb : ∀ b, b < x.w.heap.size → w.heap[b]? = x.w.heap[b]?) (id : Nat) : IdOk x (x.withW w) id := IdOk.same hI rfl rfl (fun b _ h => hb b h)
theorem WI (hI : Inv x) (hs : x.w.heap.size ≤ w.heap.size) (hb : ∀ b, b < x.w.heap.size → w.heap[b]? = x.w.heap[b]?) : Inv (x.withW w) :=
 ⟨fun b h => Nat.lt_of_lt_of_le (hI.okb b h) hs, hI.inj, hI.off, fun i o h => by
  cases o with
  | dead => trivial
  | _ => exact (hI.obs i _ h).keep (pb hI hb) (Carry.id_of (pb hI hb) (fun id _ => pv hI hb id)) rfl (fun b h2 => hb b (hI.lt h (by simp) h2)), hI.tab.kin (pb hI hb)⟩
theorem cr (hs : x.w.heap.size ≤ w.heap.size) (hb : ∀ b, b < x.w.heap.size → w.heap[b]? = x.w.heap[b]?) (h1 : w.os = x.w.os) (h2 : w.tape = x.w.tape) (h3 : w.output = x.w.output) : Kept x (x.withW w) :=
 ⟨h1, h2, h3, hs, fun b h _ => hb b h, fun b h => .inl h, fun _ h => h, fun _ h => .inl h⟩
end
section
variable {P : Program}
end
end Go.Proofs.YtefddghdaimklaaGreatDoor.AI
/- Regions where several things are made in an open order: each order of what is made is run, told by a tape. -/
namespace Go.Proofs.YtefddghdaimklaaGreatDoor.AI
open Go
inductive Alt where
 | leaf (ord : List Nat)
 | node (p q : Nat) (l r : Alt)
def Alt.pick : Alt → List Bool → Option (List Nat × List Bool)
 | .leaf o, s => some (o, s)
 | .node _ _ l r, b :: s => bif b then l.pick s else r.pick s
 | .node _ _ _ _, [] => none
def Pd (M : List (List Nat)) (ps : List (Nat × Nat)) (a i : Nat) : Bool :=
 xC a (M.getD i []) || ps.any fun p => (Nat.beq a p.1 || xC a (M.getD p.1 [])) && (Nat.beq i p.2 || xC p.2 (M.getD i []))
def mr (env : FuncId → Option Con) (pl : List Nat) (ops : Array Oper) (M : List (List Nat)) (ps : List (Nat × Nat)) : List Nat → Bool
 | [] => true
 | a :: r => (r.all fun i => Pd M ps a i || (match ops[a]?, ops[i]? with
   | some oa, some oi => UO env pl ops oa oi
   | _, _ => false)) && mr env pl ops M ps r
def iM (env : FuncId → Option Con) (pl : List Nat) (ops : Array Oper) (M : List (List Nat)) : List (Nat × Nat) → Alt → Bool
 | ps, .leaf ord => ord.isPerm (List.range ops.size) && mr env pl ops M ps ord
 | ps, .node p q l r => ((Nat.blt p ops.size && Nat.blt q ops.size) && !(Nat.beq p q)) && (iM env pl ops M ((p, q) :: ps) l && iM env pl ops M ((q, p) :: ps) r)
def i0 (env : FuncId → Option Con) (pl : List Nat) (ops : Array Oper) (alt : Alt) : Bool :=
 let M := wH ops.toList []
 ((List.range ops.size).all fun i =>
  match ops[i]? with
  | none => false
  | some o =>
   (z2 o).all (fun j => Nat.blt j i) &&
   (M.getD i []).all (fun j => xC j (z2 o) || (z2 o).any fun m => xC j (M.getD m []))) && iM env pl ops M [] alt
section
variable {T : TypeId → Option TI} {h0 : Nat} {env : FuncId → Option Con} {inl : FuncId → List AV → List Ob → (AV → List Ob → Option (AV × List Ob)) → Option (AV × List Ob)} {pl : List Nat} {ops : Array Oper}
structure Drawn (ops : Array Oper) (M : List (List Nat)) (l : List Nat) : Prop where
 perm : l.Perm (List.range ops.size)
 nodup : l.Nodup
 pos : ∀ i, i < ops.size → ∀ j ∈ M.getD i [], l.idxOf j < l.idxOf i
theorem WG {alt : Alt} (hd : i0 env pl ops alt = true) (t : Nat) : Drawn ops (wH ops.toList []) (Region.linearise .any ops t) ∧ iM env pl ops (wH ops.toList []) [] alt = true := by
 unfold i0 at hd
 simp only [Nt] at hd
 obtain ⟨hd, halt⟩ := hd
 refine ⟨?_, halt⟩
 simp only [Nw, List.mem_range] at hd
 generalize hM : wH ops.toList [] = M at hd
 have hdd : ∀ i o, ops[i]? = some o → (∀ j ∈ z2 o, j < i) ∧ (∀ j ∈ M.getD i [], j ∈ z2 o ∨ ∃ m ∈ z2 o, j ∈ M.getD m []) := by
  intro i o ho
  have hlt := (Array.getElem?_eq_some_iff.1 ho).1
  have := hd i hlt
  simp only [ho, Nt, Nw, Bool.or_eq_true, List.any_eq_true, tm] at this
  obtain ⟨h1, h2⟩ := this
  exact ⟨fun j hj => by have := h1 j hj; simp [Nat.blt] at this; omega, h2⟩
 have hdown : ∀ i o, ops[i]? = some o → ∀ j ∈ z2 o, j < i := fun i o ho => (hdd i o ho).1
 have hsz : (Array.replicate ops.size false).size = ops.size := by simp
 obtain ⟨g1, g2, g3⟩ := Yj ops ops.size t (Array.replicate ops.size false) hsz
 have g4 := Vw ops hdown ops.size t (Array.replicate ops.size false) hsz (Nat.le_trans (List.length_filter_le _ _) (by simp))
 have hlin : Region.linearise .any ops t = Region.linearise.go .any ops ops.size t (Array.replicate ops.size false) [] := rfl
 rw [hlin]
 generalize hl : Region.linearise.go .any ops ops.size t (Array.replicate ops.size false) [] = l at g1 g2 g3 g4
 refine ⟨(List.perm_ext_iff_of_nodup g2 List.nodup_range).2 (fun a => ?_), g2, ?_⟩
 ·rw [List.mem_range]
  exact ⟨fun ha => (g1 a ha).1, fun ha => g4 a ha (by simp [ha])⟩
 ·intro i
  induction i using Nat.strongRecOn with
  | _ i ih =>
   intro hi j hj
   have ho : ops[i]? = some ops[i] := Array.getElem?_eq_getElem hi
   have hmem : i ∈ l := g4 i hi (by simp [hi])
   obtain ⟨A, B, rfl⟩ := List.append_of_mem hmem
   have direct : ∀ k ∈ z2 ops[i], (A ++ i :: B).idxOf k < (A ++ i :: B).idxOf i := fun k hk => by
    rcases g3 A B i _ rfl ho k hk with h1 | h1
    ·have hk2 : k < i := hdown i _ ho k hk
     simp [Array.getD_eq_getD_getElem?, show k < ops.size by omega] at h1
    ·exact fM g2 h1
   rcases (hdd i _ ho).2 j hj with h1 | ⟨m, hm1, hm2⟩
   ·exact direct j h1
   ·have hmi := hdown i _ ho m hm1
    exact Nat.lt_trans (ih m hmi (by omega) j hm2) (direct m hm1)
theorem nu {M : List (List Nat)} {ps : List (Nat × Nat)} : ∀ (l : List Nat), mr env pl ops M ps l = true → l.Pairwise fun a i => Pd M ps a i = true ∨ QI env pl ops a i
 | [], _ => List.Pairwise.nil
 | a :: r, h => by
  simp only [mr, Nt, Nw, Bool.or_eq_true] at h
  refine List.pairwise_cons.2 ⟨fun i hi => ?_, nu r h.2⟩
  rcases h.1 i hi with h1 | h1
  ·exact .inl h1
  ·right
   split at h1
   ·rename_i oa oi ha ho; exact ⟨oa, oi, ha, ho, h1⟩
   ·cases h1
theorem iC {R : Type} {r : R} (hm : Mono1 env) {M : List (List Nat)} {l : List Nat} (hl : Drawn ops M l) : ∀ (alt : Alt) (ps : List (Nat × Nat)), iM env pl ops M ps alt = true → (∀ p ∈ ps, p.1 < ops.size ∧ p.2 < ops.size ∧ l.idxOf p.1 < l.idxOf p.2) →
  ∀ (m : Nat) (f : List Nat → List Bool → Option R), (∀ s : List Bool, s.length = m → ((alt.pick s).bind fun p => f p.1 p.2) = some r) →
   ∃ ord m', (∀ st st', tL T h0 env inl true pl ops ord st = some st' → tL T h0 env inl true pl ops l st = some st') ∧ (∀ i ∈ ord, i < ops.size) ∧ ∀ s : List Bool, s.length = m' → f ord s = some r
 | .leaf ord, ps, h, hp, m, f, hf => by
  simp only [iM, Nt] at h
  have hperm : ord.Perm (List.range ops.size) := List.isPerm_iff.1 h.1
  refine ⟨ord, m, fun st st' hr => ?_, fun i hi => List.mem_range.1 (hperm.subset hi), fun s hs => hf s hs⟩
  refine rT hm (fun a i => i < ops.size ∧ Pd M ps a i = true) l ord st st' (hl.perm.trans hperm.symm) ?_ ?_ hr
  ·refine (uM l hl.nodup).imp_of_mem ?_
   rintro x q hx hq hlt ⟨hxs, hb⟩
   simp only [Pd, Bool.or_eq_true, tm, List.any_eq_true, Nt, Ux] at hb
   rcases hb with h1 | ⟨p, hp1, h2, h3⟩
   ·have := hl.pos x hxs q h1
    omega
   ·obtain ⟨p1, p2, p3⟩ := hp p hp1
    have e1 : l.idxOf q ≤ l.idxOf p.1 := by
     rcases h2 with rfl | h2
     ·exact NF _
     ·exact Nat.le_of_lt (hl.pos _ p1 _ h2)
    have e2 : l.idxOf p.2 ≤ l.idxOf x := by
     rcases h3 with rfl | h3
     ·exact NF _
     ·exact Nat.le_of_lt (hl.pos _ hxs _ h3)
    omega
  ·refine (nu ord h.2).imp_of_mem ?_
   intro a i ha hi h1
   have : i < ops.size := List.mem_range.1 (hperm.subset hi)
   rcases h1 with h1 | h1
   ·exact .inl ⟨this, h1⟩
   ·exact .inr h1
 | .node p q x y, ps, h, hp, m, f, hf => by
  simp only [iM, Nt, Bool.not_eq_true'] at h
  obtain ⟨⟨⟨hp1, hq1⟩, hne⟩, hx, hy⟩ := h
  have hp1 : p < ops.size := by simp [Nat.blt] at hp1; omega
  have hq1 : q < ops.size := by simp [Nat.blt] at hq1; omega
  have hne : p ≠ q := fun e => by subst e; simp at hne
  cases m with
  | zero => have := hf [] rfl; simp [Alt.pick] at this
  | succ m =>
   by_cases hlt : l.idxOf p < l.idxOf q
   ·exact iC hm hl x ((p, q) :: ps) hx (fun z hz => by
     rcases NM.1 hz with rfl | hz
     ·exact ⟨hp1, hq1, hlt⟩
     ·exact hp z hz) m f fun s hs => hf (true :: s) (by simp [hs])
   ·refine iC hm hl y ((q, p) :: ps) hy (fun z hz => ?_) m f fun s hs => hf (false :: s) (by simp [hs])
    rcases NM.1 hz with rfl | hz
    ·refine ⟨hq1, hp1, ?_⟩
     have h1 : p ∈ l := hl.perm.symm.subset (List.mem_range.2 hp1)
     have h2 : q ∈ l := hl.perm.symm.subset (List.mem_range.2 hq1)
     rcases Nat.lt_or_ge (l.idxOf q) (l.idxOf p) with h3 | h3
     ·exact h3
     ·have h4 : l.idxOf p = l.idxOf q := by omega
      have e1 := List.getElem_idxOf (List.idxOf_lt_length_of_mem h1)
      have e2 := List.getElem_idxOf (List.idxOf_lt_length_of_mem h2)
      exfalso
      apply hne
      rw [← e1, ← e2]
      congr 1
    ·exact hp z hz
theorem aH : ∀ (ord : List Nat), (∀ i ∈ ord, i < ops.size) → ord.map (fun i => ops[i]?) = (ord.filterMap fun i => ops[i]?).map some
 | [], _ => rfl
 | i :: r, h => by
  have hlt : i < ops.size := h i (by simp)
  have hi : ops[i]? = some (ops[i]'hlt) := Array.getElem?_eq_getElem hlt
  rw [NN, List.filterMap_cons_some hi, NN, aH r (fun j hj => h j (by simp [hj])), hi]
end
def VQ {R : Type} (T : TypeId → Option TI) (h0 : Nat) (env : FuncId → Option Con) (inl : FuncId → List AV → List Ob → (AV → List Ob → Option R) → Option R) (pl : List Nat) (ops : Array Oper) (ord : List Nat) (fr : List AV) (H : List Ob) (k : List AV → List Ob → Option R) : Option R :=
 partK pl fr fun fr => gk T h0 env inl true pl ops.toList (ord.filterMap fun i => ops[i]?) ⟨fr, [], []⟩ H fun g H => sealK h0 pl (R6 g) H k
def sY {R : Type} (T : TypeId → Option TI) (h0 : Nat) (env : FuncId → Option Con) (inl : FuncId → List AV → List Ob → (AV → List Ob → Option R) → Option R) (n : Nat) (ann : Nat → Ann) (alts : Nat → Option Alt) : Code → List Bool → List AV → List Ob → (List Bool → Ex → List AV → List Ob → Option R) → Option R
 | .seq a b, s, fr, H, k => sY T h0 env inl n ann alts a s fr H fun s e fr H => match e with
  | .normal => sY T h0 env inl n ann alts b s fr H k
  | e => k s e fr H
 | .cond c x y, s, fr, H, k => match evA fr c with
  | .val false [.sc .bool b] => bif b then sY T h0 env inl n ann alts x s fr H k else sY T h0 env inl n ann alts y s fr H k
  | _ => none
 | .block id c, s, fr, H, k => sY T h0 env inl n ann alts c s fr H fun s e fr H => match e with
  | .exit j => bif Nat.beq j id then k s .normal fr H else k s (.exit j) fr H
  | e => k s e fr H
 | .region id ops draw, s, fr, H, k => match alts id with
  | some alt => match alt.pick s with
   | some (o, s') => VQ T h0 env inl (ann id).plain ops o fr H fun fr H => k s' .normal fr H
   | none => none
  | none => ye T h0 env inl n ann (.region id ops draw) fr H (k s)
 | c, s, fr, H, k => ye T h0 env inl n ann c fr H (k s)
def uj (env : FuncId → Option Con) (ann : Nat → Ann) (alts : Nat → Option Alt) : Code → Bool
 | .seq a b => uj env ann alts a && uj env ann alts b
 | .cond _ x y => uj env ann alts x && uj env ann alts y
 | .block _ c => uj env ann alts c
 | .region id ops draw => match alts id with
  | some alt => draw && i0 env (ann id).plain ops alt
  | none => yv env ann (.region id ops draw)
 | c => yv env ann c
def sP {R : Type} (T : TypeId → Option TI) (h0 : Nat) (env : FuncId → Option Con) (inl : FuncId → List AV → List Ob → (AV → List Ob → Option R) → Option R) (n : Nat) (ann : FuncId → Nat → Ann) (alts : Nat → Option Alt) (f : FuncId) (fn : Func) (s : List Bool) (args : List AV) (H : List Ob) (k : AV → List Ob → Option R) : Option R :=
 match fn.body with
 | none => none
 | some c => bif Nat.ble args.length fn.ntmps then
   sY T h0 env inl n (ann f) alts c s (args ++ List.replicate (fn.ntmps - args.length) .undef) H fun _ e fr H => match e with
    | .exit _ => none
    | _ => match wa T fr H fn.results.toList with
     | some v => k v H
     | none => none
  else none
structure CodeTOk (P : Program) (env : FuncId → Option Con) (ann : FuncId → Nat → Ann) (alts : Nat → Option Alt) (f : FuncId) (fn : Func) : Prop where
 at_ : P.funcs[f]? = some fn
 name : (fn.name == "runtime.NumGoroutine") = false
 draws : (match fn.body with
  | some c => uj env (ann f) alts c
  | none => false) = true
section
variable {R : Type} {P : Program} {T : TypeId → Option TI} {env : FuncId → Option Con} {ann : FuncId → Nat → Ann} {code : FuncId → Option Func}
theorem WE {A B : Type} {h0 n d : Nat} (φ : B → Option A) (pl : List Nat) (ops : Array Oper) (ord : List Nat) (fr : List AV) (H : List Ob) (k : List AV → List Ob → Option B) :
  VQ T h0 env (xH T env n ann code d) pl ops ord fr H (fun fr H => (k fr H).bind φ) = (VQ T h0 env (xH T env n ann code d) pl ops ord fr H k).bind φ := by
 unfold VQ
 rw [← tq φ]
 congr 1
 funext fr
 rw [← iA (yn d) (yn d) φ true]
 congr 1
 funext g H
 exact si φ _ _ _ _
theorem j0 (hm : P.follows .mixedOrders = true) (hT : TOk P T) (hE : xL P env) (hC : xc P env ann code) {n d h0 : Nat} {an : Nat → Ann} {alts : Nat → Option Alt} {r : R} : ∀ (c : Code) (m : Nat) (Q : Exit → Act → World → Prop) (x0 : Cx) (fr : List AV) (H : List Ob) (k : List Bool → Ex → List AV → List Ob → Option R) (a : Act) (w : World),
  uj env an alts c = true → (∀ s : List Bool, s.length = m → sY T h0 env (xH T env n ann code d) n an alts c s fr H k = some r) → Good x0 h0 ⟨fr, H⟩ a w →
   (∀ m' e fr' H' a' w', (∀ s : List Bool, s.length = m' → k s e fr' H' = some r) → Good x0 h0 ⟨fr', H'⟩ a' w' → Q e.to a' w') → c.wp P Q a w := by
 have plain : ∀ (c : Code) (m : Nat) (Q : Exit → Act → World → Prop) (x0 : Cx) (fr : List AV) (H : List Ob) (k : List Bool → Ex → List AV → List Ob → Option R) (a : Act) (w : World),
  yv env an c = true → (∀ s : List Bool, s.length = m → ye T h0 env (xH T env n ann code d) n an c fr H (k s) = some r) → Good x0 h0 ⟨fr, H⟩ a w →
   (∀ m' e fr' H' a' w', (∀ s : List Bool, s.length = m' → k s e fr' H' = some r) → Good x0 h0 ⟨fr', H'⟩ a' w' → Q e.to a' w') → c.wp P Q a w := by
  intro c m Q x0 fr H k a w hd h hg hk
  have hom : ∀ s, ye T h0 env (xH T env n ann code d) n an c fr H (k s) = (ye T h0 env (xH T env n ann code d) n an c fr H (fun e fr H => some (e, fr, H))).bind (fun q : Ex × List AV × List Ob => k s q.1 q.2.1 q.2.2) := fun s =>
   wJ (T := T) (h0 := h0) (env := env) (yn (T := T) (env := env) (n := n) (ann := ann) (code := code) d (R := R)) (yn d (R := Ex × List AV × List Ob)) (fun q : Ex × List AV × List Ob => k s q.1 q.2.1 q.2.2) n an c fr H (fun e fr H => some (e, fr, H))
  cases hq : ye T h0 env (xH T env n ann code d) n an c fr H (fun e fr H => some (e, fr, H)) with
  | none =>
   have := h (List.replicate m false) (by simp)
   rw [hom, hq] at this
   cases this
  | some q =>
   have hks : ∀ s : List Bool, s.length = m → k s q.1 q.2.1 q.2.2 = some r := fun s hs => by
    have := h s hs
    rw [hom, hq] at this
    exact this
   refine yX hm hT hE (oY (P := P) hm hT hE hC d) (yn d) c Q x0 fr H (fun e fr H => some (e, fr, H)) a w hd hq hg fun e fr' H' a' w' h' hg' => ?_
   cases h'
   exact hk m _ _ _ _ _ hks hg'
 intro c
 induction c with
 | seq x y ihx ihy =>
  intro m Q x0 fr H k a w hd h hg hk
  simp only [uj, Nt] at hd
  refine wp_seq (ihx m _ x0 fr H _ a w hd.1 (fun s hs => h s hs) hg fun m' e fr' H' a' w' h' hg' => ?_)
  cases e with
  | normal => exact ihy m' Q x0 fr' H' k a' w' hd.2 (fun s hs => h' s hs) hg' hk
  | exit id => exact hk m' _ _ _ _ _ (fun s hs => h' s hs) hg'
  | ret => exact hk m' _ _ _ _ _ (fun s hs => h' s hs) hg'
 | cond t x y ihx ihy =>
  intro m Q x0 fr H k a w hd h hg hk
  simp only [uj, Nt] at hd
  have h0' := h (List.replicate m false) (by simp)
  simp only [sY] at h0'
  split at h0'
  ·rename_i b hc
   have h2 : ∀ s : List Bool, s.length = m → (bif b then sY T h0 env (xH T env n ann code d) n an alts x s fr H k else sY T h0 env (xH T env n ann code d) n an alts y s fr H k) = some r := fun s hs => by
    have := h s hs
    simp only [sY, hc] at this
    exact this
   obtain ⟨z, hz, hat⟩ := hg
   have hv := hat.fr.ev hat.inv t
   rw [show evA (St.fr ⟨fr, H⟩) t = _ from hc] at hv
   have hb' := v4 hv
   refine wp_cond hb' ?_
   cases b with
   | true => exact ihx m Q x0 fr H k a w hd.1 h2 ⟨z, hz, hat⟩ hk
   | false => exact ihy m Q x0 fr H k a w hd.2 h2 ⟨z, hz, hat⟩ hk
  ·cases h0'
 | block id x ih =>
  intro m Q x0 fr H k a w hd h hg hk
  simp only [uj] at hd
  refine wp_block (ih m _ x0 fr H _ a w hd (fun s hs => h s hs) hg fun m' e fr' H' a' w' h' hg' => ?_)
  cases e with
  | normal => exact hk m' _ _ _ _ _ (fun s hs => h' s hs) hg'
  | ret => exact hk m' _ _ _ _ _ (fun s hs => h' s hs) hg'
  | exit j =>
   simp only at h'
   show Exit.inBlock id Q (.exit j) a' w'
   simp only [Exit.inBlock]
   by_cases e : j = id
   ·subst e
    rw [if_pos rfl]
    simp only [Nat.beq_refl, Nv] at h'
    exact hk m' .normal _ _ _ _ h' hg'
   ·rw [if_neg e]
    have : Nat.beq j id = false := by
     cases hb' : Nat.beq j id with
     | true => exact absurd (Nz hb') e
     | false => rfl
    rw [this] at h'
    exact hk m' (.exit j) _ _ _ _ h' hg'
 | region id ops draw =>
  intro m Q x0 fr H k a w hd h hg hk
  cases ha : alts id with
  | none =>
   simp only [uj, ha] at hd
   exact plain (.region id ops draw) m Q x0 fr H k a w hd (fun s hs => by
    have := h s hs
    simp only [sY, ha] at this
    exact this) hg hk
  | some alt =>
   simp only [uj, ha, Nt] at hd
   obtain ⟨hdr, hda⟩ := hd
   subst hdr
   refine wp_region_draw (fun t => ?_)
   simp only [Region.schedule, hm, Bool.true_or, if_true]
   obtain ⟨hl, haok⟩ := WG hda t
   obtain ⟨ord, m', hgood, hin, hrun⟩ := iC (R := R) (r := r) (T := T) (h0 := h0) (inl := xH T env n ann code d) (Mono1.of hE) hl alt [] haok (fun p hp => by simp at hp) m (fun o s' => VQ T h0 env (xH T env n ann code d) (an id).plain ops o fr H fun fr H => k s' .normal fr H) (fun s hs => by
    have := h s hs
    simp only [sY, ha] at this
    cases hp : alt.pick s with
    | none => rw [hp] at this; cases this
    | some p => rw [hp] at this; exact this)
   have hom : ∀ s, VQ T h0 env (xH T env n ann code d) (an id).plain ops ord fr H (fun fr H => k s .normal fr H) = (VQ T h0 env (xH T env n ann code d) (an id).plain ops ord fr H (fun fr H => some (fr, H))).bind (fun q : List AV × List Ob => k s .normal q.1 q.2) := fun s =>
    WE (fun q : List AV × List Ob => k s .normal q.1 q.2) (an id).plain ops ord fr H (fun fr H => some (fr, H))
   cases hq : VQ T h0 env (xH T env n ann code d) (an id).plain ops ord fr H (fun fr H => some (fr, H)) with
   | none =>
    have := hrun (List.replicate m' false) (by simp)
    rw [hom, hq] at this
    cases this
   | some q =>
    have hks : ∀ s : List Bool, s.length = m' → k s .normal q.1 q.2 = some r := fun s hs => by
     have := hrun s hs
     rw [hom, hq] at this
     exact this
    obtain ⟨fr2, hq2, hg2⟩ := Good.partK _ _ hq hg
    obtain ⟨g', st', b1, b2, b3⟩ := pQ (yn d) true (an id).plain ops.toList (ord.filterMap fun i => ops[i]?) _ _ fr2 _ _ hq2 (RG.self fr2)
    rw [← l7 true ord _ (aH ord hin)] at b1
    have fin : ∀ a w, Good x0 h0 st' a w → Q .normal a w := fun a w hgd => by
     obtain ⟨fr3, H3, q1, q2⟩ := Good.sealK _ _ _ b3 (Good.end_ (fr := st'.fr) hgd b2)
     cases q1
     exact hk m' .normal _ _ a w hks q2
    exact yI hT hE (oY (P := P) hm hT hE hC d) fin _ _ a _ (hgood _ _ b1) (hg2.drawn _)
 | _ =>
  intro m Q x0 fr H k a w hd h hg hk
  exact plain _ m Q x0 fr H k a w hd (fun s hs => h s hs) hg hk
theorem iK (hm : P.follows .mixedOrders = true) (hT : TOk P T) (hE : xL P env) (hC : xc P env ann code) {n d m : Nat} {alts : Nat → Option Alt} {r : R} {f : FuncId} {fn : Func} (hc : CodeTOk P env ann alts f fn)
  {x : Cx} {args : List AV} {vals : Array Value} {k : AV → List Ob → Option R} {S : Value → World → Prop} (h : ∀ s : List Bool, s.length = m → sP T 0 env (xH T env n ann code d) n ann alts f fn s args x.H k = some r)
  (hI : Inv x) (hv : RepVs x args vals.toList) (hk : ∀ v H' y u, k v H' = some r → Left x 0 v H' u y → S u y.w) : Does P (callFunc f vals) x.w S := by
 have hd := hc.draws
 cases hbody : fn.body with
 | none => rw [hbody] at hd; cases hd
 | some c =>
  simp only [hbody] at hd
  cases hle : Nat.ble args.length fn.ntmps with
  | false =>
   have := h (List.replicate m false) (by simp)
   simp [sP, hbody, hle] at this
  | true =>
   have h' : ∀ s : List Bool, s.length = m → _ := fun s hs => by
    have := h s hs
    simp only [sP, hbody, hle, Nv] at this
    exact this
   have hle' := Nat.le_of_ble_eq_true hle
   have hrun : (callFunc f vals).run P x.w = .ok (.enter f vals) x.w := by
    have hn := hc.name
    simp only [beq_eq_false_iff_ne, ne_eq] at hn
    simp [callFunc, go_sem, hc.at_, hbody, hn]
   unfold Does
   rw [hrun]
   simp only
   refine calls_of_wp hc.at_ hbody ?_
   obtain ⟨hlen, hget⟩ := se _ _ hv
   simp only [Array.length_toList] at hlen
   refine j0 hm hT hE hC c m _ x _ _ _ _ x.w hd h' ⟨x, rfl, hI, rfl, ?_, Kept.refl x, fun id _ => IdOk.same hI rfl rfl (fun _ _ _ => rfl), Nat.zero_le _, rfl, NF _⟩ ?_
   ·intro t v ht
    have ht' : (args ++ List.replicate (fn.ntmps - args.length) AV.undef)[t]? = some v := ht
    show ∃ u, (vals ++ Array.replicate (fn.ntmps - vals.size) Go.undef)[t]? = some u ∧ RepV x v u
    rw [List.getElem?_append] at ht'
    rw [Array.getElem?_append]
    split at ht'
    ·rename_i hlt
     rw [if_pos (by omega)]
     obtain ⟨u, h1, h2⟩ := hget t v ht'
     exact ⟨u, by simpa using h1, h2⟩
    ·rename_i hlt
     rw [if_neg (by omega)]
     rw [List.getElem?_replicate] at ht'
     split at ht'
     ·rename_i h3
      cases ht'
      refine ⟨Go.undef, ?_, trivial⟩
      rw [Array.getElem?_replicate, if_pos (by omega)]
     ·cases ht'
   ·intro m' e fr' H' a' w' hs hg'
    have h1 := hs (List.replicate m' false) (by simp)
    have fin : (match wa T fr' H' fn.results.toList with | some v => k v H' | none => none) = some r → a'.defers = [] ∧ ∃ v, (results fn a'.tmps).run P w' = .ok v w' ∧ S v w' := by
     intro h'
     obtain ⟨y, rfl, hy⟩ := hg'
     have e1 : y.H = H' := hy.H
     split at h'
     ·rename_i v hr
      rw [← e1] at hr
      obtain ⟨u, h1, h2⟩ := ub hT hy.inv hy.fr hr
      exact ⟨hy.defers, u, h1, hk v H' y u h' ⟨hy.inv, e1, hy.kept, hy.ids, hy.low, h2⟩⟩
     ·cases h'
    cases e with
    | normal => exact fin h1
    | ret => exact fin h1
    | exit id => simp at h1
theorem jQ (hm : P.follows .mixedOrders = true) (hT : TOk P T) (hE : xL P env) (hC : xc P env ann code) {d : Nat} {alts : Nat → Option Alt} (m : Nat) {f : FuncId} {fn : Func} (hc : CodeTOk P env ann alts f fn) {s rs : Sig} {lend : Bool} {F : s.den → Option rs.den}
  (hfl : lend = true → ∀ p ∈ rs, p.2.flat = true) (hrun : ∀ X Y, F X = some Y → ∃ n, ∀ s' : List Bool, s'.length = m → sP T 0 env (xH T env n ann code d) n ann alts f fn s' (zu s X) [] (zq rs) = some Y) : ConOk P f (zk s rs lend F) :=
 mG hfl fun X Y hF x' vals hH hI hv S hk => by
  obtain ⟨n, hr⟩ := hrun X Y hF
  exact iK hm hT hE hC hc (x := x') (r := Y) (m := m) (k := zq rs) (fun s' hs => by rw [hH]; exact hr s' hs) hI hv hk
end
theorem P0 {p : List Bool → Prop} (h : ∀ b0, p [b0]) : ∀ s : List Bool, s.length = 1 → p s
 | [b0], _ => h b0
theorem Od {p : List Bool → Prop} (h : ∀ b0 b1, p [b0, b1]) : ∀ s : List Bool, s.length = 2 → p s
 | [b0, b1], _ => h b0 b1
section
variable {R : Type} (T : TypeId → Option TI) (h0 : Nat) (env : FuncId → Option Con) (inl : FuncId → List AV → List Ob → (AV → List Ob → Option R) → Option R)
def j4 (n : Nat) (ann : Nat → Ann) (alts : Nat → Option Alt) (s : List Bool) : List Nat → Code → (List Bool → Ex → List AV → List Ob → Option R) → (Ex → List AV → List Ob → Option R)
 | [], _, k => k s
 | i :: p, c, k => match c with
  | .seq a b => match i with
   | 0 => j4 n ann alts s p a fun s e fr H => match e with
    | .normal => sY T h0 env inl n ann alts b s fr H k
    | e => k s e fr H
   | _ => j4 n ann alts s p b k
  | .cond _ x y => match i with
   | 0 => j4 n ann alts s p x k
   | _ => j4 n ann alts s p y k
  | .block id c => j4 n ann alts s p c fun s e fr H => match e with
   | .exit j => bif Nat.beq j id then k s .normal fr H else k s (.exit j) fr H
   | e => k s e fr H
  | _ => k s
def Na (k : Ex → List AV → List Ob → Option R) : List Bool → Ex → List AV → List Ob → Option R := fun _ => k
end
end Go.Proofs.YtefddghdaimklaaGreatDoor.AI
