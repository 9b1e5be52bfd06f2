import Derived.Test.YtiolbhmbobelcaaGreatDoorAkm
import Derived.Test.YtiolbhmbobelcaaGreatDoorAjd
import Derived.Sort.Row
import Derived.Sort.Grow
/- Methods that change a variable of the caller's that holds data. -/
set_option linter.unusedVariables false
set_option linter.unusedSimpArgs false
namespace Go.Proofs.YtiolbhmbobelcaaGreatDoor.AI
open Go

def lookP (t0 : Ty) (s : Sig) (avs : List AV) (H : List Ob) : Option (Nat × t0.den × s.den) :=
  match avs with
  | .val false [.ptr id 0] :: rest => match H[id]? with
    | some (.box cs) => match t0.whole cs with
      | some b => match lookL s rest with
        | some z => some (id, b, z)
        | none => none
      | none => none
    | _ => none
  | _ => none

def mkConP (t0 : Ty) (s rs : Sig) (F : t0.den × s.den → Option (t0.den × rs.den)) : Con :=
  { X := Nat × t0.den × s.den, Y := t0.den × rs.den, look := lookP t0 s, F := fun x => F (x.2.1, x.2.2), outV := fun _ y => outL rs y.2,
    outH := fun x y H => H.set x.1 (.box (t0.cells y.1)), mode := 2, kills := fun _ _ => [] }

def startP (t0 : Ty) (x : t0.den) : List Ob := [.box (t0.cells x)]
def readP (t0 : Ty) (rs : Sig) (v : AV) (H : List Ob) : Option (t0.den × rs.den) :=
  match (H[0]? : Option Ob) with
  | some (.box cs) => match t0.whole cs with
    | some b => match readL rs v H with
      | some r => some (b, r)
      | none => none
    | none => none
  | _ => none

section
variable {P : Program} {T : TypeId → Option TI} {env : FuncId → Option Con} {ann : FuncId → Nat → Ann} {code : FuncId → Option Func}

theorem readP_some {t0 : Ty} {rs : Sig} {v : AV} {H : List Ob} {Y : t0.den × rs.den} (h : readP t0 rs v H = some Y) : readL rs v H = some Y.2 ∧ ∃ cs, H[0]? = some (.box cs) ∧ t0.whole cs = some Y.1 := by
  unfold readP at h
  split at h
  · rename_i cs hx
    split at h
    · rename_i b hb
      split at h
      · rename_i r hr
        cases h
        exact ⟨hr, cs, hx, hb⟩
      · cases h
    · cases h
  · cases h

theorem conP_core {x x' : Cx} (hI : Inv x) {t0 : Ty} {rs : Sig} (hfl : ∀ p ∈ rs, p.2.flat = true) {id : Nat} {cs0 : List C} (hid : x.H[id]? = some (.box cs0)) (hok : x'.ok = x.ok) (hw : x'.w = x.w) (hat0 : x'.at_ 0 = x.at_ id) (hbox : ∃ cs, x'.H[0]? = some (.box cs))
    (hmine : ∀ b, x'.mine b → x.at_ id = some b)
    {v : AV} {H' : List Ob} {u : Value} {y' : Cx} (hL : Left x' 1 v H' u y') {Y : t0.den × rs.den} (hr : readP t0 rs v H' = some Y) :
    ∃ y : Cx, y.w = y'.w ∧ y.H = x.H.set id (.box (t0.cells Y.1)) ∧ Inv y ∧ Kept x y ∧ (∀ i, i < x.H.length → i ∉ ([] : List Nat) → IdOk x y i) ∧
      Carry (killAll []) x y ∧ x.H.length ≤ y.H.length ∧ RepV y (outL rs Y.2) u := by
  obtain ⟨hrL, cs, hH0, hwh⟩ := readP_some hr
  rw [← hL.H] at hH0 hrL
  have hlt : id < x.H.length := (List.getElem?_eq_some_iff.1 hid).1
  have hat_id : y'.at_ 0 = x.at_ id := by
    have := hL.ids 0 (by omega)
    obtain ⟨cs, hb⟩ := hbox
    unfold IdOk at this
    rw [hb] at this
    rw [this.2, hat0]
  let y : Cx := { ok := y'.ok, at_ := x.at_, w := y'.w, H := x.H.set id (.box (t0.cells Y.1)) }
  have hHid : y.H[id]? = some (.box (t0.cells Y.1)) := by
    show (x.H.set id _)[id]? = _
    rw [List.getElem?_set_self hlt]
  have hHot : ∀ i, i ≠ id → y.H[i]? = x.H[i]? := fun i h => by
    show (x.H.set id _)[i]? = _
    rw [List.getElem?_set_ne (Ne.symm h)]
  have hmx : ∀ b, x'.mine b → x.mine b := fun b hb => ⟨id, _, hid, by simp, hmine b hb⟩
  have hnot : ∀ (i : Nat) (o : Ob) (b : Nat), i ≠ id → x.H[i]? = some o → o ≠ .dead → x.at_ i = some b → ¬ x'.mine b := fun i o b h1 hi hd hb hm =>
    h1 (hI.inj i id b _ _ hi hid hd (by simp) hb (hmine b hm))
  have hblk : ∀ b, b < x.w.heap.size → ¬ x'.mine b → y'.w.heap[b]? = x.w.heap[b]? := fun b hb hm => by
    have := hL.kept.block b (by rw [hw]; exact hb) hm
    rw [this, hw]
  have hoknew : ∀ b, y'.ok b → x.ok b ∨ x'.mine b ∨ x.w.heap.size ≤ b := fun b hb => by
    rcases hL.kept.oknew b hb with h | h | h
    · exact .inl (by rw [← hok]; exact h)
    · exact .inr (.inl h)
    · exact .inr (.inr (by rw [← hw]; exact h))
  have hsz : x.w.heap.size ≤ y'.w.heap.size := by have := hL.kept.size; rw [hw] at this; exact this
  have hokold : ∀ b, x.ok b → y'.ok b := fun b hb => hL.kept.ok b (by rw [hok]; exact hb)
  have hkin : Kin x y := ⟨hokold, fun b hb => hblk b (hI.okb b hb) (fun hm => hI.notMine hb (hmx b hm))⟩
  have hlow : ∀ (i : Nat) (q : Ob) (b : Nat), x.H[i]? = some q → q ≠ .dead → x.at_ i = some b → b < x.w.heap.size := fun i q b hq hd hb => hI.lt hq hd hb
  have hold : ∀ (i : Nat) (o : Ob), y.H[i]? = some o → o ≠ .dead → ∃ q, x.H[i]? = some q ∧ q ≠ .dead ∧ (i ≠ id → o = q) := fun i o hi hd => by
    by_cases h2 : i = id
    · subst h2; exact ⟨_, hid, by simp, fun h => absurd rfl h⟩
    · rw [hHot i h2] at hi; exact ⟨o, hi, hd, fun _ => rfl⟩
  have hids : ∀ i, i < x.H.length → IdOk x y i := fun i hi => by
    by_cases h2 : i = id
    · subst h2
      unfold IdOk
      rw [hid]
      exact ⟨⟨_, hHid⟩, rfl⟩
    · cases hq : x.H[i]? with
      | none => unfold IdOk; rw [hq]; trivial
      | some q =>
        by_cases hqd : q = .dead
        · subst hqd; unfold IdOk; rw [hq]; trivial
        · exact IdOk.same hI (hHot i h2) rfl (fun b hb hl => hblk b hl (hnot i q b h2 hq hqd hb))
  have hcar : Carry (fun c => c) x y := Carry.id_of hkin hids
  have hinv : Inv y := by
    refine ⟨hL.inv.okb, fun i j b oi oj hi hj hdi hdj h1 h2 => ?_, fun i b o hi hd hb hkb => ?_, fun i o hi => ?_, hI.tab.kin hkin⟩
    · obtain ⟨q, hq, hqd, _⟩ := hold i oi hi hdi
      obtain ⟨q', hq', hqd', _⟩ := hold j oj hj hdj
      exact hI.inj i j b q q' hq hq' hqd hqd' h1 h2
    · obtain ⟨q, hq, hqd, _⟩ := hold i o hi hd
      by_cases e2 : i = id
      · subst e2
        exact hL.inv.off 0 b _ hH0 (by simp) (by rw [hat_id]; exact hb) hkb
      · rcases hoknew b hkb with h | h | h
        · exact hI.off i b q hq hqd hb h
        · exact hnot i q b e2 hq hqd hb h
        · have := hlow i q b hq hqd hb; omega
    · by_cases e2 : i = id
      · subst e2
        rw [hHid] at hi
        cases hi
        obtain ⟨b, vs, e', h1, h2, h3⟩ := hL.inv.obs _ _ hH0
        exact ⟨b, vs, e', by rw [← hat_id]; exact h1, h2, RepT.cells (x := y) t0 Y.1 _ (whole_sound (x := y') hwh h3)⟩
      · rw [hHot i e2] at hi
        by_cases hqd : o = .dead
        · subst hqd; trivial
        · exact (hI.obs i o hi).keep hkin hcar rfl (fun b hb => hblk b (hlow i o b hi hqd hb) (hnot i o b e2 hi hqd hb))
  have hval : RepV y (outL rs Y.2) u := readL_sound hL.inv hrL hL.val (fun p hp dd vs hrep => flat_rep _ _ _ (hfl p hp) hrep)
  refine ⟨y, rfl, rfl, hinv, ?_, fun i hi _ => hids i hi, hcar, by show x.H.length ≤ (x.H.set id _).length; simp, hval⟩
  have k1 := hL.kept.os; have k2 := hL.kept.tape; have k3 := hL.kept.output
  rw [hw] at k1 k2 k3
  refine ⟨k1, k2, k3, hsz, fun b hb hm => hblk b hb (fun h => hm (hmx b h)), fun b hb => ?_, hokold, fun b hb => ?_⟩
  · obtain ⟨i, o, h1, h2, h3⟩ := hb
    obtain ⟨q, hq, hqd, _⟩ := hold i o h1 h2
    exact .inl ⟨i, q, hq, hqd, h3⟩
  · rcases hoknew b hb with h | h | h
    · exact .inl h
    · exact .inr (.inl (hmx b h))
    · exact .inr (.inr h)

theorem mkConP_ok (hm : P.follows .mixedOrders = true) (hT : TOk P T) (hE : EnvOk P env) (hC : CodesOk P env ann code) {d : Nat} {f : FuncId} {t0 : Ty} {s rs : Sig} {F : t0.den × s.den → Option (t0.den × rs.den)}
    (hfl : ∀ p ∈ rs, p.2.flat = true)
    (hrun : ∀ X Y, F X = some Y → ∃ n, runM T env n ann code d f (argsM s X.2) (startP t0 X.1) (readP t0 rs) = some Y) : ConOk P f (mkConP t0 s rs F) := by
  refine ⟨fun x args vals X Y hI hv hl hF => ?_, fun h => (by cases h), fun hm => by cases hm⟩
  have hl' : lookP t0 s args x.H = some X := hl
  unfold lookP at hl'
  split at hl'
  · rename_i id rest
    split at hl'
    · rename_i cs hid
      split at hl'
      · rename_i b hb
        split at hl'
        · rename_i z hz
          cases hl'
          have hF' : F (b, z) = some Y := hF
          obtain ⟨n, hr⟩ := hrun _ _ hF'
          have ho : ObRep (x.two id none (startP t0 b)) 0 (.box (t0.cells b)) := by
            obtain ⟨bb, vs, e', h1, h2, h3⟩ := hI.obs _ _ hid
            exact ⟨bb, vs, e', h1, h2, RepT.cells (x := x.two id none (startP t0 b)) t0 b _ (whole_sound (x := x) hb h3)⟩
          have hI' := two_inv hI (oj := none) (H := startP t0 b) hid ho (.inl ⟨rfl, rfl⟩)
          have hv' := two_args (oj := none) (H := startP t0 b) hid rfl hz hv
          show Does P (callFunc f vals) (x.two id none (startP t0 b)).w _
          refine runM_sound hm hT hE hC (x := x.two id none (startP t0 b)) hr hI' hv' (Nat.le_refl _) (fun v H' y u' hk hL => ?_)
          exact conP_core (x' := x.two id none (startP t0 b)) hI hfl hid rfl rfl rfl ⟨_, rfl⟩ (fun b hb => by
            rcases two_mine b hb with h | ⟨j, h, _⟩
            · exact h
            · cases h) hL hk
        · cases hl'
      · cases hl'
    · cases hl'
  · cases hl'
end
end Go.Proofs.YtiolbhmbobelcaaGreatDoor.AI
/- Functions to which a row of the caller's own is handed, and that hand one back. -/
set_option linter.unusedVariables false
set_option linter.unusedSimpArgs false
namespace Go.Proofs.YtiolbhmbobelcaaGreatDoor.AI
open Go

def lastA : List AV → Option (List AV × AV)
  | [] => none
  | [a] => some ([], a)
  | a :: b :: l => match lastA (b :: l) with
    | some (i, z) => some (a :: i, z)
    | none => none

theorem lastA_some : ∀ (l i : List AV) (z : AV), lastA l = some (i, z) → l = i ++ [z]
  | [], i, z, h => by simp [lastA] at h
  | [a], i, z, h => by simp [lastA] at h; rw [h.1, h.2]; rfl
  | a :: b :: l, i, z, h => by
    simp only [lastA] at h
    split at h
    · rename_i i' z' hq
      cases h
      rw [lastA_some (b :: l) i' z hq]; rfl
    · cases h

def lookA (s : Sig) (e : TypeId) (t : Ty) (avs : List AV) (H : List Ob) : Option (Option Nat × Nat × (s.den × List t.den)) :=
  match lastA avs with
  | some (init, .val false [c]) => match lookL s init with
    | some z => match c with
      | .nils => some (none, H.length, (z, []))
      | .own j n => match H[j]? with
        | some (.arr e' t' xs) => if e' = e then match castL (t := t) xs with
          | some xs => some (some j, H.length, (z, xs.take n))
          | none => none
          else none
        | _ => none
      | _ => none
    | none => none
  | _ => none

def outHA (e : TypeId) (t : Ty) (oj : Option Nat) (y : List t.den) (H : List Ob) : List Ob :=
  match oj with
  | some j => (Sub.h (.kill j) H).set j (.arr e t y)
  | none => H ++ [.arr e t y]

def ridA (oj : Option Nat) (n : Nat) : Nat :=
  match oj with
  | some j => j
  | none => n

def killsA : Option Nat → List Nat
  | some j => [j]
  | none => []

def mkConA (s : Sig) (e : TypeId) (t : Ty) (F : s.den × List t.den → Option (List t.den)) : Con :=
  { X := Option Nat × Nat × (s.den × List t.den), Y := List t.den, look := lookA s e t, F := fun x => F x.2.2,
    outV := fun x y => .val false [.own (ridA x.1 x.2.1) y.length], outH := fun x y H => outHA e t x.1 y H, mode := 0,
    kills := fun x _ => killsA x.1 }

def argsRow (s : Sig) (t : Ty) (x : s.den × List t.den) : List AV := argsL s x.1 ++ [.val false [.own 0 x.2.length]]
def startRow (e : TypeId) (t : Ty) (xs : List t.den) : List Ob := [.arr e t xs]
def readRow (e : TypeId) (t : Ty) (v : AV) (H : List Ob) : Option (List t.den) :=
  match v with
  | .val false [c] => match c with
    | .nils => some []
    | .own j n => match H[j]? with
      | some (.arr e' t' xs) => if e' = e then match castL (t := t) xs with
        | some xs => some (xs.take n)
        | none => none
        else none
      | _ => none
    | _ => none
  | _ => none

section
variable {P : Program} {T : TypeId → Option TI} {env : FuncId → Option Con} {ann : FuncId → Nat → Ann} {code : FuncId → Option Func}

theorem readRow_some {e : TypeId} {t : Ty} {v : AV} {H : List Ob} {Y : List t.den} (h : readRow e t v H = some Y) :
    ∃ c, v = .val false [c] ∧ ((c = .nils ∧ Y = []) ∨ ∃ j n xs, c = .own j n ∧ H[j]? = some (.arr e t xs) ∧ Y = xs.take n) := by
  unfold readRow at h
  split at h
  · rename_i c
    refine ⟨c, rfl, ?_⟩
    split at h
    · cases h; exact .inl ⟨rfl, rfl⟩
    · rename_i j n
      split at h
      · rename_i e' t' xs hj
        split at h
        · rename_i he
          split at h
          · rename_i ys hys
            cases h
            obtain ⟨rfl, rfl⟩ := castL_some hys
            subst he
            exact .inr ⟨j, n, _, rfl, hj, rfl⟩
          · cases h
        · cases h
      · cases h
    · cases h
  · cases h

theorem conA_core {x x' : Cx} (hI : Inv x) {e : TypeId} {t : Ty} {oj : Option Nat}
    (hoj : ∀ j, oj = some j → ∃ xs : List t.den, x.H[j]? = some (.arr e t xs)) (hok : x'.ok = x.ok) (hw : x'.w = x.w)
    (hmine : ∀ b, x'.mine b → ∃ j, oj = some j ∧ x.at_ j = some b)
    {v : AV} {H' : List Ob} {u : Value} {y' : Cx} (hL : Left x' 0 v H' u y') {Y : List t.den} (hr : readRow e t v H' = some Y) :
    ∃ y : Cx, y.w = y'.w ∧ y.H = outHA e t oj Y x.H ∧ Inv y ∧ Kept x y ∧ (∀ i, i < x.H.length → i ∉ (killsA oj) → IdOk x y i) ∧
      Carry (killAll (killsA oj)) x y ∧ x.H.length ≤ y.H.length ∧ RepV y (.val false [.own (ridA oj x.H.length) Y.length]) u := by
  obtain ⟨c, hvc, hrow⟩ := readRow_some hr
  rw [← hL.H] at hrow
  obtain ⟨ri, hri⟩ : ∃ ri, oj = some ri ∨ (oj = none ∧ ri = x.H.length) := by
    cases oj with
    | some j => exact ⟨j, .inl rfl⟩
    | none => exact ⟨_, .inr ⟨rfl, rfl⟩⟩
  have hrid : ridA oj x.H.length = ri := by
    rcases hri with h | ⟨h, h2⟩
    · subst h; rfl
    · subst h; subst h2; rfl
  let σ : Ob → Ob := sigM oj
  let Hn : List Ob := outHA e t oj Y x.H
  have hHri : Hn[ri]? = some (.arr e t Y) := by
    show (outHA e t oj Y x.H)[ri]? = _
    rcases hri with h | ⟨h, h2⟩
    · obtain ⟨xs, hx⟩ := hoj ri h
      have hl2 : ri < x.H.length := (List.getElem?_eq_some_iff.1 hx).1
      subst h
      simp only [outHA]
      rw [List.getElem?_set_self (by simpa [Sub.h] using hl2)]
    · subst h; subst h2
      simp only [outHA]
      rw [List.getElem?_append_right (by simp)]
      simp
  have hHot : ∀ i, i ≠ ri → Hn[i]? = (x.H[i]?).map σ := fun i h2 => by
    show (outHA e t oj Y x.H)[i]? = _
    rcases hri with h | ⟨h, h3⟩
    · subst h
      simp only [outHA, σ, sigM]
      rw [List.getElem?_set_ne (Ne.symm h2)]
      simp only [Sub.h, List.getElem?_map]
      rfl
    · subst h; subst h3
      simp only [outHA, σ, sigM]
      rcases Nat.lt_or_ge i x.H.length with hl | hl
      · rw [List.getElem?_append_left (by simpa using hl)]
        cases x.H[i]? <;> rfl
      · rw [List.getElem?_append_right (by simpa using hl), List.getElem?_eq_none hl]
        rw [List.getElem?_eq_none (by simp; omega)]
        rfl
  let src : Option Nat := srcC c
  let y : Cx := { ok := y'.ok, at_ := fun i => if i = ri then src.bind y'.at_ else x.at_ i, w := y'.w, H := Hn }
  have hat_ri : y.at_ ri = src.bind y'.at_ := by show (if ri = ri then _ else _) = _; rw [if_pos rfl]
  have hat_ot : ∀ i, i ≠ ri → y.at_ i = x.at_ i := fun i h => by show (if i = ri then _ else _) = _; rw [if_neg h]
  have hmn : ∀ b, (∃ j, oj = some j ∧ x.at_ j = some b) → x.mine b := fun b hb => by
    obtain ⟨j, h1, h2⟩ := hb
    obtain ⟨xs, hx⟩ := hoj j h1
    exact ⟨j, _, hx, by simp, h2⟩
  have hmx : ∀ b, x'.mine b → x.mine b := fun b hb => hmn b (hmine b hb)
  have hnotn : ∀ (i : Nat) (o : Ob) (b : Nat), i ≠ ri → x.H[i]? = some o → o ≠ .dead → x.at_ i = some b → ¬ (∃ j, oj = some j ∧ x.at_ j = some b) := fun i o b h2 hi hd hb hm => by
    obtain ⟨j, h3, h4⟩ := hm
    obtain ⟨xs, hx⟩ := hoj j h3
    have hij := hI.inj i j b _ _ hi hx hd (by simp) hb h4
    rcases hri with h5 | ⟨h5, _⟩
    · rw [h5] at h3; exact h2 (hij.trans (Option.some.inj h3).symm)
    · rw [h5] at h3; cases h3
  have hnot : ∀ (i : Nat) (o : Ob) (b : Nat), i ≠ ri → x.H[i]? = some o → o ≠ .dead → x.at_ i = some b → ¬ x'.mine b := fun i o b h2 hi hd hb hm => hnotn i o b h2 hi hd hb (hmine b hm)
  have hblk : ∀ b, b < x.w.heap.size → ¬ x'.mine b → y'.w.heap[b]? = x.w.heap[b]? := fun b hb hm => by
    have := hL.kept.block b (by rw [hw]; exact hb) hm
    rw [this, hw]
  have hoknew : ∀ b, y'.ok b → x.ok b ∨ (∃ j, oj = some j ∧ x.at_ j = some b) ∨ x.w.heap.size ≤ b := fun b hb => by
    rcases hL.kept.oknew b hb with h | h | h
    · exact .inl (by rw [← hok]; exact h)
    · exact .inr (.inl (hmine b h))
    · exact .inr (.inr (by rw [← hw]; exact h))
  have hmine' : ∀ b, y'.mine b → x'.mine b ∨ x.w.heap.size ≤ b := fun b hb => by
    rcases hL.kept.mine b hb with h | h
    · exact .inl h
    · exact .inr (by rw [← hw]; exact h)
  have hsz : x.w.heap.size ≤ y'.w.heap.size := by have := hL.kept.size; rw [hw] at this; exact this
  have hokold : ∀ b, x.ok b → y'.ok b := fun b hb => hL.kept.ok b (by rw [hok]; exact hb)
  have hkin : Kin x y := ⟨hokold, fun b hb => hblk b (hI.okb b hb) (fun hm => hI.notMine hb (hmx b hm))⟩
  have hold : ∀ (i : Nat) (o : Ob), i ≠ ri → Hn[i]? = some o → o ≠ .dead → ∃ q, x.H[i]? = some q ∧ q ≠ .dead ∧ o = σ q := fun i o h1 hi hd => by
    rw [hHot i h1] at hi
    cases hq : x.H[i]? with
    | none => rw [hq] at hi; cases hi
    | some q =>
      rw [hq] at hi
      simp only [Option.map_some, Option.some.injEq] at hi
      refine ⟨q, rfl, fun hqd => hd ?_, hi.symm⟩
      rw [← hi, hqd]
      simp only [σ, sigM]
      split <;> rfl
  have hrow_src : ∀ b, src.bind y'.at_ = some b → ∃ j' xs', src = some j' ∧ y'.at_ j' = some b ∧ y'.H[j']? = some (.arr e t xs') := fun b hb => by
    rcases hrow with ⟨hc, _⟩ | ⟨j', n', xs', hc, hj', _⟩
    · simp only [src, hc, srcC, Option.bind_none] at hb; cases hb
    · simp only [src, hc, srcC, Option.bind_some] at hb
      exact ⟨j', xs', by simp only [src, hc, srcC], hb, hj'⟩
  have hids : ∀ i, i < x.H.length → i ∉ (killsA oj) → IdOk x y i := fun i hi hni => by
    have h1 : i ≠ ri := by
      rcases hri with h | ⟨_, h⟩
      · rw [h] at hni; simpa [killsA] using hni
      · omega
    unfold IdOk
    have hg : y.H[i]? = (x.H[i]?).map σ := hHot i h1
    cases hq : x.H[i]? with
    | none => trivial
    | some q =>
      rw [hq] at hg
      cases q with
      | dead => trivial
      | box cs => 
        refine ⟨?_, hat_ot i h1⟩
        rcases hri with h | ⟨h, _⟩
        · subst h; exact ⟨_, hg⟩
        · subst h; exact ⟨_, hg⟩
      | mp t1 xs =>
        refine ⟨?_, hat_ot i h1⟩
        rcases hri with h | ⟨h, _⟩
        · subst h; exact ⟨_, hg⟩
        · subst h; exact ⟨_, hg⟩
      | tb xs =>
        refine ⟨?_, hat_ot i h1⟩
        rcases hri with h | ⟨h, _⟩
        · subst h; exact ⟨_, hg⟩
        · subst h; exact ⟨_, hg⟩
      | arr e1 t1 xs =>
        refine ⟨xs, ?_, Nat.le_refl _, hat_ot i h1, fun b hb cur' e' fr' hc => ?_⟩
        · rcases hri with h | ⟨h, _⟩
          · subst h; exact hg
          · subst h; exact hg
        · have hb2 := hI.lt hq (by simp) hb
          have := hblk b hb2 (hnot i _ b h1 hq (by simp) hb)
          have hc' : y'.w.heap[b]? = some (.cells cur' e' fr') := hc
          rw [this] at hc'
          exact ⟨cur', e', fr', hc', Nat.le_refl _⟩
  have hcar : Carry (killAll (killsA oj)) x y := by
    rcases hri with h | ⟨h, _⟩
    · obtain ⟨xs, hx⟩ := hoj ri h
      subst h
      exact Carry.kill hkin ri ⟨e, t, xs, hx⟩ (fun i hi hn => hids i hi (by simpa [killsA] using hn))
    · subst h
      exact Carry.id_of hkin (fun i hi => hids i hi (by simp [killsA]))
  have hlow : ∀ (i : Nat) (q : Ob) (b : Nat), x.H[i]? = some q → q ≠ .dead → x.at_ i = some b → b < x.w.heap.size := fun i q b hq hd hb => hI.lt hq hd hb
  have hinv : Inv y := by
    refine ⟨hL.inv.okb, fun i j b oi oj' hi hj hdi hdj h1 h2 => ?_, fun i b o hi hd hb hkb => ?_, fun i o hi => ?_, hI.tab.kin hkin⟩
    · by_cases ei : i = ri <;> by_cases ej : j = ri
      · rw [ei, ej]
      · exfalso
        subst ei
        rw [hat_ri] at h1
        rw [hat_ot j ej] at h2
        obtain ⟨j', xs', _, ha, hh⟩ := hrow_src b h1
        obtain ⟨q, hq, hqd, _⟩ := hold j oj' ej hj hdj
        have hm' : y'.mine b := ⟨j', _, hh, by simp, ha⟩
        rcases hmine' b hm' with h | h
        · exact hnot j q b ej hq hqd h2 h
        · have := hlow j q b hq hqd h2; omega
      · exfalso
        subst ej
        rw [hat_ri] at h2
        rw [hat_ot i ei] at h1
        obtain ⟨j', xs', _, ha, hh⟩ := hrow_src b h2
        obtain ⟨q, hq, hqd, _⟩ := hold i oi ei hi hdi
        have hm' : y'.mine b := ⟨j', _, hh, by simp, ha⟩
        rcases hmine' b hm' with h | h
        · exact hnot i q b ei hq hqd h1 h
        · have := hlow i q b hq hqd h1; omega
      · rw [hat_ot i ei] at h1
        rw [hat_ot j ej] at h2
        obtain ⟨q, hq, hqd, _⟩ := hold i oi ei hi hdi
        obtain ⟨q', hq', hqd', _⟩ := hold j oj' ej hj hdj
        exact hI.inj i j b q q' hq hq' hqd hqd' h1 h2
    · by_cases ei : i = ri
      · subst ei
        rw [hat_ri] at hb
        obtain ⟨j', xs', _, ha, hh⟩ := hrow_src b hb
        exact hL.inv.off j' b _ hh (by simp) ha hkb
      · rw [hat_ot i ei] at hb
        obtain ⟨q, hq, hqd, _⟩ := hold i o ei hi hd
        rcases hoknew b hkb with h | h | h
        · exact hI.off i b q hq hqd hb h
        · exact hnotn i q b ei hq hqd hb h
        · have := hlow i q b hq hqd hb; omega
    · by_cases ei : i = ri
      · subst ei
        have : o = .arr e t Y := by
          have hi' : Hn[i]? = some o := hi
          rw [hHri] at hi'; exact (Option.some.inj hi').symm
        subst this
        show ObRep y i (.arr e t Y)
        simp only [ObRep, hat_ri]
        rcases hrow with ⟨hc, hys⟩ | ⟨j', n', xs', hc, hj', hys⟩
        · simp only [src, hc, srcC, Option.bind_none]; exact hys
        · simp only [src, hc, srcC, Option.bind_some]
          have ho := hL.inv.obs _ _ hj'
          simp only [ObRep] at ho
          cases ha : y'.at_ j' with
          | none => rw [ha] at ho; simp only at ho ⊢; rw [hys, ho]; simp
          | some b =>
            rw [ha] at ho
            simp only at ho ⊢
            obtain ⟨cur, k1, k2, k3⟩ := ho
            refine ⟨cur, k1, ?_, fun q d hq => ?_⟩
            · rw [hys]
              have : (xs'.take n').length ≤ xs'.length := by simp; omega
              exact Nat.le_trans (Nat.mul_le_mul_right _ this) k2
            · rw [hys, List.getElem?_take] at hq
              split at hq
              · exact k3 q d hq
              · cases hq
      · have hi' : Hn[i]? = some o := hi
        rw [hHot i ei] at hi'
        cases hq : x.H[i]? with
        | none => rw [hq] at hi'; cases hi'
        | some q =>
          rw [hq] at hi'
          simp only [Option.map_some, Option.some.injEq] at hi'
          subst hi'
          by_cases hqd : q = .dead
          · subst hqd
            have : σ Ob.dead = Ob.dead := by simp only [σ, sigM]; split <;> rfl
            rw [this]; trivial
          · have hb : ∀ b, x.at_ i = some b → y.w.heap[b]? = x.w.heap[b]? := fun b hb => hblk b (hlow i q b hq hqd hb) (hnot i q b ei hq hqd hb)
            rcases hri with h | ⟨h, _⟩
            · subst h
              exact (hI.obs i q hq).move (s := .kill ri) hkin hcar (hat_ot i ei) hb
            · subst h
              exact (hI.obs i q hq).keep hkin hcar (hat_ot i ei) hb
  refine ⟨y, rfl, rfl, hinv, ?_, hids, hcar, ?_, ?_⟩
  · have k1 := hL.kept.os; have k2 := hL.kept.tape; have k3 := hL.kept.output
    rw [hw] at k1 k2 k3
    refine ⟨k1, k2, k3, hsz, fun b hb hm => hblk b hb (fun h => hm (hmx b h)), fun b hb => ?_, hokold, fun b hb => ?_⟩
    · obtain ⟨i, o, h1, h2, h3⟩ := hb
      by_cases ei : i = ri
      · subst ei
        rw [hat_ri] at h3
        obtain ⟨j', xs', _, ha, hh⟩ := hrow_src b h3
        rcases hmine' b ⟨j', _, hh, by simp, ha⟩ with h | h
        · exact .inl (hmx b h)
        · exact .inr h
      · rw [hat_ot i ei] at h3
        obtain ⟨q, hq, hqd, _⟩ := hold i o ei h1 h2
        exact .inl ⟨i, q, hq, hqd, h3⟩
    · rcases hoknew b hb with h | h | h
      · exact .inl h
      · exact .inr (.inl (hmn b h))
      · exact .inr (.inr h)
  · show x.H.length ≤ (outHA e t oj Y x.H).length
    cases oj with
    | some j => simp [outHA, Sub.h]
    | none => simp [outHA]
  · rw [hrid]
    have hval := hL.val
    rw [hvc] at hval
    have q4 := of_one hval
    refine mk_one ⟨q4.1, ?_⟩
    have hy : y.H[ri]? = some (.arr e t Y) := hHri
    simp only [RepC1, hy, hat_ri]
    refine ⟨Nat.le_refl _, ?_⟩
    rcases hrow with ⟨hc, hys⟩ | ⟨j', n', xs', hc, hj', hys⟩
    · simp only [src, hc, srcC, Option.bind_none]
      have q6 := q4.2
      rw [hc] at q6
      exact ⟨⟨none, q6⟩, by rw [hys]; rfl⟩
    · simp only [src, hc, srcC, Option.bind_some]
      have q6 := q4.2
      rw [hc] at q6
      simp only [RepC1, hj'] at q6
      obtain ⟨q7, q8⟩ := q6
      have hlen : Y.length = n' := by rw [hys]; simp [Nat.min_eq_left q7]
      cases ha : y'.at_ j' with
      | none => rw [ha] at q8; simp only at q8 ⊢; exact ⟨q8.1, by rw [hlen]; exact q8.2⟩
      | some b2 =>
        rw [ha] at q8
        simp only at q8 ⊢
        rw [hlen]; exact q8

def Cx.sole (x : Cx) (oj : Option Nat) (H : List Ob) : Cx :=
  { ok := x.ok, at_ := fun i => if i = 0 then oj.bind x.at_ else none, w := x.w, H := H }

theorem sole_inv {x : Cx} (hI : Inv x) {e : TypeId} {t : Ty} {oj : Option Nat} {ys : List t.den} (hoj : ∀ j, oj = some j → ∃ xs : List t.den, x.H[j]? = some (.arr e t xs)) (ho : ObRep (x.sole oj [.arr e t ys]) 0 (.arr e t ys)) : Inv (x.sole oj [.arr e t ys]) := by
  have get : ∀ (i : Nat) (o : Ob), (x.sole oj [.arr e t ys]).H[i]? = some o → i = 0 ∧ o = .arr e t ys := fun i o hi => by
    cases i with
    | zero => exact ⟨rfl, (Option.some.inj hi).symm⟩
    | succ i => simp [Cx.sole] at hi
  refine ⟨hI.okb, fun i j b oi oj' hi hj _ _ _ _ => by rw [(get i oi hi).1, (get j oj' hj).1], fun i b o hi hd hb hok => ?_, fun i o hi => ?_, hI.tab⟩
  · obtain ⟨rfl, _⟩ := get i o hi
    have hb' : oj.bind x.at_ = some b := hb
    cases hq : oj with
    | none => rw [hq] at hb'; cases hb'
    | some j =>
      rw [hq] at hb'
      obtain ⟨xs, hx⟩ := hoj j hq
      exact hI.off j b _ hx (by simp) hb' hok
  · obtain ⟨rfl, rfl⟩ := get i o hi
    exact ho

theorem sole_mine {x : Cx} {oj : Option Nat} {H : List Ob} (b : Nat) (hb : (x.sole oj H).mine b) : ∃ j, oj = some j ∧ x.at_ j = some b := by
  obtain ⟨i, o, h1, h2, h3⟩ := hb
  have h3' : (if i = 0 then oj.bind x.at_ else none) = some b := h3
  by_cases e0 : i = 0
  · rw [if_pos e0] at h3'
    cases oj with
    | none => cases h3'
    | some j => exact ⟨j, rfl, h3'⟩
  · rw [if_neg e0] at h3'; cases h3'

theorem repVs_split {x : Cx} : ∀ (i : List AV) (z : AV) (us : List Value), RepVs x (i ++ [z]) us → ∃ us' u, us = us' ++ [u] ∧ RepVs x i us' ∧ RepV x z u
  | [], z, us, h => by
    obtain ⟨u, r, rfl, h1, h2⟩ := h
    exact ⟨[], u, by rw [show r = [] from h2]; rfl, rfl, h1⟩
  | a :: i, z, us, h => by
    obtain ⟨u, r, rfl, h1, h2⟩ := h
    obtain ⟨us', u', rfl, h3, h4⟩ := repVs_split i z r h2
    exact ⟨u :: us', u', rfl, ⟨u, us', rfl, h1, h3⟩, h4⟩

theorem repVs_join {x : Cx} : ∀ (i : List AV) (z : AV) (us : List Value) (u : Value), RepVs x i us → RepV x z u → RepVs x (i ++ [z]) (us ++ [u])
  | [], z, us, u, h, h2 => by rw [show us = [] from h]; exact ⟨u, [], rfl, h2, rfl⟩
  | a :: i, z, us, u, h, h2 => by
    obtain ⟨u', r, rfl, h1, h3⟩ := h
    exact ⟨u', r ++ [u], rfl, h1, repVs_join i z r u h3 h2⟩

theorem mkConA_ok (hm : P.follows .mixedOrders = true) (hT : TOk P T) (hE : EnvOk P env) (hC : CodesOk P env ann code) {d : Nat} {f : FuncId} {s : Sig} {e : TypeId} {t : Ty} {F : s.den × List t.den → Option (List t.den)}
    (hrun : ∀ X Y, F X = some Y → ∃ n, runK T env n ann code d f (argsRow s t X) (startRow e t X.2) (readRow e t) = some Y) : ConOk P f (mkConA s e t F) := by
  refine ⟨fun x args vals X Y hI hv hl hF => ?_, fun h => (by cases h), fun hm => by cases hm⟩
  have hl' : lookA s e t args x.H = some X := hl
  unfold lookA at hl'
  split at hl'
  · rename_i init c hlast
    have hargs := lastA_some _ _ _ hlast
    subst hargs
    obtain ⟨us, u0, hus, hinit, hlastv⟩ := repVs_split _ _ _ hv
    split at hl'
    · rename_i z hz
      have fin : ∀ (oj : Option Nat) (ys : List t.den), (∀ j, oj = some j → ∃ xs : List t.den, x.H[j]? = some (.arr e t xs)) → X = (oj, x.H.length, (z, ys)) → ObRep (x.sole oj [.arr e t ys]) 0 (.arr e t ys) → RepC (x.sole oj [.arr e t ys]) (.own 0 ys.length) u0 →
          Does P (callFunc f vals) x.w fun u w' => ∃ y : Cx, y.w = w' ∧ y.H = (bif Nat.beq (mkConA s e t F).mode 1 then x.H else (mkConA s e t F).outH X Y x.H) ∧ Inv y ∧ Kept x y ∧
            (∀ id, id < x.H.length → id ∉ (bif Nat.beq (mkConA s e t F).mode 1 then [] else (mkConA s e t F).kills X (init ++ [.val false [c]])) → IdOk x y id) ∧ Carry (killAll (bif Nat.beq (mkConA s e t F).mode 1 then [] else (mkConA s e t F).kills X (init ++ [.val false [c]]))) x y ∧ x.H.length ≤ y.H.length ∧ RepV y ((mkConA s e t F).outV X Y) u := by
        intro oj ys hoj hX ho hc
        subst hX
        have hF' : F (z, ys) = some Y := hF
        obtain ⟨n, hr⟩ := hrun _ _ hF'
        have hI' := sole_inv hI hoj ho
        have hv' : RepVs (x.sole oj [.arr e t ys]) (argsRow s t (z, ys)) vals.toList := by
          rw [hus]
          exact repVs_join _ _ _ _ (lookL_sound (x := x) (y := x.sole oj [.arr e t ys]) (fun t d vs h => h) s init z us hz hinit) (mk_one hc)
        show Does P (callFunc f vals) (x.sole oj [.arr e t ys]).w _
        refine run_sound hm hT hE hC (x := x.sole oj [.arr e t ys]) hr hI' hv' (fun v H' y u' hk hL => ?_)
        exact conA_core (x' := x.sole oj [.arr e t ys]) (oj := oj) (e := e) (t := t) hI hoj rfl rfl (fun b hb => sole_mine b hb) hL hk
      split at hl'
      · cases hl'
        have hu := of_one hlastv
        refine fin none [] (fun j hj => by cases hj) rfl rfl ⟨hu.1, ?_⟩
        exact ⟨Nat.le_refl _, ⟨none, hu.2⟩, rfl⟩
      · rename_i j n
        split at hl'
        · rename_i e' t' xs hj
          split at hl'
          · rename_i he
            subst he
            split at hl'
            · rename_i ys hys
              obtain ⟨rfl, rfl⟩ := castL_some hys
              cases hl'
              have hu := of_one hlastv
              have q6 := hu.2
              simp only [RepC1, hj] at q6
              obtain ⟨q7, q8⟩ := q6
              have hlen : (ys.take n).length = n := by simp [Nat.min_eq_left q7]
              refine fin (some j) (ys.take n) (fun j' hj' => by cases hj'; exact ⟨_, hj⟩) rfl ?_ ⟨hu.1, ?_⟩
              · have ho := hI.obs _ _ hj
                simp only [ObRep] at ho
                show match x.at_ j with | none => _ | some b => _
                cases ha : x.at_ j with
                | none => rw [ha] at ho; simp only at ho ⊢; rw [ho]; simp
                | some b2 =>
                  rw [ha] at ho
                  simp only at ho ⊢
                  obtain ⟨cur, k1, k2, k3⟩ := ho
                  refine ⟨cur, k1, ?_, fun q dd hq => ?_⟩
                  · have : (ys.take n).length ≤ ys.length := by simp; omega
                    exact Nat.le_trans (Nat.mul_le_mul_right _ this) k2
                  · rw [List.getElem?_take] at hq
                    split at hq
                    · exact k3 q dd hq
                    · cases hq
              · show _ ∧ _
                refine ⟨Nat.le_refl _, ?_⟩
                show match x.at_ j with | none => _ | some b => _
                rw [hlen]
                exact q8
            · cases hl'
          · cases hl'
        · cases hl'
      · cases hl'
    · cases hl'
  · cases hl'
end
end Go.Proofs.YtiolbhmbobelcaaGreatDoor.AI
/- A region whose order is open, where two neighbours (two variables that are made) come in either order and their names change places: what follows is run behind both. -/
set_option linter.unusedVariables false
set_option linter.unusedSimpArgs false
namespace Go.Proofs.YtiolbhmbobelcaaGreatDoor.AI
open Go

/-- A list with the elements p and p + 1 changed. -/
def swapL {α : Type} : Nat → List α → List α
  | 0, a :: b :: r => b :: a :: r
  | n + 1, a :: r => a :: swapL n r
  | _, l => l

/-- Every two of a region may change places but two neighbours. -/
def drawOk2 (env : FuncId → Option Con) (pl : List Nat) (ops : Array Oper) (p : Nat) : Bool :=
  let M := closures ops.toList []
  (List.range ops.size).all fun i =>
    match ops[i]? with
    | none => false
    | some o =>
      (directs o).all (fun j => Nat.blt j i) &&
      (M.getD i []).all (fun j => memN j (directs o) || (directs o).any fun m => memN j (M.getD m [])) &&
      (List.range i).all fun a => memN a (M.getD i []) || (Nat.beq a p && Nat.beq i (p + 1)) || (match ops[a]? with
        | some oa => comm env pl ops oa o
        | none => false)

section
variable {T : TypeId → Option TI} {h0 : Nat} {env : FuncId → Option Con} {inl : FuncId → List AV → List Ob → (AV → List Ob → Option (AV × List Ob)) → Option (AV × List Ob)} {pl : List Nat} {ops : Array Oper}

theorem any_order2 (hm : Mono1 env) (Bef : Nat → Nat → Prop) : ∀ (σ idx : List Nat) (st st' : St), σ.Perm idx → σ.Pairwise (fun p q => ¬ Bef q p) →
    idx.Pairwise (fun a i => Bef a i ∨ Free env pl ops a i) → runD T h0 env inl true pl ops idx st = some st' → runD T h0 env inl true pl ops σ st = some st'
  | [], idx, st, st', hp, _, _, h => by
    have : idx = [] := List.Perm.eq_nil hp.symm
    rw [this] at h; exact h
  | i :: σ, idx, st, st', hp, ho, hf, h => by
    have hi : i ∈ idx := hp.subset (by simp)
    obtain ⟨A, B, rfl⟩ := List.append_of_mem hi
    have hp2 : σ.Perm (A ++ B) := (List.perm_cons i).1 (hp.trans List.perm_middle)
    have hf' := List.pairwise_append.1 hf
    have ho' := List.pairwise_cons.1 ho
    have hb := bubble hm i B A st st' h (fun a ha => by
      rcases hf'.2.2 a ha i (by simp) with h1 | h1
      · exact absurd h1 (ho'.1 a (hp2.symm.subset (by simp [ha])))
      · exact h1)
    have hsub : (A ++ B).Pairwise (fun a i => Bef a i ∨ Free env pl ops a i) := hf.sublist (List.Sublist.append_left (List.sublist_cons_self i B) A)
    simp only [runD] at hb ⊢
    split at hb
    · rename_i hn
      exact any_order2 hm Bef σ (A ++ B) st st' hp2 ho'.2 hsub hb
    · rename_i o hn
      split at hb
      · rename_i s hst
        exact any_order2 hm Bef σ (A ++ B) s st' hp2 ho'.2 hsub hb
      · cases hb

theorem swap_split : ∀ (p : Nat) (l : List Nat), swapL p l = l ∨ ∃ A a b B, l = A ++ a :: b :: B ∧ swapL p l = A ++ b :: a :: B ∧ A.length = p
  | 0, [] => .inl rfl
  | 0, [a] => .inl rfl
  | 0, a :: b :: r => .inr ⟨[], a, b, r, rfl, rfl, rfl⟩
  | n + 1, [] => .inl rfl
  | n + 1, a :: r => by
    rcases swap_split n r with h | ⟨A, x, y, B, h1, h2, h3⟩
    · exact .inl (by simp only [swapL, h])
    · exact .inr ⟨a :: A, x, y, B, by rw [h1]; rfl, by simp only [swapL, h2]; rfl, by simp [h3]⟩

theorem range_split {n p : Nat} {A B : List Nat} {a b : Nat} (h : List.range n = A ++ a :: b :: B) (hl : A.length = p) : a = p ∧ b = p + 1 ∧ p + 1 < n := by
  have h1 : (List.range n)[p]? = some a := by rw [h, List.getElem?_append_right (by omega), hl]; simp
  have h2 : (List.range n)[p + 1]? = some b := by rw [h, List.getElem?_append_right (by omega), hl]; simp
  have l1 := (List.getElem?_eq_some_iff.1 h1).1
  have l2 := (List.getElem?_eq_some_iff.1 h2).1
  rw [List.getElem?_eq_getElem l1] at h1
  rw [List.getElem?_eq_getElem l2] at h2
  simp at h1 h2 l2
  exact ⟨h1.symm, h2.symm, l2⟩

/-- A region in whatever order is drawn comes to the text's state, or to that of the text with the two changed. -/
theorem draw_two (hm : Mono1 env) {p : Nat} (hd : drawOk2 env pl ops p = true) {st st1 st2 : St} (h1 : runD T h0 env inl true pl ops (List.range ops.size) st = some st1)
    (h2 : runD T h0 env inl true pl ops (swapL p (List.range ops.size)) st = some st2) (t : Nat) :
    runD T h0 env inl true pl ops (Region.linearise .any ops t) st = some st1 ∨ runD T h0 env inl true pl ops (Region.linearise .any ops t) st = some st2 := by
  unfold drawOk2 at hd
  simp only [List.all_eq_true, List.mem_range] at hd
  generalize hM : closures ops.toList [] = M at hd
  have hdd : ∀ i o, ops[i]? = some o → (∀ j ∈ directs o, j < i) ∧ (∀ j ∈ M.getD i [], j ∈ directs o ∨ ∃ m ∈ directs o, j ∈ M.getD m []) ∧ ∀ a, a < i → (a ∈ M.getD i [] ∨ (a = p ∧ i = p + 1)) ∨ ∃ oa, ops[a]? = some oa ∧ comm env pl ops oa o = true := by
    intro i o ho
    have hlt := (Array.getElem?_eq_some_iff.1 ho).1
    have := hd i hlt
    simp only [ho, Bool.and_eq_true, List.all_eq_true, Bool.or_eq_true, List.any_eq_true, memN_iff, List.mem_range, nbeq] at this
    obtain ⟨⟨h1, h2⟩, h3⟩ := this
    refine ⟨fun j hj => by have := h1 j hj; simp [Nat.blt] at this; omega, h2, fun a ha => ?_⟩
    rcases h3 a ha with h4 | h4
    · exact .inl h4
    · split at h4
      · rename_i oa hoa; exact .inr ⟨oa, hoa, h4⟩
      · cases h4
  have hdown : ∀ i o, ops[i]? = some o → ∀ j ∈ directs o, j < i := fun i o ho => (hdd i o ho).1
  have hsz : (Array.replicate ops.size false).size = ops.size := by simp
  obtain ⟨g1, g2, g3⟩ := go_spec ops ops.size t (Array.replicate ops.size false) hsz
  have g4 := go_all ops hdown ops.size t (Array.replicate ops.size false) hsz (Nat.le_trans (List.length_filter_le _ _) (by simp))
  have hlin : Region.linearise .any ops t = Region.linearise.go .any ops ops.size t (Array.replicate ops.size false) [] := rfl
  rw [hlin]
  generalize hl : Region.linearise.go .any ops ops.size t (Array.replicate ops.size false) [] = l at g1 g2 g3 g4
  have hperm : l.Perm (List.range ops.size) := by
    refine (List.perm_ext_iff_of_nodup g2 List.nodup_range).2 (fun a => ?_)
    rw [List.mem_range]
    exact ⟨fun ha => (g1 a ha).1, fun ha => g4 a ha (by simp [ha])⟩
  have hpos : ∀ i, i < ops.size → ∀ j ∈ M.getD i [], l.idxOf j < l.idxOf i := by
    intro i
    induction i using Nat.strongRecOn with
    | _ i ih =>
      intro hi j hj
      have ho : ops[i]? = some ops[i] := Array.getElem?_eq_getElem hi
      have hmem : i ∈ l := g4 i hi (by simp [hi])
      obtain ⟨A, B, rfl⟩ := List.append_of_mem hmem
      have direct : ∀ k ∈ directs ops[i], (A ++ i :: B).idxOf k < (A ++ i :: B).idxOf i := fun k hk => by
        rcases g3 A B i _ rfl ho k hk with h1 | h1
        · have hk2 : k < i := hdown i _ ho k hk
          simp [Array.getD_eq_getD_getElem?, show k < ops.size by omega] at h1
        · exact idxOf_lt g2 h1
      rcases (hdd i _ ho).2.1 j hj with h1 | ⟨m, hm1, hm2⟩
      · exact direct j h1
      · have hmi := hdown i _ ho m hm1
        exact Nat.lt_trans (ih m hmi (by omega) j hm2) (direct m hm1)
  have hin : ∀ q ∈ l, q < ops.size := fun q hq => (g1 q hq).1
  -- the pairs of the text's order
  have pairs : ∀ a i, i < ops.size → a < i → (a ∈ M.getD i [] ∨ (a = p ∧ i = p + 1)) ∨ Free env pl ops a i := fun a i hi hlt => by
    have ho : ops[i]? = some ops[i] := Array.getElem?_eq_getElem hi
    rcases (hdd i _ ho).2.2 a hlt with h1 | ⟨oa, h1, h2⟩
    · exact .inl h1
    · exact .inr ⟨oa, _, h1, ho, h2⟩
  have hidx := pairwise_idx l g2
  by_cases hord : l.idxOf p < l.idxOf (p + 1) ∨ ops.size ≤ p + 1
  · left
    refine any_order2 hm (fun a i => i < ops.size ∧ (a ∈ M.getD i [] ∨ (a = p ∧ i = p + 1))) l (List.range ops.size) st st1 hperm ?_ ?_ h1
    · refine hidx.imp_of_mem ?_
      rintro x q hx hq hlt ⟨h3, h4 | ⟨rfl, rfl⟩⟩
      · have := hpos x h3 q h4
        omega
      · rcases hord with h5 | h5 <;> omega
    · refine List.pairwise_lt_range.imp_of_mem ?_
      intro a i ha hi hlt
      have hi' : i < ops.size := List.mem_range.1 hi
      rcases pairs a i hi' hlt with h3 | h3
      · exact .inl ⟨hi', h3⟩
      · exact .inr h3
  · right
    have ho1 : ¬ l.idxOf p < l.idxOf (p + 1) := fun h => hord (.inl h)
    have ho2 : p + 1 < ops.size := Nat.lt_of_not_le fun h => hord (.inr h)
    have hnot : p ∉ M.getD (p + 1) [] := fun h => ho1 (hpos (p + 1) ho2 p h)
    rcases swap_split p (List.range ops.size) with hs | ⟨A, a, b, B, hr, hs, hA⟩
    · -- no such pair
      exfalso
      have key : ∀ (p : Nat) (l : List Nat) (x y : Nat), l[p]? = some x → l[p + 1]? = some y → swapL p l = l → x = y := by
        intro p
        induction p with
        | zero =>
          intro l x y h1 h2 h3
          match l, h1, h2, h3 with
          | a :: b :: r, h1, h2, h3 =>
            simp at h1 h2
            simp only [swapL, List.cons.injEq] at h3
            rw [← h1, ← h2, h3.2.1]
        | succ p ih =>
          intro l x y h1 h2 h3
          match l, h1, h2, h3 with
          | a :: r, h1, h2, h3 =>
            simp only [swapL, List.cons.injEq, true_and] at h3
            exact ih r x y (by simpa using h1) (by simpa using h2) h3
      have := key p _ p (p + 1) (List.getElem?_range (by omega)) (List.getElem?_range ho2) hs
      omega
    · obtain ⟨ea, eb, _⟩ := range_split hr hA
      rw [ea, eb] at hr hs
      clear ea eb
      rw [hs] at h2
      have hper2 : l.Perm (A ++ (p + 1) :: p :: B) := by
        refine hperm.trans ?_
        rw [hr]
        exact List.Perm.append_left A (List.Perm.swap (p + 1) p B)
      have hlt := List.pairwise_lt_range (n := ops.size)
      rw [hr] at hlt
      refine any_order2 hm (fun a i => (i < ops.size ∧ (a ∈ M.getD i [])) ∨ (a = p + 1 ∧ i = p)) l (A ++ (p + 1) :: p :: B) st st2 hper2 ?_ ?_ h2
      · refine hidx.imp_of_mem ?_
        rintro x q hx hq hlt2 (⟨h3, h4⟩ | ⟨rfl, rfl⟩)
        · have := hpos x h3 q h4
          omega
        · omega
      · have mem : ∀ q ∈ A ++ p :: (p + 1) :: B, q < ops.size := fun q hq => by rw [← hr] at hq; exact List.mem_range.1 hq
        obtain ⟨k1, k2, k3⟩ := List.pairwise_append.1 hlt
        obtain ⟨k4, k5⟩ := List.pairwise_cons.1 k2
        obtain ⟨k6, k7⟩ := List.pairwise_cons.1 k5
        have go : ∀ a i, i < ops.size → a < i → ¬ (a = p ∧ i = p + 1) → ((i < ops.size ∧ (a ∈ M.getD i [])) ∨ (a = p + 1 ∧ i = p)) ∨ Free env pl ops a i := fun a i hi hl hn => by
          rcases pairs a i hi hl with (h3 | h3) | h3
          · exact .inl (.inl ⟨hi, h3⟩)
          · exact absurd h3 hn
          · exact .inr h3
        refine List.pairwise_append.2 ⟨k1.imp_of_mem fun {a i} ha hi hl => go a i (mem i (by simp [hi])) hl (fun h => ?_), List.pairwise_cons.2 ⟨fun i hi => ?_, List.pairwise_cons.2 ⟨fun i hi => ?_, k7.imp_of_mem fun {a i} ha hi hl => go a i (mem i (by simp [hi])) hl (fun h => ?_)⟩⟩, fun a ha i hi => ?_⟩
        · have := k3 i hi p (by simp)
          omega
        · rcases List.mem_cons.1 hi with rfl | hi
          · exact .inl (.inr ⟨rfl, rfl⟩)
          · have := k6 i hi
            exact go (p + 1) i (mem i (by simp [hi])) this (fun h => by omega)
        · have := k4 i (by simp [hi])
          exact go p i (mem i (by simp [hi])) this (fun h => by have := k6 i hi; omega)
        · have := k4 a (by simp [ha])
          omega
        · have hap : a < p := k3 a ha p (by simp)
          rcases List.mem_cons.1 hi with rfl | hi
          · exact go a (p + 1) (mem _ (by simp)) (by omega) (fun h => by omega)
          · rcases List.mem_cons.1 hi with rfl | hi
            · exact go a i (mem _ (by simp)) hap (fun h => by omega)
            · exact go a i (mem i (by simp [hi])) (k3 a ha i (by simp [hi])) (fun h => by omega)

theorem swap_getElem : ∀ (p : Nat) {α β : Type} (f : α → β) (l : List α), swapL p (l.map f) = (swapL p l).map f
  | 0, _, _, f, [] => rfl
  | 0, _, _, f, [a] => rfl
  | 0, _, _, f, a :: b :: r => rfl
  | n + 1, _, _, f, [] => rfl
  | n + 1, _, _, f, a :: r => by simp only [List.map_cons, swapL, swap_getElem n f r]

theorem runD_runL (draw : Bool) : ∀ (idx : List Nat) (l : List Oper), idx.map (fun i => ops[i]?) = l.map some → ∀ st, runD T h0 env inl draw pl ops idx st = runL T h0 env inl draw pl ops.toList l st
  | [], [], _, st => rfl
  | [], _ :: _, h, st => by simp at h
  | _ :: _, [], h, st => by simp at h
  | i :: idx, o :: l, h, st => by
    simp only [List.map_cons, List.cons.injEq] at h
    simp only [runD, h.1, runL]
    cases stepD T h0 env inl draw pl ops.toList o st with
    | none => rfl
    | some s => exact runD_runL draw idx l h.2 s

theorem runL_swap (p : Nat) (st : St) : runD T h0 env inl true pl ops (swapL p (List.range ops.size)) st = runL T h0 env inl true pl ops.toList (swapL p ops.toList) st := by
  refine runD_runL true _ _ ?_ st
  rw [← swap_getElem, ← swap_getElem]
  congr 1
  refine List.ext_getElem? fun i => ?_
  simp only [List.getElem?_map]
  rcases Nat.lt_or_ge i ops.size with h | h
  · rw [List.getElem?_range h]
    simp [h]
  · rw [List.getElem?_eq_none (by simpa using h), List.getElem?_eq_none (by simpa using h)]
    rfl
end

/-- A body's run where the region behind the first place is run with two of its operations changed. -/
def exec2K {R : Type} (T : TypeId → Option TI) (h0 : Nat) (env : FuncId → Option Con) (inl : FuncId → List AV → List Ob → (AV → List Ob → Option R) → Option R) (n : Nat) (ann : Nat → Ann) (p : Nat) (c : Code) (fr : List AV) (H : List Ob) (k : Ex → List AV → List Ob → Option R) : Option R :=
  match c with
  | .seq a (.seq (.region id ops _) b) => execK T h0 env inl n ann a fr H fun e fr H => match e with
    | .normal => partK (ann id).plain fr fun fr => regK T h0 env inl true (ann id).plain ops.toList (swapL p ops.toList) ⟨fr, [], []⟩ H fun g H => sealK h0 (ann id).plain (endG g) H fun fr H => execK T h0 env inl n ann b fr H k
    | e => k e fr H
  | _ => none

def body2K {R : Type} (T : TypeId → Option TI) (h0 : Nat) (env : FuncId → Option Con) (inl : FuncId → List AV → List Ob → (AV → List Ob → Option R) → Option R) (n : Nat) (ann : FuncId → Nat → Ann) (p : Nat) (f : FuncId) (fn : Func) (args : List AV) (H : List Ob) (k : AV → List Ob → Option R) : Option R :=
  match fn.body with
  | none => none
  | some c => bif Nat.ble args.length fn.ntmps then
      exec2K T h0 env inl n (ann f) p c (args ++ List.replicate (fn.ntmps - args.length) .undef) H fun e fr H => match e with
        | .exit _ => none
        | _ => match resultsA T fr H fn.results.toList with
          | some v => k v H
          | none => none
    else none

def run2K {R : Type} (T : TypeId → Option TI) (env : FuncId → Option Con) (n : Nat) (ann : FuncId → Nat → Ann) (code : FuncId → Option Func) (d p : Nat) (f : FuncId) (args : List AV) (H : List Ob) (k : AV → List Ob → Option R) : Option R :=
  match code f with
  | some fn => body2K T 0 env (inlD T env n ann code d) n ann p f fn args H k
  | none => none

/-- The regions of such a body: all may come in any order, but in the one behind the first place two change their names. -/
def draws2Ok (env : FuncId → Option Con) (ann : Nat → Ann) (p : Nat) : Code → Bool
  | .seq a (.seq (.region id ops draw) b) => drawsOk env ann a && (draw && (!(ann id).dead && drawOk2 env (ann id).plain ops p)) && drawsOk env ann b
  | _ => false

structure Code2Ok (P : Program) (env : FuncId → Option Con) (ann : FuncId → Nat → Ann) (p : Nat) (f : FuncId) (fn : Func) : Prop where
  at_ : P.funcs[f]? = some fn
  name : (fn.name == "runtime.NumGoroutine") = false
  draws : (match fn.body with
    | some c => draws2Ok env (ann f) p c
    | none => false) = true

section
variable {R : Type} {P : Program} {T : TypeId → Option TI} {env : FuncId → Option Con} {ann : FuncId → Nat → Ann} {code : FuncId → Option Func}

theorem exec2_sound (hm : P.follows .mixedOrders = true) (hT : TOk P T) (hE : EnvOk P env) (hC : CodesOk P env ann code) {n d p h0 : Nat} {an : Nat → Ann} {r : R} (c : Code) (Q : Exit → Act → World → Prop) (x0 : Cx) (fr : List AV) (H : List Ob) (k : Ex → List AV → List Ob → Option R) (a : Act) (w : World)
    (hd : draws2Ok env an p c = true) (h1 : execK T h0 env (inlD T env n ann code d) n an c fr H k = some r) (h2 : exec2K T h0 env (inlD T env n ann code d) n an p c fr H k = some r) (hg : Good x0 h0 ⟨fr, H⟩ a w)
    (hk : ∀ e fr' H' a' w', k e fr' H' = some r → Good x0 h0 ⟨fr', H'⟩ a' w' → Q e.to a' w') : c.wp P Q a w := by
  have hN := inlD_ok (P := P) hm hT hE hC d (n := n)
  unfold draws2Ok at hd
  split at hd
  · rename_i ca id ops draw cb
    simp only [Bool.and_eq_true, Bool.not_eq_true'] at hd
    obtain ⟨⟨hda, hdr, hdead, hdo⟩, hdb⟩ := hd
    subst hdr
    simp only [exec2K] at h2
    rw [execK] at h1
    -- the first part's end, once
    let kA : Ex → List AV → List Ob → Option R := fun e fr H => match e with
      | .normal => execK T h0 env (inlD T env n ann code d) n an (.seq (.region id ops true) cb) fr H k
      | e => k e fr H
    let kB : Ex → List AV → List Ob → Option R := fun e fr H => match e with
      | .normal => partK (an id).plain fr fun fr => regK T h0 env (inlD T env n ann code d) true (an id).plain ops.toList (swapL p ops.toList) ⟨fr, [], []⟩ H fun g H => sealK h0 (an id).plain (endG g) H fun fr H => execK T h0 env (inlD T env n ann code d) n an cb fr H k
      | e => k e fr H
    have eA := exec_hom (T := T) (h0 := h0) (env := env) (inlD_binds (T := T) (env := env) (n := n) (ann := ann) (code := code) d (R := R)) (inlD_binds d (R := Ex × List AV × List Ob)) (fun q : Ex × List AV × List Ob => kA q.1 q.2.1 q.2.2) n an ca fr H (fun e fr H => some (e, fr, H))
    have eB := exec_hom (T := T) (h0 := h0) (env := env) (inlD_binds (T := T) (env := env) (n := n) (ann := ann) (code := code) d (R := R)) (inlD_binds d (R := Ex × List AV × List Ob)) (fun q : Ex × List AV × List Ob => kB q.1 q.2.1 q.2.2) n an ca fr H (fun e fr H => some (e, fr, H))
    have h1' := eA.symm.trans h1
    have h2' := eB.symm.trans h2
    cases hq : execK T h0 env (inlD T env n ann code d) n an ca fr H (fun e fr H => some (e, fr, H)) with
    | none => rw [hq] at h1'; cases h1'
    | some q =>
      rw [hq] at h1' h2'
      have hA : kA q.1 q.2.1 q.2.2 = some r := h1'
      have hB : kB q.1 q.2.1 q.2.2 = some r := h2'
      refine wp_seq (exec_sound hm hT hE hN (inlD_binds d) ca _ x0 fr H (fun e fr H => some (e, fr, H)) a w hda hq hg fun e fr' H' a' w' h' hg' => ?_)
      cases h'
      cases e with
      | normal =>
        have hA' : execK T h0 env (inlD T env n ann code d) n an (.seq (.region id ops true) cb) fr' H' k = some r := hA
        let rA : List AV → Option R := fun fr => regK T h0 env (inlD T env n ann code d) true (an id).plain ops.toList ops.toList ⟨fr, [], []⟩ H' fun g H => sealK h0 (an id).plain (endG g) H fun fr H => execK T h0 env (inlD T env n ann code d) n an cb fr H k
        let rB : List AV → Option R := fun fr => regK T h0 env (inlD T env n ann code d) true (an id).plain ops.toList (swapL p ops.toList) ⟨fr, [], []⟩ H' fun g H => sealK h0 (an id).plain (endG g) H fun fr H => execK T h0 env (inlD T env n ann code d) n an cb fr H k
        have hB0 : partK (an id).plain fr' rB = some r := hB
        show Code.wp P _ Q a' w'
        have hA0 : partK (an id).plain fr' rA = some r := by
          simp only [execK, hdead, Bool.and_false, cond_false] at hA'
          exact hA'
        have pA := (part_hom (A := R) (B := List AV) rA (an id).plain fr' some).symm.trans hA0
        have pB := (part_hom (A := R) (B := List AV) rB (an id).plain fr' some).symm.trans hB0
        cases hp : partK (an id).plain fr' some with
        | none => rw [hp] at pA; cases pA
        | some fr2 =>
        rw [hp] at pA pB
        have hA' : rA fr2 = some r := pA
        have hB' : rB fr2 = some r := pB
        obtain ⟨fr3, hfr3, hg'⟩ := Good.partK _ _ hp hg'
        cases hfr3
        obtain ⟨gA, sA, a1, a2, a3⟩ := reg_sound (inlD_binds d) true (an id).plain ops.toList ops.toList _ _ fr2 _ _ hA' (RG.self fr2)
        obtain ⟨gB, sB, b1, b2, b3⟩ := reg_sound (inlD_binds d) true (an id).plain ops.toList (swapL p ops.toList) _ _ fr2 _ _ hB' (RG.self fr2)
        rw [← runL_range] at a1
        rw [← runL_swap] at b1
        refine wp_seq (wp_region_draw (fun t => ?_))
        simp only [Region.schedule, hm, Bool.true_or, if_true]
        have fin : ∀ (s : St) (g : G), RG g s.fr → (sealK h0 (an id).plain (endG g) s.H fun fr H => execK T h0 env (inlD T env n ann code d) n an cb fr H k) = some r → ∀ a w, Good x0 h0 s a w → Code.wp P cb Q a w := fun s g hR hs a w hgd => by
          obtain ⟨fr2, H2, q1, q2⟩ := Good.sealK _ _ _ hs (Good.end_ (fr := s.fr) hgd hR)
          exact exec_sound hm hT hE hN (inlD_binds d) cb Q x0 fr2 H2 k a w hdb q1 q2 hk
        have finA : ∀ a w, Good x0 h0 sA a w → Code.wp P cb Q a w := fin sA gA a2 (by simpa using a3)
        have finB : ∀ a w, Good x0 h0 sB a w → Code.wp P cb Q a w := fin sB gB b2 b3
        rcases draw_two (Mono1.of hE) hdo a1 b1 t with hσ | hσ
        · exact runD_sound hT hE hN finA _ _ a' _ hσ (hg'.drawn _)
        · exact runD_sound hT hE hN finB _ _ a' _ hσ (hg'.drawn _)
      | exit j => exact hk _ _ _ _ _ hA hg'
      | ret => exact hk _ _ _ _ _ hA hg'
  · cases hd

theorem body2_sound (hm : P.follows .mixedOrders = true) (hT : TOk P T) (hE : EnvOk P env) (hC : CodesOk P env ann code) {n d p : Nat} {r : R} {f : FuncId} {fn : Func} (hc : Code2Ok P env ann p f fn)
    {x : Cx} {args : List AV} {vals : Array Value} {k : AV → List Ob → Option R} {S : Value → World → Prop} (h1 : bodyK T 0 env (inlD T env n ann code d) n ann f fn args x.H k = some r) (h2 : body2K T 0 env (inlD T env n ann code d) n ann p f fn args x.H k = some r)
    (hI : Inv x) (hv : RepVs x args vals.toList) (hk : ∀ v H' y u, k v H' = some r → Left x 0 v H' u y → S u y.w) : Does P (callFunc f vals) x.w S := by
  unfold bodyK at h1
  unfold body2K at h2
  have hd := hc.draws
  cases hbody : fn.body with
  | none => rw [hbody] at hd; cases hd
  | some c =>
    simp only [hbody] at h1 h2 hd
    cases hle : Nat.ble args.length fn.ntmps with
    | false => simp [hle] at h1
    | true =>
      simp only [hle, cond_true] at h1 h2
      have hle' := Nat.le_of_ble_eq_true hle
      have hrun : (callFunc f vals).run P x.w = .ok (.enter f vals) x.w := by
        have hn := hc.name
        simp only [beq_eq_false_iff_ne, ne_eq] at hn
        simp [callFunc, go_sem, hc.at_, hbody, hn]
      unfold Does
      rw [hrun]
      simp only
      refine calls_of_wp hc.at_ hbody ?_
      obtain ⟨hlen, hget⟩ := repVs_get _ _ hv
      simp only [Array.length_toList] at hlen
      refine exec2_sound hm hT hE hC c _ x _ _ _ _ x.w hd h1 h2 ⟨x, rfl, hI, rfl, ?_, Kept.refl x, fun id _ => IdOk.same hI rfl rfl (fun _ _ _ => rfl), Nat.zero_le _, rfl, Nat.le_refl _⟩ ?_
      · intro t v ht
        have ht' : (args ++ List.replicate (fn.ntmps - args.length) AV.undef)[t]? = some v := ht
        show ∃ u, (vals ++ Array.replicate (fn.ntmps - vals.size) Go.undef)[t]? = some u ∧ RepV x v u
        rw [List.getElem?_append] at ht'
        rw [Array.getElem?_append]
        split at ht'
        · rename_i hlt
          rw [if_pos (by omega)]
          obtain ⟨u, h1, h2⟩ := hget t v ht'
          exact ⟨u, by simpa using h1, h2⟩
        · rename_i hlt
          rw [if_neg (by omega)]
          rw [List.getElem?_replicate] at ht'
          split at ht'
          · rename_i h3
            cases ht'
            refine ⟨Go.undef, ?_, trivial⟩
            rw [Array.getElem?_replicate, if_pos (by omega)]
          · cases ht'
      · intro e fr' H' a' w' h' hg'
        have fin : (match resultsA T fr' H' fn.results.toList with | some v => k v H' | none => none) = some r → a'.defers = [] ∧ ∃ v, (results fn a'.tmps).run P w' = .ok v w' ∧ S v w' := by
          intro h'
          obtain ⟨y, rfl, hy⟩ := hg'
          have e1 : y.H = H' := hy.H
          split at h'
          · rename_i v hr
            rw [← e1] at hr
            obtain ⟨u, h1, h2⟩ := results_sound hT hy.inv hy.fr hr
            exact ⟨hy.defers, u, h1, hk v H' y u h' ⟨hy.inv, e1, hy.kept, hy.ids, hy.low, h2⟩⟩
          · cases h'
        cases e with
        | normal => exact fin h'
        | ret => exact fin h'
        | exit id => simp at h'

theorem mkCon2_ok (hm : P.follows .mixedOrders = true) (hT : TOk P T) (hE : EnvOk P env) (hC : CodesOk P env ann code) {d p : Nat} {f : FuncId} {fn : Func} (hc : Code2Ok P env ann p f fn) {s rs : Sig} {lend : Bool} {F : s.den → Option rs.den}
    (hfl : lend = true → ∀ p ∈ rs, p.2.flat = true) (hrun : ∀ X Y, F X = some Y → ∃ n, bodyK T 0 env (inlD T env n ann code d) n ann f fn (argsL s X) [] (readL rs) = some Y ∧ body2K T 0 env (inlD T env n ann code d) n ann p f fn (argsL s X) [] (readL rs) = some Y) : ConOk P f (mkCon s rs lend F) :=
  mkCon_of hfl fun X Y hF x' vals hH hI hv S hk => by
    obtain ⟨n, hr1, hr2⟩ := hrun X Y hF
    exact body2_sound hm hT hE hC hc (x := x') (r := Y) (k := readL rs) (by rw [hH]; exact hr1) (by rw [hH]; exact hr2) hI hv hk
end
end Go.Proofs.YtiolbhmbobelcaaGreatDoor.AI
/- Rows of whole numbers of the caller's own, that a call writes over in place. -/
set_option linter.unusedVariables false
set_option linter.unusedSimpArgs false
namespace Go.Proofs.YtiolbhmbobelcaaGreatDoor.AI
open Go Go.Sort

def lookR (e : TypeId) (avs : List AV) (H : List Ob) : Option (Option Nat × Nat × List Int) :=
  match avs with
  | [.val false [.nils]] => some (none, 0, [])
  | [.val false [.own id n]] => match H[id]? with
    | some (.arr e' t' xs) => bif Nat.beq e' e then (match castL (u := t') (t := .int .i64) xs with
      | some xs => some (some id, n, xs)
      | none => none) else none
    | _ => none
  | _ => none

/-- What stands in a row's first places is written over, and it may be told how many of them are left. -/
def mkConR (e : TypeId) (ans : Bool) (F : List Int → Option (List Int × Nat)) : Con where
  X := Option Nat × Nat × List Int
  Y := List Int × Nat
  look := lookR e
  F := fun x => F (x.2.2.take x.2.1)
  outV := fun x y => bif ans then (match x.1 with | none => .val false [.nils] | some id => .val false [.own id y.2]) else .tup []
  outH := fun x y H => match x.1 with | none => H | some id => H.set id (.arr e (.int .i64) (y.1 ++ x.2.2.drop x.2.1))
  mode := 0
  kills := fun _ _ => []

def ansV (ans : Bool) (v : Value) : Value := bif ans then v else .tuple #[]

section
variable {x : Cx} {w : World}
theorem wide_kin (hI : Inv x) (hb : ∀ b, b < x.w.heap.size → w.heap[b]? = x.w.heap[b]?) : Kin x (x.withW w) := ⟨fun _ h => h, fun b h => hb b (hI.okb b h)⟩
theorem wide_idOk (hI : Inv x) (hb : ∀ b, b < x.w.heap.size → w.heap[b]? = x.w.heap[b]?) (id : Nat) : IdOk x (x.withW w) id := IdOk.same hI rfl rfl (fun b _ h => hb b h)
theorem wide_inv (hI : Inv x) (hs : x.w.heap.size ≤ w.heap.size) (hb : ∀ b, b < x.w.heap.size → w.heap[b]? = x.w.heap[b]?) : Inv (x.withW w) :=
  ⟨fun b h => Nat.lt_of_lt_of_le (hI.okb b h) hs, hI.inj, hI.off, fun i o h => by
    cases o with
    | dead => trivial
    | _ => exact (hI.obs i _ h).keep (wide_kin hI hb) (Carry.id_of (wide_kin hI hb) (fun id _ => wide_idOk hI hb id)) rfl (fun b h2 => hb b (hI.lt h (by simp) h2)), hI.tab.kin (wide_kin hI hb)⟩
theorem wide_kept (hs : x.w.heap.size ≤ w.heap.size) (hb : ∀ b, b < x.w.heap.size → w.heap[b]? = x.w.heap[b]?) (h1 : w.os = x.w.os) (h2 : w.tape = x.w.tape) (h3 : w.output = x.w.output) : Kept x (x.withW w) :=
  ⟨h1, h2, h3, hs, fun b h _ => hb b h, fun b h => .inl h, fun _ h => h, fun _ h => .inl h⟩
end

section
variable {P : Program}
theorem rowCon_ok {f : FuncId} {e : TypeId} {ans : Bool} {F : List Int → Option (List Int × Nat)} (hlen : ∀ l y, F l = some y → y.1.length = l.length ∧ y.2 ≤ l.length)
    (hnil : ∀ (A : Option Addr) (w : World) (y : List Int × Nat), F [] = some y → Does P (callFunc f #[.slice A 0 0]) w fun u w' => (∃ k os, w' = grow (Go.Sort.ahead w k) os) ∧ u = ansV ans (.slice A 0 0))
    (hcall : ∀ (w : World) (b c : Nat) (l : List Int) (y : List Int × Nat), l.length ≤ c → c ≤ maxLen → Go.Sort.Holds (Value.int .i64) w b 0 l.toArray → b < w.heap.size → F l = some y →
      Does P (callFunc f #[.slice (some ⟨b, 0, none⟩) l.length c]) w fun u w' => (∃ k os, w' = grow (putRow (Value.int .i64) (Go.Sort.ahead w k) b 0 y.1.toArray) os) ∧ u = ansV ans (.slice (some ⟨b, 0, none⟩) y.2 c)) :
    ConOk P f (mkConR e ans F) := by
  refine ⟨fun x args vals X Y hI hv hl hF => ?_, fun h => (by cases h), fun h => (by cases h)⟩
  have hl' : lookR e args x.H = some X := hl
  have hF' : F (X.2.2.take X.2.1) = some Y := hF
  -- nothing is written
  have still : ∀ (w' : World), (∃ k os, w' = grow (Go.Sort.ahead x.w k) os) → Inv (x.withW w') ∧ Kept x (x.withW w') ∧ (∀ id, IdOk x (x.withW w') id) ∧ Carry (fun c => c) x (x.withW w') := by
    rintro w' ⟨k, os, rfl⟩
    have hs : x.w.heap.size ≤ (grow (Go.Sort.ahead x.w k) os).heap.size := by simp [grow]
    have hb : ∀ b, b < x.w.heap.size → (grow (Go.Sort.ahead x.w k) os).heap[b]? = x.w.heap[b]? := fun b h => by simp [grow, Array.getElem?_append_left h]
    exact ⟨wide_inv hI hs hb, wide_kept hs hb rfl rfl rfl, fun id => wide_idOk hI hb id, Carry.id_of (wide_kin hI hb) (fun id _ => wide_idOk hI hb id)⟩
  unfold lookR at hl'
  split at hl'
  · cases hl'
    obtain ⟨u, r, hu, h1, h2⟩ := hv
    have hr : r = [] := h2
    subst hr
    have hu0 : u = .slice none 0 0 := (of_one h1).2
    subst hu0
    have hvals : vals = #[.slice none 0 0] := by cases vals; simp_all
    subst hvals
    refine (hnil none x.w Y hF').mono ?_
    rintro u w' ⟨hw, rfl⟩
    obtain ⟨q1, q2, q3, q4⟩ := still w' hw
    refine ⟨x.withW w', rfl, rfl, q1, q2, fun id _ _ => q3 id, q4, Nat.le_refl _, ?_⟩
    show RepV _ (bif ans then .val false [.nils] else .tup []) (ansV ans _)
    cases ans with
    | true => exact mk_one ⟨rfl, rfl⟩
    | false => exact ⟨#[], rfl, rfl⟩
  · rename_i id n
    split at hl'
    · rename_i e' t' xs0 hx
      cases hbe : Nat.beq e' e with
      | false => rw [hbe] at hl'; cases hl'
      | true =>
        rw [hbe] at hl'
        have he := Nat.eq_of_beq_eq_true hbe
        subst he
        simp only [cond_true] at hl'
        split at hl'
        · rename_i xs hc
          cases hl'
          obtain ⟨rfl, hc2⟩ := castL_eq hc
          simp only at hc2
          subst hc2
          obtain ⟨u, r, hu, h1, h2⟩ := hv
          have hr : r = [] := h2
          subst hr
          have hrep := (of_one h1).2
          simp only [RepC1, hx] at hrep
          obtain ⟨hn, hrep⟩ := hrep
          have ho := hI.obs _ _ hx
          have hlt : id < x.H.length := (List.getElem?_eq_some_iff.1 hx).1
          cases hat : x.at_ id with
          | none =>
            simp only [hat] at hrep
            obtain ⟨⟨A, rfl⟩, rfl⟩ := hrep
            simp only [ObRep, hat] at ho
            subst ho
            have hvals : vals = #[.slice A 0 0] := by cases vals; simp_all
            subst hvals
            have hF0 : F [] = some Y := hF'
            have hl0 := hlen _ _ hF0
            refine (hnil A x.w Y hF0).mono ?_
            rintro u w' ⟨hw, rfl⟩
            obtain ⟨q1, q2, q3, q4⟩ := still w' hw
            have hY1 : Y.1 = [] := List.length_eq_zero_iff.1 hl0.1
            have hY2 : Y.2 = 0 := Nat.le_zero.1 hl0.2
            have hH : x.H.set id (.arr e' (.int .i64) (Y.1 ++ List.drop 0 [])) = x.H := by
              rw [hY1]
              refine List.ext_getElem? fun j => ?_
              rw [List.getElem?_set]
              by_cases hj : id = j
              · subst hj
                rw [if_pos rfl, if_pos hlt, hx]; rfl
              · rw [if_neg hj]
            refine ⟨x.withW w', rfl, hH.symm, q1, q2, fun id _ _ => q3 id, q4, Nat.le_refl _, ?_⟩
            show RepV _ (bif ans then .val false [.own id Y.2] else .tup []) (ansV ans _)
            cases ans with
            | false => exact ⟨#[], rfl, rfl⟩
            | true =>
              refine mk_one ⟨rfl, ?_⟩
              show RepC1 _ (.own id Y.2) _
              have hx' : (x.withW w').H[id]? = some (.arr e' (.int .i64) []) := hx
              have hat' : (x.withW w').at_ id = none := hat
              simp only [RepC1, hx', hat', hY2]
              exact ⟨Nat.le_refl _, ⟨_, rfl⟩, trivial⟩
          | some b =>
            simp only [hat] at hrep
            obtain ⟨c, rfl, hnc, hcm, hcs⟩ := hrep
            simp only [ObRep, hat] at ho
            obtain ⟨cur, hcur, hsz, hcells⟩ := ho
            have hsz' : xs.length ≤ cur.size := by simpa [Ty.size] using hsz
            have hcell : ∀ (i : Nat) (d : Int), (xs : List Int)[i]? = some d → cur[i]? = some (Value.int .i64 d) := fun i d hi => by
              obtain ⟨vs, q1, q2⟩ := hcells i d hi
              have q1' : vs = [Value.int .i64 d] := q1
              have := q2 0 (Value.int .i64 d) (by rw [q1']; rfl)
              simpa [Ty.size] using this
            have htl : (xs.take n).length = n := by simp [Nat.min_eq_left hn]
            have hvals : vals = #[.slice (some ⟨b, 0, none⟩) (xs.take n).length c] := by rw [htl]; cases vals; simp_all
            subst hvals
            have hbl : b < x.w.heap.size := (Array.getElem?_eq_some_iff.1 hcur).1
            have hF0 : F (xs.take n) = some Y := hF'
            obtain ⟨hl1, hl2⟩ := hlen _ _ hF0
            rw [htl] at hl1 hl2
            have hH : Go.Sort.Holds (Value.int .i64) x.w b 0 (xs.take n).toArray := fun j hj => by
              simp only [List.size_toArray] at hj
              have hj0 : j < xs.length := by rw [htl] at hj; omega
              have hj' : (xs.take n)[j]? = some (xs[j]'hj0) := by rw [List.getElem?_take, if_pos (by omega), List.getElem?_eq_getElem hj0]
              refine ⟨?_, by simp [World.frozen?, hcur]⟩
              have h3 := hcell j _ (List.getElem?_eq_getElem hj0)
              have h4 : (xs.take n).toArray[j]! = xs[j]'hj0 := by
                rw [getElem!_pos _ j (by simpa using hj)]
                simp
              rw [h4, Nat.zero_add]
              simp [World.cell?, hcur, h3]
            refine (hcall x.w b c (xs.take n) Y (by rw [htl]; exact hnc) hcm hH hbl hF0).mono ?_
            rintro u w' ⟨⟨k, os, rfl⟩, rfl⟩
            let w0 : World := grow (Go.Sort.ahead x.w k) os
            have hs0 : x.w.heap.size ≤ w0.heap.size := by simp [w0, grow]
            have hb0 : ∀ b, b < x.w.heap.size → w0.heap[b]? = x.w.heap[b]? := fun b h => by simp [w0, grow, Array.getElem?_append_left h]
            have hI0 := wide_inv hI hs0 hb0
            let x0 := x.withW w0
            let w1 : World := grow (putRow (Value.int .i64) (Go.Sort.ahead x.w k) b 0 Y.1.toArray) os
            have hw1 : w1.heap[b]? = some (.cells (putCells (Value.int .i64) 0 Y.1.toArray cur) e' (0, 0)) := by
              show ((x.w.heap.modify b (onCells (putCells (Value.int .i64) 0 Y.1.toArray))) ++ os)[b]? = _
              rw [Array.getElem?_append_left (by simpa using hbl), Array.getElem?_modify, if_pos rfl, hcur]
              rfl
            have hother : ∀ j, j ≠ b → w1.heap[j]? = w0.heap[j]? := fun j hj => by
              show ((x.w.heap.modify b (onCells (putCells (Value.int .i64) 0 Y.1.toArray))) ++ os)[j]? = (x.w.heap ++ os)[j]?
              rcases Nat.lt_or_ge j x.w.heap.size with h | h
              · rw [Array.getElem?_append_left (by simpa using h), Array.getElem?_append_left h, Array.getElem?_modify, if_neg (Ne.symm hj)]
              · rw [Array.getElem?_append_right (by simpa using h), Array.getElem?_append_right h]
                simp
            have hput : PutOk x0 w1 id b := ⟨rfl, rfl, rfl, by show ((x.w.heap.modify b _) ++ os).size = (x.w.heap ++ os).size; simp, hother, ⟨_, hx, by simp⟩, hat, fun cur' e2 fr' hc => by
              rw [hw1] at hc
              injection hc with hc
              injection hc with h1 h2 h3
              subst h1
              exact ⟨cur, e', (0, 0), by show w0.heap[b]? = _; rw [hb0 b hbl, hcur], by simp [putCells]⟩⟩
            have hle : xs.length ≤ (Y.1 ++ xs.drop n).length := by simp; omega
            have hids := fun j => put_idOk (o := .arr e' (.int .i64) (Y.1 ++ xs.drop n)) hI0 hput (by rw [show x0.H[id]? = _ from hx]; exact ⟨_, rfl, hle⟩) j
            let y := x0.put w1 id (.arr e' (.int .i64) (Y.1 ++ xs.drop n))
            have hob : ObRep y id (.arr e' (.int .i64) (Y.1 ++ xs.drop n)) := by
              have hat' : y.at_ id = some b := hat
              simp only [ObRep, hat']
              refine ⟨_, hw1, by simp [putCells, Ty.size]; omega, fun i d hi => ⟨[.int .i64 d], rfl, fun j v hj => ?_⟩⟩
              have hj0 : j = 0 := by
                have := (List.getElem?_eq_some_iff.1 hj).1
                simpa using this
              subst hj0
              simp only [List.getElem?_cons_zero, Option.some.injEq] at hj
              subst hj
              have hi2 : i < (Y.1 ++ xs.drop n).length := (List.getElem?_eq_some_iff.1 hi).1
              have hic : i < cur.size := by simp at hi2; omega
              simp only [Ty.size, Nat.mul_one, Nat.add_zero, putCells, Array.getElem?_mapIdx]
              rcases Nat.lt_or_ge i n with h | h
              · rw [List.getElem?_append_left (by omega)] at hi
                have hyi : i < Y.1.length := by omega
                have hd : Y.1[i] = d := by
                  rw [List.getElem?_eq_getElem hyi] at hi
                  exact Option.some.inj hi
                rw [Array.getElem?_eq_getElem hic]
                simp [hyi, hd]
              · rw [List.getElem?_append_right (by omega), List.getElem?_drop, hl1, show n + (i - n) = i by omega] at hi
                rw [hcell i d hi]
                have : ¬ (i < Y.1.length) := by omega
                simp [this]
            have hIy : Inv y := put_inv hI0 hput (fun j _ => hids j) (by simp) hob
            refine ⟨y, rfl, rfl, hIy, (wide_kept hs0 hb0 rfl rfl rfl).trans (put_kept hI0 hput (by simp)), fun j _ _ => (wide_idOk hI hb0 j).trans (hids j), ?_, by simp [y, Cx.put, x0, Cx.withW], ?_⟩
            · refine Carry.id_of ⟨fun _ h => h, fun j hj => ?_⟩ (fun j _ => (wide_idOk hI hb0 j).trans (hids j))
              have h1 := (put_kin (o := .arr e' (.int .i64) (Y.1 ++ xs.drop n)) hI0 hput).blk j hj
              exact h1.trans (hb0 j (hI.okb j hj))
            · show RepV _ (bif ans then .val false [.own id Y.2] else .tup []) (ansV ans _)
              cases ans with
              | false => exact ⟨#[], rfl, rfl⟩
              | true =>
                refine mk_one ⟨rfl, ?_⟩
                show RepC1 y (.own id Y.2) _
                have hx' : y.H[id]? = some (.arr e' (.int .i64) (Y.1 ++ xs.drop n)) := by
                  show (x.H.set id _)[id]? = _
                  simp [hlt]
                have hat' : y.at_ id = some b := hat
                simp only [RepC1, hx', hat']
                refine ⟨by simp; omega, c, rfl, by omega, hcm, fun cur' e2 fr' hc => ?_⟩
                have hc' : w1.heap[b]? = some (.cells cur' e2 fr') := hc
                rw [hw1] at hc'
                injection hc' with hc'
                injection hc' with h1 h2 h3
                subst h1
                have := hcs cur e' (0, 0) hcur
                simpa [putCells] using this
        · cases hl'
    · cases hl'
  · cases hl'
end
end Go.Proofs.YtiolbhmbobelcaaGreatDoor.AI
