import Derived.Test.YtfccofgchjieeaaGreatDoorAkm
import Derived.Test.YtfccofgchjieeaaGreatDoorAjd
import Derived.Sort.Row
import Derived.Sort.Grow
/- Methods that change a variable of the caller's that holds data. -/
set_option linter.unusedVariables false
set_option linter.unusedSimpArgs false
namespace Go.Proofs.YtfccofgchjieeaaGreatDoor.AI
open Go

def lookP (t0 : Ty) (s : Sig) (avs : List AV) (H : List Ob) : Option (Nat × t0.den × s.den) :=
  match avs with
  | .val false [.ptr id 0] :: rest => match H[id]? with
    | some (.box cs) => match t0.whole cs with
      | some b => match lookL s rest with
        | some z => some (id, b, z)
        | none => none
      | none => none
    | _ => none
  | _ => none

def mkConP (t0 : Ty) (s rs : Sig) (F : t0.den × s.den → Option (t0.den × rs.den)) : Con :=
  { X := Nat × t0.den × s.den, Y := t0.den × rs.den, look := lookP t0 s, F := fun x => F (x.2.1, x.2.2), outV := fun _ y => outL rs y.2,
    outH := fun x y H => H.set x.1 (.box (t0.cells y.1)), mode := 2, kills := fun _ _ => [] }

def startP (t0 : Ty) (x : t0.den) : List Ob := [.box (t0.cells x)]
def readP (t0 : Ty) (rs : Sig) (v : AV) (H : List Ob) : Option (t0.den × rs.den) :=
  match (H[0]? : Option Ob) with
  | some (.box cs) => match t0.whole cs with
    | some b => match readL rs v H with
      | some r => some (b, r)
      | none => none
    | none => none
  | _ => none

section
variable {P : Program} {T : TypeId → Option TI} {env : FuncId → Option Con} {ann : FuncId → Nat → Ann} {code : FuncId → Option Func}

theorem readP_some {t0 : Ty} {rs : Sig} {v : AV} {H : List Ob} {Y : t0.den × rs.den} (h : readP t0 rs v H = some Y) : readL rs v H = some Y.2 ∧ ∃ cs, H[0]? = some (.box cs) ∧ t0.whole cs = some Y.1 := by
  unfold readP at h
  split at h
  · rename_i cs hx
    split at h
    · rename_i b hb
      split at h
      · rename_i r hr
        cases h
        exact ⟨hr, cs, hx, hb⟩
      · cases h
    · cases h
  · cases h

theorem conP_core {x x' : Cx} (hI : Inv x) {t0 : Ty} {rs : Sig} (hfl : ∀ p ∈ rs, p.2.flat = true) {id : Nat} {cs0 : List C} (hid : x.H[id]? = some (.box cs0)) (hok : x'.ok = x.ok) (hw : x'.w = x.w) (hat0 : x'.at_ 0 = x.at_ id) (hbox : ∃ cs, x'.H[0]? = some (.box cs))
    (hmine : ∀ b, x'.mine b → x.at_ id = some b)
    {v : AV} {H' : List Ob} {u : Value} {y' : Cx} (hL : Left x' 1 v H' u y') {Y : t0.den × rs.den} (hr : readP t0 rs v H' = some Y) :
    ∃ y : Cx, y.w = y'.w ∧ y.H = x.H.set id (.box (t0.cells Y.1)) ∧ Inv y ∧ Kept x y ∧ (∀ i, i < x.H.length → i ∉ ([] : List Nat) → IdOk x y i) ∧
      Carry (killAll []) x y ∧ x.H.length ≤ y.H.length ∧ RepV y (outL rs Y.2) u := by
  obtain ⟨hrL, cs, hH0, hwh⟩ := readP_some hr
  rw [← hL.H] at hH0 hrL
  have hlt : id < x.H.length := (List.getElem?_eq_some_iff.1 hid).1
  have hat_id : y'.at_ 0 = x.at_ id := by
    have := hL.ids 0 (by omega)
    obtain ⟨cs, hb⟩ := hbox
    unfold IdOk at this
    rw [hb] at this
    rw [this.2, hat0]
  let y : Cx := { ok := y'.ok, at_ := x.at_, w := y'.w, H := x.H.set id (.box (t0.cells Y.1)) }
  have hHid : y.H[id]? = some (.box (t0.cells Y.1)) := by
    show (x.H.set id _)[id]? = _
    rw [List.getElem?_set_self hlt]
  have hHot : ∀ i, i ≠ id → y.H[i]? = x.H[i]? := fun i h => by
    show (x.H.set id _)[i]? = _
    rw [List.getElem?_set_ne (Ne.symm h)]
  have hmx : ∀ b, x'.mine b → x.mine b := fun b hb => ⟨id, _, hid, by simp, hmine b hb⟩
  have hnot : ∀ (i : Nat) (o : Ob) (b : Nat), i ≠ id → x.H[i]? = some o → o ≠ .dead → x.at_ i = some b → ¬ x'.mine b := fun i o b h1 hi hd hb hm =>
    h1 (hI.inj i id b _ _ hi hid hd (by simp) hb (hmine b hm))
  have hblk : ∀ b, b < x.w.heap.size → ¬ x'.mine b → y'.w.heap[b]? = x.w.heap[b]? := fun b hb hm => by
    have := hL.kept.block b (by rw [hw]; exact hb) hm
    rw [this, hw]
  have hoknew : ∀ b, y'.ok b → x.ok b ∨ x'.mine b ∨ x.w.heap.size ≤ b := fun b hb => by
    rcases hL.kept.oknew b hb with h | h | h
    · exact .inl (by rw [← hok]; exact h)
    · exact .inr (.inl h)
    · exact .inr (.inr (by rw [← hw]; exact h))
  have hsz : x.w.heap.size ≤ y'.w.heap.size := by have := hL.kept.size; rw [hw] at this; exact this
  have hokold : ∀ b, x.ok b → y'.ok b := fun b hb => hL.kept.ok b (by rw [hok]; exact hb)
  have hkin : Kin x y := ⟨hokold, fun b hb => hblk b (hI.okb b hb) (fun hm => hI.notMine hb (hmx b hm))⟩
  have hlow : ∀ (i : Nat) (q : Ob) (b : Nat), x.H[i]? = some q → q ≠ .dead → x.at_ i = some b → b < x.w.heap.size := fun i q b hq hd hb => hI.lt hq hd hb
  have hold : ∀ (i : Nat) (o : Ob), y.H[i]? = some o → o ≠ .dead → ∃ q, x.H[i]? = some q ∧ q ≠ .dead ∧ (i ≠ id → o = q) := fun i o hi hd => by
    by_cases h2 : i = id
    · subst h2; exact ⟨_, hid, by simp, fun h => absurd rfl h⟩
    · rw [hHot i h2] at hi; exact ⟨o, hi, hd, fun _ => rfl⟩
  have hids : ∀ i, i < x.H.length → IdOk x y i := fun i hi => by
    by_cases h2 : i = id
    · subst h2
      unfold IdOk
      rw [hid]
      exact ⟨⟨_, hHid⟩, rfl⟩
    · cases hq : x.H[i]? with
      | none => unfold IdOk; rw [hq]; trivial
      | some q =>
        by_cases hqd : q = .dead
        · subst hqd; unfold IdOk; rw [hq]; trivial
        · exact IdOk.same hI (hHot i h2) rfl (fun b hb hl => hblk b hl (hnot i q b h2 hq hqd hb))
  have hcar : Carry (fun c => c) x y := Carry.id_of hkin hids
  have hinv : Inv y := by
    refine ⟨hL.inv.okb, fun i j b oi oj hi hj hdi hdj h1 h2 => ?_, fun i b o hi hd hb hkb => ?_, fun i o hi => ?_, hI.tab.kin hkin⟩
    · obtain ⟨q, hq, hqd, _⟩ := hold i oi hi hdi
      obtain ⟨q', hq', hqd', _⟩ := hold j oj hj hdj
      exact hI.inj i j b q q' hq hq' hqd hqd' h1 h2
    · obtain ⟨q, hq, hqd, _⟩ := hold i o hi hd
      by_cases e2 : i = id
      · subst e2
        exact hL.inv.off 0 b _ hH0 (by simp) (by rw [hat_id]; exact hb) hkb
      · rcases hoknew b hkb with h | h | h
        · exact hI.off i b q hq hqd hb h
        · exact hnot i q b e2 hq hqd hb h
        · have := hlow i q b hq hqd hb; omega
    · by_cases e2 : i = id
      · subst e2
        rw [hHid] at hi
        cases hi
        obtain ⟨b, vs, e', h1, h2, h3⟩ := hL.inv.obs _ _ hH0
        exact ⟨b, vs, e', by rw [← hat_id]; exact h1, h2, RepT.cells (x := y) t0 Y.1 _ (whole_sound (x := y') hwh h3)⟩
      · rw [hHot i e2] at hi
        by_cases hqd : o = .dead
        · subst hqd; trivial
        · exact (hI.obs i o hi).keep hkin hcar rfl (fun b hb => hblk b (hlow i o b hi hqd hb) (hnot i o b e2 hi hqd hb))
  have hval : RepV y (outL rs Y.2) u := readL_sound hL.inv hrL hL.val (fun p hp dd vs hrep => flat_rep _ _ _ (hfl p hp) hrep)
  refine ⟨y, rfl, rfl, hinv, ?_, fun i hi _ => hids i hi, hcar, by show x.H.length ≤ (x.H.set id _).length; simp, hval⟩
  have k1 := hL.kept.os; have k2 := hL.kept.tape; have k3 := hL.kept.output
  rw [hw] at k1 k2 k3
  refine ⟨k1, k2, k3, hsz, fun b hb hm => hblk b hb (fun h => hm (hmx b h)), fun b hb => ?_, hokold, fun b hb => ?_⟩
  · obtain ⟨i, o, h1, h2, h3⟩ := hb
    obtain ⟨q, hq, hqd, _⟩ := hold i o h1 h2
    exact .inl ⟨i, q, hq, hqd, h3⟩
  · rcases hoknew b hb with h | h | h
    · exact .inl h
    · exact .inr (.inl (hmx b h))
    · exact .inr (.inr h)

theorem mkConP_ok (hm : P.follows .mixedOrders = true) (hT : TOk P T) (hE : EnvOk P env) (hC : CodesOk P env ann code) {d : Nat} {f : FuncId} {t0 : Ty} {s rs : Sig} {F : t0.den × s.den → Option (t0.den × rs.den)}
    (hfl : ∀ p ∈ rs, p.2.flat = true)
    (hrun : ∀ X Y, F X = some Y → ∃ n, runM T env n ann code d f (argsM s X.2) (startP t0 X.1) (readP t0 rs) = some Y) : ConOk P f (mkConP t0 s rs F) := by
  refine ⟨fun x args vals X Y hI hv hl hF => ?_, fun h => (by cases h), fun hm => by cases hm⟩
  have hl' : lookP t0 s args x.H = some X := hl
  unfold lookP at hl'
  split at hl'
  · rename_i id rest
    split at hl'
    · rename_i cs hid
      split at hl'
      · rename_i b hb
        split at hl'
        · rename_i z hz
          cases hl'
          have hF' : F (b, z) = some Y := hF
          obtain ⟨n, hr⟩ := hrun _ _ hF'
          have ho : ObRep (x.two id none (startP t0 b)) 0 (.box (t0.cells b)) := by
            obtain ⟨bb, vs, e', h1, h2, h3⟩ := hI.obs _ _ hid
            exact ⟨bb, vs, e', h1, h2, RepT.cells (x := x.two id none (startP t0 b)) t0 b _ (whole_sound (x := x) hb h3)⟩
          have hI' := two_inv hI (oj := none) (H := startP t0 b) hid ho (.inl ⟨rfl, rfl⟩)
          have hv' := two_args (oj := none) (H := startP t0 b) hid rfl hz hv
          show Does P (callFunc f vals) (x.two id none (startP t0 b)).w _
          refine runM_sound hm hT hE hC (x := x.two id none (startP t0 b)) hr hI' hv' (Nat.le_refl _) (fun v H' y u' hk hL => ?_)
          exact conP_core (x' := x.two id none (startP t0 b)) hI hfl hid rfl rfl rfl ⟨_, rfl⟩ (fun b hb => by
            rcases two_mine b hb with h | ⟨j, h, _⟩
            · exact h
            · cases h) hL hk
        · cases hl'
      · cases hl'
    · cases hl'
  · cases hl'
end
end Go.Proofs.YtfccofgchjieeaaGreatDoor.AI
/- Functions to which a row of the caller's own is handed, and that hand one back. -/
set_option linter.unusedVariables false
set_option linter.unusedSimpArgs false
namespace Go.Proofs.YtfccofgchjieeaaGreatDoor.AI
open Go

section
variable {P : Program} {T : TypeId → Option TI} {env : FuncId → Option Con} {ann : FuncId → Nat → Ann} {code : FuncId → Option Func}

end
end Go.Proofs.YtfccofgchjieeaaGreatDoor.AI
/- Rows of whole numbers of the caller's own, that a call writes over in place. -/
set_option linter.unusedVariables false
set_option linter.unusedSimpArgs false
namespace Go.Proofs.YtfccofgchjieeaaGreatDoor.AI
open Go Go.Sort

section
variable {x : Cx} {w : World}
theorem wide_kin (hI : Inv x) (hb : ∀ b, b < x.w.heap.size → w.heap[b]? = x.w.heap[b]?) : Kin x (x.withW w) := ⟨fun _ h => h, fun b h => hb b (hI.okb b h)⟩
theorem wide_idOk (hI : Inv x) (hb : ∀ b, b < x.w.heap.size → w.heap[b]? = x.w.heap[b]?) (id : Nat) : IdOk x (x.withW w) id := IdOk.same hI rfl rfl (fun b _ h => hb b h)
theorem wide_inv (hI : Inv x) (hs : x.w.heap.size ≤ w.heap.size) (hb : ∀ b, b < x.w.heap.size → w.heap[b]? = x.w.heap[b]?) : Inv (x.withW w) :=
  ⟨fun b h => Nat.lt_of_lt_of_le (hI.okb b h) hs, hI.inj, hI.off, fun i o h => by
    cases o with
    | dead => trivial
    | _ => exact (hI.obs i _ h).keep (wide_kin hI hb) (Carry.id_of (wide_kin hI hb) (fun id _ => wide_idOk hI hb id)) rfl (fun b h2 => hb b (hI.lt h (by simp) h2)), hI.tab.kin (wide_kin hI hb)⟩
theorem wide_kept (hs : x.w.heap.size ≤ w.heap.size) (hb : ∀ b, b < x.w.heap.size → w.heap[b]? = x.w.heap[b]?) (h1 : w.os = x.w.os) (h2 : w.tape = x.w.tape) (h3 : w.output = x.w.output) : Kept x (x.withW w) :=
  ⟨h1, h2, h3, hs, fun b h _ => hb b h, fun b h => .inl h, fun _ h => h, fun _ h => .inl h⟩
end

section
variable {P : Program}
end
end Go.Proofs.YtfccofgchjieeaaGreatDoor.AI
