/- Methods that change a variable of the caller's: a cell of data, and a row of its own. -/
import Derived.Test.YtiolbhmbobelcaaGreatDoorAiz
set_option linter.unusedVariables false
set_option linter.unusedSimpArgs false
namespace Go.Proofs.YtiolbhmbobelcaaGreatDoor.AI
open Go

def lookM (t0 : Ty) (e : TypeId) (t : Ty) (s : Sig) (avs : List AV) (H : List Ob) : Option (Nat × Option Nat × Nat × (t0.den × List t.den) × s.den) :=
  match avs with
  | .val false [.ptr id 0] :: rest => match H[id]? with
    | some (.box [.sc u b, c]) => match castT (t := t0) b with
      | some b => match lookL s rest with
        | some z => match c with
          | .nils => some (id, none, H.length, (b, []), z)
          | .own j n => match H[j]? with
            | some (.arr e' t' xs) => if e' = e then match castL (t := t) xs with
              | some xs => some (id, some j, H.length, (b, xs.take n), z)
              | none => none
              else none
            | _ => none
          | _ => none
        | none => none
      | none => none
    | _ => none
  | _ => none

def outHM (t0 : Ty) (e : TypeId) (t : Ty) (id : Nat) (oj : Option Nat) (n : Nat) (y : t0.den × List t.den) (H : List Ob) : List Ob :=
  match oj with
  | some j => ((Sub.h (.kill j) H).set j (.arr e t y.2)).set id (.box [.sc t0 y.1, .own j y.2.length])
  | none => (H.set id (.box [.sc t0 y.1, .own n y.2.length])) ++ [.arr e t y.2]

def mkConM (t0 : Ty) (e : TypeId) (t : Ty) (s rs : Sig) (F : (t0.den × List t.den) × s.den → Option ((t0.den × List t.den) × rs.den)) : Con :=
  { X := Nat × Option Nat × Nat × (t0.den × List t.den) × s.den, Y := (t0.den × List t.den) × rs.den, look := lookM t0 e t s, F := fun x => F (x.2.2.2.1, x.2.2.2.2), outV := fun _ y => outL rs y.2,
    outH := fun x y H => outHM t0 e t x.1 x.2.1 x.2.2.1 y.1 H, mode := 2, kills := fun x _ => match x.2.1 with | some j => [j] | none => [] }

def argsM (s : Sig) (z : s.den) : List AV := .val false [.ptr 0 0] :: argsL s z
def startM (t0 : Ty) (e : TypeId) (t : Ty) (x : t0.den × List t.den) : List Ob := [.box [.sc t0 x.1, .own 1 x.2.length], .arr e t x.2]
def startN (t0 : Ty) (b : t0.den) : List Ob := [.box [.sc t0 b, .nils]]

def readM (t0 : Ty) (e : TypeId) (t : Ty) (rs : Sig) (v : AV) (H : List Ob) : Option ((t0.den × List t.den) × rs.den) :=
  match (H[0]? : Option Ob) with
  | some (.box [.sc u b, c]) => match castT (t := t0) b with
    | some b => match readL rs v H with
      | some r => match c with
        | .nils => some ((b, []), r)
        | .own j n => match H[j]? with
          | some (.arr e' t' xs) => if e' = e then match castL (t := t) xs with
            | some xs => some ((b, xs.take n), r)
            | none => none
            else none
          | _ => none
        | _ => none
      | none => none
    | none => none
  | _ => none

def srcC : C → Option Nat
  | .own j _ => some j
  | _ => none
def sigM (oj : Option Nat) (o : Ob) : Ob :=
  match oj with
  | some j => Sub.ob (.kill j) o
  | none => o

/-- The run of a function for itself, whose first object is another one's. -/
def runM {R : Type} (T : TypeId → Option TI) (env : FuncId → Option Con) (n : Nat) (ann : FuncId → Nat → Ann) (code : FuncId → Option Func) (d : Nat) (f : FuncId) (args : List AV) (H : List Ob) (k : AV → List Ob → Option R) : Option R :=
  match code f with
  | some fn => bodyK T 1 env (inlD T env n ann code d) n ann f fn args H k
  | none => none

section
variable {P : Program} {T : TypeId → Option TI} {env : FuncId → Option Con} {ann : FuncId → Nat → Ann} {code : FuncId → Option Func}

/-- What is read of the callee's first object. -/
theorem readM_some {t0 : Ty} {e : TypeId} {t : Ty} {rs : Sig} {v : AV} {H : List Ob} {Y : (t0.den × List t.den) × rs.den} (h : readM t0 e t rs v H = some Y) :
    readL rs v H = some Y.2 ∧ ∃ c, H[0]? = some (.box [.sc t0 Y.1.1, c]) ∧ ((c = .nils ∧ Y.1.2 = []) ∨ ∃ j n xs, c = .own j n ∧ H[j]? = some (.arr e t xs) ∧ Y.1.2 = xs.take n) := by
  unfold readM at h
  split at h
  · rename_i u b c hx
    split at h
    · rename_i b' hb
      split at h
      · rename_i r hr
        obtain ⟨rfl, rfl⟩ := castT_some hb
        split at h
        · cases h
          exact ⟨hr, _, hx, .inl ⟨rfl, rfl⟩⟩
        · rename_i j n
          split at h
          · rename_i e' t' xs hj
            split at h
            · rename_i he
              split at h
              · rename_i ys hys
                cases h
                obtain ⟨rfl, rfl⟩ := castL_some hys
                subst he
                exact ⟨hr, _, hx, .inr ⟨j, n, _, rfl, hj, rfl⟩⟩
              · cases h
            · cases h
          · cases h
        · cases h
      · cases h
    · cases h
  · cases h

theorem conM_core {x x' : Cx} (hI : Inv x) {t0 : Ty} {e : TypeId} {t : Ty} {rs : Sig} (hfl : ∀ p ∈ rs, p.2.flat = true) {id : Nat} {oj : Option Nat} {cs0 : List C} (hid : x.H[id]? = some (.box cs0))
    (hoj : ∀ j, oj = some j → ∃ xs : List t.den, x.H[j]? = some (.arr e t xs)) (hok1 : ∀ b, x.ok b → x'.ok b) (hok2 : ∀ b, x'.ok b → x.ok b ∨ ∃ j, oj = some j ∧ x.at_ j = some b) (hw : x'.w = x.w) (hat0 : x'.at_ 0 = x.at_ id) (hbox : ∃ cs, x'.H[0]? = some (.box cs))
    (hmine : ∀ b, x'.mine b → x.at_ id = some b ∨ ∃ j, oj = some j ∧ x.at_ j = some b)
    {v : AV} {H' : List Ob} {u : Value} {y' : Cx} (hL : Left x' 1 v H' u y') {Y : (t0.den × List t.den) × rs.den} (hr : readM t0 e t rs v H' = some Y) :
    ∃ y : Cx, y.w = y'.w ∧ y.H = outHM t0 e t id oj x.H.length Y.1 x.H ∧ Inv y ∧ Kept x y ∧ (∀ i, i < x.H.length → i ∉ (match oj with | some j => [j] | none => []) → IdOk x y i) ∧
      Carry (killAll (match oj with | some j => [j] | none => [])) x y ∧ x.H.length ≤ y.H.length ∧ RepV y (outL rs Y.2) u := by
  obtain ⟨hrL, c, hH0, hrow⟩ := readM_some hr
  rw [← hL.H] at hH0 hrL
  have hlt : id < x.H.length := (List.getElem?_eq_some_iff.1 hid).1
  -- the row's place
  obtain ⟨ri, hri⟩ : ∃ ri, oj = some ri ∨ (oj = none ∧ ri = x.H.length) := by
    cases oj with
    | some j => exact ⟨j, .inl rfl⟩
    | none => exact ⟨_, .inr ⟨rfl, rfl⟩⟩
  have hne : id ≠ ri := by
    rcases hri with h | ⟨_, h⟩
    · obtain ⟨xs, hx⟩ := hoj ri h
      intro he; rw [he, hx] at hid; cases hid
    · omega
  let σ : Ob → Ob := sigM oj
  let Hn : List Ob := outHM t0 e t id oj x.H.length Y.1 x.H
  have hHid : Hn[id]? = some (.box [.sc t0 Y.1.1, .own ri Y.1.2.length]) := by
    show (outHM t0 e t id oj x.H.length Y.1 x.H)[id]? = _
    rcases hri with h | ⟨h, h2⟩
    · subst h
      simp only [outHM]
      rw [List.getElem?_set_self (by simpa [Sub.h] using hlt)]
    · subst h; subst h2
      simp only [outHM]
      rw [List.getElem?_append_left (by simpa using hlt), List.getElem?_set_self hlt]
  have hHri : Hn[ri]? = some (.arr e t Y.1.2) := by
    show (outHM t0 e t id oj x.H.length Y.1 x.H)[ri]? = _
    rcases hri with h | ⟨h, h2⟩
    · obtain ⟨xs, hx⟩ := hoj ri h
      have hl2 : ri < x.H.length := (List.getElem?_eq_some_iff.1 hx).1
      subst h
      simp only [outHM]
      rw [List.getElem?_set_ne hne, List.getElem?_set_self (by simpa [Sub.h] using hl2)]
    · subst h; subst h2
      simp only [outHM]
      rw [List.getElem?_append_right (by simp)]
      simp
  have hHot : ∀ i, i ≠ id → i ≠ ri → Hn[i]? = (x.H[i]?).map σ := fun i h1 h2 => by
    show (outHM t0 e t id oj x.H.length Y.1 x.H)[i]? = _
    rcases hri with h | ⟨h, h3⟩
    · subst h
      simp only [outHM, σ, sigM]
      rw [List.getElem?_set_ne (Ne.symm h1), List.getElem?_set_ne (Ne.symm h2)]
      simp only [Sub.h, List.getElem?_map]
      rfl
    · subst h; subst h3
      simp only [outHM, σ, sigM]
      rcases Nat.lt_or_ge i x.H.length with hl | hl
      · rw [List.getElem?_append_left (by simpa using hl), List.getElem?_set_ne (Ne.symm h1)]
        cases x.H[i]? <;> rfl
      · rw [List.getElem?_append_right (by simpa using hl), List.getElem?_eq_none hl]
        rw [List.getElem?_eq_none (by simp; omega)]
        rfl
  -- where the row comes to stand
  let src : Option Nat := srcC c
  have hat_id : y'.at_ 0 = x.at_ id := by
    have := hL.ids 0 (by omega)
    obtain ⟨cs, hb⟩ := hbox
    unfold IdOk at this
    rw [hb] at this
    rw [this.2, hat0]
  let y : Cx := { ok := y'.ok, at_ := fun i => if i = ri then src.bind y'.at_ else x.at_ i, w := y'.w, H := Hn }
  have hat_ri : y.at_ ri = src.bind y'.at_ := by show (if ri = ri then _ else _) = _; rw [if_pos rfl]
  have hat_ot : ∀ i, i ≠ ri → y.at_ i = x.at_ i := fun i h => by show (if i = ri then _ else _) = _; rw [if_neg h]
  have hmn : ∀ b, (x.at_ id = some b ∨ ∃ j, oj = some j ∧ x.at_ j = some b) → x.mine b := fun b hb => by
    rcases hb with h | ⟨j, h1, h2⟩
    · exact ⟨id, _, hid, by simp, h⟩
    · obtain ⟨xs, hx⟩ := hoj j h1
      exact ⟨j, _, hx, by simp, h2⟩
  have hmx : ∀ b, x'.mine b → x.mine b := fun b hb => hmn b (hmine b hb)
  have hnotn : ∀ (i : Nat) (o : Ob) (b : Nat), i ≠ id → i ≠ ri → x.H[i]? = some o → o ≠ .dead → x.at_ i = some b → ¬ (x.at_ id = some b ∨ ∃ j, oj = some j ∧ x.at_ j = some b) := fun i o b h1 h2 hi hd hb hm => by
    rcases hm with h | ⟨j, h3, h4⟩
    · exact h1 (hI.inj i id b _ _ hi hid hd (by simp) hb h)
    · obtain ⟨xs, hx⟩ := hoj j h3
      have hij := hI.inj i j b _ _ hi hx hd (by simp) hb h4
      rcases hri with h5 | ⟨h5, _⟩
      · rw [h5] at h3; exact h2 (hij.trans (Option.some.inj h3).symm)
      · rw [h5] at h3; cases h3
  have hnot : ∀ (i : Nat) (o : Ob) (b : Nat), i ≠ id → i ≠ ri → x.H[i]? = some o → o ≠ .dead → x.at_ i = some b → ¬ x'.mine b := fun i o b h1 h2 hi hd hb hm => hnotn i o b h1 h2 hi hd hb (hmine b hm)
  have hblk : ∀ b, b < x.w.heap.size → ¬ x'.mine b → y'.w.heap[b]? = x.w.heap[b]? := fun b hb hm => by
    have := hL.kept.block b (by rw [hw]; exact hb) hm
    rw [this, hw]
  have hoknew : ∀ b, y'.ok b → x.ok b ∨ (x.at_ id = some b ∨ ∃ j, oj = some j ∧ x.at_ j = some b) ∨ x.w.heap.size ≤ b := fun b hb => by
    rcases hL.kept.oknew b hb with h | h | h
    · rcases hok2 b h with h | h
      · exact .inl h
      · exact .inr (.inl (.inr h))
    · exact .inr (.inl (hmine b h))
    · exact .inr (.inr (by rw [← hw]; exact h))
  have hmine' : ∀ b, y'.mine b → x'.mine b ∨ x.w.heap.size ≤ b := fun b hb => by
    rcases hL.kept.mine b hb with h | h
    · exact .inl h
    · exact .inr (by rw [← hw]; exact h)
  have hsz : x.w.heap.size ≤ y'.w.heap.size := by have := hL.kept.size; rw [hw] at this; exact this
  have hokold : ∀ b, x.ok b → y'.ok b := fun b hb => hL.kept.ok b (hok1 b hb)
  have hkin : Kin x y := ⟨hokold, fun b hb => hblk b (hI.okb b hb) (fun hm => hI.notMine hb (hmx b hm))⟩
  -- the objects, seen from the caller's
  have hold : ∀ (i : Nat) (o : Ob), i ≠ ri → Hn[i]? = some o → o ≠ .dead → ∃ q, x.H[i]? = some q ∧ q ≠ .dead ∧ (i ≠ id → o = σ q) := fun i o h1 hi hd => by
    by_cases h2 : i = id
    · subst h2; exact ⟨_, hid, by simp, fun h => absurd rfl h⟩
    · rw [hHot i h2 h1] at hi
      cases hq : x.H[i]? with
      | none => rw [hq] at hi; cases hi
      | some q =>
        rw [hq] at hi
        simp only [Option.map_some, Option.some.injEq] at hi
        refine ⟨q, rfl, fun hqd => hd ?_, fun _ => hi.symm⟩
        rw [← hi, hqd]
        simp only [σ, sigM]
        split <;> rfl
  have hrow_src : ∀ b, src.bind y'.at_ = some b → ∃ j' xs', src = some j' ∧ y'.at_ j' = some b ∧ y'.H[j']? = some (.arr e t xs') := fun b hb => by
    rcases hrow with ⟨hc, _⟩ | ⟨j', n', xs', hc, hj', _⟩
    · simp only [src, hc, srcC, Option.bind_none] at hb; cases hb
    · simp only [src, hc, srcC, Option.bind_some] at hb
      exact ⟨j', xs', by simp only [src, hc, srcC], hb, by rw [hL.H]; exact hj'⟩
  have hids : ∀ i, i < x.H.length → i ∉ (match oj with | some j => [j] | none => []) → IdOk x y i := fun i hi hni => by
    have h1 : i ≠ ri := by
      rcases hri with h | ⟨_, h⟩
      · rw [h] at hni; simpa using hni
      · omega
    by_cases h2 : i = id
    · subst h2
      unfold IdOk
      rw [hid]
      exact ⟨⟨_, hHid⟩, hat_ot _ h1⟩
    · unfold IdOk
      have hg : y.H[i]? = (x.H[i]?).map σ := hHot i h2 h1
      cases hq : x.H[i]? with
      | none => trivial
      | some q =>
        rw [hq] at hg
        cases q with
        | dead => trivial
        | box cs => 
          refine ⟨?_, hat_ot i h1⟩
          rcases hri with h | ⟨h, _⟩
          · subst h; exact ⟨_, hg⟩
          · subst h; exact ⟨_, hg⟩
        | mp t1 xs =>
          refine ⟨?_, hat_ot i h1⟩
          rcases hri with h | ⟨h, _⟩
          · subst h; exact ⟨_, hg⟩
          · subst h; exact ⟨_, hg⟩
        | tb xs =>
          refine ⟨?_, hat_ot i h1⟩
          rcases hri with h | ⟨h, _⟩
          · subst h; exact ⟨_, hg⟩
          · subst h; exact ⟨_, hg⟩
        | arr e1 t1 xs =>
          refine ⟨xs, ?_, Nat.le_refl _, hat_ot i h1, fun b hb cur' e' fr' hc => ?_⟩
          · rcases hri with h | ⟨h, _⟩
            · subst h; exact hg
            · subst h; exact hg
          · have hb2 := hI.lt hq (by simp) hb
            have := hblk b hb2 (hnot i _ b h2 h1 hq (by simp) hb)
            have hc' : y'.w.heap[b]? = some (.cells cur' e' fr') := hc
            rw [this] at hc'
            exact ⟨cur', e', fr', hc', Nat.le_refl _⟩
  have hcar : Carry (killAll (match oj with | some j => [j] | none => [])) x y := by
    rcases hri with h | ⟨h, _⟩
    · obtain ⟨xs, hx⟩ := hoj ri h
      subst h
      exact Carry.kill hkin ri ⟨e, t, xs, hx⟩ (fun i hi hn => hids i hi (by simpa using hn))
    · subst h
      exact Carry.id_of hkin (fun i hi => hids i hi (by simp))
  have hlow : ∀ (i : Nat) (q : Ob) (b : Nat), x.H[i]? = some q → q ≠ .dead → x.at_ i = some b → b < x.w.heap.size := fun i q b hq hd hb => hI.lt hq hd hb
  have hinv : Inv y := by
    refine ⟨hL.inv.okb, fun i j b oi oj' hi hj hdi hdj h1 h2 => ?_, fun i b o hi hd hb hkb => ?_, fun i o hi => ?_, hI.tab.kin hkin⟩
    · by_cases ei : i = ri <;> by_cases ej : j = ri
      · rw [ei, ej]
      · exfalso
        subst ei
        rw [hat_ri] at h1
        rw [hat_ot j ej] at h2
        obtain ⟨j', xs', _, ha, hh⟩ := hrow_src b h1
        obtain ⟨q, hq, hqd, _⟩ := hold j oj' ej hj hdj
        have hm' : y'.mine b := ⟨j', _, hh, by simp, ha⟩
        by_cases e2 : j = id
        · subst e2
          have := hL.inv.inj 0 j' b _ _ hH0 hh (by simp) (by simp) (by rw [hat_id]; exact h2) ha
          subst this
          rw [hH0] at hh; cases hh
        · rcases hmine' b hm' with h | h
          · exact hnot j q b e2 ej hq hqd h2 h
          · have := hlow j q b hq hqd h2; omega
      · exfalso
        subst ej
        rw [hat_ri] at h2
        rw [hat_ot i ei] at h1
        obtain ⟨j', xs', _, ha, hh⟩ := hrow_src b h2
        obtain ⟨q, hq, hqd, _⟩ := hold i oi ei hi hdi
        have hm' : y'.mine b := ⟨j', _, hh, by simp, ha⟩
        by_cases e2 : i = id
        · subst e2
          have := hL.inv.inj 0 j' b _ _ hH0 hh (by simp) (by simp) (by rw [hat_id]; exact h1) ha
          subst this
          rw [hH0] at hh; cases hh
        · rcases hmine' b hm' with h | h
          · exact hnot i q b e2 ei hq hqd h1 h
          · have := hlow i q b hq hqd h1; omega
      · rw [hat_ot i ei] at h1
        rw [hat_ot j ej] at h2
        obtain ⟨q, hq, hqd, _⟩ := hold i oi ei hi hdi
        obtain ⟨q', hq', hqd', _⟩ := hold j oj' ej hj hdj
        exact hI.inj i j b q q' hq hq' hqd hqd' h1 h2
    · by_cases ei : i = ri
      · subst ei
        rw [hat_ri] at hb
        obtain ⟨j', xs', _, ha, hh⟩ := hrow_src b hb
        exact hL.inv.off j' b _ hh (by simp) ha hkb
      · rw [hat_ot i ei] at hb
        obtain ⟨q, hq, hqd, _⟩ := hold i o ei hi hd
        by_cases e2 : i = id
        · subst e2
          exact hL.inv.off 0 b _ hH0 (by simp) (by rw [hat_id]; exact hb) hkb
        · rcases hoknew b hkb with h | h | h
          · exact hI.off i b q hq hqd hb h
          · exact hnotn i q b e2 ei hq hqd hb h
          · have := hlow i q b hq hqd hb; omega
    · by_cases ei : i = ri
      · subst ei
        have : o = .arr e t Y.1.2 := by
          have hi' : Hn[i]? = some o := hi
          rw [hHri] at hi'; exact (Option.some.inj hi').symm
        subst this
        show ObRep y i (.arr e t Y.1.2)
        simp only [ObRep, hat_ri]
        rcases hrow with ⟨hc, hys⟩ | ⟨j', n', xs', hc, hj', hys⟩
        · simp only [src, hc, srcC, Option.bind_none]; exact hys
        · simp only [src, hc, srcC, Option.bind_some]
          rw [← hL.H] at hj'
          have ho := hL.inv.obs _ _ hj'
          simp only [ObRep] at ho
          cases ha : y'.at_ j' with
          | none => rw [ha] at ho; simp only at ho ⊢; rw [hys, ho]; simp
          | some b =>
            rw [ha] at ho
            simp only at ho ⊢
            obtain ⟨cur, k1, k2, k3⟩ := ho
            refine ⟨cur, k1, ?_, fun q d hq => ?_⟩
            · rw [hys]
              have : (xs'.take n').length ≤ xs'.length := by simp; omega
              exact Nat.le_trans (Nat.mul_le_mul_right _ this) k2
            · rw [hys, List.getElem?_take] at hq
              split at hq
              · exact k3 q d hq
              · cases hq
      · by_cases e2 : i = id
        · subst e2
          have : o = .box [.sc t0 Y.1.1, .own ri Y.1.2.length] := by
            have hi' : Hn[i]? = some o := hi
            rw [hHid] at hi'; exact (Option.some.inj hi').symm
          subst this
          obtain ⟨b, vs, e', h1, h2, h3⟩ := hL.inv.obs _ _ hH0
          refine ⟨b, vs, e', by rw [hat_ot i ei, ← hat_id]; exact h1, h2, ?_⟩
          obtain ⟨v1, r1, q1, q2, v2, r2, q3, q4, q5⟩ := h3
          refine ⟨v1, r1, q1, ⟨q2.1, q2.2⟩, v2, r2, q3, ⟨q4.1, ?_⟩, q5⟩
          have hy : y.H[ri]? = some (.arr e t Y.1.2) := hHri
          simp only [RepC1, hy, hat_ri]
          refine ⟨Nat.le_refl _, ?_⟩
          rcases hrow with ⟨hc, hys⟩ | ⟨j', n', xs', hc, hj', hys⟩
          · simp only [src, hc, srcC, Option.bind_none]
            have q6 := q4.2
            rw [hc] at q6
            exact ⟨⟨none, q6⟩, by rw [hys]; rfl⟩
          · simp only [src, hc, srcC, Option.bind_some]
            rw [← hL.H] at hj'
            have q6 := q4.2
            rw [hc] at q6
            simp only [RepC1, hj'] at q6
            obtain ⟨q7, q8⟩ := q6
            have hlen : Y.1.2.length = n' := by rw [hys]; simp [Nat.min_eq_left q7]
            cases ha : y'.at_ j' with
            | none => rw [ha] at q8; simp only at q8 ⊢; exact ⟨q8.1, by rw [hlen]; exact q8.2⟩
            | some b2 =>
              rw [ha] at q8
              simp only at q8 ⊢
              rw [hlen]; exact q8
        · have hi' : Hn[i]? = some o := hi
          rw [hHot i e2 ei] at hi'
          cases hq : x.H[i]? with
          | none => rw [hq] at hi'; cases hi'
          | some q =>
            rw [hq] at hi'
            simp only [Option.map_some, Option.some.injEq] at hi'
            subst hi'
            by_cases hqd : q = .dead
            · subst hqd
              have : σ Ob.dead = Ob.dead := by simp only [σ, sigM]; split <;> rfl
              rw [this]; trivial
            · have hb : ∀ b, x.at_ i = some b → y.w.heap[b]? = x.w.heap[b]? := fun b hb => hblk b (hlow i q b hq hqd hb) (hnot i q b e2 ei hq hqd hb)
              rcases hri with h | ⟨h, _⟩
              · subst h
                exact (hI.obs i q hq).move (s := .kill ri) hkin hcar (hat_ot i ei) hb
              · subst h
                exact (hI.obs i q hq).keep hkin hcar (hat_ot i ei) hb
  have hval : RepV y (outL rs Y.2) u := readL_sound hL.inv hrL hL.val (fun p hp dd vs hrep => flat_rep _ _ _ (hfl p hp) hrep)
  refine ⟨y, rfl, rfl, hinv, ?_, hids, hcar, ?_, hval⟩
  · have k1 := hL.kept.os; have k2 := hL.kept.tape; have k3 := hL.kept.output
    rw [hw] at k1 k2 k3
    refine ⟨k1, k2, k3, hsz, fun b hb hm => hblk b hb (fun h => hm (hmx b h)), fun b hb => ?_, hokold, fun b hb => ?_⟩
    · obtain ⟨i, o, h1, h2, h3⟩ := hb
      by_cases ei : i = ri
      · subst ei
        rw [hat_ri] at h3
        obtain ⟨j', xs', _, ha, hh⟩ := hrow_src b h3
        rcases hmine' b ⟨j', _, hh, by simp, ha⟩ with h | h
        · exact .inl (hmx b h)
        · exact .inr h
      · rw [hat_ot i ei] at h3
        obtain ⟨q, hq, hqd, _⟩ := hold i o ei h1 h2
        exact .inl ⟨i, q, hq, hqd, h3⟩
    · rcases hoknew b hb with h | h | h
      · exact .inl h
      · exact .inr (.inl (hmn b h))
      · exact .inr (.inr h)
  · show x.H.length ≤ (outHM t0 e t id oj x.H.length Y.1 x.H).length
    cases oj with
    | some j => simp [outHM, Sub.h]
    | none => simp [outHM]

theorem runM_sound {R : Type} (hm : P.follows .mixedOrders = true) (hT : TOk P T) (hE : EnvOk P env) (hC : CodesOk P env ann code) {n d : Nat} {f : FuncId} {r : R} {x : Cx} {args : List AV} {vals : Array Value} {k : AV → List Ob → Option R} {S : Value → World → Prop}
    (h : runM T env n ann code d f args x.H k = some r) (hI : Inv x) (hv : RepVs x args vals.toList) (hl : 1 ≤ x.H.length) (hk : ∀ v H' y u, k v H' = some r → Left x 1 v H' u y → S u y.w) : Does P (callFunc f vals) x.w S := by
  unfold runM at h
  split at h
  · rename_i fn hf
    exact body_sound hm hT hE (inlD_ok hm hT hE hC d) (inlD_binds d) (hC f fn hf) h hI hv hl hk
  · cases h

/-- What the caller lends of itself: the variable, and its row. -/
def Cx.two (x : Cx) (id : Nat) (oj : Option Nat) (H : List Ob) : Cx :=
  { ok := x.ok, at_ := fun i => if i = 0 then x.at_ id else if i = 1 then oj.bind x.at_ else none, w := x.w, H := H }

theorem two_args {x : Cx} {id : Nat} {oj : Option Nat} {H : List Ob} {cs cs' : List C} (hid : x.H[id]? = some (.box cs)) (hH : H[0]? = some (.box cs')) {s : Sig} {rest : List AV} {z : s.den} (hz : lookL s rest = some z) {vals : List Value} (hv : RepVs x (.val false [.ptr id 0] :: rest) vals) : RepVs (x.two id oj H) (argsM s z) vals := by
  obtain ⟨v, r, rfl, h1, h2⟩ := hv
  refine ⟨v, r, rfl, ?_, lookL_sound (x := x) (y := x.two id oj H) (fun t d vs h => h) s rest z r hz h2⟩
  have h3 := of_one h1
  refine mk_one ⟨h3.1, ?_⟩
  have h4 := h3.2
  simp only [RepC1, RepP, hid] at h4
  have hH' : (x.two id oj H).H[0]? = some (.box cs') := hH
  simp only [RepC1, RepP, hH']
  exact h4

theorem two_inv {x : Cx} (hI : Inv x) {id : Nat} {oj : Option Nat} {H : List Ob} {cs cs' : List C} (hid : x.H[id]? = some (.box cs)) (h0 : ObRep (x.two id oj H) 0 (.box cs'))
    (hH : (oj = none ∧ H = [.box cs']) ∨ ∃ j e t xs xs', oj = some j ∧ x.H[j]? = some (.arr e t xs) ∧ H = [.box cs', .arr e t xs'] ∧ ObRep (x.two id oj H) 1 (.arr e t xs')) : Inv (x.two id oj H) := by
  have get : ∀ (i : Nat) (o : Ob), H[i]? = some o → (i = 0 ∧ o = .box cs') ∨ (i = 1 ∧ ∃ j e t xs xs', oj = some j ∧ x.H[j]? = some (.arr e t xs) ∧ o = .arr e t xs' ∧ ObRep (x.two id oj H) 1 (.arr e t xs')) := fun i o hi => by
    rcases hH with ⟨h1, h2⟩ | ⟨j, e, t, xs, xs', h1, h2, h3, h4⟩
    · rw [h2] at hi
      cases i with
      | zero => simp at hi; exact .inl ⟨rfl, hi.symm⟩
      | succ i => simp at hi
    · rw [h3] at hi
      match i with
      | 0 => simp at hi; exact .inl ⟨rfl, hi.symm⟩
      | 1 => simp at hi; exact .inr ⟨rfl, j, e, t, xs, xs', h1, h2, hi.symm, h4⟩
      | i + 2 => simp at hi
  have at0 : (x.two id oj H).at_ 0 = x.at_ id := rfl
  have at1 : (x.two id oj H).at_ 1 = oj.bind x.at_ := rfl
  refine ⟨hI.okb, fun i j b oi oj' hi hj hdi hdj h1 h2 => ?_, fun i b o hi hd hb => ?_, fun i o hi => ?_, hI.tab⟩
  · rcases get i oi hi with ⟨rfl, _⟩ | ⟨rfl, ji, _, _, _, _, hji, hxi, _, _⟩ <;> rcases get j oj' hj with ⟨rfl, _⟩ | ⟨rfl, jj, _, _, _, _, hjj, hxj, _, _⟩
    · rfl
    · exfalso
      rw [at0] at h1; rw [at1, hjj] at h2
      have := hI.inj id jj b _ _ hid hxj (by simp) (by simp) h1 h2
      rw [this, hxj] at hid; cases hid
    · exfalso
      rw [at0] at h2; rw [at1, hji] at h1
      have := hI.inj id ji b _ _ hid hxi (by simp) (by simp) h2 h1
      rw [this, hxi] at hid; cases hid
    · rfl
  · rcases get i o hi with ⟨rfl, _⟩ | ⟨rfl, ji, _, _, _, _, hji, hxi, _, _⟩
    · rw [at0] at hb
      exact hI.off id b _ hid (by simp) hb
    · rw [at1, hji] at hb
      exact hI.off ji b _ hxi (by simp) hb
  · rcases get i o hi with ⟨rfl, rfl⟩ | ⟨rfl, ji, _, _, _, _, hji, hxi, rfl, ho⟩
    · exact h0
    · exact ho

theorem two_mine {x : Cx} {id : Nat} {oj : Option Nat} {H : List Ob} (b : Nat) (hb : (x.two id oj H).mine b) : x.at_ id = some b ∨ ∃ j, oj = some j ∧ x.at_ j = some b := by
  obtain ⟨i, o, h1, h2, h3⟩ := hb
  have h3' : (if i = 0 then x.at_ id else if i = 1 then oj.bind x.at_ else none) = some b := h3
  by_cases e0 : i = 0
  · rw [if_pos e0] at h3'; exact .inl h3'
  · rw [if_neg e0] at h3'
    by_cases e1 : i = 1
    · rw [if_pos e1] at h3'
      cases oj with
      | none => cases h3'
      | some j => exact .inr ⟨j, rfl, h3'⟩
    · rw [if_neg e1] at h3'; cases h3'

theorem mkConM_ok (hm : P.follows .mixedOrders = true) (hT : TOk P T) (hE : EnvOk P env) (hC : CodesOk P env ann code) {d : Nat} {f : FuncId} {t0 : Ty} {e : TypeId} {t : Ty} {s rs : Sig} {F : (t0.den × List t.den) × s.den → Option ((t0.den × List t.den) × rs.den)}
    (hfl : ∀ p ∈ rs, p.2.flat = true)
    (hrun : ∀ X Y, F X = some Y → ∃ n, runM T env n ann code d f (argsM s X.2) (startM t0 e t X.1) (readM t0 e t rs) = some Y)
    (hrun0 : ∀ X Y, F X = some Y → X.1.2 = [] → ∃ n, runM T env n ann code d f (argsM s X.2) (startN t0 X.1.1) (readM t0 e t rs) = some Y) : ConOk P f (mkConM t0 e t s rs F) := by
  refine ⟨fun x args vals X Y hI hv hl hF => ?_, fun h => (by cases h), fun hm => by cases hm⟩
  have hl' : lookM t0 e t s args x.H = some X := hl
  unfold lookM at hl'
  split at hl'
  · rename_i id rest
    split at hl'
    · rename_i u b c hid
      split at hl'
      · rename_i b' hb
        obtain ⟨hu, hb2⟩ := castT_some hb
        subst hu
        have hb3 : b = b' := hb2.symm
        subst hb3
        split at hl'
        · rename_i z hz
          split at hl'
          · -- no row yet
            cases hl'
            have hF' : F ((b, []), z) = some Y := hF
            obtain ⟨n, hr⟩ := hrun0 _ _ hF' rfl
            have ho : ObRep (x.two id none [.box [.sc u b, .nils]]) 0 (.box [.sc u b, .nils]) := by
              obtain ⟨bb, vs, e', h1, h2, h3⟩ := hI.obs _ _ hid
              refine ⟨bb, vs, e', h1, h2, ?_⟩
              obtain ⟨v1, r1, q1, q2, v2, r2, q3, q4, q5⟩ := h3
              exact ⟨v1, r1, q1, ⟨q2.1, q2.2⟩, v2, r2, q3, ⟨q4.1, q4.2⟩, q5⟩
            have hI' := two_inv hI (oj := none) (H := [.box [.sc u b, .nils]]) hid ho (.inl ⟨rfl, rfl⟩)
            have hv' := two_args (oj := none) (H := [.box [.sc u b, .nils]]) hid rfl hz hv
            show Does P (callFunc f vals) (x.two id none [.box [.sc u b, .nils]]).w _
            refine runM_sound hm hT hE hC (x := x.two id none [.box [.sc u b, .nils]]) hr hI' hv' (Nat.le_refl _) (fun v H' y u' hk hL => ?_)
            exact conM_core (x' := x.two id none [.box [.sc u b, .nils]]) (oj := none) (e := e) (t := t) hI hfl hid (fun j hj => by cases hj) (fun _ h => h) (fun _ h => .inl h) rfl rfl ⟨_, rfl⟩ (fun b hb => two_mine b hb) hL hk
          · -- a row of its own
            rename_i j n
            split at hl'
            · rename_i e' t' xs hj
              split at hl'
              · rename_i he
                subst he
                split at hl'
                · rename_i ys hys
                  obtain ⟨rfl, rfl⟩ := castL_some hys
                  cases hl'
                  have hF' : F ((b, ys.take n), z) = some Y := hF
                  obtain ⟨m, hr⟩ := hrun _ _ hF'
                  obtain ⟨bb, vs, e2, h1, h2, h3⟩ := hI.obs _ _ hid
                  obtain ⟨v1, r1, q1, q2, v2, r2, q3, q4, q5⟩ := h3
                  have q6 := q4.2
                  simp only [RepC1, hj] at q6
                  obtain ⟨q7, q8⟩ := q6
                  have hlen : (ys.take n).length = n := by simp [Nat.min_eq_left q7]
                  have ho : ObRep (x.two id (some j) (startM u e' t' (b, ys.take n))) 0 (.box [.sc u b, .own 1 (ys.take n).length]) := by
                    refine ⟨bb, vs, e2, h1, h2, v1, r1, q1, ⟨q2.1, q2.2⟩, v2, r2, q3, ⟨q4.1, ?_⟩, q5⟩
                    show _ ∧ _
                    refine ⟨Nat.le_refl _, ?_⟩
                    show match x.at_ j with | none => _ | some b => _
                    rw [hlen]
                    exact q8
                  have ho1 : ObRep (x.two id (some j) (startM u e' t' (b, ys.take n))) 1 (.arr e' t' (ys.take n)) := by
                    have ho := hI.obs _ _ hj
                    simp only [ObRep] at ho
                    show match x.at_ j with | none => _ | some b => _
                    cases ha : x.at_ j with
                    | none => rw [ha] at ho; simp only at ho ⊢; rw [ho]; simp
                    | some b2 =>
                      rw [ha] at ho
                      simp only at ho ⊢
                      obtain ⟨cur, k1, k2, k3⟩ := ho
                      refine ⟨cur, k1, ?_, fun q dd hq => ?_⟩
                      · have : (ys.take n).length ≤ ys.length := by simp; omega
                        exact Nat.le_trans (Nat.mul_le_mul_right _ this) k2
                      · rw [List.getElem?_take] at hq
                        split at hq
                        · exact k3 q dd hq
                        · cases hq
                  have hI' := two_inv hI (oj := some j) (H := startM u e' t' (b, ys.take n)) hid ho (.inr ⟨j, e', t', ys, _, rfl, hj, rfl, ho1⟩)
                  have hv' := two_args (oj := some j) (H := startM u e' t' (b, ys.take n)) hid rfl hz hv
                  show Does P (callFunc f vals) (x.two id (some j) (startM u e' t' (b, ys.take n))).w _
                  refine runM_sound hm hT hE hC (x := x.two id (some j) (startM u e' t' (b, ys.take n))) hr hI' hv' (by show 1 ≤ 2; omega) (fun v H' y u' hk hL => ?_)
                  exact conM_core (x' := x.two id (some j) (startM u e' t' (b, ys.take n))) (oj := some j) (e := e') (t := t') hI hfl hid (fun j' hj' => by cases hj'; exact ⟨_, hj⟩) (fun _ h => h) (fun _ h => .inl h) rfl rfl ⟨_, rfl⟩ (fun b hb => two_mine b hb) hL hk
                · cases hl'
              · cases hl'
            · cases hl'
          · cases hl'
        · cases hl'
      · cases hl'
    · cases hl'
  · cases hl'

def startD (t0 t : Ty) (x : t0.den × List t.den) : List Ob := [.box [.sc t0 x.1, .sc (.sl t) x.2]]

theorem nils_data {ok : Nat → Prop} {w : World} {t : Ty} : ∃ u, u = Value.slice none 0 0 ∧ RepT ok w (.sl t) ([] : List t.den) [u] := ⟨_, rfl, none, _, rfl, Nat.le_refl _, fun h => absurd rfl h⟩

/-- The same contract, where the row is given away at the start and the run leaves a row of its own. -/
theorem mkConMd_ok (hm : P.follows .mixedOrders = true) (hT : TOk P T) (hE : EnvOk P env) (hC : CodesOk P env ann code) {d : Nat} {f : FuncId} {t0 : Ty} {e : TypeId} {t : Ty} {s rs : Sig} {F : (t0.den × List t.den) × s.den → Option ((t0.den × List t.den) × rs.den)}
    (hfl : ∀ p ∈ rs, p.2.flat = true)
    (hrun : ∀ X Y, F X = some Y → ∃ n, runM T env n ann code d f (argsM s X.2) (startD t0 t X.1) (readM t0 e t rs) = some Y) : ConOk P f (mkConM t0 e t s rs F) := by
  refine ⟨fun x args vals X Y hI hv hl hF => ?_, fun h => (by cases h), fun hm => by cases hm⟩
  have hl' : lookM t0 e t s args x.H = some X := hl
  unfold lookM at hl'
  split at hl'
  · rename_i id rest
    split at hl'
    · rename_i u b c hid
      split at hl'
      · rename_i b' hb
        obtain ⟨hu, hb2⟩ := castT_some hb
        subst hu
        have hb3 : b = b' := hb2.symm
        subst hb3
        split at hl'
        · rename_i z hz
          have args_ok : ∀ (x' : Cx) (cs' : List C), x'.H[0]? = some (.box cs') → x'.at_ 0 = x.at_ id → (∀ (t : Ty) (d : t.den) vs, RepT x.ok x.w t d vs → RepT x'.ok x'.w t d vs) → RepVs x' (argsM s z) vals.toList := fun x' cs' hH hat hrep => by
            obtain ⟨v, r, hu, h1, h2⟩ := hv
            refine ⟨v, r, hu, ?_, lookL_sound (x := x) (y := x') (fun t d vs h => hrep t d vs h) s rest z r hz h2⟩
            have h3 := of_one h1
            refine mk_one ⟨h3.1, ?_⟩
            have h4 := h3.2
            simp only [RepC1, RepP, hid] at h4
            simp only [RepC1, RepP, hH, hat]
            exact h4
          split at hl'
          · -- no row yet
            cases hl'
            have hF' : F ((b, []), z) = some Y := hF
            obtain ⟨n, hr⟩ := hrun _ _ hF'
            have ho : ObRep (x.two id none (startD u t (b, []))) 0 (.box [.sc u b, .sc (.sl t) []]) := by
              obtain ⟨bb, vs, e', h1, h2, h3⟩ := hI.obs _ _ hid
              refine ⟨bb, vs, e', h1, h2, ?_⟩
              obtain ⟨v1, r1, q1, q2, v2, r2, q3, q4, q5⟩ := h3
              refine ⟨v1, r1, q1, ⟨q2.1, q2.2⟩, v2, r2, q3, ?_, q5⟩
              have q6 := q4.2
              simp only [RepC1] at q6
              subst q6
              exact ⟨q4.1, none, _, rfl, Nat.le_refl _, fun h => absurd rfl h⟩
            have hI' := two_inv hI (oj := none) (H := startD u t (b, [])) hid ho (.inl ⟨rfl, rfl⟩)
            have hv' := args_ok (x.two id none (startD u t (b, []))) _ rfl rfl (fun _ _ _ h => h)
            show Does P (callFunc f vals) (x.two id none (startD u t (b, []))).w _
            refine runM_sound hm hT hE hC (x := x.two id none (startD u t (b, []))) hr hI' hv' (Nat.le_refl _) (fun v H' y u' hk hL => ?_)
            exact conM_core (x' := x.two id none (startD u t (b, []))) (oj := none) (e := e) (t := t) hI hfl hid (fun j hj => by cases hj) (fun _ h => h) (fun _ h => .inl h) rfl rfl ⟨_, rfl⟩ (fun b hb => two_mine b hb) hL hk
          · -- a row of its own
            rename_i j n
            split at hl'
            · rename_i e' t' xs hj
              split at hl'
              · rename_i he
                subst he
                split at hl'
                · rename_i ys hys
                  obtain ⟨rfl, rfl⟩ := castL_some hys
                  cases hl'
                  have hF' : F ((b, ys.take n), z) = some Y := hF
                  obtain ⟨m, hr⟩ := hrun _ _ hF'
                  have hne : id ≠ j := fun h => by rw [h, hj] at hid; cases hid
                  let x' : Cx := { ok := fun b => x.ok b ∨ x.at_ j = some b, at_ := fun i => if i = 0 then x.at_ id else none, w := x.w, H := startD u t' (b, ys.take n) }
                  let y : Cx := { ok := fun b => x.ok b ∨ x.at_ j = some b, at_ := x.at_, w := x.w, H := (Sub.h (.give j t' ys) x.H).set j .dead }
                  have hkin : Kin x y := ⟨fun b hb => .inl hb, fun b hb => rfl⟩
                  have hkin' : Kin x x' := ⟨fun b hb => .inl hb, fun b hb => rfl⟩
                  have hids : ∀ k, k ≠ j → IdOk x y k := fun k hne => by
                    unfold IdOk
                    have : y.H[k]? = (x.H[k]?).map (Sub.ob (.give j t' ys)) := by
                      show ((Sub.h (.give j t' ys) x.H).set j .dead)[k]? = _
                      rw [List.getElem?_set_ne (Ne.symm hne)]; simp [Sub.h]
                    rw [this]
                    cases hq : x.H[k]? with
                    | none => trivial
                    | some q =>
                      cases q with
                      | dead => trivial
                      | box cs => exact ⟨⟨_, rfl⟩, rfl⟩
                      | mp t xs => exact ⟨⟨_, rfl⟩, rfl⟩
                      | tb xs => exact ⟨⟨_, rfl⟩, rfl⟩
                      | arr e' t' xs' => exact ⟨xs', rfl, Nat.le_refl _, rfl, fun b hb cur' e2 fr' hc => ⟨cur', e2, fr', hc, Nat.le_refl _⟩⟩
                  have hcar : Carry (Sub.c (.give j t' ys)) x y := Carry.give hkin j hj (hI.obs _ _ hj) (fun b hb => ⟨.inr hb, rfl⟩) (fun k _ hne => hids k hne)
                  have ho : ObRep x' 0 (.box [.sc u b, .sc (.sl t') (ys.take n)]) := by
                    obtain ⟨bb, vs, e2, h1, h2, h3⟩ := hI.obs _ _ hid
                    obtain ⟨v1, r1, q1, q2, v2, r2, q3, q4, q5⟩ := h3
                    have q6 := hcar _ _ q4
                    have hs : Sub.c (.give j t' ys) (.own j n) = .sc (.sl t') (ys.take n) := by simp [Sub.c]
                    rw [hs] at q6
                    exact ⟨bb, vs, e2, h1, h2, v1, r1, q1, ⟨q2.1, RepT.kin hkin' q2.2⟩, v2, r2, q3, ⟨q6.1, q6.2⟩, q5⟩
                  have get0 : ∀ (i : Nat) (o : Ob), x'.H[i]? = some o → i = 0 ∧ o = .box [.sc u b, .sc (.sl t') (ys.take n)] := fun i o hi => by
                    cases i with
                    | zero => exact ⟨rfl, (Option.some.inj hi).symm⟩
                    | succ i => simp [x', startD] at hi
                  have hI' : Inv x' := by
                    refine ⟨fun b hb => ?_, fun i k b oi ok hi hk _ _ _ _ => ?_, fun i b o hi hd hb hok => ?_, fun i o hi => ?_, hI.tab.kin hkin'⟩
                    · rcases hb with hb | hb
                      · exact hI.okb b hb
                      · exact hI.lt hj (by simp) hb
                    · rw [(get0 i oi hi).1, (get0 k ok hk).1]
                    · obtain ⟨rfl, _⟩ := get0 i o hi
                      have hb' : x.at_ id = some b := hb
                      rcases hok with hok | hok
                      · exact hI.off id b _ hid (by simp) hb' hok
                      · exact hne (hI.inj id j b _ _ hid hj (by simp) (by simp) hb' hok)
                    · obtain ⟨rfl, rfl⟩ := get0 i o hi
                      exact ho
                  have hv' := args_ok x' _ rfl rfl (fun t d vs h => RepT.kin hkin' h)
                  show Does P (callFunc f vals) x'.w _
                  refine runM_sound hm hT hE hC (x := x') hr hI' hv' (Nat.le_refl _) (fun v H' y u' hk hL => ?_)
                  refine conM_core (x' := x') (oj := some j) (e := e') (t := t') hI hfl hid (fun j' hj' => by cases hj'; exact ⟨_, hj⟩) (fun _ h => .inl h) (fun b hb => ?_) rfl rfl ⟨_, rfl⟩ (fun b hb => ?_) hL hk
                  · rcases hb with hb | hb
                    · exact .inl hb
                    · exact .inr ⟨j, rfl, hb⟩
                  · obtain ⟨i, o, h1, _, h3⟩ := hb
                    obtain ⟨rfl, _⟩ := get0 i o h1
                    exact .inl h3
                · cases hl'
              · cases hl'
            · cases hl'
          · cases hl'
        · cases hl'
      · cases hl'
    · cases hl'
  · cases hl'
end
end Go.Proofs.YtiolbhmbobelcaaGreatDoor.AI
