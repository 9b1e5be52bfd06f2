/- More contracts: functions that take function values; answers that are the caller's own to change. -/
import Derived.Test.YtfccofgchjieeaaGreatDoorAiw
set_option linter.unusedVariables false
set_option linter.unusedSimpArgs false
namespace Go.Proofs.YtfccofgchjieeaaGreatDoor.AI
open Go

/-! ### What a call leaves, seen from the caller -/
section
variable {P : Program} {T : TypeId → Option TI} {env : FuncId → Option Con} {ann : FuncId → Nat → Ann} {code : FuncId → Option Func}

theorem con_core {x x' : Cx} {f : FuncId} {vals : Array Value} {rs : Sig} {Y : rs.den} (hI : Inv x) (hxw : x'.w = x.w) (hxH : x'.H = []) (hok : (∀ p ∈ rs, p.2.flat = true) ∨ x'.ok = x.ok)
    (h : Does P (callFunc f vals) x'.w fun u w' => ∃ y' v H', y'.w = w' ∧ readL rs v H' = some Y ∧ Left x' 0 v H' u y') :
    Does P (callFunc f vals) x.w fun u w' => ∃ y : Cx, y.w = w' ∧ y.H = x.H ∧ Inv y ∧ Kept x y ∧ (∀ id, IdOk x y id) ∧ Carry (fun c => c) x y ∧ RepV y (outL rs Y) u := by
  rw [← hxw]
  refine h.mono ?_
  rintro u w' ⟨y', v, H', rfl, hk, hL⟩
  have hnm : ∀ b, ¬ x'.mine b := by
    rintro b ⟨i, o, h1, _⟩
    rw [hxH] at h1; simp at h1
  have hblk : ∀ b, b < x.w.heap.size → y'.w.heap[b]? = x.w.heap[b]? := fun b hb => by
    have := hL.kept.block b (by rw [hxw]; exact hb) (hnm b)
    rw [this, hxw]
  let y : Cx := { ok := fun b => x.ok b ∨ (x.w.heap.size ≤ b ∧ (y'.ok b ∨ y'.mine b)), at_ := x.at_, w := y'.w, H := x.H }
  have hkin : Kin x y := ⟨fun b hb => .inl hb, fun b hb => hblk b (hI.okb b hb)⟩
  have hids : ∀ id, IdOk x y id := fun id => IdOk.same hI rfl rfl (fun b _ hb => hblk b hb)
  have hcar : Carry (fun c => c) x y := Carry.id_of hkin (fun id _ => hids id)
  have hsz : x.w.heap.size ≤ y'.w.heap.size := by have := hL.kept.size; rw [hxw] at this; exact this
  have hmineb : ∀ b, y'.mine b → x.w.heap.size ≤ b := fun b hb => by
    rcases hL.kept.mine b hb with h | h
    · exact absurd h (hnm b)
    · rw [hxw] at h; exact h
  have hinv : Inv y := by
    refine ⟨fun b hb => ?_, hI.inj, fun i b o h1 h2 h3 h4 => ?_, fun i o h => ?_, hI.tab.kin hkin⟩
    · rcases hb with hb | ⟨_, hb | ⟨i, o, h1, h2, h3⟩⟩
      · exact Nat.lt_of_lt_of_le (hI.okb b hb) hsz
      · exact hL.inv.okb b hb
      · exact hL.inv.lt h1 h2 h3
    · rcases h4 with h4 | ⟨h4, _⟩
      · exact hI.off i b o h1 h2 h3 h4
      · have := hI.lt h1 h2 h3; omega
    · by_cases hd : o = .dead
      · subst hd; trivial
      · exact (hI.obs i o h).keep hkin hcar rfl (fun b hb => hblk b (hI.lt h hd hb))
  have hval : RepV y (outL rs Y) u := by
    rw [← hL.H] at hk
    refine readL_sound hL.inv hk hL.val (fun p hp dd vs hrep => ?_)
    rcases hok with hfl | hokx
    · exact flat_rep _ _ _ (hfl p hp) hrep
    · refine RepT.imp (fun b hb => ?_) (fun b hb => rfl) _ _ _ hrep
      rcases hb with hb | hb
      · rcases hL.kept.oknew b hb with h1 | h1 | h1
        · left; rw [← hokx]; exact h1
        · exact absurd h1 (hnm b)
        · right; rw [hxw] at h1; exact ⟨h1, .inl hb⟩
      · exact .inr ⟨hmineb b hb, .inr hb⟩
  refine ⟨y, rfl, rfl, hinv, ?_, hids, hcar, hval⟩
  have k1 := hL.kept.os; have k2 := hL.kept.tape; have k3 := hL.kept.output
  rw [hxw] at k1 k2 k3
  refine ⟨k1, k2, k3, hsz, fun b hb _ => hblk b hb, fun b hb => .inl hb, fun b hb => .inl hb, fun b hb => ?_⟩
  rcases hb with hb | ⟨hb, _⟩
  · exact .inl hb
  · exact .inr (.inr hb)

/-! ### Function values -/
inductive Pm : Type where
  | dat (g : Bool) (t : Ty)
  | clo (f : FuncId) (s : Sig)
  | ref (t : Ty)

@[reducible] def Pm.den : Pm → Type
  | .dat _ t => t.den
  | .clo _ s => s.den
  | .ref t => t.den

@[reducible] def PmL : List Pm → Type
  | [] => Unit
  | [p] => p.den
  | p :: q :: l => p.den × PmL (q :: l)

def capsL : (s : Sig) → s.den → List ((t : Ty) × t.den)
  | [], _ => []
  | [p], x => [⟨p.2, x⟩]
  | p :: q :: l, x => ⟨p.2, x.1⟩ :: capsL (q :: l) x.2

def Pm.av : (p : Pm) → p.den → AV
  | .dat g t, x => .val g (t.cells x)
  | .clo f s, x => match s with
    | [] => .val false [.fn f []]
    | p :: l => .val false [.fnr f (capsL (p :: l) x)]
  | .ref t, x => .val false [.elr t x 0]

def avL : (s : List Pm) → PmL s → List AV
  | [], _ => []
  | [p], x => [p.av x]
  | p :: q :: l, x => p.av x.1 :: avL (q :: l) x.2

def capAV (H : List Ob) (p : Nat × Nat) : AV :=
  match H[p.1]? with
  | some (.box cs) => bif Nat.beq p.2 0 then .val true (cs.map (roC H)) else .undef
  | _ => .undef

def castT {u t : Ty} (x : u.den) : Option t.den := if h : u = t then some (h ▸ x) else none

def lookRo : (s : Sig) → List ((t : Ty) × t.den) → Option s.den
  | [], [] => some ()
  | [p], [a] => castT (t := p.2) a.2
  | p :: q :: l, a :: avs => match castT (t := p.2) a.2 with
    | some x => match lookRo (q :: l) avs with
      | some y => some (x, y)
      | none => none
    | none => none
  | _, _ => none

def lookClo (H : List Ob) (f : FuncId) (s : Sig) : AV → Option s.den
  | .val false [.fn g caps] => bif Nat.beq g f then lookL s (caps.map (capAV H)) else none
  | .val false [.fnr g caps] => bif Nat.beq g f then lookRo s caps else none
  | _ => none

/-- A pointer to a variable of the caller's, or to a datum. -/
def lookRef (H : List Ob) (t : Ty) : AV → Option t.den
  | .val false [.ptr id off] => oneL (true, t) (capAV H (id, off))
  | .val false [.elr u x off] => bif Nat.beq off 0 then castT (t := t) x else none
  | _ => none

def lookPm (H : List Ob) : (p : Pm) → AV → Option p.den
  | .dat g t, a => oneL (g, t) a
  | .clo f s, a => lookClo H f s a
  | .ref t, a => lookRef H t a

theorem ro_fn {H : List Ob} {a : AV} {c : C} (hc : ∀ id n, c ≠ .own id n) (ho : ∀ t xs, c ≠ .sc t xs) (hu : c ≠ .undef) (he : roV H a = .val false [c]) : a = .val false [c] := by
  cases a with
  | val g' cs =>
    simp only [roV, AV.val.injEq] at he
    obtain ⟨rfl, h2⟩ := he
    cases cs with
    | nil => simp at h2
    | cons d r =>
      simp only [List.map_cons, List.cons.injEq, List.map_eq_nil_iff] at h2
      obtain ⟨h2, rfl⟩ := h2
      cases d with
      | own id n =>
        simp only [roC] at h2
        split at h2
        · exact absurd h2.symm (ho _ _)
        · exact absurd h2.symm hu
      | mp id =>
        simp only [roC] at h2
        split at h2
        · exact absurd h2.symm (ho _ _)
        · exact absurd h2.symm hu
      | _ => simp only [roC] at h2; rw [h2]
  | _ => simp [roV] at he

theorem lookClo_some {H : List Ob} {f : FuncId} {s : Sig} {a : AV} {X : s.den} (h : lookClo H f s (roV H a) = some X) :
    (∃ caps, a = .val false [.fn f caps] ∧ lookL s (caps.map (capAV H)) = some X) ∨ (∃ caps, a = .val false [.fnr f caps] ∧ lookRo s caps = some X) := by
  unfold lookClo at h
  split at h
  · rename_i g caps he
    cases hb : Nat.beq g f with
    | false => rw [hb] at h; cases h
    | true =>
      rw [hb] at h
      have := Nat.eq_of_beq_eq_true hb
      subst this
      exact .inl ⟨caps, ro_fn (by simp) (by simp) (by simp) he, h⟩
  · rename_i g caps he
    cases hb : Nat.beq g f with
    | false => rw [hb] at h; cases h
    | true =>
      rw [hb] at h
      have := Nat.eq_of_beq_eq_true hb
      subst this
      exact .inr ⟨caps, ro_fn (by simp) (by simp) (by simp) he, h⟩
  · cases h

theorem lookRef_some {H : List Ob} {t : Ty} {a : AV} {X : t.den} (h : lookRef H t (roV H a) = some X) :
    (∃ id off, a = .val false [.ptr id off] ∧ oneL (true, t) (capAV H (id, off)) = some X) ∨ (∃ u x, a = .val false [.elr u x 0] ∧ castT (t := t) x = some X) := by
  unfold lookRef at h
  split at h
  · rename_i id off he
    exact .inl ⟨id, off, ro_fn (by simp) (by simp) (by simp) he, h⟩
  · rename_i u x off he
    cases hb : Nat.beq off 0 with
    | false => rw [hb] at h; cases h
    | true =>
      rw [hb] at h
      have := Nat.eq_of_beq_eq_true hb
      subst this
      exact .inr ⟨u, x, ro_fn (by simp) (by simp) (by simp) he, h⟩
  · cases h

def lookPL (H : List Ob) : (s : List Pm) → List AV → Option (PmL s)
  | [], [] => some ()
  | [p], [a] => lookPm H p a
  | p :: q :: l, a :: avs => match lookPm H p a with
    | some x => match lookPL H (q :: l) avs with
      | some y => some (x, y)
      | none => none
    | none => none
  | _, _ => none

theorem capAV_more (H l : List Ob) (s : Sig) (p : Nat × Nat) : ∀ (q : Bool × Ty) (d : q.2.den), oneL q (capAV H p) = some d → oneL q (capAV (H ++ l) p) = some d := by
  intro q d h
  unfold capAV at h ⊢
  split at h
  · rename_i cs hx
    have hlt : p.1 < H.length := (List.getElem?_eq_some_iff.1 hx).1
    rw [List.getElem?_append_left hlt, hx]
    simp only
    cases hb : Nat.beq p.2 0 with
    | true =>
      rw [hb] at h
      exact oneL_more H l q (.val true cs) d h
    | false => rw [hb] at h; exact h
  · cases q; simp [oneL] at h

theorem caps_more (H l : List Ob) : ∀ (s : Sig) (caps : List (Nat × Nat)) (X : s.den), lookL s (caps.map (capAV H)) = some X → lookL s (caps.map (capAV (H ++ l))) = some X
  | [], [], X, h => h
  | [], _ :: _, X, h => by simp [lookL] at h
  | [p], [], X, h => by simp [lookL] at h
  | [p], [a], X, h => capAV_more H l [p] a p X h
  | [p], _ :: _ :: _, X, h => by simp [lookL] at h
  | p :: q :: r, [], X, h => by simp [lookL] at h
  | p :: q :: r, a :: avs, X, h => by
    simp only [List.map_cons, lookL] at h ⊢
    split at h
    · rename_i d hd
      split at h
      · rename_i Y hY
        cases h
        rw [capAV_more H l [] a p d hd, caps_more H l (q :: r) avs Y hY]
      · cases h
    · cases h

theorem lookPm_more (H l : List Ob) (p : Pm) (a : AV) (X : p.den) (h : lookPm H p (roV H a) = some X) : lookPm (H ++ l) p (roV (H ++ l) a) = some X := by
  cases p with
  | dat g t => exact oneL_more H l (g, t) a X h
  | clo f s =>
    rcases lookClo_some (s := s) h with ⟨caps, rfl, h2⟩ | ⟨caps, rfl, h2⟩
    · show lookClo (H ++ l) f s (.val false [.fn f caps]) = some X
      simp only [lookClo, Nat.beq_refl, cond_true]
      exact caps_more H l s caps X h2
    · show lookClo (H ++ l) f s (.val false [.fnr f caps]) = some X
      simp only [lookClo, Nat.beq_refl, cond_true]
      exact h2
  | ref t =>
    rcases lookRef_some h with ⟨id, off, rfl, h2⟩ | ⟨u, x, rfl, h2⟩
    · exact capAV_more H l [] (id, off) (true, t) X h2
    · exact h2

theorem lookPL_more (H l : List Ob) : ∀ (s : List Pm) (avs : List AV) (X : PmL s), lookPL H s (avs.map (roV H)) = some X → lookPL (H ++ l) s (avs.map (roV (H ++ l))) = some X
  | [], [], X, h => h
  | [], _ :: _, X, h => by simp [lookPL] at h
  | [p], [], X, h => by simp [lookPL] at h
  | [p], [a], X, h => lookPm_more H l p a X h
  | [p], _ :: _ :: _, X, h => by simp [lookPL] at h
  | p :: q :: r, [], X, h => by simp [lookPL] at h
  | p :: q :: r, a :: avs, X, h => by
    simp only [List.map_cons, lookPL] at h ⊢
    split at h
    · rename_i d hd
      split at h
      · rename_i Y hY
        cases h
        rw [lookPm_more H l p a d hd, lookPL_more H l (q :: r) avs Y hY]
      · cases h
    · cases h

theorem cap_one {x : Cx} (hI : Inv x) : ∀ (p : Bool × Ty) (c : Nat × Nat) (d : p.2.den) (v : Value), oneL p (capAV x.H c) = some d → RepP x c.1 c.2 v → RepE x.lend.bare p.2 d 0 v := by
    intro p c d v h hv
    unfold capAV at h
    split at h
    · rename_i cs hx
      cases hb : Nat.beq c.2 0 with
      | false => rw [hb] at h; cases p; simp [oneL] at h
      | true =>
        rw [hb] at h
        have h0 := Nat.eq_of_beq_eq_true hb
        simp only [RepP, hx] at hv
        obtain ⟨b, hat, rfl⟩ := hv
        obtain ⟨b', vs, e, h1, h2, h3⟩ := hI.obs _ _ hx
        rw [hat] at h1; cases h1
        have h4 := RepCs.carry (Carry.lend hI) _ _ h3
        simp only [cond_true, oneL] at h
        split at h
        · have h5 := whole_sound h h4
          refine ⟨b, 0, vs.toList, by rw [h0], .inr ⟨c.1, _, hx, by simp, hat⟩, h5, fun j u hj => ?_⟩
          show x.w.cell? ⟨b, 0 + j, none⟩ = some u
          simp only [World.cell?, h2, Nat.zero_add]
          simpa using hj
        · cases h
    · cases p; simp [oneL] at h

theorem caps_sound {x : Cx} (hI : Inv x) : ∀ (s : Sig) (caps : List (Nat × Nat)) (X : s.den) (vs : List Value), lookL s (caps.map (capAV x.H)) = some X → RepCaps x caps vs → RepRo x.lend.bare (capsL s X) vs := by
  have one := cap_one hI
  intro s
  induction s with
  | nil =>
    intro caps X vs h hv
    cases caps with
    | nil => exact hv
    | cons a r => simp [lookL] at h
  | cons p l ih =>
    intro caps X vs h hv
    cases l with
    | nil =>
      match caps with
      | [] => simp [lookL] at h
      | [a] =>
        obtain ⟨v, r, h1, h2, h3, h4⟩ := hv
        exact ⟨v, r, h1, one p a X v h h3, h4⟩
      | _ :: _ :: _ => simp [lookL] at h
    | cons q l =>
      cases caps with
      | nil => simp [lookL] at h
      | cons a avs =>
        simp only [List.map_cons, lookL] at h
        split at h
        · rename_i d hd
          split at h
          · rename_i Y hY
            cases h
            obtain ⟨v, r, h1, h2, h3, h4⟩ := hv
            exact ⟨v, r, h1, one p a d v hd h3, ih avs Y r hY h4⟩
          · cases h
        · cases h

theorem castT_some {u t : Ty} {x : u.den} {y : t.den} (h : castT (t := t) x = some y) : ∃ e : u = t, y = e ▸ x := by
  unfold castT at h
  split at h
  · rename_i e; cases h; exact ⟨e, rfl⟩
  · cases h

theorem ro_one {x : Cx} : ∀ (t : Ty) (a : (t : Ty) × t.den) (d : t.den) (v : Value), castT (t := t) a.2 = some d → RepE x a.1 a.2 0 v → RepE x.lend.bare t d 0 v := by
    intro t a d v h hv
    obtain ⟨u, y⟩ := a
    obtain ⟨e, rfl⟩ := castT_some h
    simp only at e
    subst e
    obtain ⟨b, o, us, r1, r2, r3, r4⟩ := hv
    exact ⟨b, o, us, r1, .inl r2, RepT.imp (fun b hb => .inl hb) (fun b hb => rfl) _ _ _ r3, r4⟩

theorem ro_sound {x : Cx} : ∀ (s : Sig) (caps : List ((t : Ty) × t.den)) (X : s.den) (vs : List Value), lookRo s caps = some X → RepRo x caps vs → RepRo x.lend.bare (capsL s X) vs := by
  have one := ro_one (x := x)
  intro s
  induction s with
  | nil =>
    intro caps X vs h hv
    cases caps with
    | nil => exact hv
    | cons a r => simp [lookRo] at h
  | cons p l ih =>
    intro caps X vs h hv
    cases l with
    | nil =>
      match caps with
      | [] => simp [lookRo] at h
      | [⟨u, y⟩] =>
        obtain ⟨v, r, h1, h2, h3⟩ := hv
        exact ⟨v, r, h1, one p.2 ⟨u, y⟩ X v h h2, h3⟩
      | _ :: _ :: _ => simp [lookRo] at h
    | cons q l =>
      match caps with
      | [] => simp [lookRo] at h
      | ⟨u, y⟩ :: avs =>
        simp only [lookRo] at h
        split at h
        · rename_i d hd
          split at h
          · rename_i Y hY
            cases h
            obtain ⟨v, r, h1, h2, h3⟩ := hv
            exact ⟨v, r, h1, one p.2 ⟨u, y⟩ d v hd h2, ih avs Y r hY h3⟩
          · cases h
        · cases h

theorem lookPm_sound {x : Cx} (hI : Inv x) (p : Pm) (a : AV) (X : p.den) (u : Value) (h : lookPm x.H p (roV x.H a) = some X) (hu : RepV x a u) : RepV x.lend.bare (p.av X) u := by
  cases p with
  | dat g t =>
    have := repVs_ro hI [a] [u] ⟨u, [], rfl, hu, rfl⟩
    obtain ⟨v, r, h1, h2, h3⟩ := this
    cases h1
    exact data_move (x := x.lend) (y := x.lend.bare) (p := (g, t)) (fun vs h => h) (oneL_sound h h2)
  | clo f s =>
    rcases lookClo_some (s := s) h with ⟨caps, rfl, h2⟩ | ⟨caps, rfl, h2⟩
    · have hc := of_one hu
      obtain ⟨vs, h3, h4⟩ := hc.2
      have h5 := caps_sound hI s caps X _ h2 h4
      cases s with
      | nil => exact mk_one ⟨hc.1, vs, h3, h5⟩
      | cons p l => exact mk_one ⟨hc.1, vs, h3, h5⟩
    · have hc := of_one hu
      obtain ⟨vs, h3, h4⟩ := hc.2
      have h5 := ro_sound s caps X _ h2 h4
      cases s with
      | nil => exact mk_one ⟨hc.1, vs, h3, h5⟩
      | cons p l => exact mk_one ⟨hc.1, vs, h3, h5⟩
  | ref t =>
    rcases lookRef_some h with ⟨id, off, rfl, h2⟩ | ⟨u', y, rfl, h2⟩
    · have hc := of_one hu
      exact mk_one ⟨hc.1, cap_one hI (true, t) (id, off) X u h2 hc.2⟩
    · have hc := of_one hu
      exact mk_one ⟨hc.1, ro_one t ⟨u', y⟩ X u h2 hc.2⟩

theorem lookPL_sound {x : Cx} (hI : Inv x) : ∀ (s : List Pm) (avs : List AV) (X : PmL s) (us : List Value), lookPL x.H s (avs.map (roV x.H)) = some X → RepVs x avs us → RepVs x.lend.bare (avL s X) us
  | [], [], X, us, h, hu => hu
  | [], _ :: _, X, us, h, hu => by simp [lookPL] at h
  | [p], [], X, us, h, hu => by simp [lookPL] at h
  | [p], [a], X, us, h, hu => by
    obtain ⟨v, r, rfl, h1, h2⟩ := hu
    exact ⟨v, r, rfl, lookPm_sound hI p a X v h h1, h2⟩
  | [p], _ :: _ :: _, X, us, h, hu => by simp [lookPL] at h
  | p :: q :: l, [], X, us, h, hu => by simp [lookPL] at h
  | p :: q :: l, a :: avs, X, us, h, hu => by
    simp only [List.map_cons, lookPL] at h
    split at h
    · rename_i d hd
      split at h
      · rename_i Y hY
        cases h
        obtain ⟨v, r, rfl, h1, h2⟩ := hu
        exact ⟨v, r, rfl, lookPm_sound hI p a d v hd h1, lookPL_sound hI (q :: l) avs Y r hY h2⟩
      · cases h
    · cases h

/-- What is handed in is lent; function values over variables of the caller's too. -/
def mkConF (s : List Pm) (rs : Sig) (F : PmL s → Option rs.den) : Con :=
  { X := PmL s, Y := rs.den, look := fun avs H => lookPL H s avs, F := F, outV := fun _ y => outL rs y, outH := fun _ _ H => H, mode := 1, kills := fun _ _ => [] }

theorem mkConF_ok (hm : P.follows .mixedOrders = true) (hT : TOk P T) (hE : EnvOk P env) (hC : CodesOk P env ann code) {d : Nat} {f : FuncId} {s : List Pm} {rs : Sig} {F : PmL s → Option rs.den}
    (hfl : ∀ p ∈ rs, p.2.flat = true) (hrun : ∀ X Y, F X = some Y → ∃ n, runK T env n ann code d f (avL s X) [] (readL rs) = some Y) : ConOk P f (mkConF s rs F) := by
  refine ⟨fun x args vals X Y hI hv hl hF => ?_, fun h => (by cases h), fun _ args H l X h => lookPL_more H l s args X h⟩
  have hl' : lookPL x.H s (args.map (roV x.H)) = some X := hl
  have hvx := lookPL_sound hI s args X _ hl' hv
  obtain ⟨n, hr⟩ := hrun X Y hF
  have hd : Does P (callFunc f vals) x.lend.bare.w fun u w' => ∃ y' v H', y'.w = w' ∧ readL rs v H' = some Y ∧ Left x.lend.bare 0 v H' u y' :=
    run_sound hm hT hE hC (x := x.lend.bare) (r := Y) (k := readL rs) hr (bare_inv (lend_ok hI) (lend_tab hI)) hvx (fun v H' y u hk hL => ⟨y, v, H', rfl, hk, hL⟩)
  refine (con_core (x' := x.lend.bare) hI rfl rfl (.inl hfl) hd).mono ?_
  rintro u w' ⟨y, r1, r2, r3, r4, r5, r6, r7⟩
  exact ⟨y, r1, r2, r3, r4, fun id _ _ => r5 id, r6, by rw [r2]; exact Nat.le_refl _, r7⟩

end

/-! ### One of two contracts for a function, by the function value that is handed in -/
def isFn (f : FuncId) : AV → Bool
  | .val false [.fn g _] => Nat.beq g f
  | .val false [.fnr g _] => Nat.beq g f
  | _ => false

/-- A contract by what its arguments are read as; what is handed in is lent. -/
def gCon (rs : Sig) (X : Type) (look : List AV → List Ob → Option X) (F : X → Option rs.den) : Con :=
  { X := X, Y := rs.den, look := look, F := F, outV := fun _ y => outL rs y, outH := fun _ _ H => H, mode := 1, kills := fun _ _ => [] }

def orLook {X1 X2 : Type} (f : FuncId) (l1 : List AV → List Ob → Option X1) (l2 : List AV → List Ob → Option X2) (avs : List AV) (H : List Ob) : Option (X1 ⊕ X2) :=
  bif avs.any (isFn f) then (match l1 avs H with | some x => some (.inl x) | none => none) else (match l2 avs H with | some x => some (.inr x) | none => none)

def orF {X1 X2 Y : Type} (F1 : X1 → Option Y) (F2 : X2 → Option Y) : X1 ⊕ X2 → Option Y
  | .inl x => F1 x
  | .inr x => F2 x

theorem isFn_ro (f : FuncId) (H : List Ob) (a : AV) : isFn f (roV H a) = isFn f a := by
  cases a with
  | val g cs =>
    cases g with
    | true => rfl
    | false =>
      match cs with
      | [] => rfl
      | [c] =>
        cases c with
        | own id n => simp only [roV, List.map_cons, List.map_nil, roC]; split <;> rfl
        | mp id => simp only [roV, List.map_cons, List.map_nil, roC]; split <;> rfl
        | _ => rfl
      | c :: c' :: r =>
        cases c with
        | own id n => simp only [roV, List.map_cons, roC]; split <;> rfl
        | mp id => simp only [roV, List.map_cons, roC]; split <;> rfl
        | _ => rfl
  | _ => rfl

theorem anyFn_ro (f : FuncId) (H : List Ob) (avs : List AV) : (avs.map (roV H)).any (isFn f) = avs.any (isFn f) := by
  induction avs with
  | nil => rfl
  | cons a r ih => simp only [List.map_cons, List.any_cons, isFn_ro, ih]

theorem orCon_ok {P : Program} {f g : FuncId} {rs : Sig} {X1 X2 : Type} {l1 : List AV → List Ob → Option X1} {l2 : List AV → List Ob → Option X2} {F1 : X1 → Option rs.den} {F2 : X2 → Option rs.den} (ha : ConOk P g (gCon rs X1 l1 F1)) (hb : ConOk P g (gCon rs X2 l2 F2)) :
    ConOk P g (gCon rs (X1 ⊕ X2) (orLook f l1 l2) (orF F1 F2)) := by
  refine ⟨fun x args vals X Y hI hv hl hF => ?_, fun h => (by cases h), fun _ args H l X h => ?_⟩
  · have hl' : orLook f l1 l2 (args.map (roV x.H)) x.H = some X := hl
    unfold orLook at hl'
    cases hc : (args.map (roV x.H)).any (isFn f) with
    | true =>
      rw [hc] at hl'
      simp only [cond_true] at hl'
      split at hl'
      · rename_i z hz
        cases hl'
        exact ha.calls x args vals z Y hI hv hz hF
      · cases hl'
    | false =>
      rw [hc] at hl'
      simp only [cond_false] at hl'
      split at hl'
      · rename_i z hz
        cases hl'
        exact hb.calls x args vals z Y hI hv hz hF
      · cases hl'
  · have h' : orLook f l1 l2 (args.map (roV H)) H = some X := h
    show orLook f l1 l2 (args.map (roV (H ++ l))) (H ++ l) = some X
    unfold orLook at h' ⊢
    rw [anyFn_ro] at h' ⊢
    cases hc : args.any (isFn f) with
    | true =>
      rw [hc] at h'
      simp only [cond_true] at h' ⊢
      split at h'
      · rename_i z hz
        cases h'
        have := ha.mono rfl args H l z hz
        have : l1 (args.map (roV (H ++ l))) (H ++ l) = some z := this
        rw [this]
        rfl
      · cases h'
    | false =>
      rw [hc] at h'
      simp only [cond_false] at h' ⊢
      split at h'
      · rename_i z hz
        cases h'
        have := hb.mono rfl args H l z hz
        have : l2 (args.map (roV (H ++ l))) (H ++ l) = some z := this
        rw [this]
        rfl
      · cases h'

/-! ### Answers that are the caller's own -/
inductive Rc : Type where
  | dat (t : Ty)
  | own (e : TypeId) (t : Ty)

@[reducible] def Rc.den : Rc → Type
  | .dat t => t.den
  | .own _ t => List t.den

@[reducible] def RcL : List Rc → Type
  | [] => Unit
  | r :: l => r.den × RcL l

@[reducible] def RdL : List (Bool × List Rc) → Type
  | [] => Unit
  | p :: l => RcL p.2 × RdL l

structure OwnE where
  src : Option Nat
  e : TypeId
  t : Ty
  xs : List t.den

def OwnE.ob (o : OwnE) : Ob := .arr o.e o.t o.xs

theorem castL_some {u t : Ty} {xs : List u.den} {ys : List t.den} (h : castL (t := t) xs = some ys) : ∃ e : u = t, ys = e ▸ xs := by
  unfold castL at h
  split at h
  · rename_i e; cases h; exact ⟨e, rfl⟩
  · cases h

/-- Where the answer's own objects come to stand. -/
structure Laid (y' y : Cx) (n : Nat) (es : List OwnE) : Prop where
  H : ∀ (j : Nat) (o : OwnE), es[j]? = some o → y.H[n + j]? = some o.ob
  at_ : ∀ (j : Nat) (o : OwnE), es[j]? = some o → y.at_ (n + j) = o.src.bind y'.at_

theorem Laid.tail {y' y : Cx} {n : Nat} {o : OwnE} {es : List OwnE} (h : Laid y' y n (o :: es)) : Laid y' y (n + 1) es :=
  ⟨fun j p hj => by have := h.H (j + 1) p (by simpa using hj); rw [← this]; congr 1; omega, fun j p hj => by have := h.at_ (j + 1) p (by simpa using hj); rw [← this]; congr 1; omega⟩

theorem Laid.left {y' y : Cx} {n : Nat} {es fs : List OwnE} (h : Laid y' y n (es ++ fs)) : Laid y' y n es :=
  ⟨fun j p hj => h.H j p (by rw [List.getElem?_append_left (List.getElem?_eq_some_iff.1 hj).1]; exact hj), fun j p hj => h.at_ j p (by rw [List.getElem?_append_left (List.getElem?_eq_some_iff.1 hj).1]; exact hj)⟩

theorem Laid.right {y' y : Cx} {n : Nat} {es fs : List OwnE} (h : Laid y' y n (es ++ fs)) : Laid y' y (n + es.length) fs :=
  ⟨fun j p hj => by
    have := h.H (es.length + j) p (by rw [List.getElem?_append_right (by omega)]; simpa using hj)
    rw [← this]; congr 1; omega,
   fun j p hj => by
    have := h.at_ (es.length + j) p (by rw [List.getElem?_append_right (by omega)]; simpa using hj)
    rw [← this]; congr 1; omega⟩

section
variable {P : Program} {T : TypeId → Option TI} {env : FuncId → Option Con} {ann : FuncId → Nat → Ann} {code : FuncId → Option Func}

end

end Go.Proofs.YtfccofgchjieeaaGreatDoor.AI
