/- What a run stands on, moved: fewer slots, a loop's head, nil slices that will grow, an order that is drawn. -/
import Derived.Test.YtiolbhmbobelcaaGreatDoorAis
set_option linter.unusedVariables false
set_option linter.unusedSimpArgs false
namespace Go.Proofs.YtiolbhmbobelcaaGreatDoor.AI
open Go

theorem FrOk.weak {x : Cx} {fr fr' : List AV} {tmps : Array Value} (h : FrOk x fr tmps) (hl : fr'.length = fr.length) (hw : ∀ (t : Nat) (v : AV), fr'[t]? = some v → v = .undef ∨ fr[t]? = some v) : FrOk x fr' tmps := by
  intro t v hv
  rcases hw t v hv with rfl | h1
  · have hlt : t < fr.length := by rw [← hl]; exact (List.getElem?_eq_some_iff.1 hv).1
    obtain ⟨u, h2, _⟩ := h t fr[t] (List.getElem?_eq_getElem hlt)
    exact ⟨u, h2, trivial⟩
  · exact h t v h1

theorem Good.weak {x0 : Cx} {h0 : Nat} {fr fr' : List AV} {H : List Ob} {a : Act} {w : World} (h : Good x0 h0 ⟨fr, H⟩ a w) (hl : fr'.length = fr.length) (hw : ∀ (t : Nat) (v : AV), fr'[t]? = some v → v = .undef ∨ fr[t]? = some v) : Good x0 h0 ⟨fr', H⟩ a w := by
  obtain ⟨x, hx, hat⟩ := h
  exact ⟨x, hx, hat.inv, hat.H, FrOk.weak hat.fr hl hw, hat.kept, hat.ids, hat.len, hat.defers, hat.low⟩

/-! ### A region's end -/
theorem end_fold (facts : Lits) : ∀ (gs : List (Nat × Lits)) (fr : List AV),
    (gs.foldl (fun fr p => bif subL p.2 facts then fr else fr.set p.1 .undef) fr).length = fr.length ∧
    ∀ (t : Nat) (v : AV), (gs.foldl (fun fr p => bif subL p.2 facts then fr else fr.set p.1 .undef) fr)[t]? = some v → v = .undef ∨ (fr[t]? = some v ∧ subL (pathOf gs t) facts = true)
  | [], fr => ⟨rfl, fun t v h => .inr ⟨h, rfl⟩⟩
  | (s, p) :: r, fr => by
    simp only [List.foldl_cons]
    obtain ⟨h1, h2⟩ := end_fold facts r (bif subL p facts then fr else fr.set s .undef)
    refine ⟨by rw [h1]; cases subL p facts <;> simp, fun t v hv => ?_⟩
    rcases h2 t v hv with h3 | ⟨h3, h4⟩
    · exact .inl h3
    · cases hs : subL p facts with
      | true =>
        rw [hs] at h3
        refine .inr ⟨h3, ?_⟩
        simp only [pathOf]
        cases Nat.beq s t with
        | true => exact hs
        | false => exact h4
      | false =>
        rw [hs] at h3
        simp only [cond_false] at h3
        by_cases e : s = t
        · subst e
          left
          have hlt : s < fr.length := by have := (List.getElem?_eq_some_iff.1 h3).1; simpa using this
          rw [List.getElem?_set_self hlt] at h3
          cases h3; rfl
        · rw [List.getElem?_set_ne e] at h3
          refine .inr ⟨h3, ?_⟩
          simp only [pathOf]
          have : Nat.beq s t = false := by
            cases hb : Nat.beq s t with
            | true => exact absurd (Nat.eq_of_beq_eq_true hb) e
            | false => rfl
          rw [this]; exact h4

theorem Good.end_ {x0 : Cx} {h0 : Nat} {g : G} {fr : List AV} {H : List Ob} {a : Act} {w : World} (h : Good x0 h0 ⟨fr, H⟩ a w) (hR : RG g fr) : Good x0 h0 ⟨endG g, H⟩ a w := by
  obtain ⟨h1, h2⟩ := end_fold g.facts g.gs g.fr
  refine h.weak (by unfold endG; rw [h1, hR.len]) (fun t v hv => ?_)
  rcases h2 t v hv with h3 | ⟨h3, h4⟩
  · exact .inl h3
  · right
    have hh : Holds fr (pathOf g.gs t) := fun q hq => hR.facts q ((subL_iff _ _).1 h4 q hq)
    have h5 := hR.hold t hh
    have hlt : t < fr.length := by rw [hR.len]; exact (List.getElem?_eq_some_iff.1 h3).1
    rw [List.getElem?_eq_getElem hlt]
    simp only [List.getD, h3, Option.getD_some, List.getElem?_eq_getElem hlt] at h5
    rw [h5]

theorem Good.slot {x0 : Cx} {h0 : Nat} {fr : List AV} {H : List Ob} {a : Act} {w : World} (h : Good x0 h0 ⟨fr, H⟩ a w) (s : Nat) {c c' : C} (hs : fr.getD s .undef = .val false [c]) (hc : ∀ (x : Cx) (u : Value), RepC x c u → RepC x c' u) : Good x0 h0 ⟨fr.set s (.val false [c']), H⟩ a w := by
  obtain ⟨x, rfl, hat⟩ := h
  refine ⟨x, rfl, hat.inv, hat.H, ?_, hat.kept, hat.ids, hat.len, hat.defers, hat.low⟩
  intro t' v hv
  have hv' : (fr.set s (.val false [c']))[t']? = some v := hv
  by_cases e1 : t' = s
  · subst e1
    have hlt : t' < fr.length := by have := (List.getElem?_eq_some_iff.1 hv').1; simpa using this
    rw [List.getElem?_set_self hlt] at hv'
    cases hv'
    have hg : fr[t']? = some (.val false [c]) := by
      simp only [List.getD, List.getElem?_eq_getElem hlt, Option.getD_some] at hs
      rw [List.getElem?_eq_getElem hlt, hs]
    obtain ⟨u, h1, h2⟩ := hat.fr t' _ hg
    exact ⟨u, h1, mk_one (hc x u (of_one h2))⟩
  · rw [List.getElem?_set_ne (Ne.symm e1)] at hv'
    exact hat.fr t' v hv'

theorem nf_some {x : Cx} {n : Nat} {u : Value} : RepC x (.nf (some n)) u ↔ RepC x (.sc (.float .f64) n) u := by
  constructor
  · rintro ⟨h1, h2⟩
    have h2' : u = .float .f64 n := h2
    subst h2'
    exact ⟨h1, rfl⟩
  · rintro ⟨h1, h2⟩
    have h2' : [u] = [.float .f64 n] := h2
    have h3 : u = .float .f64 n := by simpa using h2'
    subst h3
    exact ⟨h1, rfl⟩
theorem nf_none {x : Cx} {u : Value} : RepC x (.nf none) u ↔ RepC x .nan u := Iff.rfl

theorem Good.joinNf {x0 : Cx} {h0 : Nat} {fr : List AV} {H : List Ob} {a : Act} {w : World} (h : Good x0 h0 ⟨fr, H⟩ a w) (s : Nat) : Good x0 h0 ⟨AI.joinNf s fr, H⟩ a w := by
  unfold AI.joinNf
  split
  · rename_i n hs
    exact h.slot s hs (fun x u hu => nf_some.2 hu)
  · rename_i hs
    exact h.slot s hs (fun x u hu => nf_none.2 hu)
  · exact h

theorem Good.sealK {R : Type} {x0 : Cx} {h0 : Nat} {a : Act} {w : World} {r : R} {k : List AV → List Ob → Option R} : ∀ (l : List Nat) (fr : List AV) (H : List Ob), AI.sealK h0 l fr H k = some r → Good x0 h0 ⟨fr, H⟩ a w → ∃ fr' H', k fr' H' = some r ∧ Good x0 h0 ⟨fr', H'⟩ a w
  | [], fr, H, h, hg => ⟨fr, H, h, hg⟩
  | d :: l, fr, H, h, hg => by
    simp only [AI.sealK] at h
    cases hb : isSeal d with
    | false =>
      rw [hb] at h
      simp only [cond_false] at h
      cases hj : isJoin d with
      | false => rw [hj] at h; exact Good.sealK l fr H h hg
      | true => rw [hj] at h; exact Good.sealK l _ H h (hg.joinNf _)
    | true =>
      rw [hb] at h
      simp only [cond_true] at h
      split at h
      · rename_i id n _
        cases hc : Nat.ble h0 id with
        | false => rw [hc] at h; cases h
        | true =>
          rw [hc] at h
          obtain ⟨x, rfl, hat⟩ := hg
          obtain ⟨y, hy, haty⟩ := seal_at hat (Nat.le_of_ble_eq_true hc)
          exact Good.sealK l _ _ h ⟨y, hy, haty⟩
      · cases h

theorem Good.partK {R : Type} {x0 : Cx} {h0 : Nat} {a : Act} {w : World} {r : R} {H : List Ob} {k : List AV → Option R} : ∀ (l : List Nat) (fr : List AV), AI.partK l fr k = some r → Good x0 h0 ⟨fr, H⟩ a w → ∃ fr', k fr' = some r ∧ Good x0 h0 ⟨fr', H⟩ a w
  | [], fr, h, hg => ⟨fr, h, hg⟩
  | d :: l, fr, h, hg => by
    simp only [AI.partK] at h
    cases hb : isPart d with
    | false => rw [hb] at h; exact Good.partK l fr h hg
    | true =>
      rw [hb] at h
      simp only [cond_true] at h
      split at h
      · rename_i o hs
        cases o with
        | some n => exact Good.partK l _ h (hg.slot _ hs (fun x u hu => nf_some.1 hu))
        | none => exact Good.partK l _ h (hg.slot _ hs (fun x u hu => nf_none.1 hu))
      · exact Good.partK l fr h hg

/-! ### Drawn once more -/
theorem Good.drawn {x0 : Cx} {h0 : Nat} {st : St} {a : Act} {w : World} (n : Nat) (h : Good x0 h0 st a w) : Good x0 h0 st a { w with drawn := n } := by
  obtain ⟨x, rfl, hat⟩ := h
  have hh : ({ x.w with drawn := n } : World).heap = x.w.heap := rfl
  exact ⟨x.withW { x.w with drawn := n }, rfl, withW_inv hat.inv hh, hat.H, hat.fr.keep (withW_carry hat.inv hh), hat.kept.trans (withW_kept hh rfl rfl rfl), fun id hid => (hat.ids id hid).trans (withW_idOk hat.inv hh id), hat.len, hat.defers, hat.low⟩

/-! ### A loop's head -/
theorem mask_get (keep : List Nat) : ∀ (fr : List AV) (i : Nat), (maskFrom keep i fr).length = fr.length ∧ ∀ (t : Nat) (v : AV), (maskFrom keep i fr)[t]? = some v → v = .undef ∨ fr[t]? = some v
  | [], i => ⟨rfl, fun t v h => by simp [maskFrom] at h⟩
  | u :: r, i => by
    obtain ⟨h1, h2⟩ := mask_get keep r (i + 1)
    refine ⟨by simp [maskFrom, h1], fun t v h => ?_⟩
    cases t with
    | zero =>
      simp only [maskFrom, List.getElem?_cons_zero, Option.some.injEq] at h
      cases hb : keep.any (Nat.beq i) with
      | true => rw [hb] at h; exact .inr (by simpa using h)
      | false => rw [hb] at h; exact .inl h.symm
    | succ t => simpa using h2 t v (by simpa [maskFrom] using h)

theorem head_get (n : Nat) (H : List Ob) (i : Nat) : (headH n H)[i]? = if i < n then (H[i]?).map (Sub.ob (.above n)) else none := by
  simp only [headH, List.getElem?_map, List.getElem?_take]
  split <;> simp

theorem above_dead {n : Nat} {o : Ob} (h : Sub.ob (.above n) o ≠ .dead) : o ≠ .dead := fun e => h (by subst e; rfl)

theorem Good.head {x0 : Cx} {h0 n : Nat} {fr : List AV} {H : List Ob} {a : Act} {w : World} (keep : List Nat) (h : Good x0 h0 ⟨fr, H⟩ a w) (hn : h0 ≤ n) (hx : x0.H.length ≤ n) (hH : n ≤ H.length) : Good x0 h0 ⟨headFr keep n fr, headH n H⟩ a w := by
  obtain ⟨x, rfl, hat⟩ := h
  have hI := hat.inv
  have hxH : x.H = H := hat.H
  subst hxH
  let y : Cx := { x with H := headH n x.H }
  have get : ∀ i, y.H[i]? = if i < n then (x.H[i]?).map (Sub.ob (.above n)) else none := head_get n x.H
  have old : ∀ i oi, y.H[i]? = some oi → ∃ q, i < n ∧ x.H[i]? = some q ∧ oi = Sub.ob (.above n) q := fun i oi hi => by
    rw [get] at hi
    split at hi
    · rename_i hlt
      cases hq : x.H[i]? with
      | none => simp [hq] at hi
      | some q => simp [hq] at hi; exact ⟨q, hlt, rfl, hi.symm⟩
    · cases hi
  have hkin : Kin x y := ⟨fun _ h => h, fun _ _ => rfl⟩
  have hids : ∀ j, j < n → IdOk x y j := fun j hj => by
    unfold IdOk
    rw [get j, if_pos hj]
    cases hq : x.H[j]? with
    | none => trivial
    | some q =>
      cases q with
      | dead => trivial
      | box cs => exact ⟨⟨_, rfl⟩, rfl⟩
      | mp t xs => exact ⟨⟨_, rfl⟩, rfl⟩
      | tb xs => exact ⟨⟨_, rfl⟩, rfl⟩
      | arr e t xs => exact ⟨xs, rfl, Nat.le_refl _, rfl, fun b hb cur' e2 fr' hc => ⟨cur', e2, fr', hc, Nat.le_refl _⟩⟩
  have hcar : Carry (Sub.c (.above n)) x y := Carry.above hkin n hids
  have hinv : Inv y := by
    refine ⟨hI.okb, fun i j b oi oj hi hj hdi hdj h1 h2 => ?_, fun i b oi hi hd hb => ?_, fun i oi hi => ?_, hI.tab.kin hkin⟩
    · obtain ⟨q, _, hq, rfl⟩ := old i oi hi
      obtain ⟨q', _, hq', rfl⟩ := old j oj hj
      exact hI.inj i j b q q' hq hq' (above_dead hdi) (above_dead hdj) h1 h2
    · obtain ⟨q, _, hq, rfl⟩ := old i oi hi
      exact hI.off i b q hq (above_dead hd) hb
    · obtain ⟨q, _, hq, rfl⟩ := old i oi hi
      exact (hI.obs i q hq).move hkin hcar rfl (fun b _ => rfl)
  have hkept : Kept x y := by
    refine ⟨rfl, rfl, rfl, Nat.le_refl _, fun _ _ _ => rfl, fun b hb => ?_, fun b hb => hb, fun b hb => .inl hb⟩
    obtain ⟨i, oi, h1, h2, h3⟩ := hb
    obtain ⟨q, _, hq, rfl⟩ := old i oi h1
    exact .inl ⟨i, q, hq, above_dead h2, h3⟩
  have hlen : y.H.length = n := by
    show (headH n x.H).length = n
    simp only [headH, List.length_map, List.length_take]; exact Nat.min_eq_left hH
  obtain ⟨m1, m2⟩ := mask_get keep fr 0
  exact ⟨y, rfl, hinv, rfl, (FrOk.weak hat.fr m1 m2).sub hcar, hat.kept.trans hkept, fun id hid => (hat.ids id hid).trans (hids id (by omega)), by rw [hlen]; exact hn, hat.defers, by rw [hlen]; exact hx⟩

/-! ### Nil slices that will grow -/
theorem push_nil {x : Cx} (hI : Inv x) (e : TypeId) (t : Ty) : Inv (x.push x.w none (.arr e t [])) := by
  refine push_inv hI (pushOk_none x) ?_
  simp only [ObRep, push_at_new]

theorem nil_own {x : Cx} (e : TypeId) (t : Ty) {u : Value} (h : RepC x .nils u) : RepC (x.push x.w none (.arr e t [])) (.own x.H.length 0) u := by
  refine ⟨h.1, ?_⟩
  simp only [RepC1, push_get_new, push_at_new]
  exact ⟨Nat.zero_le _, ⟨none, h.2⟩, trivial⟩

theorem Good.push {x0 : Cx} {h0 : Nat} {fr : List AV} {H : List Ob} {a : Act} {w : World} (h : Good x0 h0 ⟨fr, H⟩ a w) (s : Nat) (e : TypeId) (t : Ty) (hs : fr.getD s .undef = .val false [.nils]) :
    Good x0 h0 ⟨fr.set s (.val false [.own H.length 0]), H ++ [.arr e t []]⟩ a w := by
  obtain ⟨x, rfl, hat⟩ := h
  have hI := hat.inv
  have hxH : x.H = H := hat.H
  subst hxH
  have hp := pushOk_none x
  have hcar := push_carry (o := .arr e t []) hI hp
  refine ⟨x.push x.w none (.arr e t []), rfl, push_nil hI e t, rfl, ?_, hat.kept.trans (push_kept hI hp), fun id hid => (hat.ids id hid).trans (push_idOk hI hp (by have := hat.len; omega)), ?_, hat.defers, ?_⟩
  · intro t' v hv
    have hv' : (fr.set s (.val false [.own x.H.length 0]))[t']? = some v := hv
    by_cases e1 : t' = s
    · subst e1
      have hlt : t' < fr.length := by have := (List.getElem?_eq_some_iff.1 hv').1; simpa using this
      rw [List.getElem?_set_self hlt] at hv'
      cases hv'
      have hg : fr[t']? = some (.val false [.nils]) := by
        simp only [List.getD, List.getElem?_eq_getElem hlt, Option.getD_some] at hs
        rw [List.getElem?_eq_getElem hlt, hs]
      obtain ⟨u, h1, h2⟩ := hat.fr t' _ hg
      exact ⟨u, h1, mk_one (nil_own e t (of_one h2))⟩
    · rw [List.getElem?_set_ne (Ne.symm e1)] at hv'
      exact (hat.fr.keep hcar) t' v hv'
  · show h0 ≤ (x.H ++ [_]).length
    have := hat.len; simp; omega
  · show x0.H.length ≤ (x.H ++ [_]).length
    have := hat.low; simp; omega

theorem RepCs.set {x : Cx} : ∀ (cs : List C) (vs : List Value) (i : Nat) (c : C) (v : Value), RepCs x cs vs → vs[i]? = some v → RepC x c v → RepCs x (cs.set i c) vs
  | [], vs, i, c, v, h, hv, _ => by rw [show vs = [] from h] at hv; simp at hv
  | c' :: l, vs, 0, c, v, h, hv, hc => by
    obtain ⟨v', r, rfl, h2, h3⟩ := h
    simp at hv; subst hv
    exact ⟨v', r, rfl, hc, h3⟩
  | c' :: l, vs, i + 1, c, v, h, hv, hc => by
    obtain ⟨v', r, rfl, h2, h3⟩ := h
    exact ⟨v', r, rfl, h2, RepCs.set l r i c v h3 (by simpa using hv) hc⟩

theorem Good.pushBox {x0 : Cx} {h0 : Nat} {fr : List AV} {H : List Ob} {a : Act} {w : World} (h : Good x0 h0 ⟨fr, H⟩ a w) (id j : Nat) (e : TypeId) (t : Ty) {cs : List C} (hid : H[id]? = some (.box cs)) (hj : cs[j]? = some .nils) :
    Good x0 h0 ⟨fr, (H ++ [Ob.arr e t []]).set id (.box (cs.set j (.own H.length 0)))⟩ a w := by
  obtain ⟨x, rfl, hat⟩ := h
  have hI := hat.inv
  have hxH : x.H = H := hat.H
  subst hxH
  have hp := pushOk_none x
  have hcar := push_carry (o := .arr e t []) hI hp
  have hIz := push_nil hI e t
  have hlt : id < x.H.length := (List.getElem?_eq_some_iff.1 hid).1
  obtain ⟨b, vs, e', r1, r2, r3⟩ := hI.obs _ _ hid
  obtain ⟨u, hu, hc⟩ := RepCs.get _ _ _ _ r3 hj
  have hnew := nil_own e t hc
  generalize hzd : x.push x.w none (.arr e t []) = z at hcar hIz hnew
  have hzw : z.w = x.w := by rw [← hzd]; rfl
  have hzH : z.H = x.H ++ [.arr e t []] := by rw [← hzd]; rfl
  have hzid : z.H[id]? = some (.box cs) := by rw [hzH, List.getElem?_append_left hlt]; exact hid
  have hzat : z.at_ id = some b := by rw [← hzd]; rw [push_at hlt]; exact r1
  have hkz : Kept x z := by rw [← hzd]; exact push_kept hI hp
  have hidz : ∀ i, i < x.H.length → IdOk x z i := fun i hi => by rw [← hzd]; exact push_idOk hI hp hi
  have hput : PutOk z z.w id b := ⟨rfl, rfl, rfl, rfl, fun _ _ => rfl, ⟨_, hzid, by simp⟩, hzat, fun cur' e' fr' hc => ⟨cur', e', fr', hc, rfl⟩⟩
  have hids := fun i => put_idOk (o := .box (cs.set j (.own x.H.length 0))) hIz hput (by rw [hzid]; exact ⟨_, rfl⟩) i
  have hkin := put_kin (o := .box (cs.set j (.own x.H.length 0))) hIz hput
  have hcar2 := Carry.id_of hkin (fun i _ => hids i)
  have hI2 : Inv (z.put z.w id (.box (cs.set j (.own x.H.length 0)))) := by
    refine put_inv hIz hput (fun i _ => hids i) (by simp) ⟨b, vs, e', hzat, ?_, ?_⟩
    · show z.w.heap[b]? = _
      rw [hzw]; exact r2
    · exact RepCs.keep hcar2 (RepCs.set _ _ _ _ _ (RepCs.keep hcar r3) hu hnew)
  refine ⟨z.put z.w id (.box (cs.set j (.own x.H.length 0))), hzw, hI2, ?_, (hat.fr.keep hcar).keep hcar2, (hat.kept.trans hkz).trans (put_kept hIz hput (by simp)), fun i hi => ((hat.ids i hi).trans (hidz i (by have := hat.len; omega))).trans (hids i), ?_, hat.defers, ?_⟩
  · show z.H.set id _ = _
    rw [hzH]
  · show h0 ≤ (z.H.set id _).length
    rw [hzH]; have := hat.len; simp; omega
  · show x0.H.length ≤ (z.H.set id _).length
    rw [hzH]; have := hat.low; simp; omega

theorem nil_data {x : Cx} (t : Ty) {u : Value} (h : RepC x .nils u) : RepC x (.sc (.sl t) []) u := by
  refine ⟨h.1, ?_⟩
  have h2 : u = .slice none 0 0 := h.2
  subst h2
  exact ⟨none, 0, rfl, Nat.le_refl _, fun hne => absurd rfl hne⟩

theorem Good.data {x0 : Cx} {h0 : Nat} {fr : List AV} {H : List Ob} {a : Act} {w : World} (h : Good x0 h0 ⟨fr, H⟩ a w) (s : Nat) (t : Ty) (hs : fr.getD s .undef = .val false [.nils]) :
    Good x0 h0 ⟨fr.set s (.val false [.sc (.sl t) []]), H⟩ a w := by
  obtain ⟨x, rfl, hat⟩ := h
  refine ⟨x, rfl, hat.inv, hat.H, ?_, hat.kept, hat.ids, hat.len, hat.defers, hat.low⟩
  intro t' v hv
  have hv' : (fr.set s (.val false [.sc (.sl t) []]))[t']? = some v := hv
  by_cases e1 : t' = s
  · subst e1
    have hlt : t' < fr.length := by have := (List.getElem?_eq_some_iff.1 hv').1; simpa using this
    rw [List.getElem?_set_self hlt] at hv'
    cases hv'
    have hg : fr[t']? = some (.val false [.nils]) := by
      simp only [List.getD, List.getElem?_eq_getElem hlt, Option.getD_some] at hs
      rw [List.getElem?_eq_getElem hlt, hs]
    obtain ⟨u, h1, h2⟩ := hat.fr t' _ hg
    exact ⟨u, h1, mk_one (nil_data t (of_one h2))⟩
  · rw [List.getElem?_set_ne (Ne.symm e1)] at hv'
    exact hat.fr t' v hv'

theorem Good.dataBox {x0 : Cx} {h0 : Nat} {fr : List AV} {H : List Ob} {a : Act} {w : World} (h : Good x0 h0 ⟨fr, H⟩ a w) (id j : Nat) (t : Ty) {cs : List C} (hid : H[id]? = some (.box cs)) (hj : cs[j]? = some .nils) :
    Good x0 h0 ⟨fr, H.set id (.box (cs.set j (.sc (.sl t) [])))⟩ a w := by
  obtain ⟨z, rfl, hat⟩ := h
  have hIz := hat.inv
  have hzH : z.H = H := hat.H
  subst hzH
  obtain ⟨b, vs, e', r1, r2, r3⟩ := hIz.obs _ _ hid
  obtain ⟨u, hu, hc⟩ := RepCs.get _ _ _ _ r3 hj
  have hnew := nil_data t hc
  have hput : PutOk z z.w id b := ⟨rfl, rfl, rfl, rfl, fun _ _ => rfl, ⟨_, hid, by simp⟩, r1, fun cur' e' fr' hc => ⟨cur', e', fr', hc, rfl⟩⟩
  have hids := fun i => put_idOk (o := .box (cs.set j (.sc (.sl t) []))) hIz hput (by rw [hid]; exact ⟨_, rfl⟩) i
  have hkin := put_kin (o := .box (cs.set j (.sc (.sl t) []))) hIz hput
  have hcar2 := Carry.id_of hkin (fun i _ => hids i)
  have hI2 : Inv (z.put z.w id (.box (cs.set j (.sc (.sl t) [])))) := by
    refine put_inv hIz hput (fun i _ => hids i) (by simp) ⟨b, vs, e', r1, r2, ?_⟩
    exact RepCs.keep hcar2 (RepCs.set _ _ _ _ _ r3 hu hnew)
  refine ⟨z.put z.w id (.box (cs.set j (.sc (.sl t) []))), rfl, hI2, rfl, hat.fr.keep hcar2, hat.kept.trans (put_kept hIz hput (by simp)), fun i hi => (hat.ids i hi).trans (hids i), ?_, hat.defers, ?_⟩
  · show h0 ≤ (z.H.set id _).length
    have := hat.len; simp; omega
  · show x0.H.length ≤ (z.H.set id _).length
    have := hat.low; simp; omega

theorem Good.growAt {x0 : Cx} {h0 : Nat} {fr : List AV} {H : List Ob} {a : Act} {w : World} (h : Good x0 h0 ⟨fr, H⟩ a w) (q : Nat × Option Nat × TypeId × Ty) : Good x0 h0 ⟨(growAt q fr H).1, (growAt q fr H).2⟩ a w ∧ H.length ≤ (growAt q fr H).2.length := by
  obtain ⟨s, o, e, t⟩ := q
  cases o with
  | none =>
    simp only [AI.growAt]
    split
    · rename_i hs
      unfold growC
      cases Nat.beq e 0 with
      | true => exact ⟨h.data s t hs, by simp⟩
      | false => exact ⟨h.push s e t hs, by simp⟩
    · exact ⟨h, Nat.le_refl _⟩
  | some j =>
    simp only [AI.growAt]
    split
    · rename_i id off hs
      split
      · rename_i cs hid
        split
        · rename_i hj
          unfold growC
          cases Nat.beq e 0 with
          | true => exact ⟨h.dataBox id (off + j) t hid hj, by simp⟩
          | false => exact ⟨h.pushBox id (off + j) e t hid hj, by simp⟩
        · exact ⟨h, Nat.le_refl _⟩
      · exact ⟨h, Nat.le_refl _⟩
    · exact ⟨h, Nat.le_refl _⟩

theorem Good.growAll {x0 : Cx} {h0 : Nat} {a : Act} {w : World} : ∀ (l : List (Nat × Option Nat × TypeId × Ty)) {fr : List AV} {H : List Ob}, Good x0 h0 ⟨fr, H⟩ a w → Good x0 h0 ⟨(growAll l fr H).1, (growAll l fr H).2⟩ a w ∧ H.length ≤ (growAll l fr H).2.length
  | [], fr, H, h => ⟨h, Nat.le_refl _⟩
  | q :: r, fr, H, h => by
    obtain ⟨h1, h2⟩ := h.growAt q
    obtain ⟨h3, h4⟩ := Good.growAll r h1
    exact ⟨h3, Nat.le_trans h2 h4⟩

end Go.Proofs.YtiolbhmbobelcaaGreatDoor.AI
