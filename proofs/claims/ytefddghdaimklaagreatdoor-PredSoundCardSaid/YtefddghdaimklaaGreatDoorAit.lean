/- A part of the proof. -/
import Derived.Test.YtefddghdaimklaaGreatDoorAir
set_option linter.unusedVariables false
set_option linter.unusedSimpArgs false
namespace Go.Proofs.YtefddghdaimklaaGreatDoor.AI
open Go
def z2 (o : Oper) : List Nat := (o.after.toList.filter fun e => Region.binds .any e).map (·.on)
def Z3 (l : List Nat) : List Nat → List Nat
 | [] => l
 | x :: r => bif xC x l then Z3 l r else Z3 (x :: l) r
def wH : List Oper → List (List Nat) → List (List Nat)
 | [], acc => acc
 | o :: r, acc => wH r (acc ++ [Z3 [] (z2 o ++ (z2 o).flatMap fun j => acc.getD j [])])
def jf (env : FuncId → Option Con) (pl : List Nat) (ops : Array Oper) : Bool :=
 let M := wH ops.toList []
 (List.range ops.size).all fun i =>
  match ops[i]? with
  | none => false
  | some o =>
   (z2 o).all (fun j => Nat.blt j i) &&
   (M.getD i []).all (fun j => xC j (z2 o) || (z2 o).any fun m => xC j (M.getD m [])) &&
   (List.range i).all fun a => xC a (M.getD i []) || (match ops[a]? with
    | some oa => UO env pl ops oa o
    | none => false)
theorem tm (d : Nat) : ∀ (l : List Nat), xC d l = true ↔ d ∈ l
 | [] => by simp [xC]
 | e :: r => by simp only [xC, Bool.or_eq_true, Ux, NM, tm d r]
theorem Yj (ops : Array Oper) : ∀ (fuel t : Nat) (listed : Array Bool), listed.size = ops.size →
  (∀ i ∈ Region.linearise.go .any ops fuel t listed [], i < ops.size ∧ listed[i]? = some false) ∧ (Region.linearise.go .any ops fuel t listed []).Nodup ∧
  (∀ (A B : List Nat) (i : Nat) (o : Oper), Region.linearise.go .any ops fuel t listed [] = A ++ i :: B → ops[i]? = some o → ∀ j ∈ z2 o, listed.getD j false = true ∨ j ∈ A) := by
 intro fuel
 induction fuel with
 | zero => intro t listed hs; simp [Region.linearise.go]
 | succ fuel ih =>
  intro t listed hs
  simp only [Region.linearise.go]
  split
  ·rename_i i hi
   rw [linearise_go_acc]
   simp only [List.reverse_cons, List.reverse_nil, List.nil_append, List.singleton_append]
   have hmem := ND hi
   simp only [List.mem_filter, List.mem_range, Nt, Bool.not_eq_true'] at hmem
   obtain ⟨hlt, hun, hready⟩ := hmem
   have hlisted : listed[i]? = some false := by
    rw [Array.getElem?_eq_getElem (by omega)]
    have : listed.getD i true = listed[i]'(by omega) := by simp [Array.getD, show i < listed.size by omega]
    rw [← this, hun]
   obtain ⟨h1, h2, h3⟩ := ih (t / (List.filter (fun i => !listed.getD i true && ((ops[i]?).map (·.after.all fun e => !Region.binds .any e || listed.getD e.on false)).getD false) (List.range ops.size)).length) (listed.setIfInBounds i true) (by simp [hs])
   generalize hl : Region.linearise.go .any ops fuel _ (listed.setIfInBounds i true) [] = l at h1 h2 h3
   have hni : i ∉ l := fun hm => by
    have := (h1 i hm).2
    rw [Array.getElem?_setIfInBounds_self_of_lt (by omega)] at this
    cases this
   refine ⟨fun k hk => ?_, List.nodup_cons.2 ⟨hni, h2⟩, fun A B k o hAB ho j hj => ?_⟩
   ·rcases NM.1 hk with rfl | hk
    ·exact ⟨hlt, hlisted⟩
    ·obtain ⟨h4, h5⟩ := h1 k hk
     refine ⟨h4, ?_⟩
     rw [Array.getElem?_setIfInBounds_ne (fun e => hni (by rw [e]; exact hk))] at h5
     exact h5
   ·cases A with
    | nil =>
     simp only [List.nil_append, List.cons.injEq] at hAB
     obtain ⟨rfl, _⟩ := hAB
     left
     rw [ho] at hready
     simp only [Option.map_some, Option.getD_some, Array.all_eq_true_iff_forall_mem, Bool.or_eq_true, Bool.not_eq_true'] at hready
     simp only [z2, List.mem_map, List.mem_filter] at hj
     obtain ⟨e, ⟨he, hb⟩, rfl⟩ := hj
     rcases hready e (by simpa using he) with h6 | h6
     ·rw [hb] at h6; cases h6
     ·exact h6
    | cons a A' =>
     simp only [List.cons_append, List.cons.injEq] at hAB
     obtain ⟨rfl, hAB⟩ := hAB
     rcases h3 A' B k o hAB ho j hj with h6 | h6
     ·by_cases e : j = i
      ·subst e; exact .inr (by simp)
      ·left
       rw [← h6]
       simp only [Array.getD_eq_getD_getElem?]
       rw [Array.getElem?_setIfInBounds_ne (Ne.symm e)]
     ·exact .inr (by simp [h6])
  ·simp
theorem Vw (ops : Array Oper) (hdown : ∀ i o, ops[i]? = some o → ∀ j ∈ z2 o, j < i) : ∀ (fuel t : Nat) (listed : Array Bool), listed.size = ops.size →
  ((List.range ops.size).filter fun i => !listed.getD i true).length ≤ fuel → ∀ i, i < ops.size → listed[i]? = some false → i ∈ Region.linearise.go .any ops fuel t listed [] := by
 intro fuel
 induction fuel with
 | zero =>
  intro t listed hs hf i hi hl
  have : i ∈ (List.range ops.size).filter fun i => !listed.getD i true := by
   simp [List.mem_filter, hi, Array.getD_eq_getD_getElem?, hl]
  have h0 := List.eq_nil_of_length_eq_zero (Nat.le_zero.1 hf)
  rw [h0] at this
  simp at this
 | succ fuel ih =>
  intro t listed hs hf i hi hl
  simp only [Region.linearise.go]
  have hready : (List.range ops.size).filter (fun i => !listed.getD i true && ((ops[i]?).map (·.after.all fun e => !Region.binds .any e || listed.getD e.on false)).getD false) ≠ [] := by
   have : ∀ n, n < ops.size → listed[n]? = some false → ∃ m, m < ops.size ∧ listed[m]? = some false ∧ ∀ k, k < m → listed[k]? = some true := by
    intro n
    induction n using Nat.strongRecOn with
    | _ n ihn =>
     intro hn hln
     by_cases hex : ∃ k, k < n ∧ listed[k]? = some false
     ·obtain ⟨k, hk, hlk⟩ := hex
      exact ihn k hk (by omega) hlk
     ·refine ⟨n, hn, hln, fun k hk => ?_⟩
      have hks : k < listed.size := by omega
      rw [Array.getElem?_eq_getElem hks]
      cases hb : listed[k] with
      | true => rfl
      | false => exact absurd ⟨k, hk, by rw [Array.getElem?_eq_getElem hks, hb]⟩ hex
   obtain ⟨m, hm, hlm, hall⟩ := this i hi hl
   intro he
   have hmem : m ∈ (List.range ops.size).filter (fun i => !listed.getD i true && ((ops[i]?).map (·.after.all fun e => !Region.binds .any e || listed.getD e.on false)).getD false) := by
    simp only [List.mem_filter, List.mem_range, Nt, Bool.not_eq_true']
    refine ⟨hm, by simp [Array.getD_eq_getD_getElem?, hlm], ?_⟩
    have ho : ops[m]? = some ops[m] := Array.getElem?_eq_getElem hm
    rw [ho]
    simp only [Option.map_some, Option.getD_some, Array.all_eq_true_iff_forall_mem, Bool.or_eq_true, Bool.not_eq_true']
    intro e hem
    cases hb : Region.binds .any e with
    | false => exact .inl rfl
    | true =>
     right
     have := hdown m _ ho e.on (List.mem_map.2 ⟨e, List.mem_filter.2 ⟨by simpa using hem, hb⟩, rfl⟩)
     simp [Array.getD_eq_getD_getElem?, hall _ this]
   rw [he] at hmem
   simp at hmem
  generalize hrs : (List.range ops.size).filter (fun i => !listed.getD i true && ((ops[i]?).map (·.after.all fun e => !Region.binds .any e || listed.getD e.on false)).getD false) = rs at hready ⊢
  have hlt : t % rs.length < rs.length := Nat.mod_lt _ (List.length_pos_iff.2 hready)
  obtain ⟨p, hpget⟩ : ∃ p, rs[t % rs.length]? = some p := ⟨_, NL hlt⟩
  rw [hpget]
  simp only
  rw [linearise_go_acc]
  simp only [List.reverse_cons, List.reverse_nil, List.nil_append, List.singleton_append, NM]
  have hp := ND hpget
  rw [← hrs] at hp
  simp only [List.mem_filter, List.mem_range, Nt, Bool.not_eq_true'] at hp
  by_cases e : i = p
  ·exact .inl e
  ·right
   refine ih _ _ (by simp [hs]) ?_ i hi (by rw [Array.getElem?_setIfInBounds_ne (Ne.symm e)]; exact hl)
   have hsub : ((List.range ops.size).filter fun i => !(listed.setIfInBounds p true).getD i true) = ((List.range ops.size).filter fun i => !listed.getD i true).filter (fun i => i != p) := by
    rw [List.filter_filter]
    apply List.filter_congr
    intro k hk
    have hks : k < ops.size := List.mem_range.1 hk
    by_cases ek : k = p
    ·subst ek
     simp [Array.getD_eq_getD_getElem?, Array.getElem?_setIfInBounds_self_of_lt (show k < listed.size by omega)]
    ·simp [Array.getD_eq_getD_getElem?, Array.getElem?_setIfInBounds_ne (Ne.symm ek), ek]
   rw [hsub]
   have hin : p ∈ (List.range ops.size).filter fun i => !listed.getD i true := by
    simp only [List.mem_filter, List.mem_range, Bool.not_eq_true']
    exact ⟨hp.1, hp.2.1⟩
   have hlen : (((List.range ops.size).filter fun i => !listed.getD i true).filter (fun i => i != p)).length < ((List.range ops.size).filter fun i => !listed.getD i true).length := by
    apply List.length_filter_lt_length_iff_exists.2
    exact ⟨_, hin, by simp⟩
   omega
section
variable {T : TypeId → Option TI} {h0 : Nat} {env : FuncId → Option Con} {inl : FuncId → List AV → List Ob → (AV → List Ob → Option (AV × List Ob)) → Option (AV × List Ob)} {pl : List Nat} {ops : Array Oper}
def QI (env : FuncId → Option Con) (pl : List Nat) (ops : Array Oper) (a i : Nat) : Prop := ∃ oa oi, ops[a]? = some oa ∧ ops[i]? = some oi ∧ UO env pl ops oa oi = true
theorem YB (hm : Mono1 env) (i : Nat) (B : List Nat) : ∀ (A : List Nat) (st st' : St), tL T h0 env inl true pl ops (A ++ i :: B) st = some st' → (∀ a ∈ A, QI env pl ops a i) → tL T h0 env inl true pl ops (i :: (A ++ B)) st = some st'
 | [], st, st', h, _ => h
 | a :: A, st, st', h, hf => by
  obtain ⟨oa, oi, ha, hi, hc⟩ := hf a (by simp)
  simp only [List.cons_append, tL, ha] at h
  cases h1 : yt T h0 env inl true pl ops.toList oa st with
  | none => simp [h1] at h
  | some s1 =>
   simp only [h1] at h
   have h2 := YB hm i B A s1 st' h (fun b hb => hf b (by simp [hb]))
   simp only [tL, hi] at h2
   cases h3 : yt T h0 env inl true pl ops.toList oi s1 with
   | none => simp [h3] at h2
   | some s2 =>
    simp only [h3] at h2
    obtain ⟨s, h4, h5⟩ := Ns hm hc h1 h3
    simp only [List.cons_append, tL, hi, h4, ha, h5]
    exact h2
theorem p8 (hm : Mono1 env) (Bef : Nat → Nat → Prop) : ∀ (σ idx : List Nat) (st st' : St), σ.Perm idx → idx.Pairwise (· < ·) → σ.Pairwise (fun p q => ¬ Bef q p) →
    (∀ a i, a ∈ idx → i ∈ idx → a < i → Bef a i ∨ QI env pl ops a i) → tL T h0 env inl true pl ops idx st = some st' → tL T h0 env inl true pl ops σ st = some st'
  | [], idx, st, st', hp, _, _, _, h => by
    have : idx = [] := List.Perm.eq_nil hp.symm
    rw [this] at h; exact h
  | i :: σ, idx, st, st', hp, hs, ho, hf, h => by
    have hi : i ∈ idx := hp.subset (by simp)
    obtain ⟨A, B, rfl⟩ := List.append_of_mem hi
    have hp2 : σ.Perm (A ++ B) := (List.perm_cons i).1 (hp.trans List.perm_middle)
    have hs' := List.pairwise_append.1 hs
    have ho' := List.pairwise_cons.1 ho
    have hb := YB hm i B A st st' h (fun a ha => by
      rcases hf a i (by simp [ha]) (by simp) (hs'.2.2 a ha i (by simp)) with h1 | h1
      · exact absurd h1 (ho'.1 a (hp2.symm.subset (by simp [ha])))
      · exact h1)
    have hsub : (A ++ B).Pairwise (· < ·) := by
      refine hs.sublist ?_
      exact List.Sublist.append_left (List.sublist_cons_self i B) A
    simp only [tL] at hb ⊢
    split at hb
    · rename_i hn
      exact p8 hm Bef σ (A ++ B) st st' hp2 hsub ho'.2 (fun a j ha hj => hf a j (by simp at ha ⊢; rcases ha with h | h <;> simp [h]) (by simp at hj ⊢; rcases hj with h | h <;> simp [h])) hb
    · rename_i o hn
      split at hb
      · rename_i s hst
        exact p8 hm Bef σ (A ++ B) s st' hp2 hsub ho'.2 (fun a j ha hj => hf a j (by simp at ha ⊢; rcases ha with h | h <;> simp [h]) (by simp at hj ⊢; rcases hj with h | h <;> simp [h])) hb
      · cases hb
theorem fM {A B : List Nat} {i j : Nat} (hn : (A ++ i :: B).Nodup) (hj : j ∈ A) : (A ++ i :: B).idxOf j < (A ++ i :: B).idxOf i := by
 have hni : i ∉ A := fun h => by
  have := (List.nodup_append.1 hn).2.2 i h i (by simp)
  exact this rfl
 rw [List.idxOf_append, if_pos hj, List.idxOf_append, if_neg hni, List.idxOf_cons_self]
 have := List.idxOf_lt_length_of_mem hj
 omega
theorem xR {a b : Nat} {l : List Nat} (h : a ≠ b) : (a :: l).idxOf b = l.idxOf b + 1 := by
 rw [List.idxOf_cons]
 have : (a == b) = false := by simpa using h
 rw [this]; rfl
theorem uM : ∀ (l : List Nat), l.Nodup → l.Pairwise fun p q => l.idxOf p < l.idxOf q
 | [], _ => List.Pairwise.nil
 | a :: l, h => by
  obtain ⟨h1, h2⟩ := List.nodup_cons.1 h
  refine List.pairwise_cons.2 ⟨fun q hq => ?_, ?_⟩
  ·rw [List.idxOf_cons_self, xR (fun e => h1 (by rw [e]; exact hq))]; omega
  ·refine (uM l h2).imp_of_mem ?_
   intro p q hp hq hlt
   rw [xR (fun e => h1 (by rw [e]; exact hp)), xR (fun e => h1 (by rw [e]; exact hq))]; omega
theorem fB (hm : Mono1 env) (hd : jf env pl ops = true) {st st' : St} (h : tL T h0 env inl true pl ops (List.range ops.size) st = some st') (t : Nat) :
  tL T h0 env inl true pl ops (Region.linearise .any ops t) st = some st' := by
 unfold jf at hd
 simp only [Nw, List.mem_range] at hd
 generalize hM : wH ops.toList [] = M at hd
 have hdd : ∀ i o, ops[i]? = some o → (∀ j ∈ z2 o, j < i) ∧ (∀ j ∈ M.getD i [], j ∈ z2 o ∨ ∃ m ∈ z2 o, j ∈ M.getD m []) ∧ ∀ a, a < i → a ∈ M.getD i [] ∨ ∃ oa, ops[a]? = some oa ∧ UO env pl ops oa o = true := by
  intro i o ho
  have hlt := (Array.getElem?_eq_some_iff.1 ho).1
  have := hd i hlt
  simp only [ho, Nt, Nw, Bool.or_eq_true, List.any_eq_true, tm, List.mem_range] at this
  obtain ⟨⟨h1, h2⟩, h3⟩ := this
  refine ⟨fun j hj => by have := h1 j hj; simp [Nat.blt] at this; omega, h2, fun a ha => ?_⟩
  rcases h3 a ha with h4 | h4
  ·exact .inl h4
  ·split at h4
   ·rename_i oa hoa; exact .inr ⟨oa, hoa, h4⟩
   ·cases h4
 have hdown : ∀ i o, ops[i]? = some o → ∀ j ∈ z2 o, j < i := fun i o ho => (hdd i o ho).1
 have hsz : (Array.replicate ops.size false).size = ops.size := by simp
 obtain ⟨g1, g2, g3⟩ := Yj ops ops.size t (Array.replicate ops.size false) hsz
 have g4 := Vw ops hdown ops.size t (Array.replicate ops.size false) hsz (Nat.le_trans (List.length_filter_le _ _) (by simp))
 have hlin : Region.linearise .any ops t = Region.linearise.go .any ops ops.size t (Array.replicate ops.size false) [] := rfl
 rw [hlin]
 generalize hl : Region.linearise.go .any ops ops.size t (Array.replicate ops.size false) [] = l at g1 g2 g3 g4
 have hperm : l.Perm (List.range ops.size) := by
  refine (List.perm_ext_iff_of_nodup g2 List.nodup_range).2 (fun a => ?_)
  rw [List.mem_range]
  exact ⟨fun ha => (g1 a ha).1, fun ha => g4 a ha (by simp [ha])⟩
 have hpos : ∀ i, i < ops.size → ∀ j ∈ M.getD i [], l.idxOf j < l.idxOf i := by
  intro i
  induction i using Nat.strongRecOn with
  | _ i ih =>
   intro hi j hj
   have ho : ops[i]? = some ops[i] := Array.getElem?_eq_getElem hi
   have hmem : i ∈ l := g4 i hi (by simp [hi])
   obtain ⟨A, B, rfl⟩ := List.append_of_mem hmem
   have direct : ∀ k ∈ z2 ops[i], (A ++ i :: B).idxOf k < (A ++ i :: B).idxOf i := fun k hk => by
    rcases g3 A B i _ rfl ho k hk with h1 | h1
    ·have hk2 : k < i := hdown i _ ho k hk
     simp [Array.getD_eq_getD_getElem?, show k < ops.size by omega] at h1
    ·exact fM g2 h1
   rcases (hdd i _ ho).2.1 j hj with h1 | ⟨m, hm1, hm2⟩
   ·exact direct j h1
   ·have hmi := hdown i _ ho m hm1
    exact Nat.lt_trans (ih m hmi (by omega) j hm2) (direct m hm1)
 refine p8 hm (fun a i => a ∈ M.getD i []) l (List.range ops.size) st st' hperm List.pairwise_lt_range ?_ (fun a i ha hi hlt => ?_) h
 ·refine (uM l g2).imp_of_mem ?_
  intro p q hp hq hlt hb
  have := hpos p (g1 p hp).1 q hb
  omega
 ·have hi' : i < ops.size := List.mem_range.1 hi
  have ho : ops[i]? = some ops[i] := Array.getElem?_eq_getElem hi'
  rcases (hdd i _ ho).2.2 a hlt with h1 | ⟨oa, h1, h2⟩
  ·exact .inl h1
  ·exact .inr ⟨oa, _, h1, ho, h2⟩
end
end Go.Proofs.YtefddghdaimklaaGreatDoor.AI
namespace Go.Proofs.YtefddghdaimklaaGreatDoor.AI
open Go
theorem FrOk.weak {x : Cx} {fr fr' : List AV} {tmps : Array Value} (h : FrOk x fr tmps) (hl : fr'.length = fr.length) (hw : ∀ (t : Nat) (v : AV), fr'[t]? = some v → v = .undef ∨ fr[t]? = some v) : FrOk x fr' tmps := by
 intro t v hv
 rcases hw t v hv with rfl | h1
 ·have hlt : t < fr.length := by rw [← hl]; exact (NB.1 hv).1
  obtain ⟨u, h2, _⟩ := h t fr[t] (NL hlt)
  exact ⟨u, h2, trivial⟩
 ·exact h t v h1
theorem Good.weak {x0 : Cx} {h0 : Nat} {fr fr' : List AV} {H : List Ob} {a : Act} {w : World} (h : Good x0 h0 ⟨fr, H⟩ a w) (hl : fr'.length = fr.length) (hw : ∀ (t : Nat) (v : AV), fr'[t]? = some v → v = .undef ∨ fr[t]? = some v) : Good x0 h0 ⟨fr', H⟩ a w := by
 obtain ⟨x, hx, hat⟩ := h
 exact ⟨x, hx, hat.inv, hat.H, FrOk.weak hat.fr hl hw, hat.kept, hat.ids, hat.len, hat.defers, hat.low⟩
theorem ft (facts : uo) : ∀ (gs : List (Nat × uo)) (fr : List AV),
  (gs.foldl (fun fr p => bif dS p.2 facts then fr else fr.set p.1 .undef) fr).length = fr.length ∧
  ∀ (t : Nat) (v : AV), (gs.foldl (fun fr p => bif dS p.2 facts then fr else fr.set p.1 .undef) fr)[t]? = some v → v = .undef ∨ (fr[t]? = some v ∧ dS (z3 gs t) facts = true)
 | [], fr => ⟨rfl, fun t v h => .inr ⟨h, rfl⟩⟩
 | (s, p) :: r, fr => by
  simp only [List.foldl_cons]
  obtain ⟨h1, h2⟩ := ft facts r (bif dS p facts then fr else fr.set s .undef)
  refine ⟨by rw [h1]; cases dS p facts <;> simp, fun t v hv => ?_⟩
  rcases h2 t v hv with h3 | ⟨h3, h4⟩
  ·exact .inl h3
  ·cases hs : dS p facts with
   | true =>
    rw [hs] at h3
    refine .inr ⟨h3, ?_⟩
    simp only [z3]
    cases Nat.beq s t with
    | true => exact hs
    | false => exact h4
   | false =>
    rw [hs] at h3
    simp only [Nu] at h3
    by_cases e : s = t
    ·subst e
     left
     have hlt : s < fr.length := by have := (NB.1 h3).1; simpa using this
     rw [List.getElem?_set_self hlt] at h3
     cases h3; rfl
    ·rw [List.getElem?_set_ne e] at h3
     refine .inr ⟨h3, ?_⟩
     simp only [z3]
     have : Nat.beq s t = false := by
      cases hb : Nat.beq s t with
      | true => exact absurd (Nz hb) e
      | false => rfl
     rw [this]; exact h4
theorem Good.end_ {x0 : Cx} {h0 : Nat} {g : G} {fr : List AV} {H : List Ob} {a : Act} {w : World} (h : Good x0 h0 ⟨fr, H⟩ a w) (hR : RG g fr) : Good x0 h0 ⟨R6 g, H⟩ a w := by
 obtain ⟨h1, h2⟩ := ft g.facts g.gs g.fr
 refine h.weak (by unfold R6; rw [h1, hR.len]) (fun t v hv => ?_)
 rcases h2 t v hv with h3 | ⟨h3, h4⟩
 ·exact .inl h3
 ·right
  have hh : Holds fr (z3 g.gs t) := fun q hq => hR.facts q ((mL _ _).1 h4 q hq)
  have h5 := hR.hold t hh
  have hlt : t < fr.length := by rw [hR.len]; exact (NB.1 h3).1
  rw [NL hlt]
  simp only [List.getD, h3, Option.getD_some, NL hlt] at h5
  rw [h5]
theorem Good.slot {x0 : Cx} {h0 : Nat} {fr : List AV} {H : List Ob} {a : Act} {w : World} (h : Good x0 h0 ⟨fr, H⟩ a w) (s : Nat) {c c' : C} (hs : fr.getD s .undef = .val false [c]) (hc : ∀ (x : Cx) (u : Value), RepC x c u → RepC x c' u) : Good x0 h0 ⟨fr.set s (.val false [c']), H⟩ a w := by
 obtain ⟨x, rfl, hat⟩ := h
 refine ⟨x, rfl, hat.inv, hat.H, ?_, hat.kept, hat.ids, hat.len, hat.defers, hat.low⟩
 intro t' v hv
 have hv' : (fr.set s (.val false [c']))[t']? = some v := hv
 by_cases e1 : t' = s
 ·subst e1
  have hlt : t' < fr.length := by have := (NB.1 hv').1; simpa using this
  rw [List.getElem?_set_self hlt] at hv'
  cases hv'
  have hg : fr[t']? = some (.val false [c]) := by
   simp only [List.getD, NL hlt, Option.getD_some] at hs
   rw [NL hlt, hs]
  obtain ⟨u, h1, h2⟩ := hat.fr t' _ hg
  exact ⟨u, h1, zF (hc x u (zG h2))⟩
 ·rw [List.getElem?_set_ne (Ne.symm e1)] at hv'
  exact hat.fr t' v hv'
theorem a8 {x : Cx} {n : Nat} {u : Value} : RepC x (.nf (some n)) u ↔ RepC x (.sc (.float .f64) n) u := by
 constructor
 ·rintro ⟨h1, h2⟩
  have h2' : u = .float .f64 n := h2
  subst h2'
  exact ⟨h1, rfl⟩
 ·rintro ⟨h1, h2⟩
  have h2' : [u] = [.float .f64 n] := h2
  have h3 : u = .float .f64 n := by simpa using h2'
  subst h3
  exact ⟨h1, rfl⟩
theorem cM {x : Cx} {u : Value} : RepC x (.nf none) u ↔ RepC x .nan u := Iff.rfl
theorem Good.joinNf {x0 : Cx} {h0 : Nat} {fr : List AV} {H : List Ob} {a : Act} {w : World} (h : Good x0 h0 ⟨fr, H⟩ a w) (s : Nat) : Good x0 h0 ⟨AI.joinNf s fr, H⟩ a w := by
 unfold AI.joinNf
 split
 ·rename_i n hs
  exact h.slot s hs (fun x u hu => a8.2 hu)
 ·rename_i hs
  exact h.slot s hs (fun x u hu => cM.2 hu)
 ·exact h
theorem Good.sealK {R : Type} {x0 : Cx} {h0 : Nat} {a : Act} {w : World} {r : R} {k : List AV → List Ob → Option R} : ∀ (l : List Nat) (fr : List AV) (H : List Ob), AI.sealK h0 l fr H k = some r → Good x0 h0 ⟨fr, H⟩ a w → ∃ fr' H', k fr' H' = some r ∧ Good x0 h0 ⟨fr', H'⟩ a w
 | [], fr, H, h, hg => ⟨fr, H, h, hg⟩
 | d :: l, fr, H, h, hg => by
  simp only [AI.sealK] at h
  cases hb : bK d with
  | false =>
   rw [hb] at h
   simp only [Nu] at h
   cases hj : Zl d with
   | false => rw [hj] at h; exact Good.sealK l fr H h hg
   | true => rw [hj] at h; exact Good.sealK l _ H h (hg.joinNf _)
  | true =>
   rw [hb] at h
   simp only [Nv] at h
   split at h
   ·rename_i id n _
    cases hc : Nat.ble h0 id with
    | false => rw [hc] at h; cases h
    | true =>
     rw [hc] at h
     obtain ⟨x, rfl, hat⟩ := hg
     obtain ⟨y, hy, haty⟩ := Yq hat (Nat.le_of_ble_eq_true hc)
     exact Good.sealK l _ _ h ⟨y, hy, haty⟩
   ·cases h
theorem Good.partK {R : Type} {x0 : Cx} {h0 : Nat} {a : Act} {w : World} {r : R} {H : List Ob} {k : List AV → Option R} : ∀ (l : List Nat) (fr : List AV), AI.partK l fr k = some r → Good x0 h0 ⟨fr, H⟩ a w → ∃ fr', k fr' = some r ∧ Good x0 h0 ⟨fr', H⟩ a w
 | [], fr, h, hg => ⟨fr, h, hg⟩
 | d :: l, fr, h, hg => by
  simp only [AI.partK] at h
  cases hb : ac d with
  | false => rw [hb] at h; exact Good.partK l fr h hg
  | true =>
   rw [hb] at h
   simp only [Nv] at h
   split at h
   ·rename_i o hs
    cases o with
    | some n => exact Good.partK l _ h (hg.slot _ hs (fun x u hu => a8.1 hu))
    | none => exact Good.partK l _ h (hg.slot _ hs (fun x u hu => cM.1 hu))
   ·exact Good.partK l fr h hg
theorem Good.drawn {x0 : Cx} {h0 : Nat} {st : St} {a : Act} {w : World} (n : Nat) (h : Good x0 h0 st a w) : Good x0 h0 st a { w with drawn := n } := by
 obtain ⟨x, rfl, hat⟩ := h
 have hh : ({ x.w with drawn := n } : World).heap = x.w.heap := rfl
 exact ⟨x.withW { x.w with drawn := n }, rfl, jl hat.inv hh, hat.H, hat.fr.keep (oe hat.inv hh), hat.kept.trans (nk hh rfl rfl rfl), fun id hid => (hat.ids id hid).trans (rz hat.inv hh id), hat.len, hat.defers, hat.low⟩
theorem fq (keep : List Nat) : ∀ (fr : List AV) (i : Nat), (wN keep i fr).length = fr.length ∧ ∀ (t : Nat) (v : AV), (wN keep i fr)[t]? = some v → v = .undef ∨ fr[t]? = some v
 | [], i => ⟨rfl, fun t v h => by simp [wN] at h⟩
 | u :: r, i => by
  obtain ⟨h1, h2⟩ := fq keep r (i + 1)
  refine ⟨by simp [wN, h1], fun t v h => ?_⟩
  cases t with
  | zero =>
   simp only [wN, List.getElem?_cons_zero, NA] at h
   cases hb : keep.any (Nat.beq i) with
   | true => rw [hb] at h; exact .inr (by simpa using h)
   | false => rw [hb] at h; exact .inl h.symm
  | succ t => simpa using h2 t v (by simpa [wN] using h)
theorem X5 (n : Nat) (H : List Ob) (i : Nat) : (o8 n H)[i]? = if i < n then (H[i]?).map (Sub.ob (.above n)) else none := by
 simp only [o8, List.getElem?_map, List.getElem?_take]
 split <;> simp
theorem tk {n : Nat} {o : Ob} (h : Sub.ob (.above n) o ≠ .dead) : o ≠ .dead := fun e => h (by subst e; rfl)
theorem Good.head {x0 : Cx} {h0 n : Nat} {fr : List AV} {H : List Ob} {a : Act} {w : World} (keep : List Nat) (h : Good x0 h0 ⟨fr, H⟩ a w) (hn : h0 ≤ n) (hx : x0.H.length ≤ n) (hH : n ≤ H.length) : Good x0 h0 ⟨bw keep n fr, o8 n H⟩ a w := by
 obtain ⟨x, rfl, hat⟩ := h
 have hI := hat.inv
 have hxH : x.H = H := hat.H
 subst hxH
 let y : Cx := { x with H := o8 n x.H }
 have get : ∀ i, y.H[i]? = if i < n then (x.H[i]?).map (Sub.ob (.above n)) else none := X5 n x.H
 have old : ∀ i oi, y.H[i]? = some oi → ∃ q, i < n ∧ x.H[i]? = some q ∧ oi = Sub.ob (.above n) q := fun i oi hi => by
  rw [get] at hi
  split at hi
  ·rename_i hlt
   cases hq : x.H[i]? with
   | none => simp [hq] at hi
   | some q => simp [hq] at hi; exact ⟨q, hlt, rfl, hi.symm⟩
  ·cases hi
 have hkin : Kin x y := ⟨fun _ h => h, fun _ _ => rfl⟩
 have hids : ∀ j, j < n → IdOk x y j := fun j hj => by
  unfold IdOk
  rw [get j, if_pos hj]
  cases hq : x.H[j]? with
  | none => trivial
  | some q =>
   cases q with
   | dead => trivial
   | box cs => exact ⟨⟨_, rfl⟩, rfl⟩
   | mp t xs => exact ⟨⟨_, rfl⟩, rfl⟩
   | tb xs => exact ⟨⟨_, rfl⟩, rfl⟩
   | arr e t xs => exact ⟨xs, rfl, NF _, rfl, fun b hb cur' e2 fr' hc => ⟨cur', e2, fr', hc, NF _⟩⟩
 have hcar : Carry (Sub.c (.above n)) x y := Carry.above hkin n hids
 have hinv : Inv y := by
  refine ⟨hI.okb, fun i j b oi oj hi hj hdi hdj h1 h2 => ?_, fun i b oi hi hd hb => ?_, fun i oi hi => ?_, hI.tab.kin hkin⟩
  ·obtain ⟨q, _, hq, rfl⟩ := old i oi hi
   obtain ⟨q', _, hq', rfl⟩ := old j oj hj
   exact hI.inj i j b q q' hq hq' (tk hdi) (tk hdj) h1 h2
  ·obtain ⟨q, _, hq, rfl⟩ := old i oi hi
   exact hI.off i b q hq (tk hd) hb
  ·obtain ⟨q, _, hq, rfl⟩ := old i oi hi
   exact (hI.obs i q hq).move hkin hcar rfl (fun b _ => rfl)
 have hkept : Kept x y := by
  refine ⟨rfl, rfl, rfl, NF _, fun _ _ _ => rfl, fun b hb => ?_, fun b hb => hb, fun b hb => .inl hb⟩
  obtain ⟨i, oi, h1, h2, h3⟩ := hb
  obtain ⟨q, _, hq, rfl⟩ := old i oi h1
  exact .inl ⟨i, q, hq, tk h2, h3⟩
 have hlen : y.H.length = n := by
  show (o8 n x.H).length = n
  simp only [o8, List.length_map, List.length_take]; exact Nat.min_eq_left hH
 obtain ⟨m1, m2⟩ := fq keep fr 0
 exact ⟨y, rfl, hinv, rfl, (FrOk.weak hat.fr m1 m2).sub hcar, hat.kept.trans hkept, fun id hid => (hat.ids id hid).trans (hids id (by omega)), by rw [hlen]; exact hn, hat.defers, by rw [hlen]; exact hx⟩
theorem gn {x : Cx} (hI : Inv x) (e : TypeId) (t : Ty) : Inv (x.push x.w none (.arr e t [])) := by
 refine mY hI (wu x) ?_
 simp only [ObRep, zv]
theorem am {x : Cx} (e : TypeId) (t : Ty) {u : Value} (h : RepC x .nils u) : RepC (x.push x.w none (.arr e t [])) (.own x.H.length 0) u := by
 refine ⟨h.1, ?_⟩
 simp only [zV, zW, zv]
 exact ⟨Nat.zero_le _, ⟨none, h.2⟩, trivial⟩
theorem Good.push {x0 : Cx} {h0 : Nat} {fr : List AV} {H : List Ob} {a : Act} {w : World} (h : Good x0 h0 ⟨fr, H⟩ a w) (s : Nat) (e : TypeId) (t : Ty) (hs : fr.getD s .undef = .val false [.nils]) :
  Good x0 h0 ⟨fr.set s (.val false [.own H.length 0]), H ++ [.arr e t []]⟩ a w := by
 obtain ⟨x, rfl, hat⟩ := h
 have hI := hat.inv
 have hxH : x.H = H := hat.H
 subst hxH
 have hp := wu x
 have hcar := td (o := .arr e t []) hI hp
 refine ⟨x.push x.w none (.arr e t []), rfl, gn hI e t, rfl, ?_, hat.kept.trans (uy hI hp), fun id hid => (hat.ids id hid).trans (vI hI hp (by have := hat.len; omega)), ?_, hat.defers, ?_⟩
 ·intro t' v hv
  have hv' : (fr.set s (.val false [.own x.H.length 0]))[t']? = some v := hv
  by_cases e1 : t' = s
  ·subst e1
   have hlt : t' < fr.length := by have := (NB.1 hv').1; simpa using this
   rw [List.getElem?_set_self hlt] at hv'
   cases hv'
   have hg : fr[t']? = some (.val false [.nils]) := by
    simp only [List.getD, NL hlt, Option.getD_some] at hs
    rw [NL hlt, hs]
   obtain ⟨u, h1, h2⟩ := hat.fr t' _ hg
   exact ⟨u, h1, zF (am e t (zG h2))⟩
  ·rw [List.getElem?_set_ne (Ne.symm e1)] at hv'
   exact (hat.fr.keep hcar) t' v hv'
 ·show h0 ≤ (x.H ++ [_]).length
  have := hat.len; simp; omega
 ·show x0.H.length ≤ (x.H ++ [_]).length
  have := hat.low; simp; omega
theorem RepCs.set {x : Cx} : ∀ (cs : List C) (vs : List Value) (i : Nat) (c : C) (v : Value), RepCs x cs vs → vs[i]? = some v → RepC x c v → RepCs x (cs.set i c) vs
 | [], vs, i, c, v, h, hv, _ => by rw [show vs = [] from h] at hv; simp at hv
 | c' :: l, vs, 0, c, v, h, hv, hc => by
  obtain ⟨v', r, rfl, h2, h3⟩ := h
  simp at hv; subst hv
  exact ⟨v', r, rfl, hc, h3⟩
 | c' :: l, vs, i + 1, c, v, h, hv, hc => by
  obtain ⟨v', r, rfl, h2, h3⟩ := h
  exact ⟨v', r, rfl, h2, RepCs.set l r i c v h3 (by simpa using hv) hc⟩
theorem Good.pushBox {x0 : Cx} {h0 : Nat} {fr : List AV} {H : List Ob} {a : Act} {w : World} (h : Good x0 h0 ⟨fr, H⟩ a w) (id j : Nat) (e : TypeId) (t : Ty) {cs : List C} (hid : H[id]? = some (.box cs)) (hj : cs[j]? = some .nils) :
  Good x0 h0 ⟨fr, (H ++ [Ob.arr e t []]).set id (.box (cs.set j (.own H.length 0)))⟩ a w := by
 obtain ⟨x, rfl, hat⟩ := h
 have hI := hat.inv
 have hxH : x.H = H := hat.H
 subst hxH
 have hp := wu x
 have hcar := td (o := .arr e t []) hI hp
 have hIz := gn hI e t
 have hlt : id < x.H.length := (NB.1 hid).1
 obtain ⟨b, vs, e', r1, r2, r3⟩ := hI.obs _ _ hid
 obtain ⟨u, hu, hc⟩ := RepCs.get _ _ _ _ r3 hj
 have hnew := am e t hc
 generalize hzd : x.push x.w none (.arr e t []) = z at hcar hIz hnew
 have hzw : z.w = x.w := by rw [← hzd]; rfl
 have hzH : z.H = x.H ++ [.arr e t []] := by rw [← hzd]; rfl
 have hzid : z.H[id]? = some (.box cs) := by rw [hzH, List.getElem?_append_left hlt]; exact hid
 have hzat : z.at_ id = some b := by rw [← hzd]; rw [vZ hlt]; exact r1
 have hkz : Kept x z := by rw [← hzd]; exact uy hI hp
 have hidz : ∀ i, i < x.H.length → IdOk x z i := fun i hi => by rw [← hzd]; exact vI hI hp hi
 have hput : PutOk z z.w id b := ⟨rfl, rfl, rfl, rfl, fun _ _ => rfl, ⟨_, hzid, by simp⟩, hzat, fun cur' e' fr' hc => ⟨cur', e', fr', hc, rfl⟩⟩
 have hids := fun i => tn (o := .box (cs.set j (.own x.H.length 0))) hIz hput (by rw [hzid]; exact ⟨_, rfl⟩) i
 have hkin := uB (o := .box (cs.set j (.own x.H.length 0))) hIz hput
 have hcar2 := Carry.id_of hkin (fun i _ => hids i)
 have hI2 : Inv (z.put z.w id (.box (cs.set j (.own x.H.length 0)))) := by
  refine iT hIz hput (fun i _ => hids i) (by simp) ⟨b, vs, e', hzat, ?_, ?_⟩
  ·show z.w.heap[b]? = _
   rw [hzw]; exact r2
  ·exact RepCs.keep hcar2 (RepCs.set _ _ _ _ _ (RepCs.keep hcar r3) hu hnew)
 refine ⟨z.put z.w id (.box (cs.set j (.own x.H.length 0))), hzw, hI2, ?_, (hat.fr.keep hcar).keep hcar2, (hat.kept.trans hkz).trans (mN hIz hput (by simp)), fun i hi => ((hat.ids i hi).trans (hidz i (by have := hat.len; omega))).trans (hids i), ?_, hat.defers, ?_⟩
 ·show z.H.set id _ = _
  rw [hzH]
 ·show h0 ≤ (z.H.set id _).length
  rw [hzH]; have := hat.len; simp; omega
 ·show x0.H.length ≤ (z.H.set id _).length
  rw [hzH]; have := hat.low; simp; omega
theorem eA {x : Cx} (t : Ty) {u : Value} (h : RepC x .nils u) : RepC x (.sc (.sl t) []) u := by
 refine ⟨h.1, ?_⟩
 have h2 : u = .slice none 0 0 := h.2
 subst h2
 exact ⟨none, 0, rfl, NF _, fun hne => absurd rfl hne⟩
theorem Good.data {x0 : Cx} {h0 : Nat} {fr : List AV} {H : List Ob} {a : Act} {w : World} (h : Good x0 h0 ⟨fr, H⟩ a w) (s : Nat) (t : Ty) (hs : fr.getD s .undef = .val false [.nils]) :
  Good x0 h0 ⟨fr.set s (.val false [.sc (.sl t) []]), H⟩ a w := by
 obtain ⟨x, rfl, hat⟩ := h
 refine ⟨x, rfl, hat.inv, hat.H, ?_, hat.kept, hat.ids, hat.len, hat.defers, hat.low⟩
 intro t' v hv
 have hv' : (fr.set s (.val false [.sc (.sl t) []]))[t']? = some v := hv
 by_cases e1 : t' = s
 ·subst e1
  have hlt : t' < fr.length := by have := (NB.1 hv').1; simpa using this
  rw [List.getElem?_set_self hlt] at hv'
  cases hv'
  have hg : fr[t']? = some (.val false [.nils]) := by
   simp only [List.getD, NL hlt, Option.getD_some] at hs
   rw [NL hlt, hs]
  obtain ⟨u, h1, h2⟩ := hat.fr t' _ hg
  exact ⟨u, h1, zF (eA t (zG h2))⟩
 ·rw [List.getElem?_set_ne (Ne.symm e1)] at hv'
  exact hat.fr t' v hv'
theorem Good.dataBox {x0 : Cx} {h0 : Nat} {fr : List AV} {H : List Ob} {a : Act} {w : World} (h : Good x0 h0 ⟨fr, H⟩ a w) (id j : Nat) (t : Ty) {cs : List C} (hid : H[id]? = some (.box cs)) (hj : cs[j]? = some .nils) :
  Good x0 h0 ⟨fr, H.set id (.box (cs.set j (.sc (.sl t) [])))⟩ a w := by
 obtain ⟨z, rfl, hat⟩ := h
 have hIz := hat.inv
 have hzH : z.H = H := hat.H
 subst hzH
 obtain ⟨b, vs, e', r1, r2, r3⟩ := hIz.obs _ _ hid
 obtain ⟨u, hu, hc⟩ := RepCs.get _ _ _ _ r3 hj
 have hnew := eA t hc
 have hput : PutOk z z.w id b := ⟨rfl, rfl, rfl, rfl, fun _ _ => rfl, ⟨_, hid, by simp⟩, r1, fun cur' e' fr' hc => ⟨cur', e', fr', hc, rfl⟩⟩
 have hids := fun i => tn (o := .box (cs.set j (.sc (.sl t) []))) hIz hput (by rw [hid]; exact ⟨_, rfl⟩) i
 have hkin := uB (o := .box (cs.set j (.sc (.sl t) []))) hIz hput
 have hcar2 := Carry.id_of hkin (fun i _ => hids i)
 have hI2 : Inv (z.put z.w id (.box (cs.set j (.sc (.sl t) [])))) := by
  refine iT hIz hput (fun i _ => hids i) (by simp) ⟨b, vs, e', r1, r2, ?_⟩
  exact RepCs.keep hcar2 (RepCs.set _ _ _ _ _ r3 hu hnew)
 refine ⟨z.put z.w id (.box (cs.set j (.sc (.sl t) []))), rfl, hI2, rfl, hat.fr.keep hcar2, hat.kept.trans (mN hIz hput (by simp)), fun i hi => (hat.ids i hi).trans (hids i), ?_, hat.defers, ?_⟩
 ·show h0 ≤ (z.H.set id _).length
  have := hat.len; simp; omega
 ·show x0.H.length ≤ (z.H.set id _).length
  have := hat.low; simp; omega
theorem Good.growAt {x0 : Cx} {h0 : Nat} {fr : List AV} {H : List Ob} {a : Act} {w : World} (h : Good x0 h0 ⟨fr, H⟩ a w) (q : Nat × Option Nat × TypeId × Ty) : Good x0 h0 ⟨(growAt q fr H).1, (growAt q fr H).2⟩ a w ∧ H.length ≤ (growAt q fr H).2.length := by
 obtain ⟨s, o, e, t⟩ := q
 cases o with
 | none =>
  simp only [AI.growAt]
  split
  ·rename_i hs
   unfold dF
   cases Nat.beq e 0 with
   | true => exact ⟨h.data s t hs, by simp⟩
   | false => exact ⟨h.push s e t hs, by simp⟩
  ·exact ⟨h, NF _⟩
 | some j =>
  simp only [AI.growAt]
  split
  ·rename_i id off hs
   split
   ·rename_i cs hid
    split
    ·rename_i hj
     unfold dF
     cases Nat.beq e 0 with
     | true => exact ⟨h.dataBox id (off + j) t hid hj, by simp⟩
     | false => exact ⟨h.pushBox id (off + j) e t hid hj, by simp⟩
    ·exact ⟨h, NF _⟩
   ·exact ⟨h, NF _⟩
  ·exact ⟨h, NF _⟩
theorem Good.growAll {x0 : Cx} {h0 : Nat} {a : Act} {w : World} : ∀ (l : List (Nat × Option Nat × TypeId × Ty)) {fr : List AV} {H : List Ob}, Good x0 h0 ⟨fr, H⟩ a w → Good x0 h0 ⟨(growAll l fr H).1, (growAll l fr H).2⟩ a w ∧ H.length ≤ (growAll l fr H).2.length
 | [], fr, H, h => ⟨h, NF _⟩
 | q :: r, fr, H, h => by
  obtain ⟨h1, h2⟩ := h.growAt q
  obtain ⟨h3, h4⟩ := Good.growAll r h1
  exact ⟨h3, Nat.le_trans h2 h4⟩
end Go.Proofs.YtefddghdaimklaaGreatDoor.AI
