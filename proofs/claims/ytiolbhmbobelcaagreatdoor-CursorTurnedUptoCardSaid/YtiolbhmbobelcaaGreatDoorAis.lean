/- Whatever order is drawn. -/
import Derived.Test.YtiolbhmbobelcaaGreatDoorAir
set_option linter.unusedVariables false
set_option linter.unusedSimpArgs false
namespace Go.Proofs.YtiolbhmbobelcaaGreatDoor.AI
open Go

/-! ### What must stand ahead of what -/
def directs (o : Oper) : List Nat := (o.after.toList.filter fun e => Region.binds .any e).map (·.on)

def addNew (l : List Nat) : List Nat → List Nat
  | [] => l
  | x :: r => bif memN x l then addNew l r else addNew (x :: l) r

def closures : List Oper → List (List Nat) → List (List Nat)
  | [], acc => acc
  | o :: r, acc => closures r (acc ++ [addNew [] (directs o ++ (directs o).flatMap fun j => acc.getD j [])])

def drawOk (env : FuncId → Option Con) (pl : List Nat) (ops : Array Oper) : Bool :=
  let M := closures ops.toList []
  (List.range ops.size).all fun i =>
    match ops[i]? with
    | none => false
    | some o =>
      (directs o).all (fun j => Nat.blt j i) &&
      (M.getD i []).all (fun j => memN j (directs o) || (directs o).any fun m => memN j (M.getD m [])) &&
      (List.range i).all fun a => memN a (M.getD i []) || (match ops[a]? with
        | some oa => comm env pl ops oa o
        | none => false)

theorem memN_iff (d : Nat) : ∀ (l : List Nat), memN d l = true ↔ d ∈ l
  | [] => by simp [memN]
  | e :: r => by simp only [memN, Bool.or_eq_true, nbeq, List.mem_cons, memN_iff d r]

/-! ### The list that is drawn -/
theorem go_spec (ops : Array Oper) : ∀ (fuel t : Nat) (listed : Array Bool), listed.size = ops.size →
    (∀ i ∈ Region.linearise.go .any ops fuel t listed [], i < ops.size ∧ listed[i]? = some false) ∧ (Region.linearise.go .any ops fuel t listed []).Nodup ∧
    (∀ (A B : List Nat) (i : Nat) (o : Oper), Region.linearise.go .any ops fuel t listed [] = A ++ i :: B → ops[i]? = some o → ∀ j ∈ directs o, listed.getD j false = true ∨ j ∈ A) := by
  intro fuel
  induction fuel with
  | zero => intro t listed hs; simp [Region.linearise.go]
  | succ fuel ih =>
    intro t listed hs
    simp only [Region.linearise.go]
    split
    · rename_i i hi
      rw [linearise_go_acc]
      simp only [List.reverse_cons, List.reverse_nil, List.nil_append, List.singleton_append]
      have hmem := List.mem_of_getElem? hi
      simp only [List.mem_filter, List.mem_range, Bool.and_eq_true, Bool.not_eq_true'] at hmem
      obtain ⟨hlt, hun, hready⟩ := hmem
      have hlisted : listed[i]? = some false := by
        rw [Array.getElem?_eq_getElem (by omega)]
        have : listed.getD i true = listed[i]'(by omega) := by simp [Array.getD, show i < listed.size by omega]
        rw [← this, hun]
      obtain ⟨h1, h2, h3⟩ := ih (t / (List.filter (fun i => !listed.getD i true && ((ops[i]?).map (·.after.all fun e => !Region.binds .any e || listed.getD e.on false)).getD false) (List.range ops.size)).length) (listed.setIfInBounds i true) (by simp [hs])
      generalize hl : Region.linearise.go .any ops fuel _ (listed.setIfInBounds i true) [] = l at h1 h2 h3
      have hni : i ∉ l := fun hm => by
        have := (h1 i hm).2
        rw [Array.getElem?_setIfInBounds_self_of_lt (by omega)] at this
        cases this
      refine ⟨fun k hk => ?_, List.nodup_cons.2 ⟨hni, h2⟩, fun A B k o hAB ho j hj => ?_⟩
      · rcases List.mem_cons.1 hk with rfl | hk
        · exact ⟨hlt, hlisted⟩
        · obtain ⟨h4, h5⟩ := h1 k hk
          refine ⟨h4, ?_⟩
          rw [Array.getElem?_setIfInBounds_ne (fun e => hni (by rw [e]; exact hk))] at h5
          exact h5
      · cases A with
        | nil =>
          simp only [List.nil_append, List.cons.injEq] at hAB
          obtain ⟨rfl, _⟩ := hAB
          left
          rw [ho] at hready
          simp only [Option.map_some, Option.getD_some, Array.all_eq_true_iff_forall_mem, Bool.or_eq_true, Bool.not_eq_true'] at hready
          simp only [directs, List.mem_map, List.mem_filter] at hj
          obtain ⟨e, ⟨he, hb⟩, rfl⟩ := hj
          rcases hready e (by simpa using he) with h6 | h6
          · rw [hb] at h6; cases h6
          · exact h6
        | cons a A' =>
          simp only [List.cons_append, List.cons.injEq] at hAB
          obtain ⟨rfl, hAB⟩ := hAB
          rcases h3 A' B k o hAB ho j hj with h6 | h6
          · by_cases e : j = i
            · subst e; exact .inr (by simp)
            · left
              rw [← h6]
              simp only [Array.getD_eq_getD_getElem?]
              rw [Array.getElem?_setIfInBounds_ne (Ne.symm e)]
          · exact .inr (by simp [h6])
    · simp

theorem go_all (ops : Array Oper) (hdown : ∀ i o, ops[i]? = some o → ∀ j ∈ directs o, j < i) : ∀ (fuel t : Nat) (listed : Array Bool), listed.size = ops.size →
    ((List.range ops.size).filter fun i => !listed.getD i true).length ≤ fuel → ∀ i, i < ops.size → listed[i]? = some false → i ∈ Region.linearise.go .any ops fuel t listed [] := by
  intro fuel
  induction fuel with
  | zero =>
    intro t listed hs hf i hi hl
    have : i ∈ (List.range ops.size).filter fun i => !listed.getD i true := by
      simp [List.mem_filter, hi, Array.getD_eq_getD_getElem?, hl]
    have h0 := List.eq_nil_of_length_eq_zero (Nat.le_zero.1 hf)
    rw [h0] at this
    simp at this
  | succ fuel ih =>
    intro t listed hs hf i hi hl
    simp only [Region.linearise.go]
    -- the least that is not listed is ready
    have hready : (List.range ops.size).filter (fun i => !listed.getD i true && ((ops[i]?).map (·.after.all fun e => !Region.binds .any e || listed.getD e.on false)).getD false) ≠ [] := by
      have : ∀ n, n < ops.size → listed[n]? = some false → ∃ m, m < ops.size ∧ listed[m]? = some false ∧ ∀ k, k < m → listed[k]? = some true := by
        intro n
        induction n using Nat.strongRecOn with
        | _ n ihn =>
          intro hn hln
          by_cases hex : ∃ k, k < n ∧ listed[k]? = some false
          · obtain ⟨k, hk, hlk⟩ := hex
            exact ihn k hk (by omega) hlk
          · refine ⟨n, hn, hln, fun k hk => ?_⟩
            have hks : k < listed.size := by omega
            rw [Array.getElem?_eq_getElem hks]
            cases hb : listed[k] with
            | true => rfl
            | false => exact absurd ⟨k, hk, by rw [Array.getElem?_eq_getElem hks, hb]⟩ hex
      obtain ⟨m, hm, hlm, hall⟩ := this i hi hl
      intro he
      have hmem : m ∈ (List.range ops.size).filter (fun i => !listed.getD i true && ((ops[i]?).map (·.after.all fun e => !Region.binds .any e || listed.getD e.on false)).getD false) := by
        simp only [List.mem_filter, List.mem_range, Bool.and_eq_true, Bool.not_eq_true']
        refine ⟨hm, by simp [Array.getD_eq_getD_getElem?, hlm], ?_⟩
        have ho : ops[m]? = some ops[m] := Array.getElem?_eq_getElem hm
        rw [ho]
        simp only [Option.map_some, Option.getD_some, Array.all_eq_true_iff_forall_mem, Bool.or_eq_true, Bool.not_eq_true']
        intro e hem
        cases hb : Region.binds .any e with
        | false => exact .inl rfl
        | true =>
          right
          have := hdown m _ ho e.on (List.mem_map.2 ⟨e, List.mem_filter.2 ⟨by simpa using hem, hb⟩, rfl⟩)
          simp [Array.getD_eq_getD_getElem?, hall _ this]
      rw [he] at hmem
      simp at hmem
    generalize hrs : (List.range ops.size).filter (fun i => !listed.getD i true && ((ops[i]?).map (·.after.all fun e => !Region.binds .any e || listed.getD e.on false)).getD false) = rs at hready ⊢
    have hlt : t % rs.length < rs.length := Nat.mod_lt _ (List.length_pos_iff.2 hready)
    obtain ⟨p, hpget⟩ : ∃ p, rs[t % rs.length]? = some p := ⟨_, List.getElem?_eq_getElem hlt⟩
    rw [hpget]
    simp only
    rw [linearise_go_acc]
    simp only [List.reverse_cons, List.reverse_nil, List.nil_append, List.singleton_append, List.mem_cons]
    have hp := List.mem_of_getElem? hpget
    rw [← hrs] at hp
    simp only [List.mem_filter, List.mem_range, Bool.and_eq_true, Bool.not_eq_true'] at hp
    by_cases e : i = p
    · exact .inl e
    · right
      refine ih _ _ (by simp [hs]) ?_ i hi (by rw [Array.getElem?_setIfInBounds_ne (Ne.symm e)]; exact hl)
      have hsub : ((List.range ops.size).filter fun i => !(listed.setIfInBounds p true).getD i true) = ((List.range ops.size).filter fun i => !listed.getD i true).filter (fun i => i != p) := by
        rw [List.filter_filter]
        apply List.filter_congr
        intro k hk
        have hks : k < ops.size := List.mem_range.1 hk
        by_cases ek : k = p
        · subst ek
          simp [Array.getD_eq_getD_getElem?, Array.getElem?_setIfInBounds_self_of_lt (show k < listed.size by omega)]
        · simp [Array.getD_eq_getD_getElem?, Array.getElem?_setIfInBounds_ne (Ne.symm ek), ek]
      rw [hsub]
      have hin : p ∈ (List.range ops.size).filter fun i => !listed.getD i true := by
        simp only [List.mem_filter, List.mem_range, Bool.not_eq_true']
        exact ⟨hp.1, hp.2.1⟩
      have hlen : (((List.range ops.size).filter fun i => !listed.getD i true).filter (fun i => i != p)).length < ((List.range ops.size).filter fun i => !listed.getD i true).length := by
        apply List.length_filter_lt_length_iff_exists.2
        exact ⟨_, hin, by simp⟩
      omega

/-! ### Orders -/
section
variable {T : TypeId → Option TI} {h0 : Nat} {env : FuncId → Option Con} {inl : FuncId → List AV → List Ob → (AV → List Ob → Option (AV × List Ob)) → Option (AV × List Ob)} {pl : List Nat} {ops : Array Oper}

def Free (env : FuncId → Option Con) (pl : List Nat) (ops : Array Oper) (a i : Nat) : Prop := ∃ oa oi, ops[a]? = some oa ∧ ops[i]? = some oi ∧ comm env pl ops oa oi = true

theorem bubble (hm : Mono1 env) (i : Nat) (B : List Nat) : ∀ (A : List Nat) (st st' : St), runD T h0 env inl true pl ops (A ++ i :: B) st = some st' → (∀ a ∈ A, Free env pl ops a i) → runD T h0 env inl true pl ops (i :: (A ++ B)) st = some st'
  | [], st, st', h, _ => h
  | a :: A, st, st', h, hf => by
    obtain ⟨oa, oi, ha, hi, hc⟩ := hf a (by simp)
    simp only [List.cons_append, runD, ha] at h
    cases h1 : stepD T h0 env inl true pl ops.toList oa st with
    | none => simp [h1] at h
    | some s1 =>
      simp only [h1] at h
      have h2 := bubble hm i B A s1 st' h (fun b hb => hf b (by simp [hb]))
      simp only [runD, hi] at h2
      cases h3 : stepD T h0 env inl true pl ops.toList oi s1 with
      | none => simp [h3] at h2
      | some s2 =>
        simp only [h3] at h2
        obtain ⟨s, h4, h5⟩ := swap hm hc h1 h3
        simp only [List.cons_append, runD, hi, h4, ha, h5]
        exact h2

theorem any_order (hm : Mono1 env) (Bef : Nat → Nat → Prop) : ∀ (σ idx : List Nat) (st st' : St), σ.Perm idx → idx.Pairwise (· < ·) → σ.Pairwise (fun p q => ¬ Bef q p) →
    (∀ a i, a ∈ idx → i ∈ idx → a < i → Bef a i ∨ Free env pl ops a i) → runD T h0 env inl true pl ops idx st = some st' → runD T h0 env inl true pl ops σ st = some st'
  | [], idx, st, st', hp, _, _, _, h => by
    have : idx = [] := List.Perm.eq_nil hp.symm
    rw [this] at h; exact h
  | i :: σ, idx, st, st', hp, hs, ho, hf, h => by
    have hi : i ∈ idx := hp.subset (by simp)
    obtain ⟨A, B, rfl⟩ := List.append_of_mem hi
    have hp2 : σ.Perm (A ++ B) := (List.perm_cons i).1 (hp.trans List.perm_middle)
    have hs' := List.pairwise_append.1 hs
    have ho' := List.pairwise_cons.1 ho
    have hb := bubble hm i B A st st' h (fun a ha => by
      rcases hf a i (by simp [ha]) (by simp) (hs'.2.2 a ha i (by simp)) with h1 | h1
      · exact absurd h1 (ho'.1 a (hp2.symm.subset (by simp [ha])))
      · exact h1)
    have hsub : (A ++ B).Pairwise (· < ·) := by
      refine hs.sublist ?_
      exact List.Sublist.append_left (List.sublist_cons_self i B) A
    simp only [runD] at hb ⊢
    split at hb
    · rename_i hn
      exact any_order hm Bef σ (A ++ B) st st' hp2 hsub ho'.2 (fun a j ha hj => hf a j (by simp at ha ⊢; rcases ha with h | h <;> simp [h]) (by simp at hj ⊢; rcases hj with h | h <;> simp [h])) hb
    · rename_i o hn
      split at hb
      · rename_i s hst
        exact any_order hm Bef σ (A ++ B) s st' hp2 hsub ho'.2 (fun a j ha hj => hf a j (by simp at ha ⊢; rcases ha with h | h <;> simp [h]) (by simp at hj ⊢; rcases hj with h | h <;> simp [h])) hb
      · cases hb

theorem idxOf_lt {A B : List Nat} {i j : Nat} (hn : (A ++ i :: B).Nodup) (hj : j ∈ A) : (A ++ i :: B).idxOf j < (A ++ i :: B).idxOf i := by
  have hni : i ∉ A := fun h => by
    have := (List.nodup_append.1 hn).2.2 i h i (by simp)
    exact this rfl
  rw [List.idxOf_append, if_pos hj, List.idxOf_append, if_neg hni, List.idxOf_cons_self]
  have := List.idxOf_lt_length_of_mem hj
  omega

theorem idxOf_cons_other {a b : Nat} {l : List Nat} (h : a ≠ b) : (a :: l).idxOf b = l.idxOf b + 1 := by
  rw [List.idxOf_cons]
  have : (a == b) = false := by simpa using h
  rw [this]; rfl

theorem pairwise_idx : ∀ (l : List Nat), l.Nodup → l.Pairwise fun p q => l.idxOf p < l.idxOf q
  | [], _ => List.Pairwise.nil
  | a :: l, h => by
    obtain ⟨h1, h2⟩ := List.nodup_cons.1 h
    refine List.pairwise_cons.2 ⟨fun q hq => ?_, ?_⟩
    · rw [List.idxOf_cons_self, idxOf_cons_other (fun e => h1 (by rw [e]; exact hq))]; omega
    · refine (pairwise_idx l h2).imp_of_mem ?_
      intro p q hp hq hlt
      rw [idxOf_cons_other (fun e => h1 (by rw [e]; exact hp)), idxOf_cons_other (fun e => h1 (by rw [e]; exact hq))]; omega

/-- A region whose order is open comes, in whatever order is drawn, to the text's state. -/
theorem draw_any (hm : Mono1 env) (hd : drawOk env pl ops = true) {st st' : St} (h : runD T h0 env inl true pl ops (List.range ops.size) st = some st') (t : Nat) :
    runD T h0 env inl true pl ops (Region.linearise .any ops t) st = some st' := by
  unfold drawOk at hd
  simp only [List.all_eq_true, List.mem_range] at hd
  generalize hM : closures ops.toList [] = M at hd
  have hdd : ∀ i o, ops[i]? = some o → (∀ j ∈ directs o, j < i) ∧ (∀ j ∈ M.getD i [], j ∈ directs o ∨ ∃ m ∈ directs o, j ∈ M.getD m []) ∧ ∀ a, a < i → a ∈ M.getD i [] ∨ ∃ oa, ops[a]? = some oa ∧ comm env pl ops oa o = true := by
    intro i o ho
    have hlt := (Array.getElem?_eq_some_iff.1 ho).1
    have := hd i hlt
    simp only [ho, Bool.and_eq_true, List.all_eq_true, Bool.or_eq_true, List.any_eq_true, memN_iff, List.mem_range] at this
    obtain ⟨⟨h1, h2⟩, h3⟩ := this
    refine ⟨fun j hj => by have := h1 j hj; simp [Nat.blt] at this; omega, h2, fun a ha => ?_⟩
    rcases h3 a ha with h4 | h4
    · exact .inl h4
    · split at h4
      · rename_i oa hoa; exact .inr ⟨oa, hoa, h4⟩
      · cases h4
  have hdown : ∀ i o, ops[i]? = some o → ∀ j ∈ directs o, j < i := fun i o ho => (hdd i o ho).1
  have hsz : (Array.replicate ops.size false).size = ops.size := by simp
  obtain ⟨g1, g2, g3⟩ := go_spec ops ops.size t (Array.replicate ops.size false) hsz
  have g4 := go_all ops hdown ops.size t (Array.replicate ops.size false) hsz (Nat.le_trans (List.length_filter_le _ _) (by simp))
  have hlin : Region.linearise .any ops t = Region.linearise.go .any ops ops.size t (Array.replicate ops.size false) [] := rfl
  rw [hlin]
  generalize hl : Region.linearise.go .any ops ops.size t (Array.replicate ops.size false) [] = l at g1 g2 g3 g4
  have hperm : l.Perm (List.range ops.size) := by
    refine (List.perm_ext_iff_of_nodup g2 List.nodup_range).2 (fun a => ?_)
    rw [List.mem_range]
    exact ⟨fun ha => (g1 a ha).1, fun ha => g4 a ha (by simp [ha])⟩
  -- what must stand ahead stands ahead
  have hpos : ∀ i, i < ops.size → ∀ j ∈ M.getD i [], l.idxOf j < l.idxOf i := by
    intro i
    induction i using Nat.strongRecOn with
    | _ i ih =>
      intro hi j hj
      have ho : ops[i]? = some ops[i] := Array.getElem?_eq_getElem hi
      have hmem : i ∈ l := g4 i hi (by simp [hi])
      obtain ⟨A, B, rfl⟩ := List.append_of_mem hmem
      have direct : ∀ k ∈ directs ops[i], (A ++ i :: B).idxOf k < (A ++ i :: B).idxOf i := fun k hk => by
        rcases g3 A B i _ rfl ho k hk with h1 | h1
        · have hk2 : k < i := hdown i _ ho k hk
          simp [Array.getD_eq_getD_getElem?, show k < ops.size by omega] at h1
        · exact idxOf_lt g2 h1
      rcases (hdd i _ ho).2.1 j hj with h1 | ⟨m, hm1, hm2⟩
      · exact direct j h1
      · have hmi := hdown i _ ho m hm1
        exact Nat.lt_trans (ih m hmi (by omega) j hm2) (direct m hm1)
  refine any_order hm (fun a i => a ∈ M.getD i []) l (List.range ops.size) st st' hperm List.pairwise_lt_range ?_ (fun a i ha hi hlt => ?_) h
  · refine (pairwise_idx l g2).imp_of_mem ?_
    intro p q hp hq hlt hb
    have := hpos p (g1 p hp).1 q hb
    omega
  · have hi' : i < ops.size := List.mem_range.1 hi
    have ho : ops[i]? = some ops[i] := Array.getElem?_eq_getElem hi'
    rcases (hdd i _ ho).2.2 a hlt with h1 | ⟨oa, h1, h2⟩
    · exact .inl h1
    · exact .inr ⟨oa, _, h1, ho, h2⟩
end

end Go.Proofs.YtiolbhmbobelcaaGreatDoor.AI
