/- The plain laws of the runs: what pruning keeps. -/
import Derived.Test.YtfjmdgdopmfcjaaBf
set_option linter.unusedVariables false
set_option linter.unusedSimpArgs false
namespace Go.Proofs.Ytfjmdgdopmfcjaa.AI
open Go

def prR (fl : Int) : List dVersion → List dVersion
  | [] => []
  | v :: r => bif decide (v.1 > fl) then v :: prR fl r else bif v.2.1 then [] else [v]

theorem prune_below (k fl : Int) : ∀ (r : List dVersion) (i : Int), k < i → (∀ v ∈ r, v.1 ≤ fl) → pruneL k fl i r = []
  | [], i, _, _ => rfl
  | v :: r, i, hk, h => by
    have h1 := h v (by simp)
    have e1 : decide (v.1 > fl) = false := by simp; omega
    have e2 : (i == k) = false := by simp; omega
    unfold pruneL
    rw [e1, e2]
    exact prune_below k fl r (i + 1) (by omega) (fun u hu => h u (List.mem_cons_of_mem _ hu))

theorem prune_at (fl : Int) : ∀ (r : List dVersion) (i k : Int), 0 ≤ i → (match r.findIdx? (fun v => decide (v.1 ≤ fl)) with | some j => k = i + (j : Int) | none => k = -1) → (r.Pairwise fun a b => b.1 < a.1) → pruneL k fl i r = prR fl r
  | [], i, k, _, _, _ => rfl
  | v :: r, i, k, hi, hk, hp => by
    have hp1 := (List.pairwise_cons.1 hp).1
    have hp2 := (List.pairwise_cons.1 hp).2
    rw [List.findIdx?_cons] at hk
    unfold pruneL prR
    by_cases hv : v.1 ≤ fl
    · have e1 : decide (v.1 > fl) = false := by simp; omega
      have e2 : decide (v.1 ≤ fl) = true := by simp; omega
      rw [e2] at hk
      simp only [if_true] at hk
      have hk' : k = i := by simpa using hk
      subst hk'
      have e3 := prune_below k fl r (k + 1) (by omega) (fun u hu => by have := hp1 u hu; omega)
      rw [e1, e3]
      cases v.2.1 <;> simp
    · have e1 : decide (v.1 > fl) = true := by simp; omega
      have e2 : decide (v.1 ≤ fl) = false := by simp; omega
      rw [e2] at hk
      simp only [Bool.false_eq_true, if_false] at hk
      have := prune_at fl r (i + 1) k (by omega) (by
        cases hf : List.findIdx? (fun v => decide (v.1 ≤ fl)) r with
        | none => rw [hf] at hk; exact hk
        | some j => rw [hf] at hk; simp only [Option.map_some] at hk ⊢; omega) hp2
      rw [e1, this]; rfl

theorem pruneS_eq {l : List dVersion} (fl : Int) (h : l.Pairwise fun a b => b.1 < a.1) : pruneS l fl = prR fl l := by
  unfold pruneS
  refine prune_at fl l 0 _ (by omega) ?_ h
  unfold idxI
  cases List.findIdx? (fun v => decide (v.1 ≤ fl)) l with
  | none => rfl
  | some j => simp

theorem prR_mem (fl : Int) : ∀ (l : List dVersion) (v : dVersion), v ∈ prR fl l → v ∈ l
  | [], v, h => h
  | u :: r, v, h => by
    unfold prR at h
    cases h1 : decide (u.1 > fl) with
    | true =>
      rw [h1] at h
      rcases List.mem_cons.1 h with rfl | h
      · simp
      · exact List.mem_cons_of_mem _ (prR_mem fl r v h)
    | false =>
      rw [h1] at h
      cases h2 : u.2.1 with
      | true => rw [h2] at h; cases h
      | false =>
        rw [h2] at h
        rcases List.mem_cons.1 h with rfl | h
        · simp
        · cases h

theorem prR_may (fl : Int) : ∀ (l : List dVersion) (p : Option Int), mayP p l = true → mayP p (prR fl l) = true
  | [], p, h => h
  | v :: r, p, h => by
    unfold mayP at h
    rw [Bool.and_eq_true, Bool.and_eq_true] at h
    obtain ⟨⟨h1, h2⟩, h3⟩ := h
    have := prR_may fl r (some v.1) h3
    unfold prR
    cases decide (v.1 > fl) with
    | true =>
      show (mayV v && _ && mayP (some v.1) (prR fl r)) = true
      rw [h1, h2, this]; rfl
    | false =>
      cases v.2.1 with
      | true => rfl
      | false =>
        show (mayV v && _ && mayP (some v.1) []) = true
        rw [h1, h2]; rfl

theorem prR_twice (fl : Int) : ∀ (l : List dVersion), prR fl (prR fl l) = prR fl l
  | [] => rfl
  | v :: r => by
    have := prR_twice fl r
    cases h1 : decide (v.1 > fl) with
    | true => simp only [prR, h1, cond_true, this]
    | false =>
      cases h2 : v.2.1 with
      | true => simp only [prR, h1, h2, cond_true, cond_false]
      | false => simp only [prR, h1, h2, cond_true, cond_false]

def seenAt (l : List dVersion) (s : Int) : List dValue × Bool := match l.find? (fun v => decide (v.1 ≤ s)) with
    | some v => bif v.2.1 then ([], false) else (v.2.2, true)
    | none => ([], false)

theorem seen_cons (v : dVersion) (r : List dVersion) (s : Int) : seenAt (v :: r) s = bif decide (v.1 ≤ s) then (bif v.2.1 then ([], false) else (v.2.2, true)) else seenAt r s := by
  unfold seenAt
  rw [List.find?_cons]
  cases decide (v.1 ≤ s) <;> rfl

theorem prR_seen {fl s : Int} (hs : fl ≤ s) : ∀ (l : List dVersion), seenAt (prR fl l) s = seenAt l s
  | [] => rfl
  | v :: r => by
    have := prR_seen hs r
    rw [seen_cons v r]
    cases h1 : decide (v.1 > fl) with
    | true => simp only [prR, h1, cond_true, seen_cons, this]
    | false =>
      have h3 : decide (v.1 ≤ s) = true := by
        rw [decide_eq_true_iff]
        rw [decide_eq_false_iff_not] at h1
        omega
      cases h2 : v.2.1 with
      | true => simp only [prR, h1, h2, h3, cond_true, cond_false]; rfl
      | false => simp only [prR, h1, h2, h3, cond_true, cond_false, seen_cons]

theorem prR_len (fl : Int) : ∀ (l : List dVersion), (prR fl l).length ≤ l.length
  | [] => Nat.le_refl _
  | v :: r => by
    have := prR_len fl r
    unfold prR
    cases decide (v.1 > fl) with
    | true => simpa using this
    | false => cases v.2.1 <;> simp

theorem seeS_none (l : List dVersion) (s : Int) : seeS l (0, []) 0 s = seenAt l s := rfl

def topV : dVersion := (4611686018427387904, (false, []))

theorem F17_see {l : List dVersion} (hv : okV l = true) (s : Int) : F17 (l, (((0 : Int), []), ((0 : Int), s))) = some (seenAt l s) := by
  rw [F17_some (x := (l, (((0 : Int), []), ((0 : Int), s)))) hv rfl, seeS_none]
theorem F20_pair {l : List dVersion} (hv : okV l = true) (s : Int) : F20 (l, s) = some (pruneS l s, (l.length : Int) - ((pruneS l s).length : Int)) := F20_some (x := (l, s)) hv
theorem F29_top {l : List dVersion} (hv : okV l = true) (hb : (l.length + 1) * 40 ≤ 140737488355328) : F29 (l, ((4611686018427387904 : Int), (false, []))) = some (installS l topV) := F29_some (x := (l, topV)) hv rfl hb

theorem spec8 : ∀ (X : List dVersion × Int × Int) (Y : Bool), FL [(false, .sl tVersion), (false, .int .u64), (false, .int .u64)] X = some Y → ∃ n, f8.g n X = some Y := by
  intro x y h
  obtain ⟨hw, rfl⟩ := FL_some h
  have hv : okV x.1 = true := wf_okV hw.1
  have ho := okV_okL hv
  have hl := okL_iff.1 ho
  have hb := wf_room (t := tVersion) rfl hw.1
  refine ⟨0, ?_⟩
  unfold f8.g
  rw [F12_some ho, Option.bind_some]
  cases hm : mayP none x.1 with
  | false => rfl
  | true =>
    obtain ⟨m1, _, m3⟩ := mayP_pair x.1 none hm
    have e0 := pruneS_eq x.2.1 m3
    have hva : okV (prR x.2.1 x.1) = true := by rw [← e0]; exact prune_okV hv
    have hma := prR_may x.2.1 x.1 none hm
    obtain ⟨_, _, m3a⟩ := mayP_pair _ none hma
    have e1 : pruneS (prR x.2.1 x.1) x.2.1 = prR x.2.1 x.1 := (pruneS_eq x.2.1 m3a).trans (prR_twice _ _)
    have hlen := prR_len x.2.1 x.1
    have w1 : IntKind.wrap .i64 ((x.1.length : Int) - ((prR x.2.1 x.1).length : Int)) = (x.1.length : Int) - ((prR x.2.1 x.1).length : Int) := wrap_len (by omega) (by omega)
    have hba : ((prR x.2.1 x.1).length + 1) * 40 ≤ 140737488355328 := by omega
    have hsee : ∀ at_, x.2.1 ≤ at_ → seenAt (prR x.2.1 x.1) at_ = seenAt x.1 at_ := fun a h => prR_seen h x.1
    have hseeL : ∀ at_, okL (seenAt x.1 at_).1 = true := fun a => by rw [← seeS_none]; exact see_okL (x := (0, [])) hv rfl
    have tail : ((F29 (x.1, ((4611686018427387904 : Int), (false, [])))).bind fun r10 =>
                                    (F29 (prR x.2.1 x.1, ((4611686018427387904 : Int), (false, [])))).bind fun r11 =>
                                      bif r10.2 != (0 : Int) then
                                        (bif decide ((x.1.length : Int) > (0 : Int)) then
                                          (bif decide (0 ≤ (0 : Int)) && decide ((0 : Int) < (x.1.length : Int)) then
                                            (some ((x.1.getD 0 tVersion.dflt).1 == (4611686018427387904 : Int)))
                                          else
                                            (none))
                                        else
                                          (some false))
                                      else
                                        ((F20 (r10.1, x.2.1)).bind fun r12 =>
                                          (F20 (r11.1, x.2.1)).bind fun r13 =>
                                            bif r11.2 == (0 : Int) then
                                              ((F22 (r12.1, r13.1)).bind fun r14 =>
                                                bif r14 then
                                                  ((F13 ()).bind fun r15 =>
                                                    some r15)
                                                else
                                                  (some false))
                                            else
                                              (some false))) = some true := by
      rw [F29_top hv hb, F29_top hva hba, Option.bind_some, Option.bind_some]
      have i1 : installS x.1 topV = bif x.1.any (fun o => decide (o.1 ≥ topV.1)) then ([], 81) else (topV :: x.1, 0) := by
        unfold installS; rw [hm]; rfl
      have i2 : installS (prR x.2.1 x.1) topV = bif (prR x.2.1 x.1).any (fun o => decide (o.1 ≥ topV.1)) then ([], 81) else (topV :: prR x.2.1 x.1, 0) := by
        unfold installS; rw [hma]; rfl
      rw [i1, i2]
      cases ha : x.1.any (fun o => decide (o.1 ≥ topV.1)) with
      | true =>
        rw [any_head m3, Bool.and_eq_true] at ha
        have h1 : ((x.1.getD 0 tVersion.dflt).1 == (4611686018427387904 : Int)) = true := by
          have h2 : 0 < x.1.length := by have := of_decide_eq_true ha.1; omega
          have h3 : x.1.getD 0 tVersion.dflt = x.1[0] := by simp [List.getD, List.getElem?_eq_getElem h2]
          have h4 := m1 _ (List.getElem_mem h2)
          have h5 : (x.1.getD 0 tVersion.dflt).1 ≥ 4611686018427387904 := of_decide_eq_true ha.2
          rw [h3] at h5 ⊢
          simp only [mayV, maxStamp, Bool.and_eq_true, decide_eq_true_eq] at h4
          have h7 : x.1[0].1 ≤ 4611686018427387904 := of_decide_eq_true h4.1.2
          rw [beq_iff_eq]
          exact Int.le_antisymm h7 h5
        rw [cond_true, ha.1, h1]
        rfl
      | false =>
        have ha2 : (prR x.2.1 x.1).any (fun o => decide (o.1 ≥ topV.1)) = false := by
          rw [List.any_eq_false] at ha ⊢
          exact fun v hv => ha v (prR_mem _ _ v hv)
        have top : ∀ (l : List dVersion), l.any (fun o => decide (o.1 ≥ topV.1)) = false → ∀ v ∈ l, v.1 < topV.1 := fun l h v hv => by
          have := List.any_eq_false.1 h v hv
          simp at this; omega
        have p1 : pruneS (topV :: x.1) x.2.1 = prR x.2.1 (topV :: x.1) := pruneS_eq _ (List.pairwise_cons.2 ⟨top _ ha, m3⟩)
        have p2 : pruneS (topV :: prR x.2.1 x.1) x.2.1 = prR x.2.1 (topV :: prR x.2.1 x.1) := pruneS_eq _ (List.pairwise_cons.2 ⟨top _ ha2, m3a⟩)
        have p3 : prR x.2.1 (topV :: prR x.2.1 x.1) = prR x.2.1 (topV :: x.1) := by
          simp only [prR, prR_twice]
        have o1 : okV (topV :: x.1) = true := by
          have := install_okV (v := topV) hv rfl hb
          rwa [i1, ha] at this
        have o2 : okV (topV :: prR x.2.1 x.1) = true := by
          have := install_okV (v := topV) hva rfl hba
          rwa [i2, ha2] at this
        have o3 : okV (prR x.2.1 (topV :: x.1)) = true := by rw [← p1]; exact prune_okV o1
        rw [ha2, cond_false, cond_false, F20_pair o1, F20_pair o2, Option.bind_some, Option.bind_some, p1, p2, p3, F22_same o3]
        rfl
    have w2 : ((x.1.length : Int) - ((prR x.2.1 x.1).length : Int) != (x.1.length : Int) - ((prR x.2.1 x.1).length : Int)) = false := by simp
    have w3 : (((prR x.2.1 x.1).length : Int) - ((prR x.2.1 x.1).length : Int) != 0) = false := by simp
    simp only [Bool.not_true, cond_false, F20_pair hv, F20_pair hva, Option.bind_some, e0, e1, w1, w2, w3, F23_some (okV_okL hva), hma, cond_true, bne_self_eq_false, F17_see hv, F17_see hva, F22_same hva, tail]
    cases hc : decide (IntKind.wrap .u64 (x.2.1 + x.2.2) < x.2.1) with
    | true => simp only [cond_true, hsee _ (Int.le_refl _), beq_self_eq_true, Bool.not_true, cond_false, F45_same (hseeL _), Option.bind_some]
    | false =>
      have : x.2.1 ≤ IntKind.wrap .u64 (x.2.1 + x.2.2) := by rw [decide_eq_false_iff_not] at hc; omega
      simp only [hsee _ this, beq_self_eq_true, Bool.not_true, cond_false, F45_same (hseeL _), Option.bind_some]
theorem con8_ok : ConOk Try.prog 8 con8 := f8.ok spec8 con12_ok con13_ok con17_ok con20_ok con22_ok con23_ok con29_ok con45_ok

end Go.Proofs.Ytfjmdgdopmfcjaa.AI
