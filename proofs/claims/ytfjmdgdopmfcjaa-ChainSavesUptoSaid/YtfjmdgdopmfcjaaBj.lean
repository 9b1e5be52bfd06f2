/- The plain laws of the runs: what is written on a level and above it goes by Back. -/
import Derived.Test.YtfjmdgdopmfcjaaBi
set_option linter.unusedVariables false
set_option linter.unusedSimpArgs false
namespace Go.Proofs.Ytfjmdgdopmfcjaa.AI
open Go

theorem len_mass {α : Type} {f : α → Nat} (h : ∀ a, 1 ≤ f a) : ∀ l : List α, l.length ≤ (l.map f).sum
  | [] => Nat.le_refl _
  | a :: r => by
    have := h a
    have := len_mass h r
    simp only [List.map_cons, List.sum_cons, List.length_cons]
    omega
theorem mass_write (w : dWrite) : 1 ≤ tWrite.mass w := by
  show 1 ≤ 1 + _
  omega

structure SaveI (x : dIntent × Int × List dWrite) (i : Nat) (a : Int × dIntent) : Prop where
  txn : a.2.1 = x.1.1
  up : Up a.2.2
  top : ∀ v ∈ a.2.2, v.1 ≤ a.1
  lev : x.2.1 ≤ a.1
  ok : okWs a.2.2 = true
  len : a.2.2.length ≤ x.1.2.length + i
  low : (a.2.2.filter fun o => decide (o.1 < x.2.1)) = x.1.2.filter fun o => decide (o.1 < x.2.1)

theorem save_put {x : dIntent × Int × List dWrite} {i : Nat} {at_ : Int} {now : dIntent} (h : SaveI x i (at_, now)) (ht : 0 < x.1.1) (hl : 1 ≤ x.2.1) (hb : x.1.2.length + i < 3518437208883) {w : dWrite}
    (hw : at_ ≤ w.1) (hr : okL w.2.2 = true) (hg : (w.2.1 && decide ((w.2.2.length : Int) > 0)) = false) :
    ∃ next, F32 (now, w) = some (next, 0) ∧ SaveI x (i + 1) (w.1, next) := by
  have h1 : now.1 = x.1.1 := h.txn
  have h4 : x.2.1 ≤ at_ := h.lev
  have h6 : now.2.length ≤ x.1.2.length + i := h.len
  have hany : (now.2.any fun o => decide (o.1 > w.1)) = false := by
    rw [List.any_eq_false]
    intro v hv
    have : v.1 ≤ at_ := h.top v hv
    simp; omega
  have hbad : badW now w = false := by
    unfold badW
    rw [hg, decide_eq_false (show ¬ w.1 < 0 by omega), decide_eq_false (show ¬ now.1 < 1 by omega)]; rfl
  have hput : put1 now w = ((now.1, (now.2.filter fun o => decide (o.1 < w.1)) ++ [w]), 0) := by
    unfold put1
    rw [hbad, hany]
    simp only [Bool.or_self, cond_false]
    rw [putL_eq h.up hany]
  have hbn : (now.2.length + 1) * 40 ≤ 140737488355328 := by omega
  have hok := put_okWs (x := now) (w := w) h.up h.ok hr hbn
  rw [hput] at hok
  refine ⟨(now.1, (now.2.filter fun o => decide (o.1 < w.1)) ++ [w]), ?_, h1, ?_, ?_, ?_, hok, ?_, ?_⟩
  · rw [F32_some (x := (now, w)) h.ok hr hbn]
    exact congrArg some hput
  · refine up_snoc.2 ⟨List.Pairwise.filter _ h.up, fun v hv => ?_⟩
    exact of_decide_eq_true (List.mem_filter.1 hv).2
  · intro v hv
    rcases List.mem_append.1 hv with h' | h'
    · have := of_decide_eq_true (List.mem_filter.1 h').2
      show v.1 ≤ w.1
      omega
    · rw [List.mem_singleton] at h'; subst h'; exact Int.le_refl _
  · show x.2.1 ≤ w.1
    omega
  · have := List.length_filter_le (fun o : dWrite => decide (o.1 < w.1)) now.2
    show ((now.2.filter fun o => decide (o.1 < w.1)) ++ [w]).length ≤ _
    rw [List.length_append, List.length_singleton]
    omega
  · show (((now.2.filter fun o => decide (o.1 < w.1)) ++ [w]).filter fun o => decide (o.1 < x.2.1)) = _
    rw [List.filter_append, filter_none (l := [w]) (fun v hv => by rw [List.mem_singleton] at hv; subst hv; omega), List.append_nil, List.filter_filter, ← h.low]
    refine List.filter_congr (fun v hv => ?_)
    rw [Bool.and_comm]
    by_cases hv' : v.1 < x.2.1
    · rw [decide_eq_true hv', decide_eq_true (show v.1 < w.1 by omega)]; rfl
    · rw [decide_eq_false hv']; simp

theorem back_same {a b : dIntent} {s : Int} (h1 : a.1 = b.1) (h2 : (a.2.filter fun o => decide (o.1 < s)) = b.2.filter fun o => decide (o.1 < s)) : back2 a s = back2 b s := by
  unfold back2
  rw [h1, h2]

theorem see_last {x : dIntent} {t s : Int} (ht : 0 < t) (h1 : x.1 = t) (h2 : 0 < x.2.length) : seeS [] x t s = ((lastW x.2).2.2, !(lastW x.2).2.1) := by
  unfold seeS
  rw [h1, decide_eq_true (show t > 0 from ht), decide_eq_true (show ((x.2.length : Nat) : Int) > 0 by omega)]
  simp

theorem fold_last {x : dIntent} {s : Int} (hs : 1 ≤ s) (h2 : 0 < x.2.length) : (fold1 x s).2 = 0 ∧ (fold1 x s).1.1 = x.1 ∧ 0 < (fold1 x s).1.2.length ∧ (lastW (fold1 x s).1.2).2 = (lastW x.2).2 := by
  unfold fold1
  rw [decide_eq_false (show ¬ s < 1 by omega)]
  cases belowS x.2 s == x.2.length with
  | true => exact ⟨rfl, rfl, h2, rfl⟩
  | false =>
    refine ⟨rfl, rfl, ?_, ?_⟩
    · simp only [cond_false, List.length_append, List.length_singleton]; omega
    · simp only [cond_false, last_snoc]

theorem save_end {x : dIntent × Int × List dWrite} {i : Nat} {at_ : Int} {now : dIntent} (h : SaveI x i (at_, now)) (ht : 0 < x.1.1) (hl : 1 ≤ x.2.1) (hl2 : x.2.1 ≤ 9223372036854775807) (hux : Up x.1.2) (hb : x.1.2.length + i < 3518437208883) :
    (bif (now.2.length : Int) == (0 : Int) then
      ((F13 ()).bind fun r9 =>
        some r9)
    else
      ((F35 (now, x.2.1)).bind fun r10 =>
        (F17 ([], (now, (x.1.1, (1 : Int))))).bind fun r11 =>
          (F17 ([], (r10.1, (x.1.1, (1 : Int))))).bind fun r12 =>
            bif bif (r10.2 == (0 : Int)) then (r11.2 == r12.2) else false then
              ((F45 (r11.1, r12.1)).bind fun r13 =>
                bif r13 then
                  ((F37 (now, x.2.1)).bind fun r14 =>
                    (F34 (r14, back1 x.1 x.2.1)).bind fun r15 =>
                      bif r15 then
                        ((F13 ()).bind fun r16 =>
                          some r16)
                      else
                        (some false))
                else
                  (some false))
            else
              (some false))) = some true := by
  cases hz : (now.2.length : Int) == 0 with
  | true => rfl
  | false =>
    have hp : 0 < now.2.length := by
      rcases Nat.eq_zero_or_pos now.2.length with h0 | h0
      · rw [h0] at hz; cases hz
      · exact h0
    have h6 : now.2.length ≤ x.1.2.length + i := h.len
    have hb' : (now.2.length + 1) * 40 ≤ 140737488355328 := by omega
    obtain ⟨f1, f2, f3, f4⟩ := fold_last (x := now) hl hp
    have h1 : now.1 = x.1.1 := h.txn
    have ef : okWs (fold1 now x.2.1).1.2 = true := fold_okWs h.ok hb'
    have s1 := see_last (s := 1) ht h1 hp
    have s2 := see_last (s := 1) ht (f2.trans h1) f3
    rw [f4] at s2
    have e1 : back1 now x.2.1 = back1 x.1 x.2.1 := (back_eq h.up).trans ((back_same h1 h.low).trans (back_eq hux).symm)
    simp only [cond_false, F35_some (x := (now, x.2.1)) h.ok hb' (by show -9223372036854775808 ≤ x.2.1; omega) hl2, Option.bind_some]
    rw [F17_some (x := ([], (now, (x.1.1, (1 : Int))))) rfl h.ok, F17_some (x := ([], ((fold1 now x.2.1).1, (x.1.1, (1 : Int))))) rfl ef]
    simp only [Option.bind_some, s1, s2, f1, beq_self_eq_true, cond_true]
    rw [F45_same (okL_last h.ok hp)]
    simp only [Option.bind_some, cond_true, F37_some (x := (now, x.2.1)) h.ok, e1]
    rw [F34_same (by rw [← e1]; exact back_okWs h.ok)]
    rfl

theorem save_loop {x : dIntent × Int × List dWrite} (hux : Up x.1.2) (ht : 0 < x.1.1) (hl : 1 ≤ x.2.1) (hl2 : x.2.1 ≤ 9223372036854775807) (hws : okWs x.2.2 = true) (hb : x.1.2.length + x.2.2.length < 3518437208883) {now : dIntent} (h : SaveI x 0 (x.2.1, now)) (n : Nat) (r1 : Bool) :
    iter (f10.s1 n x r1 (back1 x.1 x.2.1)) (x.2.2.length + 1) (x.2.1, ((0 : Int), now)) = some true := by
  have ho := okWs_okL hws
  have := iter_all (step := f10.s1 n x r1 (back1 x.1 x.2.1)) x.2.2 (fun i (a : Int × dIntent) => (a.1, ((i : Int), a.2))) (fun i a => SaveI x i a) (fun _ _ _ => some true)
    (fun S a ha => by
      simp only [f10.s1, at_end, cond_false]
      exact save_end (at_ := a.1) ha ht hl hl2 hux hb) (fun S i a w r hi hw hr ha ih => by
      have hrow := okWs_at hws hw
      have hb2 : x.1.2.length + i < 3518437208883 := by omega
      simp only [f10.s1, at_lt hi, at_ge, at_get hw, at_next ho hi, Bool.and_self, cond_true]
      by_cases hlt : w.1 < a.1
      · rw [decide_eq_true hlt]
        simp only [cond_true]
        cases hg : w.2.1 with
        | true =>
          obtain ⟨nx, e1, e2⟩ := save_put (w := (a.1, (true, []))) ha ht hl hb2 (Int.le_refl _) rfl rfl
          simp only [cond_true, e1, Option.bind_some, bne_self_eq_false, cond_false]
          exact ih (a.1, nx) e2
        | false =>
          have hw2 : w.2 = (false, w.2.2) := by rw [← hg]
          obtain ⟨nx, e1, e2⟩ := save_put (w := (a.1, (false, w.2.2))) ha ht hl hb2 (Int.le_refl _) hrow rfl
          simp only [cond_false]
          rw [hw2, e1]
          simp only [Option.bind_some, bne_self_eq_false, cond_false]
          exact ih (a.1, nx) e2
      · rw [decide_eq_false hlt]
        simp only [cond_false]
        cases hg : w.2.1 with
        | true =>
          obtain ⟨nx, e1, e2⟩ := save_put (w := (w.1, (true, []))) ha ht hl hb2 (by show a.1 ≤ w.1; omega) rfl rfl
          simp only [cond_true, e1, Option.bind_some, bne_self_eq_false, cond_false]
          exact ih (w.1, nx) e2
        | false =>
          have hw2 : w = (w.1, (false, w.2.2)) := by rw [← hg]
          obtain ⟨nx, e1, e2⟩ := save_put (w := w) ha ht hl hb2 (by omega) hrow (by rw [hg]; rfl)
          simp only [cond_false, e1, Option.bind_some, bne_self_eq_false]
          exact ih (w.1, nx) e2) (x.2.1, now) h
  exact this

theorem spec10 : ∀ (X : dIntent × Int × List dWrite) (Y : Bool), FLB 1048576 [(true, tIntent), (false, .int .i64), (false, .sl tWrite)] X = some Y → ∃ n, f10.g n X = some Y := by
  intro x y h
  obtain ⟨hw, hm, rfl⟩ := FLB_some h
  have hi : tIntent.wf x.1 := hw.1
  have hlev : IntKind.min .i64 ≤ x.2.1 ∧ x.2.1 ≤ IntKind.max .i64 := hw.2.1
  have hl2 : x.2.1 ≤ 9223372036854775807 := hlev.2
  have hwl : okWs x.2.2 = true := wf_okWs hw.2.2
  have hws : okWs x.1.2 = true := wf_okWs hi.2
  have ho := okWs_okL hws
  have hmm : (1 + ((x.1.2.map tWrite.mass).sum + 1)) + (1 + ((x.2.2.map tWrite.mass).sum + 1)) ≤ 1048576 := hm
  have m1 := len_mass mass_write x.1.2
  have m2 := len_mass mass_write x.2.2
  have hb : x.1.2.length + x.2.2.length < 3518437208883 := by omega
  refine ⟨x.2.2.length + 1, ?_⟩
  unfold f10.g
  rw [F16_some ho, Option.bind_some]
  cases hmay : mayI x.1 with
  | false => rfl
  | true =>
    by_cases ht : x.1.1 = 0
    · have : (x.1.1 == 0) = true := by rw [ht]; rfl
      simp only [this, Bool.not_true, cond_false, cond_true, F13_some, Option.bind_some]
    · have e1 : (x.1.1 == 0) = false := by simp; exact ht
      by_cases hl : x.2.1 < 1
      · simp only [e1, decide_eq_true hl, Bool.not_true, cond_false, cond_true, F13_some, Option.bind_some]
      · have hl1 : 1 ≤ x.2.1 := by omega
        have hux := mayI_up hmay
        have hpos : 0 < x.1.1 := by
          unfold mayI at hmay
          simp only [Bool.and_eq_true, Bool.not_eq_true', Bool.or_eq_false_iff, decide_eq_false_iff_not] at hmay
          have := hmay.1.1
          omega
        simp only [e1, decide_eq_false hl, Bool.not_true, cond_false, F37_some (x := (x.1, x.2.1)) hws, Option.bind_some]
        have hb2 := back2_2 x.1 x.2.1
        have hbe : back1 x.1 x.2.1 = back2 x.1 x.2.1 := back_eq hux
        have hfl := List.length_filter_le (fun o : dWrite => decide (o.1 < x.2.1)) x.1.2
        cases hz : ((back1 x.1 x.2.1).2.length : Int) == 0 with
        | true =>
          have h0 : (x.1.2.filter fun o => decide (o.1 < x.2.1)) = [] := by
            rw [← hb2, ← hbe]
            have := eq_of_beq hz
            exact List.length_eq_zero_iff.1 (by omega)
          simp only [cond_true]
          exact save_loop hux hpos hl1 hl2 hwl hb (now := (x.1.1, [])) ⟨rfl, List.Pairwise.nil, fun v hv => (by cases hv), Int.le_refl _, rfl, Nat.zero_le _, by rw [h0]; rfl⟩ (x.2.2.length + 1) true
        | false =>
          simp only [cond_false]
          refine save_loop hux hpos hl1 hl2 hwl hb (now := back1 x.1 x.2.1) ⟨?_, ?_, ?_, Int.le_refl _, back_okWs hws, ?_, ?_⟩ (x.2.2.length + 1) true
          · show (back1 x.1 x.2.1).1 = x.1.1
            have : (belowS x.1.2 x.2.1 == 0) = false := by
              cases hq : belowS x.1.2 x.2.1 == 0 with
              | false => rfl
              | true => unfold back1 at hz; rw [hq] at hz; cases hz
            unfold back1
            rw [this]; rfl
          · show Up (back1 x.1 x.2.1).2
            rw [hbe, hb2]
            exact List.Pairwise.filter _ hux
          · show ∀ v ∈ (back1 x.1 x.2.1).2, v.1 ≤ x.2.1
            rw [hbe, hb2]
            intro v hv
            have := of_decide_eq_true (List.mem_filter.1 hv).2
            omega
          · show (back1 x.1 x.2.1).2.length ≤ _
            rw [hbe, hb2]
            omega
          · show ((back1 x.1 x.2.1).2.filter fun o => decide (o.1 < x.2.1)) = _
            rw [hbe, hb2, List.filter_filter]
            simp
theorem con10_ok : ConOk Try.prog 10 con10 := f10.ok spec10 con13_ok con16_ok con17_ok con32_ok con34_ok con35_ok con37_ok con45_ok

end Go.Proofs.Ytfjmdgdopmfcjaa.AI
