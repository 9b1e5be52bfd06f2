/- A region whose order is open: whatever order the edges allow comes to the text's state. -/
import Derived.Test.YtiolbhmbobelcaaGreatDoorAip
import Derived.Orders
set_option linter.unusedVariables false
set_option linter.unusedSimpArgs false
namespace Go.Proofs.YtiolbhmbobelcaaGreatDoor.AI
open Go

theorem plain_kill (ks : List Nat) : ∀ (v : AV), plainV v = true → killV ks v = v := by
  have one : ∀ (i : Nat) (c : C), plainC c = true → Sub.c (.kill i) c = c := fun i c h => by cases c <;> first | rfl | (simp [plainC] at h)
  have onev : ∀ (i : Nat) (v : AV), plainV v = true → Sub.v (.kill i) v = v := fun i v h => by
    cases v with
    | val g cs =>
      simp only [Sub.v]
      congr 1
      conv => rhs; rw [← List.map_id cs]
      exact List.map_congr_left fun c hc => one i c (List.all_eq_true.1 h c hc)
    | tup l =>
      simp only [Sub.v]
      congr 1
      conv => rhs; rw [← List.map_id l]
      refine List.map_congr_left fun p hp => ?_
      have := List.all_eq_true.1 h p hp
      show (p.1, p.2.map (Sub.c (.kill i))) = p
      have e : p.2.map (Sub.c (.kill i)) = p.2 := by
        conv => rhs; rw [← List.map_id p.2]
        exact List.map_congr_left fun c hc => one i c (List.all_eq_true.1 this c hc)
      rw [e]
    | skip => rfl
    | undef => rfl
  induction ks with
  | nil => intro v _; rfl
  | cons i r ih => intro v h; rw [killV, onev i v h]; exact ih v h

theorem plain_subs : ∀ (l : List Sub), (∀ s ∈ l, ∃ i t xs, s = .give i t xs) → ∀ (v : AV), plainV v = true → subsV l v = v
  | [], _, v, _ => rfl
  | s :: r, hs, v, h => by
    obtain ⟨i, t, xs, rfl⟩ := hs s (by simp)
    have one : ∀ (c : C), plainC c = true → Sub.c (.give i t xs) c = c := fun c h => by cases c <;> first | rfl | (simp [plainC] at h)
    have onev : Sub.v (.give i t xs) v = v := by
      cases v with
      | val g cs =>
        simp only [Sub.v]
        congr 1
        conv => rhs; rw [← List.map_id cs]
        exact List.map_congr_left fun c hc => one c (List.all_eq_true.1 h c hc)
      | tup l =>
        simp only [Sub.v]
        congr 1
        conv => rhs; rw [← List.map_id l]
        refine List.map_congr_left fun p hp => ?_
        have := List.all_eq_true.1 h p hp
        show (p.1, p.2.map (Sub.c (.give i t xs))) = p
        have e : p.2.map (Sub.c (.give i t xs)) = p.2 := by
          conv => rhs; rw [← List.map_id p.2]
          exact List.map_congr_left fun c hc => one c (List.all_eq_true.1 this c hc)
        rw [e]
      | skip => rfl
      | undef => rfl
    rw [subsV, onev]
    exact plain_subs r (fun s hs' => hs s (by simp [hs'])) v h

theorem sealV_give : ∀ (ids : List Nat) (H : List Ob), ∀ s ∈ sealV ids H, ∃ i t xs, s = .give i t xs
  | [], H, s, h => by simp [sealV] at h
  | i :: r, H, s, h => by
    simp only [sealV] at h
    split at h
    · rename_i e t xs _
      rcases List.mem_cons.1 h with rfl | h
      · exact ⟨i, t, xs, rfl⟩
      · exact sealV_give r _ s h
    · exact sealV_give r _ s h

section
variable {T : TypeId → Option TI} {h0 : Nat} {env : FuncId → Option Con} {inl : FuncId → List AV → List Ob → (AV → List Ob → Option (AV × List Ob)) → Option (AV × List Ob)}

/-- What reads, reads the same where an object more stands. -/
theorem get_app {H : List Ob} {i : Nat} {o : Ob} (ob : Ob) (h : H[i]? = some o) : (H ++ [ob])[i]? = some o := by
  rw [List.getElem?_append_left (List.getElem?_eq_some_iff.1 h).1]; exact h

theorem loadA_app {t : TypeId} {H : List Ob} {a v : AV} (ob : Ob) (h : loadA T t H a = some v) : loadA T t (H ++ [ob]) a = some v := by
  unfold loadA at h ⊢
  split at h
  · cases ht : T t with
    | none => simp [ht] at h
    | some ti =>
      simp only [ht] at h ⊢
      split at h
      · rename_i cs hc; rw [get_app ob hc]; exact h
      · cases h
  · exact h
  · cases ht : T t with
    | none => simp [ht] at h
    | some ti =>
      simp only [ht] at h ⊢
      split at h
      · rename_i e ty xs hc; rw [get_app ob hc]; exact h
      · cases h
  · cases h

theorem lenC_app {H : List Ob} {c : C} {n : Int} (ob : Ob) (h : lenC H c = some n) : lenC (H ++ [ob]) c = some n := by
  unfold lenC at h ⊢
  split at h
  · exact h
  · exact h
  · exact h
  · split at h
    · rename_i hc; simp only [get_app ob hc]; exact h
    · cases h
  · cases h

/-- Operations that touch no object. -/
theorem softA_cls0 {op : Op} (hs : isSoft op = true) (hc : cls env op = 0) (ev : Operand → AV) (H H2 : List Ob) : softA T op ev H = softA T op ev H2 := by
  cases op <;> first | rfl | (simp [cls] at hc; done) | skip
  case makeFunc f a b => cases f <;> rfl
  case call c =>
    simp only [cls] at hc
    split at hc <;> first | (simp at hc; done) | skip
    split at hc
    · rename_i con _; cases hm : Nat.beq con.mode 1 <;> simp [hm] at hc
    · simp at hc

theorem softA_cls1 {op : Op} (hs : isSoft op = true) (hc : cls env op = 1) {ev : Operand → AV} {H : List Ob} {v : AV} (ob : Ob) (h : softA T op ev H = some v) : softA T op ev (H ++ [ob]) = some v := by
  cases op <;> first | (simp [cls] at hc; done) | (simp [isSoft] at hs; done) | skip
  case load t a => exact loadA_app ob h
  case call c =>
    simp only [softA] at h ⊢
    split at h
    · rename_i a t hcal hargs hts
      split at h
      · rename_i cc e b1 b2 b3 b4 h1 h2
        split at h
        · rename_i n hn
          rw [lenC_app ob hn]; exact h
        · cases h
      · exact h
      · cases h
    · cases h

theorem isSoft_pick {op : Op} {c a b : Operand} (h : op = .pick c a b) : cls env op = 0 := by subst h; rfl

theorem softD_cls0 {op : Op} (hs : isSoft op = true) (hc : cls env op = 0) (fr : List AV) (H H2 : List Ob) : softD T op fr H = softD T op fr H2 := by
  unfold softD
  split
  · rfl
  · exact softA_cls0 hs hc _ _ _

theorem softD_cls1 {op : Op} (hs : isSoft op = true) (hc : cls env op = 1) {fr : List AV} {H : List Ob} {v : AV} (ob : Ob) (h : softD T op fr H = some v) : softD T op fr (H ++ [ob]) = some v := by
  unfold softD at h ⊢
  split at h
  · exact h
  · exact softA_cls1 hs hc ob h

theorem softD_congr {op : Op} {fr fr2 : List AV} (h : ∀ o ∈ op.operands.toList, evA fr2 o = evA fr o) (H : List Ob) : softD T op fr2 H = softD T op fr H := by
  unfold softD
  split
  · rename_i c a b
    rw [h c (by simp [Op.operands]), h a (by simp [Op.operands]), h b (by simp [Op.operands])]
  · exact softA_congr T h H

theorem indexK_H {size : Nat} {H : List Ob} {x : C} {i : Int} {v : AV} {H' : List Ob} (h : indexK size H x i (fun v h => some (v, h)) = some (v, H')) : H' = H ∧ ∀ ob, indexK size (H ++ [ob]) x i (fun v h => some (v, h)) = some (v, H ++ [ob]) := by
  unfold indexK at h ⊢
  split at h
  · rename_i t xs
    split at h
    · rename_i hs
      cases hb : (decide (0 ≤ i) && decide (i < (xs.length : Int))) with
      | false => simp [hb] at h
      | true =>
        simp only [hb, cond_true, Option.some.injEq, Prod.mk.injEq] at h
        obtain ⟨rfl, rfl⟩ := h
        exact ⟨rfl, fun ob => by simp only [hs, if_true, hb, cond_true]⟩
    · cases h
  · rename_i id n
    split at h
    · rename_i e t xs hx
      split at h
      · rename_i hs
        cases hb : (decide (0 ≤ i) && decide (i < (n : Int))) with
        | false => simp [hb] at h
        | true =>
          simp only [hb, cond_true, Option.some.injEq, Prod.mk.injEq] at h
          obtain ⟨rfl, rfl⟩ := h
          exact ⟨rfl, fun ob => by simp only [get_app ob hx, hs, if_true, hb, cond_true]⟩
      · cases h
    · cases h
  · cases h

theorem bif_some {α : Type} {c : Bool} {v w : α} (h : (bif c then some v else none) = some w) : c = true ∧ v = w := by
  cases c
  · cases h
  · exact ⟨rfl, Option.some.inj h⟩

theorem bif_some2 {α : Type} {c : Bool} {A : Option α} {w : α} (h : (bif c then A else none) = some w) : c = true ∧ A = some w := by
  cases c
  · cases h
  · exact ⟨rfl, h⟩

theorem sliceK_H {size : Nat} {H : List Ob} {x : C} {lo hi : Option Int} {v : AV} {H' : List Ob} (h : sliceK size H x lo hi (fun v h => some (v, h)) = some (v, H')) : H' = H ∧ ∀ ob, sliceK size (H ++ [ob]) x lo hi (fun v h => some (v, h)) = some (v, H ++ [ob]) := by
  unfold sliceK at h ⊢
  split at h
  · split at h
    · rename_i hs
      simp only [hs, if_true]
      split at h
      · cases h; exact ⟨rfl, fun _ => rfl⟩
      · obtain ⟨h1, h2⟩ := bif_some h; cases h2; exact ⟨rfl, fun _ => by simp only [h1, cond_true]⟩
      · obtain ⟨h1, h2⟩ := bif_some h; cases h2; exact ⟨rfl, fun _ => by simp only [h1, cond_true]⟩
      · obtain ⟨h1, h2⟩ := bif_some h; cases h2; exact ⟨rfl, fun _ => by simp only [h1, cond_true]⟩
    · cases h
  · split at h
    · rename_i e t xs hx
      split at h
      · rename_i hs
        split at h
        · cases h; exact ⟨rfl, fun ob => by simp only [get_app ob hx, hs, if_true]⟩
        · obtain ⟨h1, h2⟩ := bif_some h; cases h2; exact ⟨rfl, fun ob => by simp only [get_app ob hx, hs, if_true, h1, cond_true]⟩
        · cases h
      · cases h
    · cases h
  · split at h
    · obtain ⟨h1, h2⟩ := bif_some h; cases h2; exact ⟨rfl, fun _ => by simp only [h1, cond_true]⟩
    · cases h
  · cases h

theorem sliceS_H {H : List Ob} {s : ByteArray} {lo hi : Option Int} {v : AV} {H' : List Ob} (h : sliceS H s lo hi (fun v h => some (v, h)) = some (v, H')) : H' = H ∧ ∀ H2, sliceS H2 s lo hi (fun v h => some (v, h)) = some (v, H2) := by
  unfold sliceS at h ⊢
  split at h
  · cases h; exact ⟨rfl, fun _ => rfl⟩
  · obtain ⟨h1, h2⟩ := bif_some h; cases h2; exact ⟨rfl, fun _ => by simp only [h1, cond_true]⟩
  · obtain ⟨h1, h2⟩ := bif_some h; cases h2; exact ⟨rfl, fun _ => by simp only [h1, cond_true]⟩
  · obtain ⟨h1, h2⟩ := bif_some h; cases h2; exact ⟨rfl, fun _ => by simp only [h1, cond_true]⟩

/-- What hard operations of each class do to the objects. -/
theorem hard_cls0 {op : Op} (hs : isSoft op = false) (hc : cls env op = 0) {ev : Operand → AV} {H : List Ob} {v : AV} {H' : List Ob} (h : hardK T h0 env inl op ev H (fun v h => some (v, h)) = some (v, H')) :
    H' = H ∧ ∀ H2, hardK T h0 env inl op ev H2 (fun v h => some (v, h)) = some (v, H2) := by
  cases op <;> first | (simp [cls] at hc; done) | (simp [isSoft] at hs; done) | skip
  case slice t x lo hi mx => cases mx <;> simp [cls] at hc
  case build t parts =>
    simp only [hardK] at h ⊢
    split at h
    · split at h
      · rename_i cs hcs; cases h; exact ⟨rfl, fun H2 => rfl⟩
      · cases h
    · split at h
      · split at h
        · rename_i cs hcs; cases h; exact ⟨rfl, fun H2 => by simp only [hcs]⟩
        · cases h
      · cases h
    · cases h
  case convert s d x =>
    simp only [hardK, convK_bind] at h ⊢
    obtain ⟨z, hz, e⟩ := Option.bind_eq_some_iff.1 h
    cases e
    exact ⟨rfl, fun H2 => by rw [hz]; rfl⟩
  case binOp b t x y u =>
    simp only [hardK] at h ⊢
    split at h
    · simp only [subK_bind] at h ⊢
      obtain ⟨z, hz, e⟩ := Option.bind_eq_some_iff.1 h
      cases e
      exact ⟨rfl, fun H2 => by rw [hz]; rfl⟩
    · simp only [addK_bind] at h ⊢
      obtain ⟨z, hz, e⟩ := Option.bind_eq_some_iff.1 h
      cases e
      exact ⟨rfl, fun H2 => by rw [hz]; rfl⟩
    · simp only [quoK_bind] at h ⊢
      obtain ⟨z, hz, e⟩ := Option.bind_eq_some_iff.1 h
      cases e
      exact ⟨rfl, fun H2 => by rw [hz]; rfl⟩
    · simp only [remK_bind] at h ⊢
      obtain ⟨z, hz, e⟩ := Option.bind_eq_some_iff.1 h
      cases e
      exact ⟨rfl, fun H2 => by rw [hz]; rfl⟩
    · simp only [mulK_bind] at h ⊢
      obtain ⟨z, hz, e⟩ := Option.bind_eq_some_iff.1 h
      cases e
      exact ⟨rfl, fun H2 => by rw [hz]; rfl⟩
    · simp only [shiftK_bind] at h ⊢
      obtain ⟨z, hz, e⟩ := Option.bind_eq_some_iff.1 h
      cases e
      exact ⟨rfl, fun H2 => by rw [hz]; rfl⟩
    · simp only [shiftK_bind] at h ⊢
      obtain ⟨z, hz, e⟩ := Option.bind_eq_some_iff.1 h
      cases e
      exact ⟨rfl, fun H2 => by rw [hz]; rfl⟩
    · cases h
  case index t x i =>
    simp only [hardK] at h ⊢
    split at h
    · obtain ⟨h1, h2⟩ := bif_some h; cases h2; exact ⟨rfl, fun _ => by simp only [h1, cond_true]⟩
    · cases h
  case call c =>
    simp only [cls] at hc
    split at hc <;> first | (simp at hc; done) | skip
    split at hc
    · rename_i con _; cases hm : Nat.beq con.mode 1 <;> simp [hm] at hc
    · simp at hc

theorem hard_cls1 (hm : ∀ f c, env f = some c → c.mode = 1 → ∀ (args : List AV) (H l : List Ob) (X : c.X), c.look (args.map (roV H)) H = some X → c.look (args.map (roV (H ++ l))) (H ++ l) = some X)
    {op : Op} (hs : isSoft op = false) (hc : cls env op = 1) {ev : Operand → AV} (hfun : ∀ f, ev (.func f) = .val false [.fn f []]) {H : List Ob} {v : AV} {H' : List Ob} (h : hardK T h0 env inl op ev H (fun v h => some (v, h)) = some (v, H')) :
    H' = H ∧ ∀ ob, hardK T h0 env inl op ev (H ++ [ob]) (fun v h => some (v, h)) = some (v, H ++ [ob]) := by
  cases op <;> first | (simp [cls] at hc; done) | (simp [isSoft] at hs; done) | skip
  case indexAddr t x i =>
    simp only [hardK] at h ⊢
    split at h
    · split at h
      · exact indexK_H h
      · cases h
    · split at h
      · rw [arrK_bind] at h
        obtain ⟨q, hq, h2⟩ := Option.bind_eq_some_iff.1 h
        simp only [Option.some.injEq, Prod.mk.injEq] at h2
        obtain ⟨rfl, rfl⟩ := h2
        exact ⟨rfl, fun ob => by rw [arrK_bind, hq]; rfl⟩
      · cases h
    · cases h
  case slice t x lo hi mx =>
    simp only [hardK] at h ⊢
    split at h
    · split at h
      · split at h
        · obtain ⟨h1, h2⟩ := sliceS_H h; exact ⟨h1, fun ob => h2 _⟩
        · cases h
      · split at h
        · split at h
          · exact sliceK_H h
          · rename_i hmx
            cases mx with
            | none => cases hmx
            | some m => simp [cls] at hc
        · cases h
      · cases h
    · cases h
  case call c =>
    simp only [cls] at hc
    split at hc <;> first | (simp at hc; done) | skip
    · rename_i hcal; simp [isSoft, hcal] at hs
    · rename_i g hcal
      split at hc
      · rename_i con hcon
        cases hmode : Nat.beq con.mode 1 with
        | false => simp [hmode] at hc
        | true =>
          simp only [hardK, hcal, hfun, callK, hcon, hmode, cond_true] at h ⊢
          have hm1 : con.mode = 1 := Nat.eq_of_beq_eq_true hmode
          split at h
          · rename_i X hX
            cases hF : con.F X with
            | none => simp [hF] at h
            | some Y =>
              simp only [hF, Option.bind_some, Option.some.injEq, Prod.mk.injEq] at h
              obtain ⟨rfl, rfl⟩ := h
              refine ⟨rfl, fun ob => ?_⟩
              have hconv : ∀ (H : List Ob) (l : List AV), conv H con.mode l = l.map (roV H) := fun H l => by simp [conv, hmode]
              rw [hconv] at hX ⊢
              rw [hm g con hcon hm1 _ H [ob] X hX]
              simp only [hF, Option.bind_some]
          · cases h
      · simp at hc

theorem hard_cls2 {op : Op} (hc : cls env op = 2) {ev : Operand → AV} {H : List Ob} {v : AV} {H' : List Ob} (h : hardK T h0 env inl op ev H (fun v h => some (v, h)) = some (v, H')) : ∃ ob, H' = H ++ [ob] := by
  cases op <;> first | (simp [cls] at hc; done) | skip
  case slice t x lo hi mx => cases mx <;> simp [cls] at hc
  case alloc t => simp only [hardK] at h; split at h <;> cases h; exact ⟨_, rfl⟩
  case box t x => simp only [hardK] at h; split at h <;> cases h; exact ⟨_, rfl⟩
  case buildSlice t len parts =>
    simp only [hardK] at h
    split at h
    · split at h
      · split at h
        · split at h
          · cases h; exact ⟨_, rfl⟩
          · cases h
        · cases h
      · cases h
    · cases h
  case makeSlice t l c =>
    simp only [hardK] at h
    split at h
    · split at h
      · split at h
        · obtain ⟨_, h2⟩ := bif_some2 h
          cases h2; exact ⟨_, rfl⟩
        · cases h
      · cases h
    · cases h
  case call c =>
    simp only [cls] at hc
    split at hc <;> first | (simp at hc; done) | skip
    split at hc
    · rename_i con _; cases hm : Nat.beq con.mode 1 <;> simp [hm] at hc
    · simp at hc

theorem kills_low {op : Op} (hc : cls env op ≤ 2) (ev : Operand → AV) (hfun : ∀ f, ev (.func f) = .val false [.fn f []]) (H : List Ob) : killsOf env op ev H = [] := by
  cases op <;> first | rfl | skip
  case call c =>
    simp only [cls] at hc
    simp only [killsOf]
    split
    · rename_i hcal; simp [hcal] at hc
    · rename_i f hcal
      cases f with
      | func g =>
        simp only [hcal] at hc
        rw [hfun]
        simp only
        split
        · rename_i con hcon
          simp only [hcon] at hc
          cases hmode : Nat.beq con.mode 1 with
          | false => simp [hmode] at hc
          | true => simp only [cond_true]; split <;> rfl
        · rfl
      | tmp t => simp [hcal] at hc
      | const v => simp [hcal] at hc
      | global g => simp [hcal] at hc
    · rfl
end

end Go.Proofs.YtiolbhmbobelcaaGreatDoor.AI
