/- The text's order, with its tests kept open: it comes to what the steps come to. -/
import Derived.Test.YtiolbhmbobelcaaGreatDoorAim
set_option linter.unusedVariables false
set_option linter.unusedSimpArgs false
namespace Go.Proofs.YtiolbhmbobelcaaGreatDoor.AI
open Go

/-! ### What an operation is worth hangs on its operands alone -/
section
variable (T : TypeId → Option TI) {ev ev' : Operand → AV}

theorem capsOf_congr : ∀ (l : List Operand), (∀ o ∈ l, ev o = ev' o) → capsOf ev l = capsOf ev' l
  | [], _ => rfl
  | o :: r, h => by
    simp only [capsOf]
    rw [h o (by simp), capsOf_congr r (fun o ho => h o (by simp [ho]))]

theorem softA_congr {op : Op} (h : ∀ o ∈ op.operands.toList, ev o = ev' o) (H : List Ob) : softA T op ev H = softA T op ev' H := by
  cases op <;> simp only [Op.operands] at h <;> simp only [softA]
  case move x => rw [h x (by simp)]
  case assign x => rw [h x (by simp)]
  case load t a => rw [h a (by simp)]
  case fieldAddr s x f => rw [h x (by simp)]
  case field s x f => rw [h x (by simp)]
  case binOp b t x y u => rw [h x (by simp), h y (by simp)]
  case unOp u t x => rw [h x (by simp)]
  case extract t i => rw [h t (by simp)]
  case nilCheck x => rw [h x (by simp)]
  case makeFunc fn first captured =>
    cases fn <;> simp only
    rw [capsOf_congr captured.toList (fun o ho => h o (by simp [ho]))]
    split
    · rfl
    · rename_i o ho
      have hm : o ∈ first := by
        have : o ∈ first.toList := by rw [ho]; simp
        simpa using this
      rw [h o (by simp [hm])]
    · rfl
  case call c =>
    split
    · rename_i x t hc hargs hts
      have hx : ev x = ev' x := h x (by
        have : x ∈ c.args.toList := by rw [hargs]; simp
        simp only [Call.operands, Array.toList_append, List.mem_append]
        exact .inr this)
      rw [hx]
    · rfl

theorem elems_congr {t : Ty} : ∀ (l : List (Nat × Operand)) (k : Nat), (∀ p ∈ l, ev p.2 = ev' p.2) → elems t ev k l = elems t ev' k l
  | [], _, _ => rfl
  | (j, o) :: r, k, h => by
    simp only [elems]
    rw [h (j, o) (by simp), elems_congr r (k + 1) (fun p hp => h p (by simp [hp]))]

theorem fillA_congr {fs : List (Nat × Nat × Bool)} : ∀ (l : List (Nat × Operand)) (cs : List C), (∀ p ∈ l, ev p.2 = ev' p.2) → fillA fs ev cs l = fillA fs ev' cs l
  | [], _, _ => rfl
  | (j, o) :: r, cs, h => by
    have e : ev o = ev' o := h (j, o) (by simp)
    have ih := fun cs => fillA_congr (fs := fs) r cs (fun p hp => h p (by simp [hp]))
    simp only [fillA, e, ih]

theorem optInt_congr (o : Option Operand) (h : ∀ p ∈ o.toArray.toList, ev p = ev' p) : optInt ev o = optInt ev' o := by
  cases o with
  | none => rfl
  | some o => simp only [optInt]; rw [h o (by simp)]

theorem parts_mem {parts : Array (Nat × Operand)} (h : ∀ o ∈ ((parts.toList.map (·.2)).toArray).toList, ev o = ev' o) : ∀ p ∈ parts.toList, ev p.2 = ev' p.2 := fun p hp => h p.2 (by simp; exact ⟨p.1, by simpa using hp⟩)

theorem roomB_congr (o : Option Operand) (h : ∀ p ∈ o.toArray.toList, ev p = ev' p) : roomB ev o = roomB ev' o := by
  cases o with
  | none => rfl
  | some o => simp only [roomB]; rw [h o (by simp)]

theorem argsA_congr (l : List Operand) (h : ∀ o ∈ l, ev o = ev' o) : argsA ev l = argsA ev' l := List.map_congr_left h

theorem hardK_congr {R : Type} {h0 : Nat} {env : FuncId → Option Con} {inl : FuncId → List AV → List Ob → (AV → List Ob → Option R) → Option R} {op : Op} (h : ∀ o ∈ op.operands.toList, ev o = ev' o) (H : List Ob) (k : AV → List Ob → Option R) :
    hardK T h0 env inl op ev H k = hardK T h0 env inl op ev' H k := by
  cases op <;> simp only [Op.operands] at h <;> simp only [hardK]
  case box t x => rw [h x (by simp)]
  case build t parts =>
    split
    · rw [fillA_congr _ _ (parts_mem h)]
    · split
      · rw [fillA_congr _ _ (parts_mem h)]
      · rfl
    · rfl
  case buildSlice t len parts =>
    split <;> try rfl
    split <;> try rfl
    rw [elems_congr _ _ (parts_mem h)]
  case makeSlice t l c => rw [h l (by simp), h c (by simp)]
  case store t a x => rw [h a (by simp), h x (by simp)]
  case convert s d x => rw [h x (by simp)]
  case makeMap t r => rw [roomB_congr r h]
  case mapUpdate t m key el => rw [h m (by simp), h key (by simp), h el (by simp)]
  case insert t m key el => rw [h m (by simp), h key (by simp), h el (by simp)]
  case lookup t m key okk => rw [h m (by simp), h key (by simp)]
  case binOp b t x y u => rw [h x (by simp), h y (by simp)]
  case indexAddr t x i => rw [h x (by simp), h i (by simp)]
  case index t x i => rw [h x (by simp), h i (by simp)]
  case slice t x lo hi mx =>
    rw [h x (by simp), optInt_congr lo (fun p hp => h p (by simp at hp ⊢; simp [hp])), optInt_congr hi (fun p hp => h p (by simp at hp ⊢; simp [hp])), optInt_congr mx (fun p hp => h p (by simp at hp ⊢; simp [hp]))]
  case call c =>
    have hargs : ∀ o ∈ c.args.toList, ev o = ev' o := fun o ho => h o (by simp only [Call.operands, Array.toList_append, List.mem_append]; exact .inr ho)
    split
    · rename_i hc
      split
      · rename_i s x st sx e1 e2
        rw [hargs s (by rw [e1]; simp), hargs x (by rw [e1]; simp)]
      · rfl
    · rename_i hc
      split
      · rename_i s st e1 e2
        rw [hargs s (by rw [e1]; simp)]
      · rfl
    · rename_i hc
      split
      · rename_i x y e1
        rw [hargs x (by rw [e1]; simp), hargs y (by rw [e1]; simp)]
      · rfl
    · rename_i hc
      split
      · rename_i x y e1
        rw [hargs x (by rw [e1]; simp), hargs y (by rw [e1]; simp)]
      · rfl
    · rename_i f hc
      rw [h f (by simp [Call.operands, hc]), argsA_congr _ hargs]
    · rfl

theorem sealsOf_congr {env : FuncId → Option Con} {op : Op} (h : ∀ o ∈ op.operands.toList, ev o = ev' o) : sealsOf env op ev = sealsOf env op ev' := by
  cases op <;> simp only [Op.operands] at h <;> simp only [sealsOf]
  case buildSlice t len parts =>
    have := parts_mem h
    have e : ∀ (l : List (Nat × Operand)), (∀ p ∈ l, ev p.2 = ev' p.2) → (l.flatMap fun p => ownsV (ev p.2)) = l.flatMap fun p => ownsV (ev' p.2) := by
      intro l
      induction l with
      | nil => intro _; rfl
      | cons p r ih => intro hl; simp only [List.flatMap_cons]; rw [hl p (by simp), ih (fun q hq => hl q (by simp [hq]))]
    exact e _ this
  case store t a x => rw [h a (by simp), h x (by simp)]
  case slice t x lo hi mx => rw [h x (by simp)]
  case convert s d x => rw [h x (by simp)]
  case call c =>
    have hargs : ∀ o ∈ c.args.toList, ev o = ev' o := fun o ho => h o (by simp only [Call.operands, Array.toList_append, List.mem_append]; exact .inr ho)
    split
    · rename_i f hc
      rw [h f (by simp [Call.operands, hc])]
      have e : ∀ (l : List Operand), (∀ p ∈ l, ev p = ev' p) → (l.flatMap fun p => ownsV (ev p)) = l.flatMap fun p => ownsV (ev' p) := by
        intro l
        induction l with
        | nil => intro _; rfl
        | cons p r ih => intro hl; simp only [List.flatMap_cons]; rw [hl p (by simp), ih (fun q hq => hl q (by simp [hq]))]
      rw [e _ hargs]
    · rfl

theorem killsOf_congr {env : FuncId → Option Con} {op : Op} (h : ∀ o ∈ op.operands.toList, ev o = ev' o) (H : List Ob) : killsOf env op ev H = killsOf env op ev' H := by
  cases op <;> simp only [Op.operands] at h <;> simp only [killsOf]
  case call c =>
    have hargs : ∀ o ∈ c.args.toList, ev o = ev' o := fun o ho => h o (by simp only [Call.operands, Array.toList_append, List.mem_append]; exact .inr ho)
    split
    · split
      · rename_i s r e1
        rw [hargs s (by rw [e1]; simp)]
      · rfl
    · rename_i f hc
      rw [h f (by simp [Call.operands, hc]), argsA_congr _ hargs]
    · rfl
end

/-! ### Continuations -/
def Binds {R : Type} (inl : FuncId → List AV → List Ob → (AV → List Ob → Option R) → Option R) (inlP : FuncId → List AV → List Ob → (AV → List Ob → Option (AV × List Ob)) → Option (AV × List Ob)) : Prop :=
  ∀ f args H k, inl f args H k = (inlP f args H fun v h => some (v, h)).bind fun p => k p.1 p.2

section
variable {R : Type} {T : TypeId → Option TI} {h0 : Nat} {env : FuncId → Option Con} {inl : FuncId → List AV → List Ob → (AV → List Ob → Option R) → Option R} {inlP : FuncId → List AV → List Ob → (AV → List Ob → Option (AV × List Ob)) → Option (AV × List Ob)}

theorem bif_bind (c : Bool) (v : AV) (H : List Ob) (k : AV → List Ob → Option R) : (bif c then k v H else none) = (bif c then some (v, H) else none).bind fun p => k p.1 p.2 := by cases c <;> rfl

theorem bif_bind2 (c : Bool) {A : Option R} {B : Option (AV × List Ob)} {f : AV × List Ob → Option R} (h : A = B.bind f) : (bif c then A else none) = (bif c then B else none).bind f := by
  cases c
  · rfl
  · exact h

theorem bif_bind3 (c : Bool) {A : Option R} {B : Option (AV × List Ob)} {f : AV × List Ob → Option R} (h : A = B.bind f) : (bif c then none else A) = (bif c then none else B).bind f := by
  cases c
  · exact h
  · rfl

theorem indexK_bind (size : Nat) (H : List Ob) (x : C) (i : Int) (k : AV → List Ob → Option R) : indexK size H x i k = (indexK size H x i fun v h => some (v, h)).bind fun p => k p.1 p.2 := by
  unfold indexK
  repeat' split
  all_goals first | rfl | exact bif_bind _ _ _ _

theorem sliceK_bind (size : Nat) (H : List Ob) (x : C) (lo hi : Option Int) (k : AV → List Ob → Option R) : sliceK size H x lo hi k = (sliceK size H x lo hi fun v h => some (v, h)).bind fun p => k p.1 p.2 := by
  unfold sliceK
  repeat' split
  all_goals first | rfl | exact bif_bind _ _ _ _

theorem sliceS_bind (H : List Ob) (s : ByteArray) (lo hi : Option Int) (k : AV → List Ob → Option R) : sliceS H s lo hi k = (sliceS H s lo hi fun v h => some (v, h)).bind fun p => k p.1 p.2 := by
  unfold sliceS
  repeat' split
  all_goals first | rfl | exact bif_bind _ _ _ _

theorem appendK_bind (H : List Ob) (st sx : TypeId) (s x : C) (k : AV → List Ob → Option R) : appendK T h0 H st sx s x k = (appendK T h0 H st sx s x fun v h => some (v, h)).bind fun p => k p.1 p.2 := by
  unfold appendK
  repeat' split
  all_goals first | rfl | exact bif_bind _ _ _ _

theorem appK_bind (H : List Ob) (st sx : TypeId) (s x : C) (k : AV → List Ob → Option R) : appK T h0 H st sx s x k = (appK T h0 H st sx s x fun v h => some (v, h)).bind fun p => k p.1 p.2 := by
  unfold appK
  split
  · unfold zerosK
    repeat' split
    all_goals first | rfl | exact bif_bind _ _ _ _
  · exact appendK_bind _ _ _ _ _ _

theorem callK_bind (hb : Binds inl inlP) (f : FuncId) (args : List AV) (H : List Ob) (k : AV → List Ob → Option R) : callK h0 env inl f args H k = (callK h0 env inlP f args H fun v h => some (v, h)).bind fun p => k p.1 p.2 := by
  unfold callK
  split
  · split
    · rename_i c x _ X _
      cases Nat.beq c.mode 1 with
      | true => simp only [cond_true]; cases c.F X <;> rfl
      | false =>
        simp only [cond_false]
        cases (c.kills X args).all (Nat.ble h0) with
        | true => simp only [cond_true]; cases c.F X <;> rfl
        | false => rfl
    · rfl
  · exact hb f args H k

theorem hardK_bind (hb : Binds inl inlP) (op : Op) (ev : Operand → AV) (H : List Ob) (k : AV → List Ob → Option R) :
    hardK T h0 env inl op ev H k = (hardK T h0 env inlP op ev H fun v h => some (v, h)).bind fun p => k p.1 p.2 := by
  unfold hardK
  split
  · split <;> rfl
  · split <;> rfl
  · repeat' split
    all_goals rfl
  · repeat' split
    all_goals rfl
  · split
    · split
      · split
        · exact bif_bind _ _ _ _
        · rfl
      · rfl
    · rfl
  · split <;> rfl
  · exact bif_bind2 _ (by split <;> rfl)
  · split
    · split <;> rfl
    · split <;> rfl
    · rfl
  · split
    · split <;> rfl
    · rfl
  · split
    · exact bif_bind2 _ (by split <;> rfl)
    · exact bif_bind3 _ (by split
                            · rw [tbK_bind, tbK_bind]; rfl
                            · rfl)
    · rfl
  · rw [convK_bind, convK_bind]
    cases convA T _ _ _ <;> rfl
  · split
    · rw [subK_bind, subK_bind]
      cases subA _ _ <;> rfl
    · rw [addK_bind, addK_bind]
      cases addA _ _ <;> rfl
    · rw [quoK_bind, quoK_bind]
      cases quoA _ _ <;> rfl
    · rw [remK_bind, remK_bind]
      cases remA _ _ <;> rfl
    · rw [mulK_bind, mulK_bind]
      cases mulA _ _ <;> rfl
    · rw [shiftK_bind, shiftK_bind]
      cases shiftA _ _ _ <;> rfl
    · rw [shiftK_bind, shiftK_bind]
      cases shiftA _ _ _ <;> rfl
    · rfl
  · split
    · split
      · exact indexK_bind _ _ _ _ _
      · rfl
    · split
      · rw [arrK_bind, arrK_bind]
        cases arrA _ _ _ <;> rfl
      · rfl
    · rfl
  · split
    · exact bif_bind _ _ _ _
    · rfl
  · split
    · split
      · split
        · exact sliceS_bind _ _ _ _ _
        · rfl
      · split
        · split
          · exact sliceK_bind _ _ _ _ _ _
          · split
            · exact bif_bind2 _ (sliceK_bind _ _ _ _ _ _)
            · exact bif_bind _ _ _ _
            · rfl
        · rfl
      · rfl
    · rfl
  · split
    · split
      · split
        · exact appK_bind _ _ _ _ _ _
        · rfl
      · rfl
    · split
      · split <;> rfl
      · rfl
    · split
      · split <;> rfl
      · rfl
    · split
      · split <;> rfl
      · rfl
    · split
      · exact callK_bind hb _ _ _ _
      · split
        · rfl
        · exact hb _ _ _ _
      · split
        · rfl
        · exact hb _ _ _ _
      · rfl
    · rfl
  · rfl
end

end Go.Proofs.YtiolbhmbobelcaaGreatDoor.AI
