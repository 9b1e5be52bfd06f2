/- A part of the proof. -/
import Derived.Test.YtefddghdaimklaaGreatDoorAim
set_option linter.unusedVariables false
set_option linter.unusedSimpArgs false
namespace Go.Proofs.YtefddghdaimklaaGreatDoor.AI
open Go
section
variable (T : TypeId → Option TI) {ev ev' : Operand → AV}
theorem qv : ∀ (l : List Operand), (∀ o ∈ l, ev o = ev' o) → ql ev l = ql ev' l
 | [], _ => rfl
 | o :: r, h => by
  simp only [ql]
  rw [h o (by simp), qv r (fun o ho => h o (by simp [ho]))]
theorem pV {op : Op} (h : ∀ o ∈ op.operands.toList, ev o = ev' o) (H : List Ob) : uz T op ev H = uz T op ev' H := by
 cases op <;> simp only [Op.operands] at h <;> simp only [uz]
 case move x => rw [h x (by simp)]
 case assign x => rw [h x (by simp)]
 case load t a => rw [h a (by simp)]
 case fieldAddr s x f => rw [h x (by simp)]
 case field s x f => rw [h x (by simp)]
 case binOp b t x y u => rw [h x (by simp), h y (by simp)]
 case unOp u t x => rw [h x (by simp)]
 case extract t i => rw [h t (by simp)]
 case nilCheck x => rw [h x (by simp)]
 case makeFunc fn first captured =>
  cases fn <;> simp only
  rw [qv captured.toList (fun o ho => h o (by simp [ho]))]
  split
  ·rfl
  ·rename_i o ho
   have hm : o ∈ first := by
    have : o ∈ first.toList := by rw [ho]; simp
    simpa using this
   rw [h o (by simp [hm])]
  ·rfl
 case call c =>
  split
  ·rename_i x t hc hargs hts
   have hx : ev x = ev' x := h x (by
    have : x ∈ c.args.toList := by rw [hargs]; simp
    simp only [Call.operands, Array.toList_append, LJ]
    exact .inr this)
   rw [hx]
  ·rfl
theorem pm {t : Ty} : ∀ (l : List (Nat × Operand)) (k : Nat), (∀ p ∈ l, ev p.2 = ev' p.2) → elems t ev k l = elems t ev' k l
 | [], _, _ => rfl
 | (j, o) :: r, k, h => by
  simp only [elems]
  rw [h (j, o) (by simp), pm r (k + 1) (fun p hp => h p (by simp [hp]))]
theorem t8 {fs : List (Nat × Nat × Bool)} : ∀ (l : List (Nat × Operand)) (cs : List C), (∀ p ∈ l, ev p.2 = ev' p.2) → mL fs ev cs l = mL fs ev' cs l
 | [], _, _ => rfl
 | (j, o) :: r, cs, h => by
  have e : ev o = ev' o := h (j, o) (by simp)
  have ih := fun cs => t8 (fs := fs) r cs (fun p hp => h p (by simp [hp]))
  simp only [mL, e, ih]
theorem uL (o : Option Operand) (h : ∀ p ∈ o.toArray.toList, ev p = ev' p) : qA ev o = qA ev' o := by
 cases o with
 | none => rfl
 | some o => simp only [qA]; rw [h o (by simp)]
theorem rm {parts : Array (Nat × Operand)} (h : ∀ o ∈ ((parts.toList.map (·.2)).toArray).toList, ev o = ev' o) : ∀ p ∈ parts.toList, ev p.2 = ev' p.2 := fun p hp => h p.2 (by simp; exact ⟨p.1, by simpa using hp⟩)
theorem iN (o : Option Operand) (h : ∀ p ∈ o.toArray.toList, ev p = ev' p) : Yt ev o = Yt ev' o := by
 cases o with
 | none => rfl
 | some o => simp only [Yt]; rw [h o (by simp)]
theorem oA (l : List Operand) (h : ∀ o ∈ l, ev o = ev' o) : p6 ev l = p6 ev' l := List.map_congr_left h
theorem vV {R : Type} {h0 : Nat} {env : FuncId → Option Con} {inl : FuncId → List AV → List Ob → (AV → List Ob → Option R) → Option R} {op : Op} (h : ∀ o ∈ op.operands.toList, ev o = ev' o) (H : List Ob) (k : AV → List Ob → Option R) :
  z8 T h0 env inl op ev H k = z8 T h0 env inl op ev' H k := by
 cases op <;> simp only [Op.operands] at h <;> simp only [z8]
 case box t x => rw [h x (by simp)]
 case build t parts =>
  split
  ·rw [t8 _ _ (rm h)]
  ·split
   ·rw [t8 _ _ (rm h)]
   ·rfl
  ·rfl
 case buildSlice t len parts =>
  split <;> try rfl
  split <;> try rfl
  rw [pm _ _ (rm h)]
 case makeSlice t l c => rw [h l (by simp), h c (by simp)]
 case store t a x => rw [h a (by simp), h x (by simp)]
 case convert s d x => rw [h x (by simp)]
 case makeMap t r => rw [iN r h]
 case mapUpdate t m key el => rw [h m (by simp), h key (by simp), h el (by simp)]
 case insert t m key el => rw [h m (by simp), h key (by simp), h el (by simp)]
 case lookup t m key okk => rw [h m (by simp), h key (by simp)]
 case binOp b t x y u => rw [h x (by simp), h y (by simp)]
 case indexAddr t x i => rw [h x (by simp), h i (by simp)]
 case index t x i => rw [h x (by simp), h i (by simp)]
 case slice t x lo hi mx =>
  rw [h x (by simp), uL lo (fun p hp => h p (by simp at hp ⊢; simp [hp])), uL hi (fun p hp => h p (by simp at hp ⊢; simp [hp])), uL mx (fun p hp => h p (by simp at hp ⊢; simp [hp]))]
 case call c =>
  have hargs : ∀ o ∈ c.args.toList, ev o = ev' o := fun o ho => h o (by simp only [Call.operands, Array.toList_append, LJ]; exact .inr ho)
  split
  ·rename_i hc
   split
   ·rename_i s x st sx e1 e2
    rw [hargs s (by rw [e1]; simp), hargs x (by rw [e1]; simp)]
   ·rfl
  ·rename_i hc
   split
   ·rename_i s st e1 e2
    rw [hargs s (by rw [e1]; simp)]
   ·rfl
  ·rename_i hc
   split
   ·rename_i x y e1
    rw [hargs x (by rw [e1]; simp), hargs y (by rw [e1]; simp)]
   ·rfl
  ·rename_i hc
   split
   ·rename_i x y e1
    rw [hargs x (by rw [e1]; simp), hargs y (by rw [e1]; simp)]
   ·rfl
  ·rename_i f hc
   rw [h f (by simp [Call.operands, hc]), oA _ hargs]
  ·rfl
theorem x8 {env : FuncId → Option Con} {op : Op} (h : ∀ o ∈ op.operands.toList, ev o = ev' o) : yD env op ev = yD env op ev' := by
 cases op <;> simp only [Op.operands] at h <;> simp only [yD]
 case buildSlice t len parts =>
  have := rm h
  have e : ∀ (l : List (Nat × Operand)), (∀ p ∈ l, ev p.2 = ev' p.2) → (l.flatMap fun p => oJ (ev p.2)) = l.flatMap fun p => oJ (ev' p.2) := by
   intro l
   induction l with
   | nil => intro _; rfl
   | cons p r ih => intro hl; simp only [List.flatMap_cons]; rw [hl p (by simp), ih (fun q hq => hl q (by simp [hq]))]
  exact e _ this
 case store t a x => rw [h a (by simp), h x (by simp)]
 case slice t x lo hi mx => rw [h x (by simp)]
 case convert s d x => rw [h x (by simp)]
 case call c =>
  have hargs : ∀ o ∈ c.args.toList, ev o = ev' o := fun o ho => h o (by simp only [Call.operands, Array.toList_append, LJ]; exact .inr ho)
  split
  ·rename_i f hc
   rw [h f (by simp [Call.operands, hc])]
   have e : ∀ (l : List Operand), (∀ p ∈ l, ev p = ev' p) → (l.flatMap fun p => oJ (ev p)) = l.flatMap fun p => oJ (ev' p) := by
    intro l
    induction l with
    | nil => intro _; rfl
    | cons p r ih => intro hl; simp only [List.flatMap_cons]; rw [hl p (by simp), ih (fun q hq => hl q (by simp [hq]))]
   rw [e _ hargs]
  ·rfl
theorem x5 {env : FuncId → Option Con} {op : Op} (h : ∀ o ∈ op.operands.toList, ev o = ev' o) (H : List Ob) : zN env op ev H = zN env op ev' H := by
 cases op <;> simp only [Op.operands] at h <;> simp only [zN]
 case call c =>
  have hargs : ∀ o ∈ c.args.toList, ev o = ev' o := fun o ho => h o (by simp only [Call.operands, Array.toList_append, LJ]; exact .inr ho)
  split
  ·split
   ·rename_i s r e1
    rw [hargs s (by rw [e1]; simp)]
   ·rfl
  ·rename_i f hc
   rw [h f (by simp [Call.operands, hc]), oA _ hargs]
  ·rfl
end
def s5 {R : Type} (inl : FuncId → List AV → List Ob → (AV → List Ob → Option R) → Option R) (inlP : FuncId → List AV → List Ob → (AV → List Ob → Option (AV × List Ob)) → Option (AV × List Ob)) : Prop :=
 ∀ f args H k, inl f args H k = (inlP f args H fun v h => some (v, h)).bind fun p => k p.1 p.2
section
variable {R : Type} {T : TypeId → Option TI} {h0 : Nat} {env : FuncId → Option Con} {inl : FuncId → List AV → List Ob → (AV → List Ob → Option R) → Option R} {inlP : FuncId → List AV → List Ob → (AV → List Ob → Option (AV × List Ob)) → Option (AV × List Ob)}
theorem wL (c : Bool) (v : AV) (H : List Ob) (k : AV → List Ob → Option R) : (bif c then k v H else none) = (bif c then some (v, H) else none).bind fun p => k p.1 p.2 := by cases c <;> rfl
theorem pW (c : Bool) {A : Option R} {B : Option (AV × List Ob)} {f : AV × List Ob → Option R} (h : A = B.bind f) : (bif c then A else none) = (bif c then B else none).bind f := by
 cases c
 ·rfl
 ·exact h
theorem Yb (c : Bool) {A : Option R} {B : Option (AV × List Ob)} {f : AV × List Ob → Option R} (h : A = B.bind f) : (bif c then none else A) = (bif c then none else B).bind f := by
 cases c
 ·exact h
 ·rfl
theorem i4 (size : Nat) (H : List Ob) (x : C) (i : Int) (k : AV → List Ob → Option R) : ui size H x i k = (ui size H x i fun v h => some (v, h)).bind fun p => k p.1 p.2 := by
 unfold ui
 repeat' split
 all_goals first | rfl | exact wL _ _ _ _
theorem pF (size : Nat) (H : List Ob) (x : C) (lo hi : Option Int) (k : AV → List Ob → Option R) : uh size H x lo hi k = (uh size H x lo hi fun v h => some (v, h)).bind fun p => k p.1 p.2 := by
 unfold uh
 repeat' split
 all_goals first | rfl | exact wL _ _ _ _
theorem iq (H : List Ob) (s : ByteArray) (lo hi : Option Int) (k : AV → List Ob → Option R) : rf H s lo hi k = (rf H s lo hi fun v h => some (v, h)).bind fun p => k p.1 p.2 := by
 unfold rf
 repeat' split
 all_goals first | rfl | exact wL _ _ _ _
theorem kd (H : List Ob) (st sx : TypeId) (s x : C) (k : AV → List Ob → Option R) : sf T h0 H st sx s x k = (sf T h0 H st sx s x fun v h => some (v, h)).bind fun p => k p.1 p.2 := by
 unfold sf
 repeat' split
 all_goals first | rfl | exact wL _ _ _ _
theorem ZE (H : List Ob) (st sx : TypeId) (s x : C) (k : AV → List Ob → Option R) : UO T h0 H st sx s x k = (UO T h0 H st sx s x fun v h => some (v, h)).bind fun p => k p.1 p.2 := by
 unfold UO
 split
 ·unfold fX
  repeat' split
  all_goals first | rfl | exact wL _ _ _ _
 ·exact kd _ _ _ _ _ _
theorem dv (hb : s5 inl inlP) (f : FuncId) (args : List AV) (H : List Ob) (k : AV → List Ob → Option R) : jh h0 env inl f args H k = (jh h0 env inlP f args H fun v h => some (v, h)).bind fun p => k p.1 p.2 := by
 unfold jh
 split
 ·split
  ·rename_i c x _ X _
   cases Nat.beq c.mode 1 with
   | true => simp only [Lk]; cases c.F X <;> rfl
   | false =>
    simp only [Lj]
    cases (c.kills X args).all (Nat.ble h0) with
    | true => simp only [Lk]; cases c.F X <;> rfl
    | false => rfl
  ·rfl
 ·exact hb f args H k
theorem rX (hb : s5 inl inlP) (op : Op) (ev : Operand → AV) (H : List Ob) (k : AV → List Ob → Option R) :
  z8 T h0 env inl op ev H k = (z8 T h0 env inlP op ev H fun v h => some (v, h)).bind fun p => k p.1 p.2 := by
 unfold z8
 split
 ·split <;> rfl
 ·split <;> rfl
 ·repeat' split
  all_goals rfl
 ·repeat' split
  all_goals rfl
 ·split
  ·split
   ·split
    ·exact wL _ _ _ _
    ·rfl
   ·rfl
  ·rfl
 ·split <;> rfl
 ·exact pW _ (by split <;> rfl)
 ·split
  ·split <;> rfl
  ·split <;> rfl
  ·rfl
 ·split
  ·split <;> rfl
  ·rfl
 ·split
  ·exact pW _ (by split <;> rfl)
  ·exact Yb _ (by
    split
    ·rw [qX, qX]; rfl
    ·rfl)
  ·rfl
 ·rw [u9, u9]
  cases ZF T _ _ _ <;> rfl
 ·split
  ·rw [re, re]
   cases Q0 _ _ <;> rfl
  ·rw [ro, ro]
   cases Ol _ _ <;> rfl
  ·rw [sH, sH]
   cases PB _ _ <;> rfl
  ·rw [sI, sI]
   cases Q5 _ _ <;> rfl
  ·rw [sT, sT]
   cases Pl _ _ <;> rfl
  ·rw [yK, yK]
   cases nq _ _ _ <;> rfl
  ·rw [yK, yK]
   cases nq _ _ _ <;> rfl
  ·rfl
 ·split
  ·split
   ·exact i4 _ _ _ _ _
   ·rfl
  ·split
   ·rw [xR, xR]
    cases SV _ _ _ <;> rfl
   ·rfl
  ·rfl
 ·split
  ·exact wL _ _ _ _
  ·rfl
 ·split
  ·split
   ·split
    ·exact iq _ _ _ _ _
    ·rfl
   ·split
    ·split
     ·exact pF _ _ _ _ _ _
     ·split
      ·exact pW _ (pF _ _ _ _ _ _)
      ·exact wL _ _ _ _
      ·rfl
    ·rfl
   ·rfl
  ·rfl
 ·split
  ·split
   ·split
    ·exact ZE _ _ _ _ _ _
    ·rfl
   ·rfl
  ·split
   ·split <;> rfl
   ·rfl
  ·split
   ·split <;> rfl
   ·rfl
  ·split
   ·split <;> rfl
   ·rfl
  ·split
   ·exact dv hb _ _ _ _
   ·split
    ·rfl
    ·exact hb _ _ _ _
   ·split
    ·rfl
    ·exact hb _ _ _ _
   ·rfl
  ·rfl
 ·rfl
end
end Go.Proofs.YtefddghdaimklaaGreatDoor.AI
