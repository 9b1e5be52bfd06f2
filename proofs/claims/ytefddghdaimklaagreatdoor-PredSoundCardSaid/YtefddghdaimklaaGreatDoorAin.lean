/- A part of the proof. -/
import Derived.Test.YtefddghdaimklaaGreatDoorAim
set_option linter.unusedVariables false
set_option linter.unusedSimpArgs false
namespace Go.Proofs.YtefddghdaimklaaGreatDoor.AI
open Go
section
variable (T : TypeId → Option TI) {ev ev' : Operand → AV}
theorem qe : ∀ (l : List Operand), (∀ o ∈ l, ev o = ev' o) → rZ ev l = rZ ev' l
 | [], _ => rfl
 | o :: r, h => by
  simp only [rZ]
  rw [h o (by simp), qe r (fun o ho => h o (by simp [ho]))]
theorem o4 {op : Op} (h : ∀ o ∈ op.operands.toList, ev o = ev' o) (H : List Ob) : uI T op ev H = uI T op ev' H := by
 cases op <;> simp only [Op.operands] at h <;> simp only [uI]
 case move x => rw [h x (by simp)]
 case assign x => rw [h x (by simp)]
 case load t a => rw [h a (by simp)]
 case fieldAddr s x f => rw [h x (by simp)]
 case field s x f => rw [h x (by simp)]
 case binOp b t x y u => rw [h x (by simp), h y (by simp)]
 case unOp u t x => rw [h x (by simp)]
 case extract t i => rw [h t (by simp)]
 case nilCheck x => rw [h x (by simp)]
 case makeFunc fn first captured =>
  cases fn <;> simp only
  rw [qe captured.toList (fun o ho => h o (by simp [ho]))]
  split
  ·rfl
  ·rename_i o ho
   have hm : o ∈ first := by
    have : o ∈ first.toList := by rw [ho]; simp
    simpa using this
   rw [h o (by simp [hm])]
  ·rfl
 case call c =>
  split
  ·rename_i x t hc hargs hts
   have hx : ev x = ev' x := h x (by
    have : x ∈ c.args.toList := by rw [hargs]; simp
    simp only [Call.operands, Array.toList_append, NS]
    exact .inr this)
   rw [hx]
  ·rfl
theorem pI {t : Ty} : ∀ (l : List (Nat × Operand)) (k : Nat), (∀ p ∈ l, ev p.2 = ev' p.2) → elems t ev k l = elems t ev' k l
 | [], _, _ => rfl
 | (j, o) :: r, k, h => by
  simp only [elems]
  rw [h (j, o) (by simp), pI r (k + 1) (fun p hp => h p (by simp [hp]))]
theorem tW {fs : List (Nat × Nat × Bool)} : ∀ (l : List (Nat × Operand)) (cs : List C), (∀ p ∈ l, ev p.2 = ev' p.2) → mJ fs ev cs l = mJ fs ev' cs l
 | [], _, _ => rfl
 | (j, o) :: r, cs, h => by
  have e : ev o = ev' o := h (j, o) (by simp)
  have ih := fun cs => tW (fs := fs) r cs (fun p hp => h p (by simp [hp]))
  simp only [mJ, e, ih]
theorem uF (o : Option Operand) (h : ∀ p ∈ o.toArray.toList, ev p = ev' p) : qf ev o = qf ev' o := by
 cases o with
 | none => rfl
 | some o => simp only [qf]; rw [h o (by simp)]
theorem sE {parts : Array (Nat × Operand)} (h : ∀ o ∈ ((parts.toList.map (·.2)).toArray).toList, ev o = ev' o) : ∀ p ∈ parts.toList, ev p.2 = ev' p.2 := fun p hp => h p.2 (by simp; exact ⟨p.1, by simpa using hp⟩)
theorem iS (o : Option Operand) (h : ∀ p ∈ o.toArray.toList, ev p = ev' p) : aK ev o = aK ev' o := by
 cases o with
 | none => rfl
 | some o => simp only [aK]; rw [h o (by simp)]
theorem oF (l : List Operand) (h : ∀ o ∈ l, ev o = ev' o) : pk ev l = pk ev' l := List.map_congr_left h
theorem vL {R : Type} {h0 : Nat} {env : FuncId → Option Con} {inl : FuncId → List AV → List Ob → (AV → List Ob → Option R) → Option R} {op : Op} (h : ∀ o ∈ op.operands.toList, ev o = ev' o) (H : List Ob) (k : AV → List Ob → Option R) :
  z0 T h0 env inl op ev H k = z0 T h0 env inl op ev' H k := by
 cases op <;> simp only [Op.operands] at h <;> simp only [z0]
 case box t x => rw [h x (by simp)]
 case build t parts =>
  split
  ·rw [tW _ _ (sE h)]
  ·split
   ·rw [tW _ _ (sE h)]
   ·rfl
  ·rfl
 case buildSlice t len parts =>
  split <;> try rfl
  split <;> try rfl
  rw [pI _ _ (sE h)]
 case makeSlice t l c => rw [h l (by simp), h c (by simp)]
 case store t a x => rw [h a (by simp), h x (by simp)]
 case convert s d x => rw [h x (by simp)]
 case makeMap t r => rw [iS r h]
 case mapUpdate t m key el => rw [h m (by simp), h key (by simp), h el (by simp)]
 case insert t m key el => rw [h m (by simp), h key (by simp), h el (by simp)]
 case lookup t m key okk => rw [h m (by simp), h key (by simp)]
 case binOp b t x y u => rw [h x (by simp), h y (by simp)]
 case indexAddr t x i => rw [h x (by simp), h i (by simp)]
 case index t x i => rw [h x (by simp), h i (by simp)]
 case slice t x lo hi mx =>
  rw [h x (by simp), uF lo (fun p hp => h p (by simp at hp ⊢; simp [hp])), uF hi (fun p hp => h p (by simp at hp ⊢; simp [hp])), uF mx (fun p hp => h p (by simp at hp ⊢; simp [hp]))]
 case call c =>
  have hargs : ∀ o ∈ c.args.toList, ev o = ev' o := fun o ho => h o (by simp only [Call.operands, Array.toList_append, NS]; exact .inr ho)
  split
  ·rename_i hc
   split
   ·rename_i s x st sx e1 e2
    rw [hargs s (by rw [e1]; simp), hargs x (by rw [e1]; simp)]
   ·rfl
  ·rename_i hc
   split
   ·rename_i s st e1 e2
    rw [hargs s (by rw [e1]; simp)]
   ·rfl
  ·rename_i hc
   split
   ·rename_i x y e1
    rw [hargs x (by rw [e1]; simp), hargs y (by rw [e1]; simp)]
   ·rfl
  ·rename_i hc
   split
   ·rename_i x y e1
    rw [hargs x (by rw [e1]; simp), hargs y (by rw [e1]; simp)]
   ·rfl
  ·rename_i f hc
   rw [h f (by simp [Call.operands, hc]), oF _ hargs]
  ·rfl
theorem wc {env : FuncId → Option Con} {op : Op} (h : ∀ o ∈ op.operands.toList, ev o = ev' o) : yz env op ev = yz env op ev' := by
 cases op <;> simp only [Op.operands] at h <;> simp only [yz]
 case buildSlice t len parts =>
  have := sE h
  have e : ∀ (l : List (Nat × Operand)), (∀ p ∈ l, ev p.2 = ev' p.2) → (l.flatMap fun p => p9 (ev p.2)) = l.flatMap fun p => p9 (ev' p.2) := by
   intro l
   induction l with
   | nil => intro _; rfl
   | cons p r ih => intro hl; simp only [List.flatMap_cons]; rw [hl p (by simp), ih (fun q hq => hl q (by simp [hq]))]
  exact e _ this
 case store t a x => rw [h a (by simp), h x (by simp)]
 case slice t x lo hi mx => rw [h x (by simp)]
 case convert s d x => rw [h x (by simp)]
 case call c =>
  have hargs : ∀ o ∈ c.args.toList, ev o = ev' o := fun o ho => h o (by simp only [Call.operands, Array.toList_append, NS]; exact .inr ho)
  split
  ·rename_i f hc
   rw [h f (by simp [Call.operands, hc])]
   have e : ∀ (l : List Operand), (∀ p ∈ l, ev p = ev' p) → (l.flatMap fun p => p9 (ev p)) = l.flatMap fun p => p9 (ev' p) := by
    intro l
    induction l with
    | nil => intro _; rfl
    | cons p r ih => intro hl; simp only [List.flatMap_cons]; rw [hl p (by simp), ih (fun q hq => hl q (by simp [hq]))]
   rw [e _ hargs]
  ·rfl
theorem we {env : FuncId → Option Con} {op : Op} (h : ∀ o ∈ op.operands.toList, ev o = ev' o) (H : List Ob) : zL env op ev H = zL env op ev' H := by
 cases op <;> simp only [Op.operands] at h <;> simp only [zL]
 case call c =>
  have hargs : ∀ o ∈ c.args.toList, ev o = ev' o := fun o ho => h o (by simp only [Call.operands, Array.toList_append, NS]; exact .inr ho)
  split
  ·split
   ·rename_i s r e1
    rw [hargs s (by rw [e1]; simp)]
   ·rfl
  ·rename_i f hc
   rw [h f (by simp [Call.operands, hc]), oF _ hargs]
  ·rfl
end
def sJ {R : Type} (inl : FuncId → List AV → List Ob → (AV → List Ob → Option R) → Option R) (inlP : FuncId → List AV → List Ob → (AV → List Ob → Option (AV × List Ob)) → Option (AV × List Ob)) : Prop :=
 ∀ f args H k, inl f args H k = (inlP f args H fun v h => some (v, h)).bind fun p => k p.1 p.2
section
variable {R : Type} {T : TypeId → Option TI} {h0 : Nat} {env : FuncId → Option Con} {inl : FuncId → List AV → List Ob → (AV → List Ob → Option R) → Option R} {inlP : FuncId → List AV → List Ob → (AV → List Ob → Option (AV × List Ob)) → Option (AV × List Ob)}
theorem wO (c : Bool) (v : AV) (H : List Ob) (k : AV → List Ob → Option R) : (bif c then k v H else none) = (bif c then some (v, H) else none).bind fun p => k p.1 p.2 := by cases c <;> rfl
theorem pn (c : Bool) {A : Option R} {B : Option (AV × List Ob)} {f : AV × List Ob → Option R} (h : A = B.bind f) : (bif c then A else none) = (bif c then B else none).bind f := by
 cases c
 ·rfl
 ·exact h
theorem bg (c : Bool) {A : Option R} {B : Option (AV × List Ob)} {f : AV × List Ob → Option R} (h : A = B.bind f) : (bif c then none else A) = (bif c then none else B).bind f := by
 cases c
 ·exact h
 ·rfl
theorem iB (size : Nat) (H : List Ob) (x : C) (i : Int) (k : AV → List Ob → Option R) : ug size H x i k = (ug size H x i fun v h => some (v, h)).bind fun p => k p.1 p.2 := by
 unfold ug
 repeat' split
 all_goals first | rfl | exact wO _ _ _ _
theorem oH (size : Nat) (H : List Ob) (x : C) (lo hi : Option Int) (k : AV → List Ob → Option R) : uk size H x lo hi k = (uk size H x lo hi fun v h => some (v, h)).bind fun p => k p.1 p.2 := by
 unfold uk
 repeat' split
 all_goals first | rfl | exact wO _ _ _ _
theorem i4 (H : List Ob) (s : ByteArray) (lo hi : Option Int) (k : AV → List Ob → Option R) : sB H s lo hi k = (sB H s lo hi fun v h => some (v, h)).bind fun p => k p.1 p.2 := by
 unfold sB
 repeat' split
 all_goals first | rfl | exact wO _ _ _ _
theorem k7 (H : List Ob) (st sx : TypeId) (s x : C) (k : AV → List Ob → Option R) : tJ T h0 H st sx s x k = (tJ T h0 H st sx s x fun v h => some (v, h)).bind fun p => k p.1 p.2 := by
 unfold tJ
 repeat' split
 all_goals first | rfl | exact wO _ _ _ _
theorem Yh (H : List Ob) (st sx : TypeId) (s x : C) (k : AV → List Ob → Option R) : Td T h0 H st sx s x k = (Td T h0 H st sx s x fun v h => some (v, h)).bind fun p => k p.1 p.2 := by
 unfold Td
 split
 ·unfold fe
  repeat' split
  all_goals first | rfl | exact wO _ _ _ _
 ·exact k7 _ _ _ _ _ _
theorem du (hb : sJ inl inlP) (f : FuncId) (args : List AV) (H : List Ob) (k : AV → List Ob → Option R) : lG h0 env inl f args H k = (lG h0 env inlP f args H fun v h => some (v, h)).bind fun p => k p.1 p.2 := by
 unfold lG
 split
 ·split
  ·rename_i c x _ X _
   cases Nat.beq c.mode 1 with
   | true => simp only [Nv]; cases c.F X <;> rfl
   | false =>
    simp only [Nu]
    cases (c.kills X args).all (Nat.ble h0) with
    | true => simp only [Nv]; cases c.F X <;> rfl
    | false => rfl
  ·rfl
 ·exact hb f args H k
theorem rE (hb : sJ inl inlP) (op : Op) (ev : Operand → AV) (H : List Ob) (k : AV → List Ob → Option R) :
  z0 T h0 env inl op ev H k = (z0 T h0 env inlP op ev H fun v h => some (v, h)).bind fun p => k p.1 p.2 := by
 unfold z0
 split
 ·split <;> rfl
 ·split <;> rfl
 ·repeat' split
  all_goals rfl
 ·repeat' split
  all_goals rfl
 ·split
  ·split
   ·split
    ·exact wO _ _ _ _
    ·rfl
   ·rfl
  ·rfl
 ·split <;> rfl
 ·exact pn _ (by split <;> rfl)
 ·split
  ·split <;> rfl
  ·split <;> rfl
  ·rfl
 ·split
  ·split <;> rfl
  ·rfl
 ·split
  ·exact pn _ (by split <;> rfl)
  ·exact bg _ (by
    split
    ·rw [qZ, qZ]; rfl
    ·rfl)
  ·rfl
 ·rw [uU, uU]
  cases Zw T _ _ _ <;> rfl
 ·split
  ·rw [sI, sI]
   cases Rn _ _ <;> rfl
  ·rw [sQ, sQ]
   cases Qa _ _ <;> rfl
  ·rw [sM, sM]
   cases Qx _ _ <;> rfl
  ·rw [tY, tY]
   cases RY _ _ <;> rfl
  ·rw [sr, sr]
   cases Rj _ _ <;> rfl
  ·rw [yD, yD]
   cases nL _ _ _ <;> rfl
  ·rw [yD, yD]
   cases nL _ _ _ <;> rfl
  ·rfl
 ·split
  ·split
   ·exact iB _ _ _ _ _
   ·rfl
  ·split
   ·rw [xJ, xJ]
    cases Ut _ _ _ <;> rfl
   ·rfl
  ·rfl
 ·split
  ·exact wO _ _ _ _
  ·rfl
 ·split
  ·split
   ·split
    ·exact i4 _ _ _ _ _
    ·rfl
   ·split
    ·split
     ·exact oH _ _ _ _ _ _
     ·split
      ·exact pn _ (oH _ _ _ _ _ _)
      ·exact wO _ _ _ _
      ·rfl
    ·rfl
   ·rfl
  ·rfl
 ·split
  ·split
   ·split
    ·exact Yh _ _ _ _ _ _
    ·rfl
   ·rfl
  ·split
   ·split <;> rfl
   ·rfl
  ·split
   ·split <;> rfl
   ·rfl
  ·split
   ·split <;> rfl
   ·rfl
  ·split
   ·exact du hb _ _ _ _
   ·split
    ·rfl
    ·exact hb _ _ _ _
   ·split
    ·rfl
    ·exact hb _ _ _ _
   ·rfl
  ·rfl
 ·rfl
end
end Go.Proofs.YtefddghdaimklaaGreatDoor.AI
