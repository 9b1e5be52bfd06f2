/- A part of the proof. -/
import Derived.Test.YtefddghdaimklaaGreatDoorAip
import Derived.Orders
set_option linter.unusedVariables false
set_option linter.unusedSimpArgs false
namespace Go.Proofs.YtefddghdaimklaaGreatDoor.AI
open Go
theorem dz (ks : List Nat) : ∀ (v : AV), z5 v = true → yv ks v = v := by
 have one : ∀ (i : Nat) (c : C), qi c = true → Sub.c (.kill i) c = c := fun i c h => by cases c <;> first | rfl | (simp [qi] at h)
 have onev : ∀ (i : Nat) (v : AV), z5 v = true → Sub.v (.kill i) v = v := fun i v h => by
  cases v with
  | val g cs =>
   simp only [Sub.v]
   congr 1
   conv => rhs; rw [← List.map_id cs]
   exact List.map_congr_left fun c hc => one i c (Ll.1 h c hc)
  | tup l =>
   simp only [Sub.v]
   congr 1
   conv => rhs; rw [← List.map_id l]
   refine List.map_congr_left fun p hp => ?_
   have := Ll.1 h p hp
   show (p.1, p.2.map (Sub.c (.kill i))) = p
   have e : p.2.map (Sub.c (.kill i)) = p.2 := by
    conv => rhs; rw [← List.map_id p.2]
    exact List.map_congr_left fun c hc => one i c (Ll.1 this c hc)
   rw [e]
  | skip => rfl
  | undef => rfl
 induction ks with
 | nil => intro v _; rfl
 | cons i r ih => intro v h; rw [yv, onev i v h]; exact ih v h
theorem ng : ∀ (l : List Sub), (∀ s ∈ l, ∃ i t xs, s = .give i t xs) → ∀ (v : AV), z5 v = true → up l v = v
 | [], _, v, _ => rfl
 | s :: r, hs, v, h => by
  obtain ⟨i, t, xs, rfl⟩ := hs s (by simp)
  have one : ∀ (c : C), qi c = true → Sub.c (.give i t xs) c = c := fun c h => by cases c <;> first | rfl | (simp [qi] at h)
  have onev : Sub.v (.give i t xs) v = v := by
   cases v with
   | val g cs =>
    simp only [Sub.v]
    congr 1
    conv => rhs; rw [← List.map_id cs]
    exact List.map_congr_left fun c hc => one c (Ll.1 h c hc)
   | tup l =>
    simp only [Sub.v]
    congr 1
    conv => rhs; rw [← List.map_id l]
    refine List.map_congr_left fun p hp => ?_
    have := Ll.1 h p hp
    show (p.1, p.2.map (Sub.c (.give i t xs))) = p
    have e : p.2.map (Sub.c (.give i t xs)) = p.2 := by
     conv => rhs; rw [← List.map_id p.2]
     exact List.map_congr_left fun c hc => one c (Ll.1 this c hc)
    rw [e]
   | skip => rfl
   | undef => rfl
  rw [up, onev]
  exact ng r (fun s hs' => hs s (by simp [hs'])) v h
theorem rU : ∀ (ids : List Nat) (H : List Ob), ∀ s ∈ x7 ids H, ∃ i t xs, s = .give i t xs
 | [], H, s, h => by simp [x7] at h
 | i :: r, H, s, h => by
  simp only [x7] at h
  split at h
  ·rename_i e t xs _
   rcases LD.1 h with rfl | h
   ·exact ⟨i, t, xs, rfl⟩
   ·exact rU r _ s h
  ·exact rU r _ s h
section
variable {T : TypeId → Option TI} {h0 : Nat} {env : FuncId → Option Con} {inl : FuncId → List AV → List Ob → (AV → List Ob → Option (AV × List Ob)) → Option (AV × List Ob)}
theorem rI {H : List Ob} {i : Nat} {o : Ob} (ob : Ob) (h : H[i]? = some o) : (H ++ [ob])[i]? = some o := by
 rw [List.getElem?_append_left (Lq.1 h).1]; exact h
theorem YJ {t : TypeId} {H : List Ob} {a v : AV} (ob : Ob) (h : uC T t H a = some v) : uC T t (H ++ [ob]) a = some v := by
 unfold uC at h ⊢
 split at h
 ·cases ht : T t with
  | none => simp [ht] at h
  | some ti =>
   simp only [ht] at h ⊢
   split at h
   ·rename_i cs hc; rw [rI ob hc]; exact h
   ·cases h
 ·exact h
 ·cases ht : T t with
  | none => simp [ht] at h
  | some ti =>
   simp only [ht] at h ⊢
   split at h
   ·rename_i e ty xs hc; rw [rI ob hc]; exact h
   ·cases h
 ·cases h
theorem YY {H : List Ob} {c : C} {n : Int} (ob : Ob) (h : oY H c = some n) : oY (H ++ [ob]) c = some n := by
 unfold oY at h ⊢
 split at h
 ·exact h
 ·exact h
 ·exact h
 ·split at h
  ·rename_i hc; simp only [rI ob hc]; exact h
  ·cases h
 ·cases h
theorem dK {op : Op} (hs : yu op = true) (hc : cls env op = 0) (ev : Operand → AV) (H H2 : List Ob) : uz T op ev H = uz T op ev H2 := by
 cases op <;> first | rfl | (simp [cls] at hc; done) | skip
 case makeFunc f a b => cases f <;> rfl
 case call c =>
  simp only [cls] at hc
  split at hc <;> first | (simp at hc; done) | skip
  split at hc
  ·rename_i con _; cases hm : Nat.beq con.mode 1 <;> simp [hm] at hc
  ·simp at hc
theorem dt {op : Op} (hs : yu op = true) (hc : cls env op = 1) {ev : Operand → AV} {H : List Ob} {v : AV} (ob : Ob) (h : uz T op ev H = some v) : uz T op ev (H ++ [ob]) = some v := by
 cases op <;> first | (simp [cls] at hc; done) | (simp [yu] at hs; done) | skip
 case load t a => exact YJ ob h
 case call c =>
  simp only [uz] at h ⊢
  split at h
  ·rename_i a t hcal hargs hts
   split at h
   ·rename_i cc e b1 b2 b3 b4 h1 h2
    split at h
    ·rename_i n hn
     rw [YY ob hn]; exact h
    ·cases h
   ·exact h
   ·cases h
  ·cases h
theorem dk {op : Op} (hs : yu op = true) (hc : cls env op = 0) (fr : List AV) (H H2 : List Ob) : w8 T op fr H = w8 T op fr H2 := by
 unfold w8
 split
 ·rfl
 ·exact dK hs hc _ _ _
theorem d3 {op : Op} (hs : yu op = true) (hc : cls env op = 1) {fr : List AV} {H : List Ob} {v : AV} (ob : Ob) (h : w8 T op fr H = some v) : w8 T op fr (H ++ [ob]) = some v := by
 unfold w8 at h ⊢
 split at h
 ·exact h
 ·exact dt hs hc ob h
theorem xE {op : Op} {fr fr2 : List AV} (h : ∀ o ∈ op.operands.toList, evA fr2 o = evA fr o) (H : List Ob) : w8 T op fr2 H = w8 T op fr H := by
 unfold w8
 split
 ·rename_i c a b
  rw [h c (by simp [Op.operands]), h a (by simp [Op.operands]), h b (by simp [Op.operands])]
 ·exact pV T h H
theorem XM {size : Nat} {H : List Ob} {x : C} {i : Int} {v : AV} {H' : List Ob} (h : ui size H x i (fun v h => some (v, h)) = some (v, H')) : H' = H ∧ ∀ ob, ui size (H ++ [ob]) x i (fun v h => some (v, h)) = some (v, H ++ [ob]) := by
 unfold ui at h ⊢
 split at h
 ·rename_i t xs
  split at h
  ·rename_i hs
   cases hb : (decide (0 ≤ i) && decide (i < (xs.length : Int))) with
   | false => simp [hb] at h
   | true =>
    simp only [hb, Lk, Lp, Lw] at h
    obtain ⟨rfl, rfl⟩ := h
    exact ⟨rfl, fun ob => by simp only [hs, if_true, hb, Lk]⟩
  ·cases h
 ·rename_i id n
  split at h
  ·rename_i e t xs hx
   split at h
   ·rename_i hs
    cases hb : (decide (0 ≤ i) && decide (i < (n : Int))) with
    | false => simp [hb] at h
    | true =>
     simp only [hb, Lk, Lp, Lw] at h
     obtain ⟨rfl, rfl⟩ := h
     exact ⟨rfl, fun ob => by simp only [rI ob hx, hs, if_true, hb, Lk]⟩
   ·cases h
  ·cases h
 ·cases h
theorem wb {α : Type} {c : Bool} {v w : α} (h : (bif c then some v else none) = some w) : c = true ∧ v = w := by
 cases c
 ·cases h
 ·exact ⟨rfl, Option.some.inj h⟩
theorem YN {α : Type} {c : Bool} {A : Option α} {w : α} (h : (bif c then A else none) = some w) : c = true ∧ A = some w := by
 cases c
 ·cases h
 ·exact ⟨rfl, h⟩
theorem VB {size : Nat} {H : List Ob} {x : C} {lo hi : Option Int} {v : AV} {H' : List Ob} (h : uh size H x lo hi (fun v h => some (v, h)) = some (v, H')) : H' = H ∧ ∀ ob, uh size (H ++ [ob]) x lo hi (fun v h => some (v, h)) = some (v, H ++ [ob]) := by
 unfold uh at h ⊢
 split at h
 ·split at h
  ·rename_i hs
   simp only [hs, if_true]
   split at h
   ·cases h; exact ⟨rfl, fun _ => rfl⟩
   ·obtain ⟨h1, h2⟩ := wb h; cases h2; exact ⟨rfl, fun _ => by simp only [h1, Lk]⟩
   ·obtain ⟨h1, h2⟩ := wb h; cases h2; exact ⟨rfl, fun _ => by simp only [h1, Lk]⟩
   ·obtain ⟨h1, h2⟩ := wb h; cases h2; exact ⟨rfl, fun _ => by simp only [h1, Lk]⟩
  ·cases h
 ·split at h
  ·rename_i e t xs hx
   split at h
   ·rename_i hs
    split at h
    ·cases h; exact ⟨rfl, fun ob => by simp only [rI ob hx, hs, if_true]⟩
    ·obtain ⟨h1, h2⟩ := wb h; cases h2; exact ⟨rfl, fun ob => by simp only [rI ob hx, hs, if_true, h1, Lk]⟩
    ·cases h
   ·cases h
  ·cases h
 ·split at h
  ·obtain ⟨h1, h2⟩ := wb h; cases h2; exact ⟨rfl, fun _ => by simp only [h1, Lk]⟩
  ·cases h
 ·cases h
theorem WE {H : List Ob} {s : ByteArray} {lo hi : Option Int} {v : AV} {H' : List Ob} (h : rf H s lo hi (fun v h => some (v, h)) = some (v, H')) : H' = H ∧ ∀ H2, rf H2 s lo hi (fun v h => some (v, h)) = some (v, H2) := by
 unfold rf at h ⊢
 split at h
 ·cases h; exact ⟨rfl, fun _ => rfl⟩
 ·obtain ⟨h1, h2⟩ := wb h; cases h2; exact ⟨rfl, fun _ => by simp only [h1, Lk]⟩
 ·obtain ⟨h1, h2⟩ := wb h; cases h2; exact ⟨rfl, fun _ => by simp only [h1, Lk]⟩
 ·obtain ⟨h1, h2⟩ := wb h; cases h2; exact ⟨rfl, fun _ => by simp only [h1, Lk]⟩
theorem aj {op : Op} (hs : yu op = false) (hc : cls env op = 0) {ev : Operand → AV} {H : List Ob} {v : AV} {H' : List Ob} (h : z8 T h0 env inl op ev H (fun v h => some (v, h)) = some (v, H')) :
  H' = H ∧ ∀ H2, z8 T h0 env inl op ev H2 (fun v h => some (v, h)) = some (v, H2) := by
 cases op <;> first | (simp [cls] at hc; done) | (simp [yu] at hs; done) | skip
 case slice t x lo hi mx => cases mx <;> simp [cls] at hc
 case build t parts =>
  simp only [z8] at h ⊢
  split at h
  ·split at h
   ·rename_i cs hcs; cases h; exact ⟨rfl, fun H2 => rfl⟩
   ·cases h
  ·split at h
   ·split at h
    ·rename_i cs hcs; cases h; exact ⟨rfl, fun H2 => by simp only [hcs]⟩
    ·cases h
   ·cases h
  ·cases h
 case convert s d x =>
  simp only [z8, u9] at h ⊢
  obtain ⟨z, hz, e⟩ := LH.1 h
  cases e
  exact ⟨rfl, fun H2 => by rw [hz]; rfl⟩
 case binOp b t x y u =>
  simp only [z8] at h ⊢
  split at h
  ·simp only [re] at h ⊢
   obtain ⟨z, hz, e⟩ := LH.1 h
   cases e
   exact ⟨rfl, fun H2 => by rw [hz]; rfl⟩
  ·simp only [ro] at h ⊢
   obtain ⟨z, hz, e⟩ := LH.1 h
   cases e
   exact ⟨rfl, fun H2 => by rw [hz]; rfl⟩
  ·simp only [sH] at h ⊢
   obtain ⟨z, hz, e⟩ := LH.1 h
   cases e
   exact ⟨rfl, fun H2 => by rw [hz]; rfl⟩
  ·simp only [sI] at h ⊢
   obtain ⟨z, hz, e⟩ := LH.1 h
   cases e
   exact ⟨rfl, fun H2 => by rw [hz]; rfl⟩
  ·simp only [sT] at h ⊢
   obtain ⟨z, hz, e⟩ := LH.1 h
   cases e
   exact ⟨rfl, fun H2 => by rw [hz]; rfl⟩
  ·simp only [yK] at h ⊢
   obtain ⟨z, hz, e⟩ := LH.1 h
   cases e
   exact ⟨rfl, fun H2 => by rw [hz]; rfl⟩
  ·simp only [yK] at h ⊢
   obtain ⟨z, hz, e⟩ := LH.1 h
   cases e
   exact ⟨rfl, fun H2 => by rw [hz]; rfl⟩
  ·cases h
 case index t x i =>
  simp only [z8] at h ⊢
  split at h
  ·obtain ⟨h1, h2⟩ := wb h; cases h2; exact ⟨rfl, fun _ => by simp only [h1, Lk]⟩
  ·cases h
 case call c =>
  simp only [cls] at hc
  split at hc <;> first | (simp at hc; done) | skip
  split at hc
  ·rename_i con _; cases hm : Nat.beq con.mode 1 <;> simp [hm] at hc
  ·simp at hc
theorem aH (hm : ∀ f c, env f = some c → c.mode = 1 → ∀ (args : List AV) (H l : List Ob) (X : c.X), c.look (args.map (roV H)) H = some X → c.look (args.map (roV (H ++ l))) (H ++ l) = some X)
  {op : Op} (hs : yu op = false) (hc : cls env op = 1) {ev : Operand → AV} (hfun : ∀ f, ev (.func f) = .val false [.fn f []]) {H : List Ob} {v : AV} {H' : List Ob} (h : z8 T h0 env inl op ev H (fun v h => some (v, h)) = some (v, H')) :
  H' = H ∧ ∀ ob, z8 T h0 env inl op ev (H ++ [ob]) (fun v h => some (v, h)) = some (v, H ++ [ob]) := by
 cases op <;> first | (simp [cls] at hc; done) | (simp [yu] at hs; done) | skip
 case indexAddr t x i =>
  simp only [z8] at h ⊢
  split at h
  ·split at h
   ·exact XM h
   ·cases h
  ·split at h
   ·rw [xR] at h
    obtain ⟨q, hq, h2⟩ := LH.1 h
    simp only [Lp, Lw] at h2
    obtain ⟨rfl, rfl⟩ := h2
    exact ⟨rfl, fun ob => by rw [xR, hq]; rfl⟩
   ·cases h
  ·cases h
 case slice t x lo hi mx =>
  simp only [z8] at h ⊢
  split at h
  ·split at h
   ·split at h
    ·obtain ⟨h1, h2⟩ := WE h; exact ⟨h1, fun ob => h2 _⟩
    ·cases h
   ·split at h
    ·split at h
     ·exact VB h
     ·rename_i hmx
      cases mx with
      | none => cases hmx
      | some m => simp [cls] at hc
    ·cases h
   ·cases h
  ·cases h
 case call c =>
  simp only [cls] at hc
  split at hc <;> first | (simp at hc; done) | skip
  ·rename_i hcal; simp [yu, hcal] at hs
  ·rename_i g hcal
   split at hc
   ·rename_i con hcon
    cases hmode : Nat.beq con.mode 1 with
    | false => simp [hmode] at hc
    | true =>
     simp only [z8, hcal, hfun, jh, hcon, hmode, Lk] at h ⊢
     have hm1 : con.mode = 1 := Lo hmode
     split at h
     ·rename_i X hX
      cases hF : con.F X with
      | none => simp [hF] at h
      | some Y =>
       simp only [hF, Lm, Lp, Lw] at h
       obtain ⟨rfl, rfl⟩ := h
       refine ⟨rfl, fun ob => ?_⟩
       have hconv : ∀ (H : List Ob) (l : List AV), conv H con.mode l = l.map (roV H) := fun H l => by simp [conv, hmode]
       rw [hconv] at hX ⊢
       rw [hm g con hcon hm1 _ H [ob] X hX]
       simp only [hF, Lm]
     ·cases h
   ·simp at hc
theorem ar {op : Op} (hc : cls env op = 2) {ev : Operand → AV} {H : List Ob} {v : AV} {H' : List Ob} (h : z8 T h0 env inl op ev H (fun v h => some (v, h)) = some (v, H')) : ∃ ob, H' = H ++ [ob] := by
 cases op <;> first | (simp [cls] at hc; done) | skip
 case slice t x lo hi mx => cases mx <;> simp [cls] at hc
 case alloc t => simp only [z8] at h; split at h <;> cases h; exact ⟨_, rfl⟩
 case box t x => simp only [z8] at h; split at h <;> cases h; exact ⟨_, rfl⟩
 case buildSlice t len parts =>
  simp only [z8] at h
  split at h
  ·split at h
   ·split at h
    ·split at h
     ·cases h; exact ⟨_, rfl⟩
     ·cases h
    ·cases h
   ·cases h
  ·cases h
 case makeSlice t l c =>
  simp only [z8] at h
  split at h
  ·split at h
   ·split at h
    ·obtain ⟨_, h2⟩ := YN h
     cases h2; exact ⟨_, rfl⟩
    ·cases h
   ·cases h
  ·cases h
 case call c =>
  simp only [cls] at hc
  split at hc <;> first | (simp at hc; done) | skip
  split at hc
  ·rename_i con _; cases hm : Nat.beq con.mode 1 <;> simp [hm] at hc
  ·simp at hc
theorem jo {op : Op} (hc : cls env op ≤ 2) (ev : Operand → AV) (hfun : ∀ f, ev (.func f) = .val false [.fn f []]) (H : List Ob) : zN env op ev H = [] := by
 cases op <;> first | rfl | skip
 case call c =>
  simp only [cls] at hc
  simp only [zN]
  split
  ·rename_i hcal; simp [hcal] at hc
  ·rename_i f hcal
   cases f with
   | func g =>
    simp only [hcal] at hc
    rw [hfun]
    simp only
    split
    ·rename_i con hcon
     simp only [hcon] at hc
     cases hmode : Nat.beq con.mode 1 with
     | false => simp [hmode] at hc
     | true => simp only [Lk]; split <;> rfl
    ·rfl
   | tmp t => simp [hcal] at hc
   | const v => simp [hcal] at hc
   | global g => simp [hcal] at hc
  ·rfl
end
end Go.Proofs.YtefddghdaimklaaGreatDoor.AI
