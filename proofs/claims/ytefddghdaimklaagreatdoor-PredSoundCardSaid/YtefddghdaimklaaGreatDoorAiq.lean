/- A part of the proof. -/
import Derived.Test.YtefddghdaimklaaGreatDoorAip
import Derived.Orders
set_option linter.unusedVariables false
set_option linter.unusedSimpArgs false
namespace Go.Proofs.YtefddghdaimklaaGreatDoor.AI
open Go
theorem dO (ks : List Nat) : ∀ (v : AV), zX v = true → ym ks v = v := by
 have one : ∀ (i : Nat) (c : C), qj c = true → Sub.c (.kill i) c = c := fun i c h => by cases c <;> first | rfl | (simp [qj] at h)
 have onev : ∀ (i : Nat) (v : AV), zX v = true → Sub.v (.kill i) v = v := fun i v h => by
  cases v with
  | val g cs =>
   simp only [Sub.v]
   congr 1
   conv => rhs; rw [← List.map_id cs]
   exact List.map_congr_left fun c hc => one i c (Nw.1 h c hc)
  | tup l =>
   simp only [Sub.v]
   congr 1
   conv => rhs; rw [← List.map_id l]
   refine List.map_congr_left fun p hp => ?_
   have := Nw.1 h p hp
   show (p.1, p.2.map (Sub.c (.kill i))) = p
   have e : p.2.map (Sub.c (.kill i)) = p.2 := by
    conv => rhs; rw [← List.map_id p.2]
    exact List.map_congr_left fun c hc => one i c (Nw.1 this c hc)
   rw [e]
  | skip => rfl
  | undef => rfl
 induction ks with
 | nil => intro v _; rfl
 | cons i r ih => intro v h; rw [ym, onev i v h]; exact ih v h
theorem nn : ∀ (l : List Sub), (∀ s ∈ l, ∃ i t xs, s = .give i t xs) → ∀ (v : AV), zX v = true → um l v = v
 | [], _, v, _ => rfl
 | s :: r, hs, v, h => by
  obtain ⟨i, t, xs, rfl⟩ := hs s (by simp)
  have one : ∀ (c : C), qj c = true → Sub.c (.give i t xs) c = c := fun c h => by cases c <;> first | rfl | (simp [qj] at h)
  have onev : Sub.v (.give i t xs) v = v := by
   cases v with
   | val g cs =>
    simp only [Sub.v]
    congr 1
    conv => rhs; rw [← List.map_id cs]
    exact List.map_congr_left fun c hc => one c (Nw.1 h c hc)
   | tup l =>
    simp only [Sub.v]
    congr 1
    conv => rhs; rw [← List.map_id l]
    refine List.map_congr_left fun p hp => ?_
    have := Nw.1 h p hp
    show (p.1, p.2.map (Sub.c (.give i t xs))) = p
    have e : p.2.map (Sub.c (.give i t xs)) = p.2 := by
     conv => rhs; rw [← List.map_id p.2]
     exact List.map_congr_left fun c hc => one c (Nw.1 this c hc)
    rw [e]
   | skip => rfl
   | undef => rfl
  rw [um, onev]
  exact nn r (fun s hs' => hs s (by simp [hs'])) v h
theorem rS : ∀ (ids : List Nat) (H : List Ob), ∀ s ∈ x8 ids H, ∃ i t xs, s = .give i t xs
 | [], H, s, h => by simp [x8] at h
 | i :: r, H, s, h => by
  simp only [x8] at h
  split at h
  ·rename_i e t xs _
   rcases NM.1 h with rfl | h
   ·exact ⟨i, t, xs, rfl⟩
   ·exact rS r _ s h
  ·exact rS r _ s h
section
variable {T : TypeId → Option TI} {h0 : Nat} {env : FuncId → Option Con} {inl : FuncId → List AV → List Ob → (AV → List Ob → Option (AV × List Ob)) → Option (AV × List Ob)}
theorem rD {H : List Ob} {i : Nat} {o : Ob} (ob : Ob) (h : H[i]? = some o) : (H ++ [ob])[i]? = some o := by
 rw [List.getElem?_append_left (NB.1 h).1]; exact h
theorem aY {t : TypeId} {H : List Ob} {a v : AV} (ob : Ob) (h : uK T t H a = some v) : uK T t (H ++ [ob]) a = some v := by
 unfold uK at h ⊢
 split at h
 ·cases ht : T t with
  | none => simp [ht] at h
  | some ti =>
   simp only [ht] at h ⊢
   split at h
   ·rename_i cs hc; rw [rD ob hc]; exact h
   ·cases h
 ·exact h
 ·cases ht : T t with
  | none => simp [ht] at h
  | some ti =>
   simp only [ht] at h ⊢
   split at h
   ·rename_i e ty xs hc; rw [rD ob hc]; exact h
   ·cases h
 ·cases h
theorem Vc {H : List Ob} {c : C} {n : Int} (ob : Ob) (h : ni H c = some n) : ni (H ++ [ob]) c = some n := by
 unfold ni at h ⊢
 split at h
 ·exact h
 ·exact h
 ·exact h
 ·split at h
  ·rename_i hc; simp only [rD ob hc]; exact h
  ·cases h
 ·cases h
theorem dx {op : Op} (hs : yo op = true) (hc : cls env op = 0) (ev : Operand → AV) (H H2 : List Ob) : uI T op ev H = uI T op ev H2 := by
 cases op <;> first | rfl | (simp [cls] at hc; done) | skip
 case makeFunc f a b => cases f <;> rfl
 case call c =>
  simp only [cls] at hc
  split at hc <;> first | (simp at hc; done) | skip
  split at hc
  ·rename_i con _; cases hm : Nat.beq con.mode 1 <;> simp [hm] at hc
  ·simp at hc
theorem dp {op : Op} (hs : yo op = true) (hc : cls env op = 1) {ev : Operand → AV} {H : List Ob} {v : AV} (ob : Ob) (h : uI T op ev H = some v) : uI T op ev (H ++ [ob]) = some v := by
 cases op <;> first | (simp [cls] at hc; done) | (simp [yo] at hs; done) | skip
 case load t a => exact aY ob h
 case call c =>
  simp only [uI] at h ⊢
  split at h
  ·rename_i a t hcal hargs hts
   split at h
   ·rename_i cc e b1 b2 b3 b4 h1 h2
    split at h
    ·rename_i n hn
     rw [Vc ob hn]; exact h
    ·cases h
   ·exact h
   ·cases h
  ·cases h
theorem eJ {op : Op} (hs : yo op = true) (hc : cls env op = 0) (fr : List AV) (H H2 : List Ob) : vF T op fr H = vF T op fr H2 := by
 unfold vF
 split
 ·rfl
 ·exact dx hs hc _ _ _
theorem d7 {op : Op} (hs : yo op = true) (hc : cls env op = 1) {fr : List AV} {H : List Ob} {v : AV} (ob : Ob) (h : vF T op fr H = some v) : vF T op fr (H ++ [ob]) = some v := by
 unfold vF at h ⊢
 split at h
 ·exact h
 ·exact dp hs hc ob h
theorem xx {op : Op} {fr fr2 : List AV} (h : ∀ o ∈ op.operands.toList, evA fr2 o = evA fr o) (H : List Ob) : vF T op fr2 H = vF T op fr H := by
 unfold vF
 split
 ·rename_i c a b
  rw [h c (by simp [Op.operands]), h a (by simp [Op.operands]), h b (by simp [Op.operands])]
 ·exact o4 T h H
theorem WY {size : Nat} {H : List Ob} {x : C} {i : Int} {v : AV} {H' : List Ob} (h : ug size H x i (fun v h => some (v, h)) = some (v, H')) : H' = H ∧ ∀ ob, ug size (H ++ [ob]) x i (fun v h => some (v, h)) = some (v, H ++ [ob]) := by
 unfold ug at h ⊢
 split at h
 ·rename_i t xs
  split at h
  ·rename_i hs
   cases hb : (decide (0 ≤ i) && decide (i < (xs.length : Int))) with
   | false => simp [hb] at h
   | true =>
    simp only [hb, Nv, NA, NH] at h
    obtain ⟨rfl, rfl⟩ := h
    exact ⟨rfl, fun ob => by simp only [hs, if_true, hb, Nv]⟩
  ·cases h
 ·rename_i id n
  split at h
  ·rename_i e t xs hx
   split at h
   ·rename_i hs
    cases hb : (decide (0 ≤ i) && decide (i < (n : Int))) with
    | false => simp [hb] at h
    | true =>
     simp only [hb, Nv, NA, NH] at h
     obtain ⟨rfl, rfl⟩ := h
     exact ⟨rfl, fun ob => by simp only [rD ob hx, hs, if_true, hb, Nv]⟩
   ·cases h
  ·cases h
 ·cases h
theorem x7 {α : Type} {c : Bool} {v w : α} (h : (bif c then some v else none) = some w) : c = true ∧ v = w := by
 cases c
 ·cases h
 ·exact ⟨rfl, Option.some.inj h⟩
theorem br {α : Type} {c : Bool} {A : Option α} {w : α} (h : (bif c then A else none) = some w) : c = true ∧ A = some w := by
 cases c
 ·cases h
 ·exact ⟨rfl, h⟩
theorem Wb {size : Nat} {H : List Ob} {x : C} {lo hi : Option Int} {v : AV} {H' : List Ob} (h : uk size H x lo hi (fun v h => some (v, h)) = some (v, H')) : H' = H ∧ ∀ ob, uk size (H ++ [ob]) x lo hi (fun v h => some (v, h)) = some (v, H ++ [ob]) := by
 unfold uk at h ⊢
 split at h
 ·split at h
  ·rename_i hs
   simp only [hs, if_true]
   split at h
   ·cases h; exact ⟨rfl, fun _ => rfl⟩
   ·obtain ⟨h1, h2⟩ := x7 h; cases h2; exact ⟨rfl, fun _ => by simp only [h1, Nv]⟩
   ·obtain ⟨h1, h2⟩ := x7 h; cases h2; exact ⟨rfl, fun _ => by simp only [h1, Nv]⟩
   ·obtain ⟨h1, h2⟩ := x7 h; cases h2; exact ⟨rfl, fun _ => by simp only [h1, Nv]⟩
  ·cases h
 ·split at h
  ·rename_i e t xs hx
   split at h
   ·rename_i hs
    split at h
    ·cases h; exact ⟨rfl, fun ob => by simp only [rD ob hx, hs, if_true]⟩
    ·obtain ⟨h1, h2⟩ := x7 h; cases h2; exact ⟨rfl, fun ob => by simp only [rD ob hx, hs, if_true, h1, Nv]⟩
    ·cases h
   ·cases h
  ·cases h
 ·split at h
  ·obtain ⟨h1, h2⟩ := x7 h; cases h2; exact ⟨rfl, fun _ => by simp only [h1, Nv]⟩
  ·cases h
 ·cases h
theorem Wl {H : List Ob} {s : ByteArray} {lo hi : Option Int} {v : AV} {H' : List Ob} (h : sB H s lo hi (fun v h => some (v, h)) = some (v, H')) : H' = H ∧ ∀ H2, sB H2 s lo hi (fun v h => some (v, h)) = some (v, H2) := by
 unfold sB at h ⊢
 split at h
 ·cases h; exact ⟨rfl, fun _ => rfl⟩
 ·obtain ⟨h1, h2⟩ := x7 h; cases h2; exact ⟨rfl, fun _ => by simp only [h1, Nv]⟩
 ·obtain ⟨h1, h2⟩ := x7 h; cases h2; exact ⟨rfl, fun _ => by simp only [h1, Nv]⟩
 ·obtain ⟨h1, h2⟩ := x7 h; cases h2; exact ⟨rfl, fun _ => by simp only [h1, Nv]⟩
theorem cO {op : Op} (hs : yo op = false) (hc : cls env op = 0) {ev : Operand → AV} {H : List Ob} {v : AV} {H' : List Ob} (h : z0 T h0 env inl op ev H (fun v h => some (v, h)) = some (v, H')) :
  H' = H ∧ ∀ H2, z0 T h0 env inl op ev H2 (fun v h => some (v, h)) = some (v, H2) := by
 cases op <;> first | (simp [cls] at hc; done) | (simp [yo] at hs; done) | skip
 case slice t x lo hi mx => cases mx <;> simp [cls] at hc
 case build t parts =>
  simp only [z0] at h ⊢
  split at h
  ·split at h
   ·rename_i cs hcs; cases h; exact ⟨rfl, fun H2 => rfl⟩
   ·cases h
  ·split at h
   ·split at h
    ·rename_i cs hcs; cases h; exact ⟨rfl, fun H2 => by simp only [hcs]⟩
    ·cases h
   ·cases h
  ·cases h
 case convert s d x =>
  simp only [z0, uU] at h ⊢
  obtain ⟨z, hz, e⟩ := NQ.1 h
  cases e
  exact ⟨rfl, fun H2 => by rw [hz]; rfl⟩
 case binOp b t x y u =>
  simp only [z0] at h ⊢
  split at h
  ·simp only [sI] at h ⊢
   obtain ⟨z, hz, e⟩ := NQ.1 h
   cases e
   exact ⟨rfl, fun H2 => by rw [hz]; rfl⟩
  ·simp only [sQ] at h ⊢
   obtain ⟨z, hz, e⟩ := NQ.1 h
   cases e
   exact ⟨rfl, fun H2 => by rw [hz]; rfl⟩
  ·simp only [sM] at h ⊢
   obtain ⟨z, hz, e⟩ := NQ.1 h
   cases e
   exact ⟨rfl, fun H2 => by rw [hz]; rfl⟩
  ·simp only [tY] at h ⊢
   obtain ⟨z, hz, e⟩ := NQ.1 h
   cases e
   exact ⟨rfl, fun H2 => by rw [hz]; rfl⟩
  ·simp only [sr] at h ⊢
   obtain ⟨z, hz, e⟩ := NQ.1 h
   cases e
   exact ⟨rfl, fun H2 => by rw [hz]; rfl⟩
  ·simp only [yD] at h ⊢
   obtain ⟨z, hz, e⟩ := NQ.1 h
   cases e
   exact ⟨rfl, fun H2 => by rw [hz]; rfl⟩
  ·simp only [yD] at h ⊢
   obtain ⟨z, hz, e⟩ := NQ.1 h
   cases e
   exact ⟨rfl, fun H2 => by rw [hz]; rfl⟩
  ·cases h
 case index t x i =>
  simp only [z0] at h ⊢
  split at h
  ·obtain ⟨h1, h2⟩ := x7 h; cases h2; exact ⟨rfl, fun _ => by simp only [h1, Nv]⟩
  ·cases h
 case call c =>
  simp only [cls] at hc
  split at hc <;> first | (simp at hc; done) | skip
  split at hc
  ·rename_i con _; cases hm : Nat.beq con.mode 1 <;> simp [hm] at hc
  ·simp at hc
theorem cF (hm : ∀ f c, env f = some c → c.mode = 1 → ∀ (args : List AV) (H l : List Ob) (X : c.X), c.look (args.map (roV H)) H = some X → c.look (args.map (roV (H ++ l))) (H ++ l) = some X)
  {op : Op} (hs : yo op = false) (hc : cls env op = 1) {ev : Operand → AV} (hfun : ∀ f, ev (.func f) = .val false [.fn f []]) {H : List Ob} {v : AV} {H' : List Ob} (h : z0 T h0 env inl op ev H (fun v h => some (v, h)) = some (v, H')) :
  H' = H ∧ ∀ ob, z0 T h0 env inl op ev (H ++ [ob]) (fun v h => some (v, h)) = some (v, H ++ [ob]) := by
 cases op <;> first | (simp [cls] at hc; done) | (simp [yo] at hs; done) | skip
 case indexAddr t x i =>
  simp only [z0] at h ⊢
  split at h
  ·split at h
   ·exact WY h
   ·cases h
  ·split at h
   ·rw [xJ] at h
    obtain ⟨q, hq, h2⟩ := NQ.1 h
    simp only [NA, NH] at h2
    obtain ⟨rfl, rfl⟩ := h2
    exact ⟨rfl, fun ob => by rw [xJ, hq]; rfl⟩
   ·cases h
  ·cases h
 case slice t x lo hi mx =>
  simp only [z0] at h ⊢
  split at h
  ·split at h
   ·split at h
    ·obtain ⟨h1, h2⟩ := Wl h; exact ⟨h1, fun ob => h2 _⟩
    ·cases h
   ·split at h
    ·split at h
     ·exact Wb h
     ·rename_i hmx
      cases mx with
      | none => cases hmx
      | some m => simp [cls] at hc
    ·cases h
   ·cases h
  ·cases h
 case call c =>
  simp only [cls] at hc
  split at hc <;> first | (simp at hc; done) | skip
  ·rename_i hcal; simp [yo, hcal] at hs
  ·rename_i g hcal
   split at hc
   ·rename_i con hcon
    cases hmode : Nat.beq con.mode 1 with
    | false => simp [hmode] at hc
    | true =>
     simp only [z0, hcal, hfun, lG, hcon, hmode, Nv] at h ⊢
     have hm1 : con.mode = 1 := Nz hmode
     split at h
     ·rename_i X hX
      cases hF : con.F X with
      | none => simp [hF] at h
      | some Y =>
       simp only [hF, Nx, NA, NH] at h
       obtain ⟨rfl, rfl⟩ := h
       refine ⟨rfl, fun ob => ?_⟩
       have hconv : ∀ (H : List Ob) (l : List AV), conv H con.mode l = l.map (roV H) := fun H l => by simp [conv, hmode]
       rw [hconv] at hX ⊢
       rw [hm g con hcon hm1 _ H [ob] X hX]
       simp only [hF, Nx]
     ·cases h
   ·simp at hc
theorem cC {op : Op} (hc : cls env op = 2) {ev : Operand → AV} {H : List Ob} {v : AV} {H' : List Ob} (h : z0 T h0 env inl op ev H (fun v h => some (v, h)) = some (v, H')) : ∃ ob, H' = H ++ [ob] := by
 cases op <;> first | (simp [cls] at hc; done) | skip
 case slice t x lo hi mx => cases mx <;> simp [cls] at hc
 case alloc t => simp only [z0] at h; split at h <;> cases h; exact ⟨_, rfl⟩
 case box t x => simp only [z0] at h; split at h <;> cases h; exact ⟨_, rfl⟩
 case buildSlice t len parts =>
  simp only [z0] at h
  split at h
  ·split at h
   ·split at h
    ·split at h
     ·cases h; exact ⟨_, rfl⟩
     ·cases h
    ·cases h
   ·cases h
  ·cases h
 case makeSlice t l c =>
  simp only [z0] at h
  split at h
  ·split at h
   ·split at h
    ·obtain ⟨_, h2⟩ := br h
     cases h2; exact ⟨_, rfl⟩
    ·cases h
   ·cases h
  ·cases h
 case call c =>
  simp only [cls] at hc
  split at hc <;> first | (simp at hc; done) | skip
  split at hc
  ·rename_i con _; cases hm : Nat.beq con.mode 1 <;> simp [hm] at hc
  ·simp at hc
theorem ki {op : Op} (hc : cls env op ≤ 2) (ev : Operand → AV) (hfun : ∀ f, ev (.func f) = .val false [.fn f []]) (H : List Ob) : zL env op ev H = [] := by
 cases op <;> first | rfl | skip
 case call c =>
  simp only [cls] at hc
  simp only [zL]
  split
  ·rename_i hcal; simp [hcal] at hc
  ·rename_i f hcal
   cases f with
   | func g =>
    simp only [hcal] at hc
    rw [hfun]
    simp only
    split
    ·rename_i con hcon
     simp only [hcon] at hc
     cases hmode : Nat.beq con.mode 1 with
     | false => simp [hmode] at hc
     | true => simp only [Nv]; split <;> rfl
    ·rfl
   | tmp t => simp [hcal] at hc
   | const v => simp [hcal] at hc
   | global g => simp [hcal] at hc
  ·rfl
end
end Go.Proofs.YtefddghdaimklaaGreatDoor.AI
