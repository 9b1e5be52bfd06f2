/- A part of the proof. -/
import Derived.Test.YtefddghdaimklaaGreatDoorAiq
set_option linter.unusedVariables false
set_option linter.unusedSimpArgs false
namespace Go.Proofs.YtefddghdaimklaaGreatDoor.AI
open Go
def RD (env : FuncId → Option Con) : Prop :=
 ∀ f c, env f = some c → c.mode = 3 → (∀ X Y H, c.outH X Y H = H) ∧ (∀ X a, c.kills X a = []) ∧ ∀ av H H2, c.look av H = c.look av H2
def ik (pl : List Nat) : Operand → Option Nat
 | .func g => some g
 | .tmp s => Tq pl s
 | _ => none
def qz (env : FuncId → Option Con) (pl : List Nat) (o : Oper) : Bool :=
 match o.op with
 | .call c => match c.callee with
  | .value f => match ik pl f with
   | some g => match env g with
    | some con => Nat.beq con.mode 3 && (match o.dst with | some d => xC d pl | none => false)
    | none => false
   | none => false
  | _ => false
 | _ => false
def o7 (op : Op) : Bool :=
 match op with
 | .buildSlice _ _ _ => true
 | .call c => match c.callee with
  | .builtin .append => true
  | _ => false
 | _ => false
def nz (env : FuncId → Option Con) (pl : List Nat) (o : Oper) : Bool :=
 o7 o.op || (match o.op with
  | .call c => match c.callee with
   | .value (.func g) => match env g with
    | some con => Nat.beq con.mode 4 && (match o.dst with | some d => !(xC d pl) && xC (7700000 + d) pl | none => false)
    | none => false
   | _ => false
  | _ => false)
def eR (op : Op) : Bool :=
 match op with
 | .load _ _ => true
 | .fieldAddr _ _ _ => true
 | .indexAddr _ _ _ => true
 | _ => false
def RK (pl : List Nat) (o : Oper) : Bool :=
 eR o.op && ((bH pl).isSome && (match o.dst with | some d => xC d pl && xC (7500000 + d) pl | none => false))
def stH (pl : List Nat) (o : Oper) : Bool :=
 (match o.op with | .store _ _ _ => true | _ => false) && ((bH pl).isSome && o.dst.isNone)
def Xa (env : FuncId → Option Con) (pl : List Nat) (o : Oper) : Bool :=
 Nat.beq (cls env o.op) 0 && (match o.dst with | some d => xC d pl && xC (7600000 + d) pl | none => false)
def TJ (op : Op) : Bool :=
 match op with
 | .load _ _ => true
 | .fieldAddr _ _ _ => true
 | _ => false
def v8 : List Nat → C → C
 | [], c => c
 | id :: r, c => v8 r (Sub.c (.kill id) c)
def pM (ks : List Nat) (H H2 : List Ob) : Prop := ∀ (id : Nat) (cs : List C), H[id]? = some (Ob.box cs) → ∃ ds : List C, H2[id]? = some (Ob.box ds) ∧ cs = ds.map (v8 ks)
theorem pp : ∀ (ks : List Nat) (c d : C), v8 ks c = d → gF d = true → c = d
 | [], c, d, h, _ => h
 | id :: r, c, d, h, hd => by
  have h1 := pp r _ d h hd
  cases c <;> simp only [Sub.c] at h1 <;> first | exact h1 | skip
  ·rename_i j n
   cases hb : Nat.beq j id with
   | true => rw [hb, Nv] at h1; subst h1; cases hd
   | false => rw [hb, Nu] at h1; exact h1
  ·rename_i j n o
   cases hb : Nat.beq j id with
   | true => rw [hb, Nv] at h1; subst h1; cases hd
   | false => rw [hb, Nu] at h1; exact h1
theorem lC (id : Nat) (r : List Nat) (cs : List C) : (cs.map (Sub.c (.kill id))).map (v8 r) = cs.map (v8 (id :: r)) := by
 rw [List.map_map]; rfl
theorem kg : ∀ (ks : List Nat) (g : Bool) (cs : List C), ym ks (.val g cs) = .val g (cs.map (v8 ks))
 | [], g, cs => by simp [ym, v8]
 | id :: r, g, cs => by
  show ym r (.val g (cs.map (Sub.c (.kill id)))) = _
  rw [kg r g, lC]
theorem jb : ∀ (ks : List Nat) (l : List (Bool × List C)), ym ks (.tup l) = .tup (l.map fun p => (p.1, p.2.map (v8 ks)))
 | [], l => by simp [ym, v8]
 | id :: r, l => by
  show ym r (.tup (l.map fun p => (p.1, p.2.map (Sub.c (.kill id))))) = _
  rw [jb r, List.map_map]
  congr 2
  funext p
  simp only [Function.comp, lC]
theorem nl : ∀ ks : List Nat, ym ks .skip = .skip
 | [] => rfl
 | _ :: r => nl r
theorem ol : ∀ ks : List Nat, ym ks .undef = .undef
 | [] => rfl
 | _ :: r => ol r
theorem rf {ks : List Nat} : ∀ {cs : List C}, (cs.map (v8 ks)).all gF = true → cs.map (v8 ks) = cs
 | [], _ => rfl
 | c :: r, h => by
  simp only [NN, List.all_cons, Nt] at h ⊢
  rw [← pp ks c _ rfl h.1, rf h.2]
theorem dL {ks : List Nat} {u : AV} (h : xt (ym ks u) = true) : ym ks u = u := by
 cases u with
 | val g cs => rw [kg] at h ⊢; rw [rf h]
 | tup l =>
  rw [jb] at h ⊢
  congr 1
  have : ∀ p ∈ l, (p.1, p.2.map (v8 ks)) = p := fun p hp => by
   simp only [xt, List.all_map, Nw, Function.comp] at h
   rw [rf (Nw.2 (by simpa using h p hp))]
  conv => rhs; rw [← List.map_id l]
  exact List.map_congr_left this
 | skip => exact nl ks
 | undef => exact ol ks
theorem ci (H : List Ob) : pM [] H H := fun id cs h => ⟨cs, h, by simp [v8]⟩
theorem rH {H : List Ob} {ob : Ob} (hb : ∀ cs, ob ≠ .box cs) : pM [] (H ++ [ob]) H := fun id cs h => by
 rcases Nat.lt_or_ge id H.length with hlt | hge
 ·rw [List.getElem?_append_left hlt] at h
  exact ⟨cs, h, by simp [v8]⟩
 ·rw [List.getElem?_append_right hge] at h
  cases hi : id - H.length with
  | zero => rw [hi] at h; simp at h; exact absurd h (hb cs)
  | succ n => rw [hi] at h; simp at h
theorem eG {H : List Ob} {id : Nat} {ob : Ob} (hb : ∀ cs, ob ≠ .box cs) : pM [id] ((Sub.h (.kill id) H).set id ob) H := fun j cs h => by
 by_cases hj : id = j
 ·subst hj
  rcases Nat.lt_or_ge id (Sub.h (.kill id) H).length with hlt | hge
  ·rw [List.getElem?_set_self hlt] at h
   exact absurd (Option.some.inj h) (hb cs)
  ·rw [List.getElem?_eq_none (by simpa using hge)] at h; cases h
 ·rw [List.getElem?_set_ne hj] at h
  unfold Sub.h at h
  rw [List.getElem?_map] at h
  cases hH : H[j]? with
  | none => rw [hH] at h; cases h
  | some o =>
   rw [hH] at h
   cases o <;> simp [Sub.ob] at h
   subst h
   exact ⟨_, rfl, rfl⟩
def i6 (op : Op) : Bool :=
 match op with
 | .call c => match c.callee with
  | .builtin .len => true
  | _ => false
 | _ => false
def Mono1 (env : FuncId → Option Con) : Prop :=
 RD env ∧ (∀ f c, env f = some c → c.mode = 1 → ∀ (args : List AV) (H l : List Ob) (X : c.X), c.look (args.map (roV H)) H = some X → c.look (args.map (roV (H ++ l))) (H ++ l) = some X) ∧
 ∀ f c, env f = some c → c.mode = 4 → (∀ X Y H, ∃ l : List Ob, c.outH X Y H = H ++ l ∧ ∀ ob ∈ l, ∀ cs, ob ≠ .box cs) ∧ ∀ X a, c.kills X a = []
def zK (fr : List AV) (t : Nat) : AV := fr.getD t .undef
structure Eff (T : TypeId → Option TI) (h0 : Nat) (env : FuncId → Option Con) (inl : FuncId → List AV → List Ob → (AV → List Ob → Option (AV × List Ob)) → Option (AV × List Ob)) (pl : List Nat) (ops : Array Oper) (o : Oper) (fr : List AV) (H : List Ob) (s : St) : Prop where
 out : ∃ (φ : AV → AV) (H' : List Ob) (v : AV) (L : List Nat),
  s = ⟨wS (fr.map φ) o.dst v, H'⟩ ∧ (∀ t ∈ L, t ∈ o.looksAt ops) ∧ φ .undef = .undef ∧ (∀ v, zX v = true → φ v = v) ∧
  (∀ fr2 : List AV, (∀ t ∈ L, zK fr2 t = zK fr t) → yt T h0 env inl true pl ops.toList o ⟨fr2, H⟩ = some ⟨wS (fr2.map φ) o.dst v, H'⟩) ∧
  (cls env o.op ≤ 2 → ∀ v, φ v = v) ∧
  (cls env o.op = 0 → H' = H ∧ ∀ (fr2 : List AV) H2, (∀ t ∈ L, zK fr2 t = zK fr t) → yt T h0 env inl true pl ops.toList o ⟨fr2, H2⟩ = some ⟨wS fr2 o.dst v, H2⟩) ∧
  (cls env o.op = 1 → H' = H ∧ ∀ (fr2 : List AV) ob, (∀ t ∈ L, zK fr2 t = zK fr t) → yt T h0 env inl true pl ops.toList o ⟨fr2, H ++ [ob]⟩ = some ⟨wS fr2 o.dst v, H ++ [ob]⟩) ∧
  (cls env o.op = 2 → H' = H ∨ ∃ ob, H' = H ++ [ob]) ∧
  (cls env o.op = 0 → (∃ d, o.dst = some d ∧ xC d pl = true) → zX v = true ∧ ∀ t ∈ L, zX (zK fr t) = true) ∧
  (qz env pl o = true → (∀ v, φ v = v) ∧ H' = H ∧ (∀ (fr2 : List AV) H2, (∀ t ∈ L, zK fr2 t = zK fr t) → yt T h0 env inl true pl ops.toList o ⟨fr2, H2⟩ = some ⟨wS fr2 o.dst v, H2⟩) ∧ zX v = true ∧ ∀ t ∈ L, zX (zK fr t) = true) ∧
  (cls env o.op = 4 → (∀ v, φ v = v) ∧ ∀ c, ni H' c = ni H c) ∧
  (i6 o.op = true → (∀ v, φ v = v) ∧ H' = H ∧ ∀ (fr2 : List AV) H2, (∀ t ∈ L, zK fr2 t = zK fr t) → (∀ c, ni H2 c = ni H c) → yt T h0 env inl true pl ops.toList o ⟨fr2, H2⟩ = some ⟨wS fr2 o.dst v, H2⟩) ∧
  (nz env pl o = true → ∃ ks, (∀ v, φ v = ym ks v) ∧ pM ks H' H) ∧
  (RK pl o = true → (∀ v, φ v = v) ∧ H' = H ∧ ∃ N, bH pl = some N ∧ ∀ (fr2 : List AV) H2, (∀ t ∈ L, zK fr2 t = zK fr t) → (∀ id, id < N → H2[id]? = H[id]?) → yt T h0 env inl true pl ops.toList o ⟨fr2, H2⟩ = some ⟨wS fr2 o.dst v, H2⟩) ∧
  (stH pl o = true → (∀ v, φ v = v) ∧ ∃ N, bH pl = some N ∧ ∀ id, id < N → H'[id]? = H[id]?) ∧
  (Xa env pl o = true → zX v = true ∧ ∀ t ∈ L, xt (zK fr t) = true) ∧
  (TJ o.op = true → (∃ d, o.dst = some d ∧ xC d pl = true) → zX v = true ∧ (∀ v, φ v = v) ∧ H' = H ∧ (∀ t ∈ L, xt (zK fr t) = true) ∧
   ∀ (ks : List Nat) (fr2 : List AV) H2, (∀ t ∈ L, zK fr2 t = zK fr t) → pM ks H H2 → yt T h0 env inl true pl ops.toList o ⟨fr2, H2⟩ = some ⟨wS fr2 o.dst v, H2⟩)
section
variable {T : TypeId → Option TI} {h0 : Nat} {env : FuncId → Option Con} {inl : FuncId → List AV → List Ob → (AV → List Ob → Option (AV × List Ob)) → Option (AV × List Ob)} {pl : List Nat} {ops : Array Oper}
theorem kW {all : List Oper} {o : Oper} {fr fr2 : List AV} (h : ∀ j w oj t, o.guard = some (j, w) → all[j]? = some oj → oj.dst = some t → zK fr2 t = zK fr t) : yY all fr2 o = yY all fr o := by
 unfold yY
 split
 ·rfl
 ·rename_i j w hg
  split
  ·rename_i oj hj
   split
   ·rename_i t ht
    rw [show fr2.getD t .undef = fr.getD t .undef from h j w oj t hg hj ht]
   ·rfl
  ·rfl
def yx (ops : Array Oper) (o : Oper) : List Nat :=
 match o.guard with
 | some (g, _) => ((ops[g]?).bind (·.dst)).toList
 | none => []
def pO (o : Oper) : List Nat := o.op.operands.toList.filterMap fun | .tmp t => some t | _ => none
theorem wL (o : Oper) : o.looksAt ops = pO o ++ yx ops o := by
 unfold Oper.looksAt yx pO
 cases o.guard with
 | none => rfl
 | some p => rfl
theorem pK {o : Oper} {fr fr2 : List AV} (h : ∀ t ∈ yx ops o, zK fr2 t = zK fr t) : yY ops.toList fr2 o = yY ops.toList fr o :=
 kW (fun j w oj t hg hj ht => h t (by
  simp only [yx, hg]
  have : ops[j]? = some oj := by simpa using hj
  simp [this, ht]))
theorem ZV {o : Oper} {fr fr2 : List AV} (h : ∀ t ∈ pO o, zK fr2 t = zK fr t) : ∀ x ∈ o.op.operands.toList, evA fr2 x = evA fr x := by
 intro x hx
 cases x with
 | tmp t => exact h t (List.mem_filterMap.2 ⟨.tmp t, hx, rfl⟩)
 | _ => rfl
theorem xD {o : Oper} {fr fr2 : List AV} (h : ∀ x ∈ o.op.operands.toList, evA fr2 x = evA fr x) (v : AV) : nh pl o.dst o.op (evA fr2) v = nh pl o.dst o.op (evA fr) v :=
 n4 h pl o.dst v
theorem yO {φ : AV → AV} (h : ∀ v, φ v = v) (fr : List AV) : fr.map φ = fr := by
 conv => rhs; rw [← List.map_id fr]
 exact List.map_congr_left fun v _ => h v
theorem tK {o : Oper} {fr : List AV} {b : Bool} (h : yY ops.toList fr o = some b) : ∀ t ∈ yx ops o, zX (zK fr t) = true := by
 intro t ht
 unfold yY at h
 unfold yx at ht
 split at h
 ·rename_i hg; simp [hg] at ht
 ·rename_i j w hg
  simp only [hg] at ht
  split at h
  ·rename_i oj hj
   have hj' : ops[j]? = some oj := by simpa using hj
   split at h
   ·rename_i t' ht'
    simp [hj', ht'] at ht
    subst ht
    split at h
    ·rename_i c hc
     show zX (fr.getD t .undef) = true
     rw [hc]; rfl
    ·rename_i hc
     show zX (fr.getD t .undef) = true
     rw [hc]; rfl
    ·cases h
   ·cases h
  ·cases h
theorem Tz {o : Oper} (h : qz env pl o = true) : yo o.op = false := by
 unfold qz at h
 split at h
 ·rename_i c ho
  split at h
  ·rename_i f hcal; rw [ho]; simp [yo, hcal]
  ·cases h
 ·cases h
theorem cZ {o : Oper} (h : qz env pl o = true) : ∃ d, o.dst = some d ∧ xC d pl = true := by
 unfold qz at h
 split at h
 ·split at h
  ·split at h
   ·split at h
    ·rw [Nt] at h
     have h2 := h.2
     split at h2
     ·rename_i d hd; exact ⟨d, hd, h2⟩
     ·cases h2
    ·cases h
   ·cases h
  ·cases h
 ·cases h
theorem dm {f : Operand} {g : Nat} {fr : List AV} {c : Call} (hcal : c.callee = .value f) (hg : ik pl f = some g) (hs : sT pl (.call c) (evA fr) = true) : evA fr f = .val false [.fn g []] := by
 unfold ik at hg
 split at hg
 ·cases hg; rfl
 ·rename_i s
  simp only [sT, hcal, hg] at hs
  unfold QF at hs
  split at hs
  ·rename_i g' hv
   rw [hv, Nz hs]
  ·cases hs
 ·cases hg
theorem pW {c : C} (h : qj c = true) : Ul c = [] := by
 cases c <;> first | rfl | (simp [qj] at h)
theorem rI {v : AV} (h : zX v = true) : p9 v = [] := by
 cases v with
 | val g cs =>
  simp only [zX, Nw] at h
  exact List.flatMap_eq_nil_iff.2 fun c hc => pW (h c hc)
 | tup l =>
  simp only [zX, Nw] at h
  exact List.flatMap_eq_nil_iff.2 fun p hp => List.flatMap_eq_nil_iff.2 fun c hc => pW (h p hp c hc)
 | skip => rfl
 | undef => rfl
theorem Sa (hm : RD env) {o : Oper} (h : qz env pl o = true) {fr : List AV} (hp : ∀ t ∈ pO o, zX (zK fr t) = true) (hsl : sT pl o.op (evA fr) = true) {H : List Ob} :
  yz env o.op (evA fr) = [] ∧ (∀ H2, zL env o.op (evA fr) H2 = []) ∧
  ∀ v H', z0 T h0 env inl o.op (evA fr) H (fun v h => some (v, h)) = some (v, H') → H' = H ∧ ∀ H2, z0 T h0 env inl o.op (evA fr) H2 (fun v h => some (v, h)) = some (v, H2) := by
 unfold qz at h
 split at h
 ·rename_i c ho
  split at h
  ·rename_i f hcal
   split at h
   ·rename_i g hg
    have hev := dm hcal hg (by rw [ho] at hsl; exact hsl)
    split at h
    ·rename_i con hcon
     rw [Nt] at h
     have hmode := Nz h.1
     obtain ⟨s1, s2, s3⟩ := hm g con hcon hmode
     have hb1 : Nat.beq con.mode 1 = false := by rw [hmode]; rfl
     rw [ho]
     refine ⟨?_, fun H2 => ?_, fun v H' hk => ?_⟩
     ·simp only [yz, hcal, hev, hcon]
      have : Nat.ble 2 con.mode = true := by rw [hmode]; rfl
      rw [this, Nv]
      have hall : ∀ a ∈ c.args.toList, p9 (evA fr a) = [] := fun a ha => by
       cases a with
       | tmp t =>
        refine rI (hp t ?_)
        unfold pO
        refine List.mem_filterMap.2 ⟨.tmp t, ?_, rfl⟩
        rw [ho]
        simp only [Op.operands, Call.operands, Array.toList_append, NS]
        exact .inr ha
       | const v => refine rI ?_; show zX (ma v) = true; unfold ma; split <;> rfl
       | func f => rfl
       | global g => simp only [evA]; cases dI g <;> rfl
      rw [List.flatMap_eq_nil_iff]
      exact hall
     ·simp only [zL, hcal, hev, hcon, hb1, Nu]
      split
      ·exact s2 _ _
      ·rfl
     ·simp only [z0, hcal, hev, lG, hcon, hb1, Nu, conv, s2, List.all_nil, Nv, s1] at hk ⊢
      split at hk
      ·rename_i X hX
       cases hF : con.F X with
       | none => rw [hF] at hk; cases hk
       | some Y =>
        rw [hF] at hk
        cases hk
        refine ⟨rfl, fun H2 => ?_⟩
        rw [s3 _ H2 H, hX]
        simp only [hF, Nx]
      ·cases hk
    ·cases h
   ·cases h
  ·cases h
 ·cases h
theorem ZA {t : TypeId} {H H' : List Ob} {a v : AV} (h : py T t H a v = some H') (c : C) : ni H' c = ni H c := by
 have key : ∀ id ob ob', H[id]? = some ob → (∀ e t xs, ob = .arr e t xs → ∃ ys, ob' = .arr e t ys) → (∀ e t ys, ob' = .arr e t ys → ∃ xs, ob = .arr e t xs) → ni (H.set id ob') c = ni H c := by
  intro id ob ob' hid h1 h2
  unfold ni
  split <;> first | rfl | skip
  rename_i j n
  by_cases hj : id = j
  ·subst hj
   have hlt := (NB.1 hid).1
   rw [List.getElem?_set_self hlt, hid]
   cases ob with
   | arr e t xs => obtain ⟨ys, rfl⟩ := h1 e t xs rfl; rfl
   | _ =>
    cases ob' with
    | arr e t ys => obtain ⟨xs, hx⟩ := h2 e t ys rfl; cases hx
    | _ => rfl
  ·rw [List.getElem?_set_ne hj]
 unfold py at h
 split at h
 ·split at h
  ·split at h
   ·split at h
    ·rename_i hb
     split at h
     ·cases h
      exact key _ _ _ hb (fun _ _ _ e => by cases e) (fun _ _ _ e => by cases e)
     ·cases h
    ·cases h
   ·cases h
  ·cases h
 ·split at h
  ·split at h
   ·split at h
    ·rename_i hb
     simp only at h
     split at h
     ·split at h
      ·cases h
       exact key _ _ _ hb (fun _ _ _ e => by cases e; exact ⟨_, rfl⟩) (fun _ _ _ e => by cases e; exact ⟨_, rfl⟩)
      ·cases h
     ·cases h
    ·cases h
   ·cases h
  ·cases h
 ·cases h
theorem Xk {op : Op} (h : i6 op = true) : yo op = true := by
 unfold i6 at h
 split at h
 ·rename_i c
  split at h
  ·rename_i hcal; simp [yo, hcal]
  ·cases h
 ·cases h
theorem bR {op : Op} (h : i6 op = true) (fr : List AV) {H H2 : List Ob} (hl : ∀ c, ni H2 c = ni H c) : vF T op fr H2 = vF T op fr H := by
 unfold i6 at h
 split at h
 ·rename_i c
  show uI T (.call c) (evA fr) H2 = uI T (.call c) (evA fr) H
  simp only [uI, hl]
 ·cases h
theorem mT {β : Type} {c : Bool} {x : Option β} {y : β} (h : (bif c then x else none) = some y) : x = some y := by
 cases c with
 | true => exact h
 | false => cases h
theorem XC {op : Op} (h : o7 op = true) : yo op = false := by
 unfold o7 at h
 split at h
 ·rfl
 ·rename_i c
  split at h
  ·rename_i hcal; simp [yo, hcal]
  ·cases h
 ·cases h
theorem Ui {op : Op} (h : TJ op = true) : yo op = true := by
 unfold TJ at h
 split at h <;> first | rfl | cases h
theorem Zm {op : Op} (h : o7 op = true) {ev : Operand → AV} (hs : ∀ t n p, op = .buildSlice t n p → yz env op ev = []) : yz env op ev = [] := by
 unfold o7 at h
 split at h
 ·exact hs _ _ _ rfl
 ·rename_i c
  split at h
  ·rename_i hcal; simp [yz, hcal]
  ·cases h
 ·cases h
theorem WV {op : Op} (h : o7 op = true) {ev : Operand → AV} {H H' : List Ob} {v : AV} (hk : z0 T h0 env inl op ev H (fun v h => some (v, h)) = some (v, H')) : pM (zL env op ev H) H' H := by
 unfold o7 at h
 split at h
 ·rename_i t n p
  simp only [z0] at hk
  split at hk
  ·split at hk
   ·split at hk
    ·split at hk
     ·cases hk
      exact rH (fun cs e => by cases e)
     ·cases hk
    ·cases hk
   ·cases hk
  ·cases hk
 ·rename_i c
  split at h
  ·rename_i hcal
   simp only [z0, hcal] at hk
   simp only [zL, hcal]
   split at hk
   ·rename_i s x st sx hargs hts
    simp only [hargs]
    split at hk
    ·rename_i a b ha hb
     rw [ha]
     unfold Td at hk
     split at hk
     ·rename_i n hz
      have hnil : a = .nils := by
       unfold TW at hz
       split at hz
       ·rfl
       ·cases hz
      subst hnil
      unfold fe at hk
      split at hk
      ·split at hk
       ·split at hk
        ·have hk2 := mT hk
         cases hk2
         exact rH (fun cs e => by cases e)
        ·cases hk
       ·cases hk
      ·cases hk
     ·unfold tJ at hk
      split at hk
      ·split at hk
       ·split at hk
        ·cases hk
        ·split at hk
         ·rename_i ys _
          split at hk
          ·have hk2 := mT hk
           cases hk2
           exact rH (fun cs e => by cases e)
          ·rename_i id n
           split at hk
           ·split at hk
            ·split at hk
             ·have hk2 := mT hk
              cases hk2
              exact eG (fun cs e => by cases e)
             ·cases hk
            ·cases hk
           ·cases hk
          ·cases hk
         ·cases hk
       ·cases hk
      ·cases hk
    ·cases hk
   ·cases hk
  ·cases h
 ·cases h
theorem ct {ks : List Nat} {g : Bool} {off size : Nat} {cs ds : List C} {v : AV} (h : part g off size cs = some v) (hs : xt v = true) (he : cs = ds.map (v8 ks)) : part g off size ds = some v := by
 subst he
 unfold part at h ⊢
 simp only at h ⊢
 split at h
 ·rename_i hl
  cases h
  have e : ((ds.map (v8 ks)).drop off).take size = ((ds.drop off).take size).map (v8 ks) := by rw [List.map_take, List.map_drop]
  rw [e] at hs hl
  have hf : ((ds.drop off).take size).map (v8 ks) = (ds.drop off).take size := rf hs
  rw [if_pos (by simpa using hl), e, hf]
 ·cases h
theorem ZU {op : Op} (h : TJ op = true) {fr : List AV} {H : List Ob} {v : AV} (hv : vF T op fr H = some v) (hp : ∀ x ∈ op.operands.toList, zX (evA fr x) = true) (hs : kG op v = true) :
  (∀ x ∈ op.operands.toList, xt (evA fr x) = true) ∧ ∀ ks H2, pM ks H H2 → vF T op fr H2 = some v := by
 unfold TJ at h
 split at h
 ·rename_i t a
  have hp1 : zX (evA fr a) = true := hp a (by simp [Op.operands])
  have hv' : uK T t H (evA fr a) = some v := hv
  have hs' : xt v = true := hs
  show (∀ x ∈ (#[a] : Array Operand).toList, _) ∧ ∀ ks H2, _ → uK T t H2 (evA fr a) = some v
  generalize hw : evA fr a = w at *
  have hop : ∀ x ∈ (#[a] : Array Operand).toList, xt w = true → xt (evA fr x) = true := fun x hx hsw => by
   have : x = a := by simpa using hx
   rw [this, hw]; exact hsw
  unfold uK at hv'
  split at hv'
  ·rename_i id off
   refine ⟨fun x hx => hop x hx rfl, fun ks H2 hb => ?_⟩
   split at hv'
   ·rename_i ti hT
    split at hv'
    ·rename_i cs hcs
     obtain ⟨ds, h1, h2⟩ := hb _ _ hcs
     simp only [uK, hT, h1]
     exact ct hv' hs' h2
    ·cases hv'
   ·cases hv'
  ·refine ⟨fun x hx => hop x hx rfl, fun ks H2 hb => ?_⟩
   simp only [uK]
   exact hv'
  ·cases hp1
  ·cases hv'
 ·rename_i s x f
  refine ⟨fun y hy => ?_, fun ks H2 hb => hv⟩
  have : y = x := by simpa [Op.operands] using hy
  subst this
  have hv' : uI T (.fieldAddr s y f) (evA fr) H = some v := hv
  simp only [uI] at hv'
  split at hv'
  ·rename_i e; rw [e]; rfl
  ·rename_i e; rw [e]; rfl
  ·rename_i e; rw [e]; rfl
  ·cases hv'
 ·cases h
theorem vY {o : Oper} {fr : List AV} {b : Bool} (h : yY ops.toList fr o = some b) : ∀ t ∈ yx ops o, xt (zK fr t) = true := by
 intro t ht
 unfold yY at h
 unfold yx at ht
 split at h
 ·rename_i hg; simp [hg] at ht
 ·rename_i j w hg
  simp only [hg] at ht
  split at h
  ·rename_i oj hj
   have hj' : ops[j]? = some oj := by simpa using hj
   split at h
   ·rename_i t' ht'
    simp [hj', ht'] at ht
    subst ht
    split at h
    ·rename_i c hc
     show xt (fr.getD t .undef) = true
     rw [hc]; rfl
    ·rename_i hc
     show xt (fr.getD t .undef) = true
     rw [hc]; rfl
    ·cases h
   ·cases h
  ·cases h
theorem d4 {H l : List Ob} (hb : ∀ ob ∈ l, ∀ cs, ob ≠ .box cs) : pM [] (H ++ l) H := fun id cs h => by
 rcases Nat.lt_or_ge id H.length with hlt | hge
 ·rw [List.getElem?_append_left hlt] at h
  exact ⟨cs, h, by simp [v8]⟩
 ·rw [List.getElem?_append_right hge] at h
  exact absurd rfl (hb _ (ND h) cs)
theorem WZ {N id off : Nat} (h : YO N (.val false [.ptr id off]) = true) : id < N := by
 have h2 : Nat.blt id N = true := h
 exact Nat.lt_of_lt_of_le (NG id) (Nat.le_of_ble_eq_true h2)
theorem XW {N id n : Nat} (h : YO N (.val false [.own id n]) = true) : id < N := by
 have h2 : Nat.blt id N = true := h
 exact Nat.lt_of_lt_of_le (NG id) (Nat.le_of_ble_eq_true h2)
theorem XR {t : TypeId} {a : AV} {H H2 : List Ob} {N : Nat} (ha : YO N a = true) (hh : ∀ id, id < N → H2[id]? = H[id]?) : uK T t H2 a = uK T t H a := by
 unfold uK
 split
 ·rw [hh _ (WZ ha)]
 ·rfl
 ·cases ha
 ·rfl
theorem dR {size : Nat} {H : List Ob} {x : C} {i : Int} {v : AV} {H' : List Ob} {N : Nat} (hx : YO N (.val false [x]) = true) (h : ug size H x i (fun v h => some (v, h)) = some (v, H')) : H' = H ∧ ∀ H2 : List Ob, (∀ id, id < N → H2[id]? = H[id]?) → ug size H2 x i (fun v h => some (v, h)) = some (v, H2) := by
 unfold ug at h ⊢
 split at h
 ·rename_i t xs
  split at h
  ·rename_i hs
   cases hb : (decide (0 ≤ i) && decide (i < (xs.length : Int))) with
   | false => simp [hb] at h
   | true =>
    simp only [hb, Nv, NA, NH] at h
    obtain ⟨rfl, rfl⟩ := h
    exact ⟨rfl, fun H2 hh => by simp only [hs, if_true, hb, Nv]⟩
  ·cases h
 ·rename_i id n
  split at h
  ·rename_i e t xs hx2
   split at h
   ·rename_i hs
    cases hb : (decide (0 ≤ i) && decide (i < (n : Int))) with
    | false => simp [hb] at h
    | true =>
     simp only [hb, Nv, NA, NH] at h
     obtain ⟨rfl, rfl⟩ := h
     exact ⟨rfl, fun H2 hh => by simp only [hh _ (XW hx), hx2, hs, if_true, hb, Nv]⟩
   ·cases h
  ·cases h
 ·cases h
theorem TH {t : TypeId} {x i : Operand} {ev : Operand → AV} {H : List Ob} {v : AV} {H' : List Ob} {N : Nat} (hx : YO N (ev x) = true) (h : z0 T h0 env inl (.indexAddr t x i) ev H (fun v h => some (v, h)) = some (v, H')) :
  H' = H ∧ ∀ H2 : List Ob, (∀ id, id < N → H2[id]? = H[id]?) → z0 T h0 env inl (.indexAddr t x i) ev H2 (fun v h => some (v, h)) = some (v, H2) := by
 simp only [z0] at h ⊢
 split at h
 ·rename_i hev _ _
  split at h
  ·rw [hev] at hx
   exact dR hx h
  ·cases h
 ·split at h
  ·rw [xJ] at h
   obtain ⟨q, hq, h2⟩ := NQ.1 h
   simp only [NA, NH] at h2
   obtain ⟨rfl, rfl⟩ := h2
   exact ⟨rfl, fun H2 _ => by rw [xJ, hq]; rfl⟩
  ·cases h
 ·cases h
theorem Yb {t : TypeId} {H H' : List Ob} {a v : AV} {N : Nat} (ha : Vg N a = true) (h : py T t H a v = some H') : ∀ id, id < N → H'[id]? = H[id]? := by
 have key : ∀ (i : Nat) (ob : Ob), N ≤ i → ∀ id, id < N → (H.set i ob)[id]? = H[id]? := fun i ob hi id hid => List.getElem?_set_ne (by omega)
 unfold py at h
 split at h
 ·rename_i i off _ _
  have hi : N ≤ i := Nat.le_of_ble_eq_true ha
  split at h
  ·split at h
   ·split at h
    ·split at h
     ·cases h; exact key _ _ hi
     ·cases h
    ·cases h
   ·cases h
  ·cases h
 ·rename_i i _ _ _ _
  have hi : N ≤ i := Nat.le_of_ble_eq_true ha
  split at h
  ·split at h
   ·split at h
    ·simp only at h
     split at h
     ·split at h
      ·cases h; exact key _ _ hi
      ·cases h
     ·cases h
    ·cases h
   ·cases h
  ·cases h
 ·cases h
theorem gH {o : Oper} (h : RK pl o = true) : ∃ d N, o.dst = some d ∧ xC d pl = true ∧ xC (7500000 + d) pl = true ∧ bH pl = some N := by
 unfold RK at h
 simp only [Nt] at h
 obtain ⟨_, h2, h3⟩ := h
 split at h3
 ·rename_i d hd
  simp only [Nt] at h3
  obtain ⟨N, hN⟩ := Option.isSome_iff_exists.1 h2
  exact ⟨d, N, hd, h3.1, h3.2, hN⟩
 ·cases h3
theorem Vt {o : Oper} (h : stH pl o = true) : (∃ t a x, o.op = .store t a x) ∧ (∃ N, bH pl = some N) ∧ o.dst = none := by
 unfold stH at h
 simp only [Nt] at h
 obtain ⟨h1, h2, h3⟩ := h
 refine ⟨?_, Option.isSome_iff_exists.1 h2, Option.isNone_iff_eq_none.1 h3⟩
 split at h1
 ·rename_i e; exact ⟨_, _, _, e⟩
 ·cases h1
theorem jv {o : Oper} (h : Xa env pl o = true) : cls env o.op = 0 ∧ ∃ d, o.dst = some d ∧ xC d pl = true ∧ xC (7600000 + d) pl = true := by
 unfold Xa at h
 simp only [Nt, Ux] at h
 refine ⟨h.1, ?_⟩
 have h2 := h.2
 split at h2
 ·rename_i d hd
  simp only [Nt] at h2
  exact ⟨d, hd, h2.1, h2.2⟩
 ·cases h2
theorem lD {o : Oper} (h : nz env pl o = true) (h2 : o7 o.op = false) : ∃ c g con d, o.op = .call c ∧ c.callee = .value (.func g) ∧ env g = some con ∧ con.mode = 4 ∧ o.dst = some d ∧ xC d pl = false ∧ xC (7700000 + d) pl = true := by
 unfold nz at h
 rw [h2, Bool.false_or] at h
 split at h
 ·rename_i c ho
  split at h
  ·rename_i g hcal
   split at h
   ·rename_i con hcon
    simp only [Nt, Ux] at h
    have h3 := h.2
    split at h3
    ·rename_i d hd
     simp only [Nt, Bool.not_eq_true'] at h3
     exact ⟨c, g, con, d, ho, hcal, hcon, h.1, hd, h3.1, h3.2⟩
    ·cases h3
   ·cases h
  ·cases h
 ·cases h
theorem bQ {o : Oper} (h : nz env pl o = true) : yo o.op = false := by
 cases h2 : o7 o.op with
 | true => exact XC h2
 | false =>
  obtain ⟨c, g, con, d, ho, hcal, _⟩ := lD h h2
  rw [ho]; simp [yo, hcal]
theorem bd {op : Op} {fr : List AV} {H H2 : List Ob} {N : Nat} (hl : eR op = true) (hs : yo op = true) (hlo : ∀ x ∈ op.operands.toList, YO N (evA fr x) = true) (hh : ∀ id, id < N → H2[id]? = H[id]?) : vF T op fr H2 = vF T op fr H := by
 unfold eR at hl
 split at hl
 ·rename_i t a
  show uK T t H2 (evA fr a) = uK T t H (evA fr a)
  exact XR (hlo a (by simp [Op.operands])) hh
 ·rfl
 ·cases hs
 ·cases hl
theorem cw {op : Op} (h : cls env op = 4) : ∃ t a x, op = .store t a x := by
 unfold cls at h
 repeat' split at h
 all_goals first
  | (exact absurd h (by decide))
  | exact ⟨_, _, _, rfl⟩
  | (rename_i con _; cases hb : Nat.beq con.mode 1 <;> simp [hb] at h)
theorem VD (hm : Mono1 env) {o : Oper} {fr : List AV} {H : List Ob} {s : St} (h : yt T h0 env inl true pl ops.toList o ⟨fr, H⟩ = some s) : Eff T h0 env inl pl ops o fr H s := by
 refine ⟨?_⟩
 unfold yt at h
 split at h
 ·cases h
 ·
  rename_i hg
  cases h
  have hgo : ∀ (fr2 : List AV) (H2 : List Ob), (∀ t ∈ yx ops o, zK fr2 t = zK fr t) → yt T h0 env inl true pl ops.toList o ⟨fr2, H2⟩ = some ⟨wS fr2 o.dst .skip, H2⟩ := fun fr2 H2 ha => by
   unfold yt
   rw [show yY ops.toList (St.mk fr2 H2).fr o = some false from (pK ha).trans hg]
  refine ⟨fun v => v, H, .skip, yx ops o, by simp, fun t ht => by rw [wL]; exact NS.2 (.inr ht), rfl, fun _ _ => rfl, fun fr2 ha => by rw [hgo fr2 H ha]; simp, fun _ _ => rfl, fun _ => ⟨rfl, fun fr2 H2 ha => hgo fr2 H2 ha⟩, fun _ => ⟨rfl, fun fr2 ob ha => hgo fr2 _ ha⟩, fun _ => .inl rfl, fun _ _ => ⟨rfl, tK hg⟩, fun _ => ⟨fun _ => rfl, rfl, fun fr2 H2 ha => hgo fr2 H2 ha, rfl, tK hg⟩, fun _ => ⟨fun _ => rfl, fun _ => rfl⟩, fun _ => ⟨fun _ => rfl, rfl, fun fr2 H2 ha _ => hgo fr2 H2 ha⟩, fun _ => ⟨[], fun _ => rfl, ci H⟩, (fun hl => by
   obtain ⟨d, N, _, _, _, hN⟩ := gH hl
   exact ⟨fun _ => rfl, rfl, N, hN, fun fr2 H2 ha _ => hgo fr2 H2 ha⟩), (fun hl => by
   obtain ⟨_, ⟨N, hN⟩, _⟩ := Vt hl
   exact ⟨fun _ => rfl, N, hN, fun _ _ => rfl⟩), (fun _ => ⟨rfl, vY hg⟩), fun _ _ => ⟨rfl, fun _ => rfl, rfl, vY hg, fun _ fr2 H2 ha _ => hgo fr2 H2 ha⟩⟩
 ·rename_i hg
  split at h
  ·rename_i s2 v hop
   cases hp : nh pl o.dst o.op (evA fr) v with
   | false => simp [hp] at h
   | true =>
   simp only [hp, Nv, NA] at h
   subst h
   have hL : ∀ t ∈ o.looksAt ops, t ∈ o.looksAt ops := fun t ht => ht
   have split2 : ∀ {fr2 : List AV}, (∀ t ∈ o.looksAt ops, zK fr2 t = zK fr t) → (∀ x ∈ o.op.operands.toList, evA fr2 x = evA fr x) ∧ yY ops.toList fr2 o = some true := fun {fr2} ha =>
    ⟨ZV (fun t ht => ha t (by rw [wL]; exact NS.2 (.inl ht))), by rw [pK (fun t ht => ha t (by rw [wL]; exact NS.2 (.inr ht)))]; exact hg⟩
   have hpl4 : ∀ d, o.dst = some d → xC d pl = true → ((o.op.operands.toList.all (fun x => zX (evA fr x)) = true ∧ zX v = true ∧ kG o.op v = true) ∧ sT pl o.op (evA fr) = true) ∧ iU pl d o.op (evA fr) = true := fun d hd hmem => by
    unfold nh at hp
    simp only [hd, hmem, Nv] at hp
    split at hp
    ·cases hp
    ·simp only [Nt] at hp
     exact hp
   have hplain : (∃ d, o.dst = some d ∧ xC d pl = true) → zX v = true ∧ ∀ t ∈ o.looksAt ops, zX (zK fr t) = true := by
    rintro ⟨d, hd, hmem⟩
    have hp := hpl4 d hd hmem
    refine ⟨hp.1.1.2.1, fun t ht => ?_⟩
    rw [wL] at ht
    rcases NS.1 ht with ht | ht
    ·obtain ⟨x, hx, hxe⟩ := List.mem_filterMap.1 ht
     cases x with
     | tmp t' => simp at hxe; subst hxe; exact Nw.1 hp.1.1.1 _ hx
     | _ => simp at hxe
    ·exact tK hg t ht
   have hsolid : (∃ d, o.dst = some d ∧ xC d pl = true) → kG o.op v = true := by
    rintro ⟨d, hd, hmem⟩
    exact (hpl4 d hd hmem).1.1.2.2
   have hslot : (∃ d, o.dst = some d ∧ xC d pl = true) → sT pl o.op (evA fr) = true := by
    rintro ⟨d, hd, hmem⟩
    exact (hpl4 d hd hmem).1.2
   have hlow : ∀ d N, o.dst = some d → xC d pl = true → xC (7500000 + d) pl = true → bH pl = some N → ∀ x ∈ o.op.operands.toList, YO N (evA fr x) = true := fun d N hd hmem h75 hN x hx => by
    have h := (hpl4 d hd hmem).2
    unfold iU at h
    rw [h75, Nv, hN] at h
    rw [Nt] at h
    exact Nw.1 h.1 x hx
   have hsol : ∀ d, o.dst = some d → xC d pl = true → xC (7600000 + d) pl = true → ∀ x ∈ o.op.operands.toList, xt (evA fr x) = true := fun d hd hmem h76 x hx => by
    have h := (hpl4 d hd hmem).2
    unfold iU at h
    rw [h76, Nv, Nt] at h
    exact Nw.1 h.2 x hx
   have hhigh : ∀ N t a x, o.dst = none → bH pl = some N → o.op = .store t a x → Vg N (evA fr a) = true := fun N t a x hd hN ho => by
    unfold nh at hp
    simp only [hd, l5, ho, hN] at hp
    exact hp
   have hbare : ∀ d c, o.dst = some d → xC d pl = false → xC (7700000 + d) pl = true → o.op = .call c → ∀ x ∈ o.op.operands.toList, zX (evA fr x) = true := fun d c hd hmem h77 ho x hx => by
    unfold nh at hp
    simp only [hd, hmem, Nu, kZ, ho, h77, Nv] at hp
    rw [ho] at hx
    exact Nw.1 hp x hx
   have core : ∃ (φ : AV → AV) (H' : List Ob), s2 = ⟨fr.map φ, H'⟩ ∧ φ .undef = .undef ∧ (∀ v, zX v = true → φ v = v) ∧
     (∀ fr2 : List AV, (∀ x ∈ o.op.operands.toList, evA fr2 x = evA fr x) → opD T h0 env inl true o.op ⟨fr2, H⟩ = some (⟨fr2.map φ, H'⟩, v)) ∧ (cls env o.op ≤ 2 → ∀ v, φ v = v) ∧
     (cls env o.op = 0 → H' = H ∧ ∀ (fr2 : List AV) H2, (∀ x ∈ o.op.operands.toList, evA fr2 x = evA fr x) → opD T h0 env inl true o.op ⟨fr2, H2⟩ = some (⟨fr2, H2⟩, v)) ∧
     (cls env o.op = 1 → H' = H ∧ ∀ (fr2 : List AV) ob, (∀ x ∈ o.op.operands.toList, evA fr2 x = evA fr x) → opD T h0 env inl true o.op ⟨fr2, H ++ [ob]⟩ = some (⟨fr2, H ++ [ob]⟩, v)) ∧
     (cls env o.op = 2 → H' = H ∨ ∃ ob, H' = H ++ [ob]) ∧
     (qz env pl o = true → (∀ v, φ v = v) ∧ H' = H ∧ ∀ (fr2 : List AV) H2, (∀ x ∈ o.op.operands.toList, evA fr2 x = evA fr x) → opD T h0 env inl true o.op ⟨fr2, H2⟩ = some (⟨fr2, H2⟩, v)) ∧
     (cls env o.op = 4 → (∀ v, φ v = v) ∧ ∀ c, ni H' c = ni H c) ∧
     (i6 o.op = true → (∀ v, φ v = v) ∧ H' = H ∧ ∀ (fr2 : List AV) H2, (∀ x ∈ o.op.operands.toList, evA fr2 x = evA fr x) → (∀ c, ni H2 c = ni H c) → opD T h0 env inl true o.op ⟨fr2, H2⟩ = some (⟨fr2, H2⟩, v)) ∧
     (nz env pl o = true → ∃ ks, (∀ v, φ v = ym ks v) ∧ pM ks H' H) ∧
     (∀ N, eR o.op = true → (∀ x ∈ o.op.operands.toList, YO N (evA fr x) = true) → (∀ v, φ v = v) ∧ H' = H ∧ ∀ (fr2 : List AV) H2, (∀ x ∈ o.op.operands.toList, evA fr2 x = evA fr x) → (∀ id, id < N → H2[id]? = H[id]?) → opD T h0 env inl true o.op ⟨fr2, H2⟩ = some (⟨fr2, H2⟩, v)) ∧
     (∀ N t a x, o.op = .store t a x → Vg N (evA fr a) = true → (∀ v, φ v = v) ∧ ∀ id, id < N → H'[id]? = H[id]?) ∧
     (TJ o.op = true → (∀ x ∈ o.op.operands.toList, zX (evA fr x) = true) → kG o.op v = true → (∀ v, φ v = v) ∧ H' = H ∧ (∀ x ∈ o.op.operands.toList, xt (evA fr x) = true) ∧
      ∀ (ks : List Nat) (fr2 : List AV) H2, (∀ x ∈ o.op.operands.toList, evA fr2 x = evA fr x) → pM ks H H2 → opD T h0 env inl true o.op ⟨fr2, H2⟩ = some (⟨fr2, H2⟩, v)) := by
    unfold opD at hop
    cases hs : yo o.op with
    | true =>
     simp only [hs, Nv] at hop
     split at hop
     ·rename_i z hz
      cases hop
      have hcl : cls env o.op ≤ 1 := by
       cases hop : o.op <;> simp [hop, yo] at hs <;> simp [cls]
       rename_i c
       split at hs
       ·rename_i hcal; simp [hcal]
       ·cases hs
      refine ⟨fun v => v, H, by simp, rfl, fun _ _ => rfl, fun fr2 ha => ?_, fun _ _ => rfl, fun hc => ⟨rfl, fun fr2 H2 ha => ?_⟩, fun hc => ⟨rfl, fun fr2 ob ha => ?_⟩, (fun hc => by omega), (fun hq => by rw [Tz hq] at hs; cases hs), (fun hc => by omega), (fun hl => ⟨fun _ => rfl, rfl, fun fr2 H2 ha hlen => ?_⟩), (fun hl => by rw [bQ hl] at hs; cases hs), (fun N hl hlo => ⟨fun _ => rfl, rfl, fun fr2 H2 ha hh => ?_⟩), (fun N t a x ho => by rw [ho] at hs; cases hs), fun hl hpl hso => ⟨fun _ => rfl, rfl, (ZU hl hz hpl hso).1, fun ks fr2 H2 ha hb => ?_⟩⟩
      ·simp only [opD, hs, Nv, xx ha, hz, List.map_id']
      ·simp only [opD, hs, Nv, xx ha, eJ hs hc fr H2 H, hz]
      ·simp only [opD, hs, Nv, xx ha, d7 hs hc ob hz]
      ·simp only [opD, hs, Nv, xx ha, bR hl fr hlen, hz]
      ·simp only [opD, hs, Nv, xx ha, bd hl hs hlo hh, hz]
      ·simp only [opD, hs, Nv, xx ha, (ZU hl hz hpl hso).2 ks H2 hb]
     ·cases hop
    | false =>
     simp only [hs, Nu] at hop
     unfold ls at hop
     simp only [NJ, Bool.false_or] at hop
     generalize hids : yz env o.op (evA fr) = ids at hop
     cases hcc : (ids.all (Nat.ble h0)) && (Nat.beq (cls env o.op) 3 || ids.isEmpty) with
     | false => simp [hcc] at hop
     | true =>
      simp only [hcc, Nv] at hop
      split at hop
      ·rename_i v' H' hk
       cases hop
       obtain ⟨e1, e2⟩ := z8 ids fr H
       generalize hks : zL env o.op (evA (St.seals ids ⟨fr, H⟩).fr) (St.seals ids ⟨fr, H⟩).H = ks at *
       have hφ1 := p5 (x8 ids H)
       have hφ2 := l8 ks
       have hfr : ∀ fr2 : List AV, uf (St.seals ids ⟨fr2, H⟩).fr ks = fr2.map (fun v => ym ks (um (x8 ids H) v)) := fun fr2 => by
        rw [rF, (z8 ids fr2 H).1, List.map_map]; rfl
       have hgen : ∀ fr2 : List AV, (∀ x ∈ o.op.operands.toList, evA fr2 x = evA fr x) → opD T h0 env inl true o.op ⟨fr2, H⟩ = some (⟨fr2.map (fun v => ym ks (um (x8 ids H) v)), H'⟩, v) := fun fr2 ha => by
        have hev : ∀ x ∈ o.op.operands.toList, evA (St.seals ids ⟨fr2, H⟩).fr x = evA (St.seals ids ⟨fr, H⟩).fr x := fun x hx => by
         rw [(z8 ids fr2 H).1, e1]
         have := ha x hx
         cases x with
         | tmp t =>
          simp only [evA] at this ⊢
          rw [wh hφ1.undef, wh hφ1.undef, this]
         | _ => rfl
        have hHH : (St.seals ids ⟨fr2, H⟩).H = (St.seals ids ⟨fr, H⟩).H := e2 fr2
        simp only [opD, hs, Nu, ls, NJ, Bool.false_or, wc ha, hids, hcc, Nv, hHH, vL T hev, hk, we hev, hks, hfr]
       have low : cls env o.op ≤ 2 → ids = [] ∧ ks = [] := fun hc => by
        have hi : ids = [] := by
         rw [Nt] at hcc
         have := hcc.2
         have h3 : Nat.beq (cls env o.op) 3 = false := by
          cases hb : Nat.beq (cls env o.op) 3 with
          | true => have := Nz hb; omega
          | false => rfl
         simp [h3] at this
         exact this
        refine ⟨hi, ?_⟩
        rw [← hks]
        exact ki hc _ (fun f => rfl) _
       have hlowfr : cls env o.op ≤ 2 → ∀ w, ym ks (um (x8 ids H) w) = w := fun hc w => by
        obtain ⟨h1, h2⟩ := low hc
        rw [h1, h2]; rfl
       have hlowS : cls env o.op ≤ 2 → ∀ (fr2 : List AV) (H2 : List Ob), St.seals ids ⟨fr2, H2⟩ = ⟨fr2, H2⟩ := fun hc fr2 H2 => by rw [(low hc).1]; rfl
       have again : ∀ (hc : cls env o.op ≤ 2) (fr2 : List AV) (H2 H3 : List Ob), (∀ x ∈ o.op.operands.toList, evA fr2 x = evA fr x) → z0 T h0 env inl o.op (evA fr) H2 (fun v h => some (v, h)) = some (v, H3) →
         opD T h0 env inl true o.op ⟨fr2, H2⟩ = some (⟨fr2, H3⟩, v) := fun hc fr2 H2 H3 ha hk2 => by
        simp only [opD, hs, Nu, ls, NJ, Bool.false_or, wc ha, hids, hcc, Nv, hlowS hc, vL T ha, hk2, we ha, ki hc (evA fr) (fun f => rfl) H2, uf]
       refine ⟨fun v => ym ks (um (x8 ids H) v), H', by rw [hfr], by simp only [hφ1.undef, hφ2.undef], fun w hw => by show ym ks (um (x8 ids H) w) = w; rw [nn _ (rS ids H) w hw]; exact dO ks w hw, hgen, hlowfr, fun hc => ?_, fun hc => ?_, fun hc => ?_, fun hq => ?_, fun hc => ?_, (fun hl => by rw [Xk hl] at hs; cases hs), (fun hl => ?_), (fun N hl hlo => ?_), (fun N t a x ho hhi => ?_), fun hl => by rw [Ui hl] at hs; cases hs⟩
       ·rw [hlowS (by omega)] at hk
        obtain ⟨r1, r2⟩ := cO hs hc hk
        exact ⟨r1, fun fr2 H2 ha => again (by omega) fr2 H2 H2 ha (r2 H2)⟩
       ·rw [hlowS (by omega)] at hk
        obtain ⟨r1, r2⟩ := cF hm.2.1 hs hc (fun f => rfl) hk
        exact ⟨r1, fun fr2 ob ha => again (by omega) fr2 _ _ ha (r2 ob)⟩
       ·rw [hlowS (by omega)] at hk
        exact .inr (cC hc hk)
       ·obtain ⟨q1, q2, q3⟩ := Sa hm.1 hq (fun t ht => (hplain (cZ hq)).2 t (by rw [wL]; exact NS.2 (.inl ht))) (hslot (cZ hq)) (fr := fr) (H := H)
        rw [q1] at hids
        subst hids
        have hk' : z0 T h0 env inl o.op (evA fr) H (fun v h => some (v, h)) = some (v, H') := hk
        obtain ⟨r1, r2⟩ := q3 v H' hk'
        have hks' : ks = [] := by rw [← hks]; exact q2 H
        subst hks'
        refine ⟨fun w => rfl, r1, fun fr2 H2 ha => ?_⟩
        have hsl : St.seals [] ⟨fr2, H2⟩ = ⟨fr2, H2⟩ := rfl
        simp only [opD, hs, Nu, ls, NJ, Bool.false_or, wc ha, q1, hcc, Nv, hsl, vL T ha, r2 H2, we ha, q2 H2, uf]
       ·have hi : ids = [] := by
         rw [Nt] at hcc
         have := hcc.2
         rw [hc] at this
         simpa using this
        subst hi
        have hop : ∃ t a x, o.op = .store t a x := cw hc
        obtain ⟨t, a, x, hop⟩ := hop
        have hk0 : ks = [] := by rw [← hks, hop]; rfl
        subst hk0
        refine ⟨fun w => rfl, fun c => ?_⟩
        have hk' : z0 T h0 env inl o.op (evA fr) H (fun v h => some (v, h)) = some (v, H') := hk
        rw [hop] at hk'
        simp only [z0] at hk'
        split at hk'
        ·rename_i H2 hst
         cases hk'
         exact ZA hst c
        ·cases hk'
       ·cases hrow : o7 o.op with
        | true =>
         have hl := hrow
         have hi : ids = [] := by
          rw [← hids]
          refine Zm hl fun t n p ho => ?_
          have : cls env o.op ≤ 2 := by rw [ho]; exact NF 2
          rw [hids]
          exact (low this).1
         subst hi
         have hk' : z0 T h0 env inl o.op (evA fr) H (fun v h => some (v, h)) = some (v, H') := hk
         refine ⟨ks, fun w => rfl, ?_⟩
         have := WV hl hk'
         rw [show zL env o.op (evA fr) H = ks from hks] at this
         exact this
        | false =>
         obtain ⟨c, g, con, d, ho, hcal, hcon, hmode, hd, hmem, h77⟩ := lD hl hrow
         obtain ⟨r1, r2⟩ := hm.2.2 g con hcon hmode
         have hb1 : Nat.beq con.mode 1 = false := by rw [hmode]; rfl
         have hpl := hbare d c hd hmem h77 ho
         have hi : ids = [] := by
          rw [← hids, ho]
          simp only [yz, hcal, evA, hcon]
          have : Nat.ble 2 con.mode = true := by rw [hmode]; rfl
          rw [this, Nv, List.flatMap_eq_nil_iff]
          intro a ha
          refine rI (hpl a ?_)
          rw [ho]
          simp only [Op.operands, Call.operands, Array.toList_append, NS]
          exact .inr ha
         subst hi
         have hk' : z0 T h0 env inl o.op (evA fr) H (fun v h => some (v, h)) = some (v, H') := hk
         rw [ho] at hk'
         simp only [z0, hcal, evA, lG, hcon, hb1, Nu] at hk'
         have hks0 : ks = [] := by
          have h2 : zL env o.op (evA fr) H = ks := hks
          rw [← h2, ho]
          simp only [zL, hcal, evA, hcon, hb1, Nu]
          split
          ·exact r2 _ _
          ·rfl
         refine ⟨ks, fun w => rfl, ?_⟩
         rw [hks0]
         split at hk'
         ·rename_i X hX
          have hk2 := mT hk'
          cases hF : con.F X with
          | none => rw [hF] at hk2; cases hk2
          | some Y =>
           rw [hF] at hk2
           cases hk2
           obtain ⟨l, e, hb⟩ := r1 X Y H
           rw [e]
           exact d4 hb
         ·cases hk'
       ·obtain ⟨t, x, i, ho⟩ : ∃ t x i, o.op = .indexAddr t x i := by
         unfold eR at hl
         split at hl
         ·rename_i e; rw [e] at hs; cases hs
         ·rename_i e; rw [e] at hs; cases hs
         ·rename_i e; exact ⟨_, _, _, e⟩
         ·cases hl
        have hc2 : cls env o.op ≤ 2 := by rw [ho]; exact Nat.le_succ 1
        obtain ⟨h1, h2⟩ := low hc2
        subst h1
        have hk' : z0 T h0 env inl o.op (evA fr) H (fun v h => some (v, h)) = some (v, H') := hk
        have hx := hlo x (by rw [ho]; simp [Op.operands])
        rw [ho] at hk'
        obtain ⟨q1, q2⟩ := TH hx hk'
        refine ⟨hlowfr hc2, q1, fun fr2 H2 ha hh => again hc2 fr2 H2 H2 ha ?_⟩
        rw [ho]
        exact q2 H2 hh
       ·have hi : ids = [] := by
         rw [Nt] at hcc
         have := hcc.2
         rw [show cls env o.op = 4 by rw [ho]; rfl] at this
         simpa using this
        subst hi
        have hk0 : ks = [] := by rw [← hks, ho]; rfl
        subst hk0
        refine ⟨fun w => rfl, ?_⟩
        have hk' : z0 T h0 env inl o.op (evA fr) H (fun v h => some (v, h)) = some (v, H') := hk
        rw [ho] at hk'
        simp only [z0] at hk'
        split at hk'
        ·rename_i H2 hst
         cases hk'
         exact Yb hhi hst
        ·cases hk'
      ·cases hop
   obtain ⟨φ, H', rfl, q1, q2, q3, q4, q5, q6, q7, q8, q9, q10, q11, q13, q14, q12⟩ := core
   have hopl : (∃ d, o.dst = some d ∧ xC d pl = true) → ∀ x ∈ o.op.operands.toList, zX (evA fr x) = true := fun hd x hx => by
    cases x with
    | tmp t => exact (hplain hd).2 t (by rw [wL]; exact NS.2 (.inl (List.mem_filterMap.2 ⟨.tmp t, hx, rfl⟩)))
    | const v => show zX (ma v) = true; unfold ma; split <;> rfl
    | func f => rfl
    | global g => simp only [evA]; cases dI g <;> rfl
   refine ⟨φ, H', v, o.looksAt ops, rfl, hL, q1, q2, fun fr2 ha => ?_, q4, fun hc => ⟨(q5 hc).1, fun fr2 H2 ha => ?_⟩, fun hc => ⟨(q6 hc).1, fun fr2 ob ha => ?_⟩, q7, fun _ hd => hplain hd, fun hq => ⟨(q8 hq).1, (q8 hq).2.1, fun fr2 H2 ha => ?_, hplain (cZ hq)⟩, q9, (fun hl => ⟨(q10 hl).1, (q10 hl).2.1, fun fr2 H2 ha hlen => ?_⟩), q11, (fun hl => ?_), (fun hl => ?_), (fun hl => ?_), fun hl hd => ⟨(hplain hd).1, (q12 hl (hopl hd) (hsolid hd)).1, (q12 hl (hopl hd) (hsolid hd)).2.1, fun t ht => ?_, fun ks fr2 H2 ha hb => ?_⟩⟩
   ·obtain ⟨a1, a2⟩ := split2 ha
    simp only [yt, a2, q3 fr2 a1, xD a1, hp, Nv]
   ·obtain ⟨a1, a2⟩ := split2 ha
    simp only [yt, a2, (q5 hc).2 fr2 H2 a1, xD a1, hp, Nv]
   ·obtain ⟨a1, a2⟩ := split2 ha
    simp only [yt, a2, (q6 hc).2 fr2 ob a1, xD a1, hp, Nv]
   ·obtain ⟨a1, a2⟩ := split2 ha
    simp only [yt, a2, (q8 hq).2.2 fr2 H2 a1, xD a1, hp, Nv]
   ·obtain ⟨a1, a2⟩ := split2 ha
    simp only [yt, a2, (q10 hl).2.2 fr2 H2 a1 hlen, xD a1, hp, Nv]
   ·obtain ⟨d, N, hd, hmem, h75, hN⟩ := gH hl
    have hlo : eR o.op = true := by unfold RK at hl; rw [Nt] at hl; exact hl.1
    obtain ⟨k1, k2, k3⟩ := q13 N hlo (hlow d N hd hmem h75 hN)
    refine ⟨k1, k2, N, hN, fun fr2 H2 ha hh => ?_⟩
    obtain ⟨a1, a2⟩ := split2 ha
    simp only [yt, a2, k3 fr2 H2 a1 hh, xD a1, hp, Nv]
   ·obtain ⟨⟨t, a, x, ho⟩, ⟨N, hN⟩, hd⟩ := Vt hl
    obtain ⟨k1, k2⟩ := q14 N t a x ho (hhigh N t a x hd hN ho)
    exact ⟨k1, N, hN, k2⟩
   ·obtain ⟨_, d, hd, hmem, h76⟩ := jv hl
    refine ⟨(hplain ⟨d, hd, hmem⟩).1, fun t ht => ?_⟩
    rw [wL] at ht
    rcases NS.1 ht with ht | ht
    ·obtain ⟨x, hx, hxe⟩ := List.mem_filterMap.1 ht
     cases x with
     | tmp t' => simp at hxe; subst hxe; exact hsol d hd hmem h76 _ hx
     | _ => simp at hxe
    ·exact vY hg t ht
   ·rw [wL] at ht
    rcases NS.1 ht with ht | ht
    ·obtain ⟨x, hx, hxe⟩ := List.mem_filterMap.1 ht
     cases x with
     | tmp t' => simp at hxe; subst hxe; exact (q12 hl (hopl hd) (hsolid hd)).2.2.1 _ hx
     | _ => simp at hxe
    ·exact vY hg t ht
   ·obtain ⟨a1, a2⟩ := split2 ha
    simp only [yt, a2, (q12 hl (hopl hd) (hsolid hd)).2.2.2 ks fr2 H2 a1 hb, xD a1, hp, Nv]
  ·cases h
def UO (env : FuncId → Option Con) (pl : List Nat) (ops : Array Oper) (x y : Oper) : Bool :=
 Oper.apart ops x y && (((Nat.beq (cls env x.op) 0 && (Nat.ble (cls env y.op) 2 || (match x.dst with | some d => xC d pl | none => false))) || qz env pl x) ||
  ((Nat.beq (cls env y.op) 0 || qz env pl y) && (Nat.ble (cls env x.op) 2 || qz env pl x)) || (Nat.beq (cls env x.op) 1 && (Nat.beq (cls env y.op) 1 || Nat.beq (cls env y.op) 2)) ||
  ((Nat.beq (cls env x.op) 0 || i6 x.op) && Nat.beq (cls env y.op) 4) ||
  (nz env pl x && ((TJ y.op && (match y.dst with | some d => xC d pl | none => false)) || Xa env pl y)) ||
  (RK pl x && stH pl y))
theorem gz {fr : List AV} {dst : Option Tmp} {v : AV} {t : Nat} (h : ∀ d, dst = some d → t ≠ d) : zK (wS fr dst v) t = zK fr t := by
 cases dst with
 | none => rfl
 | some d => exact ud _ _ _ _ (h d rfl)
theorem wx {fr : List AV} {a b : Option Tmp} {v u : AV} (h : ∀ d, a = some d → b ≠ some d) : wS (wS fr a v) b u = wS (wS fr b u) a v := by
 cases a with
 | none => rfl
 | some d =>
  cases b with
  | none => rfl
  | some e =>
   have hne : d ≠ e := fun he => h d rfl (by rw [he])
   exact List.set_comm _ _ hne
theorem f8 {φ : AV → AV} (fr : List AV) (dst : Option Tmp) (v : AV) : (wS fr dst v).map φ = wS (fr.map φ) dst (φ v) := by
 cases dst with
 | none => rfl
 | some d => exact List.map_set
theorem Ns (hm : Mono1 env) {x y : Oper} (hc : UO env pl ops x y = true) {st s1 s2 : St} (h1 : yt T h0 env inl true pl ops.toList x st = some s1) (h2 : yt T h0 env inl true pl ops.toList y s1 = some s2) :
  ∃ s, yt T h0 env inl true pl ops.toList y st = some s ∧ yt T h0 env inl true pl ops.toList x s = some s2 := by
 obtain ⟨fr, H⟩ := st
 unfold UO at hc
 rw [Nt] at hc
 obtain ⟨hap, hc⟩ := hc
 obtain ⟨ap1, ap2, ap3⟩ := Oper.apart_spec hap
 obtain ⟨φ, H1, vx, Lx, rfl, lx, fu, fp, gx, x2, x0, x1, xg, xp, xq, x4, xl, xr, xlo, xst, xfr, xd⟩ := (VD hm h1).out
 obtain ⟨ψ, H2, vy, Ly, rfl, ly, gu, gp, gy, y2, y0, y1, yg, yp, yq, y4, yl, yr, ylo, yst, yfr, yd⟩ := (VD hm h2).out
 have agx : ∀ (f : List AV) (v : AV), ∀ t ∈ Lx, zK (wS f y.dst v) t = zK f t := fun f v t ht => gz (fun d hd e => by subst e; exact ap3 t hd (lx t ht))
 have agy : ∀ (f : List AV) (v : AV), ∀ t ∈ Ly, zK (wS f x.dst v) t = zK f t := fun f v t ht => gz (fun d hd e => by subst e; exact ap1 t hd (ly t ht))
 have hdd : ∀ d, x.dst = some d → y.dst ≠ some d := ap2
 simp only [Bool.or_eq_true, Nt, Ux, Nat.ble_eq] at hc
 rcases hc with ((((hxy | ⟨hy, hx⟩) | ⟨hx, hy⟩) | ⟨hx, hy⟩) | ⟨hx, hyd⟩) | ⟨hx, hy⟩
 ·
  have hx3 : (∀ v, φ v = v) ∧ H1 = H ∧ (∀ (fr2 : List AV) H2, (∀ t ∈ Lx, zK fr2 t = zK fr t) → yt T h0 env inl true pl ops.toList x ⟨fr2, H2⟩ = some ⟨wS fr2 x.dst vx, H2⟩) ∧
    (ψ vx = vx ∧ ∀ t ∈ Lx, ψ (zK fr t) = zK fr t) := by
   rcases hxy with ⟨hx, hy⟩ | hq
   ·obtain ⟨e1, e2⟩ := x0 hx
    refine ⟨x2 (by omega), e1, e2, ?_⟩
    rcases hy with hy | hy
    ·exact ⟨y2 hy _, fun t _ => y2 hy _⟩
    ·cases hd : x.dst with
     | none => simp [hd] at hy
     | some d =>
      simp only [hd] at hy
      obtain ⟨p1, p2⟩ := xp hx ⟨d, hd, hy⟩
      exact ⟨gp _ p1, fun t ht => gp _ (p2 t ht)⟩
   ·obtain ⟨e1, e2, e3, p1, p2⟩ := xq hq
    exact ⟨e1, e2, e3, gp _ p1, fun t ht => gp _ (p2 t ht)⟩
  obtain ⟨hφ, rfl, x0', hψ⟩ := hx3
  rw [yO hφ] at gy h2 ⊢
  have hst := gy fr (fun t ht => (agy fr vx t ht).symm)
  refine ⟨_, hst, ?_⟩
  have hx3 := x0' (wS (fr.map ψ) y.dst vy) H2 (fun t ht => by
   rw [agx _ _ t ht]
   show (fr.map ψ).getD t .undef = _
   rw [wh gu]
   exact hψ.2 t ht)
  rw [hx3, f8, hψ.1, wx hdd]
 ·have hy3 : (∀ v, ψ v = v) ∧ H2 = H1 ∧ ∀ (fr2 : List AV) H3, (∀ t ∈ Ly, zK fr2 t = zK (wS (fr.map φ) x.dst vx) t) → yt T h0 env inl true pl ops.toList y ⟨fr2, H3⟩ = some ⟨wS fr2 y.dst vy, H3⟩ := by
   rcases hy with hy | hq
   ·exact ⟨y2 (by omega), (y0 hy).1, (y0 hy).2⟩
   ·exact ⟨(yq hq).1, (yq hq).2.1, (yq hq).2.2.1⟩
  have hφ : ∀ v, φ v = v := by
   rcases hx with hx | hq
   ·exact x2 hx
   ·exact (xq hq).1
  obtain ⟨hψ, rfl, y0'⟩ := hy3
  rw [yO hφ] at y0' h2 ⊢
  refine ⟨_, y0' fr H (fun t ht => (agy fr vx t ht).symm), ?_⟩
  have hx3 := gx (wS fr y.dst vy) (fun t ht => agx fr vy t ht)
  rw [hx3, yO hφ, yO hψ, wx hdd]
 ·obtain ⟨rfl, x1'⟩ := x1 hx
  have hφ := x2 (by omega)
  have hψ := y2 (by omega)
  rw [yO hφ] at gy y1 h2 ⊢
  have hst := gy fr (fun t ht => (agy fr vx t ht).symm)
  rw [yO hψ] at hst
  refine ⟨_, hst, ?_⟩
  have hH : H2 = H1 ∨ ∃ ob, H2 = H1 ++ [ob] := by
   rcases hy with hy | hy
   ·exact .inl (y1 hy).1
   ·exact yg hy
  rcases hH with rfl | ⟨ob, rfl⟩
  ·have hx3 := gx (wS fr y.dst vy) (fun t ht => agx fr vy t ht)
   rw [hx3, yO hφ, yO hψ, wx hdd]
  ·have hx3 := x1' (wS fr y.dst vy) ob (fun t ht => agx fr vy t ht)
   rw [hx3, yO hψ, wx hdd]
 ·
  obtain ⟨hψ, hlen⟩ := y4 hy
  have hx3 : (∀ v, φ v = v) ∧ H1 = H ∧ ∀ (fr2 : List AV), (∀ t ∈ Lx, zK fr2 t = zK fr t) → yt T h0 env inl true pl ops.toList x ⟨fr2, H2⟩ = some ⟨wS fr2 x.dst vx, H2⟩ := by
   rcases hx with hx | hx
   ·exact ⟨x2 (by omega), (x0 hx).1, fun fr2 ha => (x0 hx).2 fr2 H2 ha⟩
   ·obtain ⟨e1, e2, e3⟩ := xl hx
    exact ⟨e1, e2, fun fr2 ha => e3 fr2 H2 ha (fun c => by rw [hlen c, e2])⟩
  obtain ⟨hφ, rfl, x0'⟩ := hx3
  rw [yO hφ] at gy h2 ⊢
  have hst := gy fr (fun t ht => (agy fr vx t ht).symm)
  rw [yO hψ] at hst
  refine ⟨_, hst, ?_⟩
  rw [x0' (wS fr y.dst vy) (fun t ht => agx fr vy t ht), yO hψ, wx hdd]
 ·
  obtain ⟨ks, hφ, hb⟩ := xr hx
  have hy3 : zX vy = true ∧ (∀ v, ψ v = v) ∧ H2 = H1 ∧ (∀ t ∈ Ly, xt (zK (wS (fr.map φ) x.dst vx) t) = true) ∧ ∀ (fr2 : List AV) H3, (∀ t ∈ Ly, zK fr2 t = zK (wS (fr.map φ) x.dst vx) t) → pM ks H1 H3 → yt T h0 env inl true pl ops.toList y ⟨fr2, H3⟩ = some ⟨wS fr2 y.dst vy, H3⟩ := by
   rcases hyd with ⟨hy, hd⟩ | hy
   ·have hdp : ∃ d, y.dst = some d ∧ xC d pl = true := by
     cases hyd : y.dst with
     | none => simp [hyd] at hd
     | some d => simp only [hyd] at hd; exact ⟨d, rfl, hd⟩
    obtain ⟨pvy, hψ, hH, hsol, go⟩ := yd hy hdp
    exact ⟨pvy, hψ, hH, hsol, fun fr2 H3 ha hb => go ks fr2 H3 ha hb⟩
   ·obtain ⟨hc0, _⟩ := jv hy
    obtain ⟨pvy, hsol⟩ := yfr hy
    exact ⟨pvy, y2 (by omega), (y0 hc0).1, hsol, fun fr2 H3 ha _ => (y0 hc0).2 fr2 H3 ha⟩
  obtain ⟨pvy, hψ, hH, hsol, go⟩ := hy3
  subst hH
  have hag : ∀ t ∈ Ly, zK fr t = zK (wS (fr.map φ) x.dst vx) t := fun t ht => by
   have h1 := agy (fr.map φ) vx t ht
   have h2 := hsol t ht
   rw [h1] at h2 ⊢
   have h3 : zK (fr.map φ) t = ym ks (zK fr t) := by
    show (fr.map φ).getD t .undef = _
    rw [wh fu, hφ]; rfl
   rw [h3] at h2 ⊢
   exact (dL h2).symm
  refine ⟨_, go fr H hag hb, ?_⟩
  have hx3 := gx (wS fr y.dst vy) (fun t ht => agx fr vy t ht)
  rw [hx3, yO hψ, f8, show φ vy = vy from fp _ pvy, wx hdd]
 ·
  obtain ⟨hφ, rfl, N, hN, go⟩ := xlo hx
  obtain ⟨hψ, M, hM, hlt⟩ := yst hy
  rw [hN] at hM
  cases hM
  rw [yO hφ] at gy h2 ⊢
  have hst := gy fr (fun t ht => (agy fr vx t ht).symm)
  rw [yO hψ] at hst
  refine ⟨_, hst, ?_⟩
  rw [go (wS fr y.dst vy) H2 (fun t ht => agx fr vy t ht) hlt, yO hψ, wx hdd]
end
end Go.Proofs.YtefddghdaimklaaGreatDoor.AI
