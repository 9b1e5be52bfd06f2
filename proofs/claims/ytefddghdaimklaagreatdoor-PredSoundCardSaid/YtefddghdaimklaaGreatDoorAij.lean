/- A part of the proof. -/
import Derived.Test.YtefddghdaimklaaGreatDoorAii
set_option linter.unusedVariables false
set_option linter.unusedSimpArgs false
namespace Go.Proofs.YtefddghdaimklaaGreatDoor.AI
open Go
def Does (P : Program) (s : Sem Next) (w : World) (R : Value → World → Prop) : Prop :=
 match s.run P w with
 | .ok (.value v) w' => R v w'
 | .ok .skip w' => R Go.undef w'
 | .ok (.enter f args) w' => Calls P f args w' fun e w'' => match e with
  | .returned v => R v w''
  | _ => False
 | _ => False
theorem Does.value {P : Program} {s : Sem Next} {w w' : World} {v : Value} {R : Value → World → Prop} (h : s.run P w = .ok (.value v) w') (hR : R v w') : Does P s w R := by
 unfold Does; rw [h]; exact hR
theorem Does.skip {P : Program} {s : Sem Next} {w w' : World} {R : Value → World → Prop} (h : s.run P w = .ok .skip w') (hR : R Go.undef w') : Does P s w R := by
 unfold Does; rw [h]; exact hR
theorem Does.mono {P : Program} {s : Sem Next} {w : World} {R R' : Value → World → Prop} (h : Does P s w R) (hR : ∀ v w', R v w' → R' v w') : Does P s w R' := by
 unfold Does at *
 split
 ·rename_i v w' e; rw [e] at h; exact hR _ _ h
 ·rename_i w' e; rw [e] at h; exact hR _ _ h
 ·rename_i f args w' e
  rw [e] at h
  exact Calls.mono h (fun e w'' he => by cases e <;> first | exact hR _ _ he | exact he)
 ·rename_i h1 h2 h3
  cases hr : s.run P w with
  | ok n w' =>
   cases n with
   | value v => exact absurd hr (h1 _ _)
   | skip => exact absurd hr (h2 _)
   | enter f a => exact absurd hr (h3 _ _ _)
   | _ => simp [hr] at h
  | halt a b => simp [hr] at h
theorem Does.wp {P : Program} {o : Oper} {a : Act} {w : World} {K : Act → World → Prop} {Q : Exit → Act → World → Prop} {R : Value → World → Prop}
  (h : Does P (execOp a.eval o) w R) (hK : ∀ v w', R v w' → K (a.put o.dst v) w') : o.wp P a w K Q := by
 unfold Does at h
 unfold Oper.wp
 cases hr : (execOp a.eval o).run P w with
 | halt x w' => rw [hr] at h; exact h.elim
 | ok n w' =>
  rw [hr] at h
  cases n with
  | value v => exact hK _ _ h
  | skip => exact hK _ _ h
  | enter f args =>
   show Calls P f args w' _
   exact Calls.mono h (fun e w'' he => by cases e <;> first | exact hK _ _ he | exact he.elim)
  | _ => exact h.elim
def RepVs (x : Cx) : List AV → List Value → Prop
 | [], vs => vs = []
 | a :: l, vs => ∃ v r, vs = v :: r ∧ RepV x a v ∧ RepVs x l r
structure Env where
 env : FuncId → Option Con
 P : Program
structure ConOk (P : Program) (f : FuncId) (c : Con) : Prop where
 calls : ∀ (x : Cx) (args : List AV) (vals : Array Value) (X : c.X) (Y : c.Y), Inv x → RepVs x args vals.toList → c.look (conv x.H c.mode args) x.H = some X → c.F X = some Y →
  Does P (callFunc f vals) x.w fun u w' => ∃ y : Cx, y.w = w' ∧ y.H = (bif Nat.beq c.mode 1 then x.H else c.outH X Y x.H) ∧ Inv y ∧ Kept x y ∧
   (∀ id, id < x.H.length → id ∉ (bif Nat.beq c.mode 1 then [] else c.kills X args) → IdOk x y id) ∧ Carry (yN (bif Nat.beq c.mode 1 then [] else c.kills X args)) x y ∧ x.H.length ≤ y.H.length ∧ RepV y (c.outV X Y) u
 still : c.mode = 3 → (∀ X Y H, c.outH X Y H = H) ∧ (∀ X a, c.kills X a = []) ∧ ∀ av H H2, c.look av H = c.look av H2
 mono : c.mode = 1 → ∀ (args : List AV) (H l : List Ob) (X : c.X), c.look (args.map (roV H)) H = some X → c.look (args.map (roV (H ++ l))) (H ++ l) = some X
 rows : c.mode = 4 → (∀ X Y H, ∃ l : List Ob, c.outH X Y H = H ++ l ∧ ∀ ob ∈ l, ∀ cs, ob ≠ .box cs) ∧ ∀ X a, c.kills X a = []
def xL (P : Program) (env : FuncId → Option Con) : Prop := ∀ f c, env f = some c → ConOk P f c
def mA (P : Program) (inl : FuncId → List AV → List Ob → (AV → List Ob → Option (AV × List Ob)) → Option (AV × List Ob)) : Prop :=
 ∀ (f : FuncId) (args : List AV) (x : Cx) (vals : Array Value) (v : AV) (H' : List Ob), inl f args x.H (fun v h => some (v, h)) = some (v, H') → Inv x → RepVs x args vals.toList →
  Does P (callFunc f vals) x.w fun u w' => ∃ y : Cx, y.w = w' ∧ y.H = H' ∧ Step x.H.length [] x y ∧ RepV y v u
section
variable {P : Program} {T : TypeId → Option TI}
theorem nV {x : Cx} (hI : Inv x) {id b : Nat} {oo : Ob} (hx : x.H[id]? = some oo) (hd : oo ≠ .dead) (hat : x.at_ id = some b) {cur : Array Value} {e : TypeId} (hb : x.w.heap[b]? = some (.cells cur e (0, 0))) {cs : Array Value} (hs : cs.size = cur.size) :
  PutOk x (x.w.setRow b cs) id b :=
 ⟨rfl, rfl, rfl, by simp, fun k hk => setRow_other x.w b k cs hk, ⟨oo, hx, hd⟩, hat, fun cur' e' fr' hc => by
  rw [setRow_heap x.w b cur cs e (0, 0) hb] at hc
  injection hc with hc
  injection hc with h1 h2 h3
  subst h1
  exact ⟨cur, e, (0, 0), hb, hs.symm⟩⟩
theorem qM {x : Cx} {w : World} {id b : Nat} {o : Ob} {h0 : Nat} (hI : Inv x) (h : PutOk x w id b) (hk : ∀ j, IdOk x (x.put w id o) j) (hd : o ≠ .dead) (ho : ObRep (x.put w id o) id o) (hle : h0 ≤ x.H.length) : Step h0 [] x (x.put w id o) :=
 Step.of_id (iT hI h (fun j _ => hk j) hd ho) (mN hI h hd) hle (fun j _ => hk j) (uB hI h) (by simp [Cx.put])
theorem uE {t : TypeId} {ti : TI} (h : TyOk P t ti) {g o : Nat} {cur : Array Value} {e : TypeId} {w : World} (hg : w.heap[g]? = some (.cells cur e (0, 0))) {v : Value} (hv : v.cells.size = ti.size) (h1 : vU v.cells.toList) (hf : o + v.cells.size ≤ cur.size) :
  (storeVar t ⟨g, o, none⟩ v).run P w = .ok () (w.setRow g (cur.toList.take o ++ v.cells.toList ++ cur.toList.drop (o + v.cells.size)).toArray) := by
 have := run_storeCells_at (P := P) g o e v.cells.toList 0 cur w hg (by simpa using hf) h1
 simp only [Nat.add_zero, Array.length_toList] at this
 simp [storeVar, vS h, hv, this]
theorem kx (hT : TOk P T) {x : Cx} (hI : Inv x) {h0 : Nat} (hle : h0 ≤ x.H.length) {t : TypeId} {a v : AV} {H' : List Ob} (h : py T t x.H a v = some H') {p u : Value} (hp : RepV x a p) (hu : RepV x v u) :
  ∃ y : Cx, (Instr.storeAt t p u).run P x.w = .ok () y.w ∧ y.H = H' ∧ Step h0 [] x y := by
 unfold py at h
 split at h
 ·rename_i id off g cs
  split at h
  ·rename_i ti hti
   have hOk := hT _ _ hti
   split at h
   ·rename_i hcs
    split at h
    ·rename_i old hx
     split at h
     ·rename_i hfit
      cases h
      have hc := zG hp
      have hq := hc.2
      simp only [zV, RepP, hx] at hq
      obtain ⟨b, hat, rfl⟩ := hq
      obtain ⟨b', vs, e, h1, h2, h3⟩ := hI.obs _ _ hx
      rw [hat] at h1; cases h1
      have hcells := yW hu
      have hl := RepCs.len _ _ hcells
      have hl2 := (RepCs.len _ _ h3).1
      simp only [Array.length_toList] at hl hl2
      have hrun := uE hOk (o := off) h2 (v := u) (by rw [hl.1, hcs]) hl.2 (by omega)
      have hput := nV hI hx (by simp) hat h2 (cs := (vs.toList.take off ++ u.cells.toList ++ vs.toList.drop (off + u.cells.size)).toArray) (by simp; omega)
      have hid := tn (o := .box (old.take off ++ cs ++ old.drop (off + cs.length))) hI hput (by rw [hx]; exact ⟨_, rfl⟩)
      refine ⟨x.put _ id (.box (old.take off ++ cs ++ old.drop (off + cs.length))), by simp only [Instr.storeAt, Instr.sureAddr, Sem.run_bind, Sem.run_pure, Result.andThen_ok, hrun]; rfl, rfl, qM hI hput hid (by simp) ?_ hle⟩
      have hcar := Carry.id_of (uB (o := .box (old.take off ++ cs ++ old.drop (off + cs.length))) hI hput) (fun j _ => hid j)
      refine ⟨b, _, e, hat, setRow_heap x.w b vs _ e (0, 0) h2, ?_⟩
      have hl3 : ((vs.toList.take off ++ u.cells.toList ++ vs.toList.drop (off + u.cells.size)).toArray).toList = vs.toList.take off ++ u.cells.toList ++ vs.toList.drop (off + cs.length) := by simp [hl.1]
      rw [hl3]
      exact RepCs.keep hcar (RepCs.append _ _ _ _ (RepCs.append _ _ _ _ (RepCs.take off _ _ h3) hcells) (RepCs.drop (off + cs.length) _ _ h3))
     ·cases h
    ·cases h
   ·cases h
  ·cases h
 ·rename_i id i off g cs
  split at h
  ·rename_i ti hti
   have hOk := hT _ _ hti
   split at h
   ·rename_i hcs
    split at h
    ·rename_i e ty xs hx
     simp only at h
     split at h
     ·rename_i hfit
      split at h
      ·rename_i d hd
       cases h
       have hc := zG hp
       have hq := hc.2
       simp only [zV, hx] at hq
       obtain ⟨hi, b, hat, rfl⟩ := hq
       have ho := hI.obs _ _ hx
       simp only [ObRep, hat] at ho
       obtain ⟨cur, h2, h3, h4⟩ := ho
       have hcells := yW hu
       have hl := RepCs.len _ _ hcells
       simp only [Array.length_toList] at hl
       obtain ⟨vs, h5, h6⟩ := h4 i _ (rO xs i ty.dflt hi)
       have h7 := (RepT.len _ _ _ h5).1
       rw [wP] at hfit
       have hrow : i * ty.size + ty.size ≤ cur.size := by
        have := NP ty.size (show i + 1 ≤ xs.length by omega)
        rw [Nat.add_mul, Nat.one_mul] at this; omega
       have hrun := uE hOk (o := i * ty.size + off) h2 (v := u) (by rw [hl.1, hcs]) hl.2 (by omega)
       have hput := nV hI hx (by simp) hat h2 (cs := (cur.toList.take (i * ty.size + off) ++ u.cells.toList ++ cur.toList.drop (i * ty.size + off + u.cells.size)).toArray) (by simp; omega)
       have hid := tn (o := .arr e ty (xs.set i d)) hI hput (by rw [hx]; exact ⟨_, rfl, by simp⟩)
       have hkin := uB (o := .arr e ty (xs.set i d)) hI hput
       refine ⟨x.put _ id (.arr e ty (xs.set i d)), by simp only [Instr.storeAt, Instr.sureAddr, Sem.run_bind, Sem.run_pure, Result.andThen_ok, hrun]; rfl, rfl, qM hI hput hid (by simp) ?_ hle⟩
       have hnew := zQ hd (RepCs.append _ _ _ _ (RepCs.append _ _ _ _ (RepCs.take off _ _ (RepT.cells (x := x) _ _ _ h5)) hcells) (RepCs.drop (off + cs.length) _ _ (RepT.cells (x := x) _ _ _ h5)))
       have hget : ∀ q, (cur.toList.take (i * ty.size + off) ++ u.cells.toList ++ cur.toList.drop (i * ty.size + off + u.cells.size)).toArray[q]? = if q < i * ty.size + off then cur[q]? else if q < i * ty.size + off + u.cells.size then u.cells[q - (i * ty.size + off)]? else cur[q]? := by
        intro q
        simp only [List.getElem?_toArray, List.getElem?_append, NV, List.length_take, Array.length_toList]
        have e1 : min (i * ty.size + off) cur.size = i * ty.size + off := Nat.min_eq_left (by omega)
        rw [e1]
        by_cases hq1 : q < i * ty.size + off
        ·rw [if_pos (by omega), if_pos hq1, if_pos hq1, List.getElem?_take, if_pos hq1]; simp
        ·by_cases hq2 : q < i * ty.size + off + u.cells.size
         ·rw [if_pos hq2, if_neg hq1, if_neg hq1, if_pos hq2]; simp
         ·rw [if_neg hq2, if_neg hq1, if_neg hq2, List.getElem?_drop]
          simp only [Array.getElem?_toList]
          congr 1
          omega
       have hat' : (x.put (x.w.setRow b (cur.toList.take (i * ty.size + off) ++ u.cells.toList ++ cur.toList.drop (i * ty.size + off + u.cells.size)).toArray) id (.arr e ty (xs.set i d))).at_ id = some b := hat
       simp only [ObRep, hat']
       refine ⟨_, setRow_heap x.w b cur _ e (0, 0) h2, by simp; omega, fun j d' hj => ?_⟩
       by_cases hji : j = i
       ·subst hji
        rw [List.getElem?_set_self hi] at hj
        cases hj
        refine ⟨_, RepT.kin hkin hnew, fun q z hq => ?_⟩
        rw [hget]
        simp only [List.getElem?_append, NV, List.length_take, Array.length_toList, h7] at hq
        have e2 : min off ty.size = off := Nat.min_eq_left (by omega)
        rw [e2] at hq
        by_cases hq1 : q < off
        ·rw [if_pos (by omega), if_pos hq1, List.getElem?_take, if_pos hq1] at hq
         rw [if_pos (by omega)]
         exact h6 q z hq
        ·by_cases hq2 : q < off + u.cells.size
         ·rw [if_pos hq2, if_neg hq1] at hq
          rw [if_neg (by omega), if_pos (by omega)]
          rw [← hq]
          simp only [Array.getElem?_toList]
          congr 1; omega
         ·rw [if_neg hq2, List.getElem?_drop] at hq
          rw [if_neg (by omega), if_neg (by omega)]
          have := h6 _ z hq
          rw [← this]; congr 1; rw [← hl.1]; omega
       ·rw [List.getElem?_set_ne (Ne.symm hji)] at hj
        obtain ⟨vs', r1, r2⟩ := h4 j d' hj
        refine ⟨vs', RepT.kin hkin r1, fun q z hq => ?_⟩
        have hql : q < ty.size := by rw [← (RepT.len _ _ _ r1).1]; exact (NB.1 hq).1
        rw [hget]
        rcases Nat.lt_or_gt_of_ne hji with hlt | hgt
        ·have := NP ty.size (show j + 1 ≤ i by omega)
         rw [Nat.add_mul, Nat.one_mul] at this
         rw [if_pos (by omega)]
         exact r2 q z hq
        ·have := NP ty.size (show i + 1 ≤ j by omega)
         rw [Nat.add_mul, Nat.one_mul] at this
         rw [if_neg (by omega), if_neg (by omega)]
         exact r2 q z hq
      ·cases h
     ·cases h
    ·cases h
   ·cases h
  ·cases h
 ·cases h
theorem yG {x : Cx} {a : AV} {k : IntKind} {n : Int} (h : sF a = some (k, n)) {u : Value} (hu : RepV x a u) : u = .int k n := by
 unfold sF at h
 split at h
 ·cases h; exact xM hu
 ·cases h
theorem lH (hT : TOk P T) {x : Cx} (hI : Inv x) {t e : TypeId} {te : TI} (ht : P.underlying t = some (.slice e)) (hte : T e = some te) {c : C} {n : Int} {v : AV} {H' : List Ob}
  (h : ug te.size x.H c n (fun v h => some (v, h)) = some (v, H')) {p : Value} (hp : RepC x c p) (k : IntKind) :
  ∃ u, (Instr.indexAt t p (.int k n)).run P x.w = .ok u x.w ∧ H' = x.H ∧ RepV x v u := by
 have hsz := fun w => vS (hT _ _ hte) w
 unfold ug at h
 split at h
 ·rename_i ty xs
  split at h
  ·rename_i hs
   cases hb : (decide (0 ≤ n) && decide (n < (xs.length : Int))) with
   | false => simp [hb] at h
   | true =>
    simp only [hb, Nv, NA, NH] at h
    obtain ⟨rfl, rfl⟩ := h
    simp only [Nt, NE] at hb
    obtain ⟨A, cc, h1, h2, h3⟩ := hp.2
    simp only [List.cons.injEq, and_true] at h1
    subst h1
    have hlt : n.toNat < xs.length := by omega
    obtain ⟨b, off, rfl, h4, h5⟩ := h3 (fun e => by subst e; simp at hlt)
    obtain ⟨vs, h6, h7, h8⟩ := h5 n.toNat _ (rO xs n.toNat ty.dflt hlt)
    refine ⟨.pointer (some ⟨b, off + n.toNat * ty.size, none⟩), ?_, rfl, zF ⟨rfl, b, off + n.toNat * ty.size, vs, by simp, h4, h6, fun j u hj => ?_⟩⟩
    ·simp [Instr.indexAt, asIntOf, run_underlying ht, hsz, hb.1, hb.2, sC, hs]
    ·exact h8 j u hj
  ·cases h
 ·rename_i id m
  split at h
  ·rename_i e' ty xs hx
   split at h
   ·rename_i hs
    cases hb : (decide (0 ≤ n) && decide (n < (m : Int))) with
    | false => simp [hb] at h
    | true =>
     simp only [hb, Nv, NA, NH] at h
     obtain ⟨rfl, rfl⟩ := h
     simp only [Nt, NE] at hb
     have hq := hp.2
     simp only [zV, hx] at hq
     obtain ⟨hm, hq⟩ := hq
     cases hat : x.at_ id with
     | none => simp only [hat] at hq; omega
     | some b =>
      simp only [hat] at hq
      obtain ⟨cc, rfl, h1, h2, h3⟩ := hq
      refine ⟨.pointer (some ⟨b, n.toNat * ty.size + 0, none⟩), ?_, rfl, zF ⟨rfl, ?_⟩⟩
      ·simp [Instr.indexAt, asIntOf, run_underlying ht, hsz, hb.1, hb.2, sC, hs]
      ·simp only [zV, hx]
       exact ⟨by omega, b, hat, rfl⟩
   ·cases h
  ·cases h
 ·cases h
end
end Go.Proofs.YtefddghdaimklaaGreatDoor.AI
