/- A region whose order is open: two steps that nothing orders change places. -/
import Derived.Test.YtiolbhmbobelcaaGreatDoorAiq
set_option linter.unusedVariables false
set_option linter.unusedSimpArgs false
namespace Go.Proofs.YtiolbhmbobelcaaGreatDoor.AI
open Go

def Still (env : FuncId → Option Con) : Prop :=
  ∀ f c, env f = some c → c.mode = 3 → (∀ X Y H, c.outH X Y H = H) ∧ (∀ X a, c.kills X a = []) ∧ ∀ av H H2, c.look av H = c.look av H2

/-- What is called: a function, or one that a mark says a slot holds. -/
def calleeF (pl : List Nat) : Operand → Option Nat
  | .func g => some g
  | .tmp s => markF pl s
  | _ => none
/-- A call that is plain: nothing of ours is handed in or comes back, no object turns. -/
def qz (env : FuncId → Option Con) (pl : List Nat) (o : Oper) : Bool :=
  match o.op with
  | .call c => match c.callee with
    | .value f => match calleeF pl f with
      | some g => match env g with
        | some con => Nat.beq con.mode 3 && (match o.dst with | some d => memN d pl | none => false)
        | none => false
      | none => false
    | _ => false
  | _ => false

/-- What asks for a length. -/
def isLen (op : Op) : Bool :=
  match op with
  | .call c => match c.callee with
    | .builtin .len => true
    | _ => false
  | _ => false

def Mono1 (env : FuncId → Option Con) : Prop :=
  Still env ∧ ∀ f c, env f = some c → c.mode = 1 → ∀ (args : List AV) (H l : List Ob) (X : c.X), c.look (args.map (roV H)) H = some X → c.look (args.map (roV (H ++ l))) (H ++ l) = some X

def slotAt (fr : List AV) (t : Nat) : AV := fr.getD t .undef

structure Eff (T : TypeId → Option TI) (h0 : Nat) (env : FuncId → Option Con) (inl : FuncId → List AV → List Ob → (AV → List Ob → Option (AV × List Ob)) → Option (AV × List Ob)) (pl : List Nat) (ops : Array Oper) (o : Oper) (fr : List AV) (H : List Ob) (s : St) : Prop where
  out : ∃ (φ : AV → AV) (H' : List Ob) (v : AV) (L : List Nat),
    s = ⟨putA (fr.map φ) o.dst v, H'⟩ ∧ (∀ t ∈ L, t ∈ o.looksAt ops) ∧ φ .undef = .undef ∧ (∀ v, plainV v = true → φ v = v) ∧
    (∀ fr2 : List AV, (∀ t ∈ L, slotAt fr2 t = slotAt fr t) → stepD T h0 env inl true pl ops.toList o ⟨fr2, H⟩ = some ⟨putA (fr2.map φ) o.dst v, H'⟩) ∧
    (cls env o.op ≤ 2 → ∀ v, φ v = v) ∧
    (cls env o.op = 0 → H' = H ∧ ∀ (fr2 : List AV) H2, (∀ t ∈ L, slotAt fr2 t = slotAt fr t) → stepD T h0 env inl true pl ops.toList o ⟨fr2, H2⟩ = some ⟨putA fr2 o.dst v, H2⟩) ∧
    (cls env o.op = 1 → H' = H ∧ ∀ (fr2 : List AV) ob, (∀ t ∈ L, slotAt fr2 t = slotAt fr t) → stepD T h0 env inl true pl ops.toList o ⟨fr2, H ++ [ob]⟩ = some ⟨putA fr2 o.dst v, H ++ [ob]⟩) ∧
    (cls env o.op = 2 → H' = H ∨ ∃ ob, H' = H ++ [ob]) ∧
    (cls env o.op = 0 → (∃ d, o.dst = some d ∧ memN d pl = true) → plainV v = true ∧ ∀ t ∈ L, plainV (slotAt fr t) = true) ∧
    (qz env pl o = true → (∀ v, φ v = v) ∧ H' = H ∧ (∀ (fr2 : List AV) H2, (∀ t ∈ L, slotAt fr2 t = slotAt fr t) → stepD T h0 env inl true pl ops.toList o ⟨fr2, H2⟩ = some ⟨putA fr2 o.dst v, H2⟩) ∧ plainV v = true ∧ ∀ t ∈ L, plainV (slotAt fr t) = true) ∧
    (cls env o.op = 4 → (∀ v, φ v = v) ∧ ∀ c, lenC H' c = lenC H c) ∧
    (isLen o.op = true → (∀ v, φ v = v) ∧ H' = H ∧ ∀ (fr2 : List AV) H2, (∀ t ∈ L, slotAt fr2 t = slotAt fr t) → (∀ c, lenC H2 c = lenC H c) → stepD T h0 env inl true pl ops.toList o ⟨fr2, H2⟩ = some ⟨putA fr2 o.dst v, H2⟩)

section
variable {T : TypeId → Option TI} {h0 : Nat} {env : FuncId → Option Con} {inl : FuncId → List AV → List Ob → (AV → List Ob → Option (AV × List Ob)) → Option (AV × List Ob)} {pl : List Nat} {ops : Array Oper}

theorem guardD_agree {all : List Oper} {o : Oper} {fr fr2 : List AV} (h : ∀ j w oj t, o.guard = some (j, w) → all[j]? = some oj → oj.dst = some t → slotAt fr2 t = slotAt fr t) : guardD all fr2 o = guardD all fr o := by
  unfold guardD
  split
  · rfl
  · rename_i j w hg
    split
    · rename_i oj hj
      split
      · rename_i t ht
        rw [show fr2.getD t .undef = fr.getD t .undef from h j w oj t hg hj ht]
      · rfl
    · rfl

def guardSlots (ops : Array Oper) (o : Oper) : List Nat :=
  match o.guard with
  | some (g, _) => ((ops[g]?).bind (·.dst)).toList
  | none => []
def opSlots (o : Oper) : List Nat := o.op.operands.toList.filterMap fun | .tmp t => some t | _ => none

theorem looks_eq (o : Oper) : o.looksAt ops = opSlots o ++ guardSlots ops o := by
  unfold Oper.looksAt guardSlots opSlots
  cases o.guard with
  | none => rfl
  | some p => rfl

theorem guard_agree {o : Oper} {fr fr2 : List AV} (h : ∀ t ∈ guardSlots ops o, slotAt fr2 t = slotAt fr t) : guardD ops.toList fr2 o = guardD ops.toList fr o :=
  guardD_agree (fun j w oj t hg hj ht => h t (by
    simp only [guardSlots, hg]
    have : ops[j]? = some oj := by simpa using hj
    simp [this, ht]))

theorem ops_agree {o : Oper} {fr fr2 : List AV} (h : ∀ t ∈ opSlots o, slotAt fr2 t = slotAt fr t) : ∀ x ∈ o.op.operands.toList, evA fr2 x = evA fr x := by
  intro x hx
  cases x with
  | tmp t => exact h t (List.mem_filterMap.2 ⟨.tmp t, hx, rfl⟩)
  | _ => rfl

theorem plOk_agree {o : Oper} {fr fr2 : List AV} (h : ∀ x ∈ o.op.operands.toList, evA fr2 x = evA fr x) (v : AV) : plOk pl o.dst o.op (evA fr2) v = plOk pl o.dst o.op (evA fr) v := by
  unfold plOk
  split
  · rfl
  · rename_i d _
    cases memN d pl with
    | false => rfl
    | true =>
      simp only [cond_true]
      split
      · rfl
      · have : (o.op.operands.toList.all fun x => plainV (evA fr2 x)) = o.op.operands.toList.all fun x => plainV (evA fr x) := by
          rw [Bool.eq_iff_iff, List.all_eq_true, List.all_eq_true]
          exact ⟨fun k x hx => by rw [← h x hx]; exact k x hx, fun k x hx => by rw [h x hx]; exact k x hx⟩
        rw [this, slotOk_congr h]

theorem map_fix {φ : AV → AV} (h : ∀ v, φ v = v) (fr : List AV) : fr.map φ = fr := by
  conv => rhs; rw [← List.map_id fr]
  exact List.map_congr_left fun v _ => h v

theorem guard_plain {o : Oper} {fr : List AV} {b : Bool} (h : guardD ops.toList fr o = some b) : ∀ t ∈ guardSlots ops o, plainV (slotAt fr t) = true := by
  intro t ht
  unfold guardD at h
  unfold guardSlots at ht
  split at h
  · rename_i hg; simp [hg] at ht
  · rename_i j w hg
    simp only [hg] at ht
    split at h
    · rename_i oj hj
      have hj' : ops[j]? = some oj := by simpa using hj
      split at h
      · rename_i t' ht'
        simp [hj', ht'] at ht
        subst ht
        split at h
        · rename_i c hc
          show plainV (fr.getD t .undef) = true
          rw [hc]; rfl
        · rename_i hc
          show plainV (fr.getD t .undef) = true
          rw [hc]; rfl
        · cases h
      · cases h
    · cases h

theorem qz_hard {o : Oper} (h : qz env pl o = true) : isSoft o.op = false := by
  unfold qz at h
  split at h
  · rename_i c ho
    split at h
    · rename_i f hcal; rw [ho]; simp [isSoft, hcal]
    · cases h
  · cases h

theorem qz_dst {o : Oper} (h : qz env pl o = true) : ∃ d, o.dst = some d ∧ memN d pl = true := by
  unfold qz at h
  split at h
  · split at h
    · split at h
      · split at h
        · rw [Bool.and_eq_true] at h
          have h2 := h.2
          split at h2
          · rename_i d hd; exact ⟨d, hd, h2⟩
          · cases h2
        · cases h
      · cases h
    · cases h
  · cases h

theorem calleeF_ev {f : Operand} {g : Nat} {fr : List AV} {c : Call} (hcal : c.callee = .value f) (hg : calleeF pl f = some g) (hs : slotOk pl (.call c) (evA fr) = true) : evA fr f = .val false [.fn g []] := by
  unfold calleeF at hg
  split at hg
  · cases hg; rfl
  · rename_i s
    simp only [slotOk, hcal, hg] at hs
    unfold isFn0 at hs
    split at hs
    · rename_i g' hv
      rw [hv, Nat.eq_of_beq_eq_true hs]
    · cases hs
  · cases hg

theorem ownsC_plain {c : C} (h : plainC c = true) : ownsC c = [] := by
  cases c <;> first | rfl | (simp [plainC] at h)

theorem owns_plain {v : AV} (h : plainV v = true) : ownsV v = [] := by
  cases v with
  | val g cs =>
    simp only [plainV, List.all_eq_true] at h
    exact List.flatMap_eq_nil_iff.2 fun c hc => ownsC_plain (h c hc)
  | tup l =>
    simp only [plainV, List.all_eq_true] at h
    exact List.flatMap_eq_nil_iff.2 fun p hp => List.flatMap_eq_nil_iff.2 fun c hc => ownsC_plain (h p hp c hc)
  | skip => rfl
  | undef => rfl

theorem qz_spec (hm : Still env) {o : Oper} (h : qz env pl o = true) {fr : List AV} (hp : ∀ t ∈ opSlots o, plainV (slotAt fr t) = true) (hsl : slotOk pl o.op (evA fr) = true) {H : List Ob} :
    sealsOf env o.op (evA fr) = [] ∧ (∀ H2, killsOf env o.op (evA fr) H2 = []) ∧
    ∀ v H', hardK T h0 env inl o.op (evA fr) H (fun v h => some (v, h)) = some (v, H') → H' = H ∧ ∀ H2, hardK T h0 env inl o.op (evA fr) H2 (fun v h => some (v, h)) = some (v, H2) := by
  unfold qz at h
  split at h
  · rename_i c ho
    split at h
    · rename_i f hcal
      split at h
      · rename_i g hg
        have hev := calleeF_ev hcal hg (by rw [ho] at hsl; exact hsl)
        split at h
        · rename_i con hcon
          rw [Bool.and_eq_true] at h
          have hmode := Nat.eq_of_beq_eq_true h.1
          obtain ⟨s1, s2, s3⟩ := hm g con hcon hmode
          have hb1 : Nat.beq con.mode 1 = false := by rw [hmode]; rfl
          rw [ho]
          refine ⟨?_, fun H2 => ?_, fun v H' hk => ?_⟩
          · simp only [sealsOf, hcal, hev, hcon]
            have : Nat.ble 2 con.mode = true := by rw [hmode]; rfl
            rw [this, cond_true]
            have hall : ∀ a ∈ c.args.toList, ownsV (evA fr a) = [] := fun a ha => by
              cases a with
              | tmp t =>
                refine owns_plain (hp t ?_)
                unfold opSlots
                refine List.mem_filterMap.2 ⟨.tmp t, ?_, rfl⟩
                rw [ho]
                simp only [Op.operands, Call.operands, Array.toList_append, List.mem_append]
                exact .inr ha
              | const v => refine owns_plain ?_; show plainV (constV v) = true; unfold constV; split <;> rfl
              | func f => rfl
              | global g => simp only [evA]; cases globD g <;> rfl
            rw [List.flatMap_eq_nil_iff]
            exact hall
          · simp only [killsOf, hcal, hev, hcon, hb1, cond_false]
            split
            · exact s2 _ _
            · rfl
          · simp only [hardK, hcal, hev, callK, hcon, hb1, cond_false, conv, s2, List.all_nil, cond_true, s1] at hk ⊢
            split at hk
            · rename_i X hX
              cases hF : con.F X with
              | none => rw [hF] at hk; cases hk
              | some Y =>
                rw [hF] at hk
                cases hk
                refine ⟨rfl, fun H2 => ?_⟩
                rw [s3 _ H2 H, hX]
                simp only [hF, Option.bind_some]
            · cases hk
        · cases h
      · cases h
    · cases h
  · cases h

theorem store_len {t : TypeId} {H H' : List Ob} {a v : AV} (h : storeA T t H a v = some H') (c : C) : lenC H' c = lenC H c := by
  have key : ∀ id ob ob', H[id]? = some ob → (∀ e t xs, ob = .arr e t xs → ∃ ys, ob' = .arr e t ys) → (∀ e t ys, ob' = .arr e t ys → ∃ xs, ob = .arr e t xs) → lenC (H.set id ob') c = lenC H c := by
    intro id ob ob' hid h1 h2
    unfold lenC
    split <;> first | rfl | skip
    rename_i j n
    by_cases hj : id = j
    · subst hj
      have hlt := (List.getElem?_eq_some_iff.1 hid).1
      rw [List.getElem?_set_self hlt, hid]
      cases ob with
      | arr e t xs => obtain ⟨ys, rfl⟩ := h1 e t xs rfl; rfl
      | _ =>
        cases ob' with
        | arr e t ys => obtain ⟨xs, hx⟩ := h2 e t ys rfl; cases hx
        | _ => rfl
    · rw [List.getElem?_set_ne hj]
  unfold storeA at h
  split at h
  · split at h
    · split at h
      · split at h
        · rename_i hb
          split at h
          · cases h
            exact key _ _ _ hb (fun _ _ _ e => by cases e) (fun _ _ _ e => by cases e)
          · cases h
        · cases h
      · cases h
    · cases h
  · split at h
    · split at h
      · split at h
        · rename_i hb
          simp only at h
          split at h
          · split at h
            · cases h
              exact key _ _ _ hb (fun _ _ _ e => by cases e; exact ⟨_, rfl⟩) (fun _ _ _ e => by cases e; exact ⟨_, rfl⟩)
            · cases h
          · cases h
        · cases h
      · cases h
    · cases h
  · cases h
theorem len_soft {op : Op} (h : isLen op = true) : isSoft op = true := by
  unfold isLen at h
  split at h
  · rename_i c
    split at h
    · rename_i hcal; simp [isSoft, hcal]
    · cases h
  · cases h
theorem softD_len {op : Op} (h : isLen op = true) (fr : List AV) {H H2 : List Ob} (hl : ∀ c, lenC H2 c = lenC H c) : softD T op fr H2 = softD T op fr H := by
  unfold isLen at h
  split at h
  · rename_i c
    show softA T (.call c) (evA fr) H2 = softA T (.call c) (evA fr) H
    simp only [softA, hl]
  · cases h

theorem cls_store {op : Op} (h : cls env op = 4) : ∃ t a x, op = .store t a x := by
  unfold cls at h
  repeat' split at h
  all_goals first
    | (exact absurd h (by decide))
    | exact ⟨_, _, _, rfl⟩
    | (rename_i con _; cases hb : Nat.beq con.mode 1 <;> simp [hb] at h)

theorem eff_of (hm : Mono1 env) {o : Oper} {fr : List AV} {H : List Ob} {s : St} (h : stepD T h0 env inl true pl ops.toList o ⟨fr, H⟩ = some s) : Eff T h0 env inl pl ops o fr H s := by
  refine ⟨?_⟩
  unfold stepD at h
  split at h
  · cases h
  · -- passed over
    rename_i hg
    cases h
    have hgo : ∀ (fr2 : List AV) (H2 : List Ob), (∀ t ∈ guardSlots ops o, slotAt fr2 t = slotAt fr t) → stepD T h0 env inl true pl ops.toList o ⟨fr2, H2⟩ = some ⟨putA fr2 o.dst .skip, H2⟩ := fun fr2 H2 ha => by
      unfold stepD
      rw [show guardD ops.toList (St.mk fr2 H2).fr o = some false from (guard_agree ha).trans hg]
    refine ⟨fun v => v, H, .skip, guardSlots ops o, by simp, fun t ht => by rw [looks_eq]; exact List.mem_append.2 (.inr ht), rfl, fun _ _ => rfl, fun fr2 ha => by rw [hgo fr2 H ha]; simp, fun _ _ => rfl, fun _ => ⟨rfl, fun fr2 H2 ha => hgo fr2 H2 ha⟩, fun _ => ⟨rfl, fun fr2 ob ha => hgo fr2 _ ha⟩, fun _ => .inl rfl, fun _ _ => ⟨rfl, guard_plain hg⟩, fun _ => ⟨fun _ => rfl, rfl, fun fr2 H2 ha => hgo fr2 H2 ha, rfl, guard_plain hg⟩, fun _ => ⟨fun _ => rfl, fun _ => rfl⟩, fun _ => ⟨fun _ => rfl, rfl, fun fr2 H2 ha _ => hgo fr2 H2 ha⟩⟩
  · rename_i hg
    split at h
    · rename_i s2 v hop
      cases hp : plOk pl o.dst o.op (evA fr) v with
      | false => simp [hp] at h
      | true =>
      simp only [hp, cond_true, Option.some.injEq] at h
      subst h
      have hL : ∀ t ∈ o.looksAt ops, t ∈ o.looksAt ops := fun t ht => ht
      have split2 : ∀ {fr2 : List AV}, (∀ t ∈ o.looksAt ops, slotAt fr2 t = slotAt fr t) → (∀ x ∈ o.op.operands.toList, evA fr2 x = evA fr x) ∧ guardD ops.toList fr2 o = some true := fun {fr2} ha =>
        ⟨ops_agree (fun t ht => ha t (by rw [looks_eq]; exact List.mem_append.2 (.inl ht))), by rw [guard_agree (fun t ht => ha t (by rw [looks_eq]; exact List.mem_append.2 (.inr ht)))]; exact hg⟩
      have hplain : (∃ d, o.dst = some d ∧ memN d pl = true) → plainV v = true ∧ ∀ t ∈ o.looksAt ops, plainV (slotAt fr t) = true := by
        rintro ⟨d, hd, hmem⟩
        unfold plOk at hp
        simp only [hd, hmem, cond_true] at hp
        split at hp
        · cases hp
        · rw [Bool.and_eq_true, Bool.and_eq_true] at hp
          refine ⟨hp.1.2, fun t ht => ?_⟩
          rw [looks_eq] at ht
          rcases List.mem_append.1 ht with ht | ht
          · obtain ⟨x, hx, hxe⟩ := List.mem_filterMap.1 ht
            cases x with
            | tmp t' => simp at hxe; subst hxe; exact List.all_eq_true.1 hp.1.1 _ hx
            | _ => simp at hxe
          · exact guard_plain hg t ht
      have hslot : (∃ d, o.dst = some d ∧ memN d pl = true) → slotOk pl o.op (evA fr) = true := by
        rintro ⟨d, hd, hmem⟩
        unfold plOk at hp
        simp only [hd, hmem, cond_true] at hp
        split at hp
        · cases hp
        · rw [Bool.and_eq_true] at hp
          exact hp.2
      -- what the operation itself does
      have core : ∃ (φ : AV → AV) (H' : List Ob), s2 = ⟨fr.map φ, H'⟩ ∧ φ .undef = .undef ∧ (∀ v, plainV v = true → φ v = v) ∧
          (∀ fr2 : List AV, (∀ x ∈ o.op.operands.toList, evA fr2 x = evA fr x) → opD T h0 env inl true o.op ⟨fr2, H⟩ = some (⟨fr2.map φ, H'⟩, v)) ∧ (cls env o.op ≤ 2 → ∀ v, φ v = v) ∧
          (cls env o.op = 0 → H' = H ∧ ∀ (fr2 : List AV) H2, (∀ x ∈ o.op.operands.toList, evA fr2 x = evA fr x) → opD T h0 env inl true o.op ⟨fr2, H2⟩ = some (⟨fr2, H2⟩, v)) ∧
          (cls env o.op = 1 → H' = H ∧ ∀ (fr2 : List AV) ob, (∀ x ∈ o.op.operands.toList, evA fr2 x = evA fr x) → opD T h0 env inl true o.op ⟨fr2, H ++ [ob]⟩ = some (⟨fr2, H ++ [ob]⟩, v)) ∧
          (cls env o.op = 2 → H' = H ∨ ∃ ob, H' = H ++ [ob]) ∧
          (qz env pl o = true → (∀ v, φ v = v) ∧ H' = H ∧ ∀ (fr2 : List AV) H2, (∀ x ∈ o.op.operands.toList, evA fr2 x = evA fr x) → opD T h0 env inl true o.op ⟨fr2, H2⟩ = some (⟨fr2, H2⟩, v)) ∧
          (cls env o.op = 4 → (∀ v, φ v = v) ∧ ∀ c, lenC H' c = lenC H c) ∧
          (isLen o.op = true → (∀ v, φ v = v) ∧ H' = H ∧ ∀ (fr2 : List AV) H2, (∀ x ∈ o.op.operands.toList, evA fr2 x = evA fr x) → (∀ c, lenC H2 c = lenC H c) → opD T h0 env inl true o.op ⟨fr2, H2⟩ = some (⟨fr2, H2⟩, v)) := by
        unfold opD at hop
        cases hs : isSoft o.op with
        | true =>
          simp only [hs, cond_true] at hop
          split at hop
          · rename_i z hz
            cases hop
            have hcl : cls env o.op ≤ 1 := by
              cases hop : o.op <;> simp [hop, isSoft] at hs <;> simp [cls]
              rename_i c
              split at hs
              · rename_i hcal; simp [hcal]
              · cases hs
            refine ⟨fun v => v, H, by simp, rfl, fun _ _ => rfl, fun fr2 ha => ?_, fun _ _ => rfl, fun hc => ⟨rfl, fun fr2 H2 ha => ?_⟩, fun hc => ⟨rfl, fun fr2 ob ha => ?_⟩, (fun hc => by omega), (fun hq => by rw [qz_hard hq] at hs; cases hs), (fun hc => by omega), fun hl => ⟨fun _ => rfl, rfl, fun fr2 H2 ha hlen => ?_⟩⟩
            · simp only [opD, hs, cond_true, softD_congr ha, hz, List.map_id']
            · simp only [opD, hs, cond_true, softD_congr ha, softD_cls0 hs hc fr H2 H, hz]
            · simp only [opD, hs, cond_true, softD_congr ha, softD_cls1 hs hc ob hz]
            · simp only [opD, hs, cond_true, softD_congr ha, softD_len hl fr hlen, hz]
          · cases hop
        | false =>
          simp only [hs, cond_false] at hop
          unfold hardD at hop
          simp only [Bool.not_true, Bool.false_or] at hop
          generalize hids : sealsOf env o.op (evA fr) = ids at hop
          cases hcc : (ids.all (Nat.ble h0)) && (Nat.beq (cls env o.op) 3 || ids.isEmpty) with
          | false => simp [hcc] at hop
          | true =>
            simp only [hcc, cond_true] at hop
            split at hop
            · rename_i v' H' hk
              cases hop
              obtain ⟨e1, e2⟩ := seals_split ids fr H
              generalize hks : killsOf env o.op (evA (St.seals ids ⟨fr, H⟩).fr) (St.seals ids ⟨fr, H⟩).H = ks at *
              have hφ1 := subs_tame (sealV ids H)
              have hφ2 := kill_tame ks
              have hfr : ∀ fr2 : List AV, killFr (St.seals ids ⟨fr2, H⟩).fr ks = fr2.map (fun v => killV ks (subsV (sealV ids H) v)) := fun fr2 => by
                rw [killFr_map, (seals_split ids fr2 H).1, List.map_map]; rfl
              have hgen : ∀ fr2 : List AV, (∀ x ∈ o.op.operands.toList, evA fr2 x = evA fr x) → opD T h0 env inl true o.op ⟨fr2, H⟩ = some (⟨fr2.map (fun v => killV ks (subsV (sealV ids H) v)), H'⟩, v) := fun fr2 ha => by
                have hev : ∀ x ∈ o.op.operands.toList, evA (St.seals ids ⟨fr2, H⟩).fr x = evA (St.seals ids ⟨fr, H⟩).fr x := fun x hx => by
                  rw [(seals_split ids fr2 H).1, e1]
                  have := ha x hx
                  cases x with
                  | tmp t =>
                    simp only [evA] at this ⊢
                    rw [getD_map hφ1.undef, getD_map hφ1.undef, this]
                  | _ => rfl
                have hHH : (St.seals ids ⟨fr2, H⟩).H = (St.seals ids ⟨fr, H⟩).H := e2 fr2
                simp only [opD, hs, cond_false, hardD, Bool.not_true, Bool.false_or, sealsOf_congr ha, hids, hcc, cond_true, hHH, hardK_congr T hev, hk, killsOf_congr hev, hks, hfr]
              have low : cls env o.op ≤ 2 → ids = [] ∧ ks = [] := fun hc => by
                have hi : ids = [] := by
                  rw [Bool.and_eq_true] at hcc
                  have := hcc.2
                  have h3 : Nat.beq (cls env o.op) 3 = false := by
                    cases hb : Nat.beq (cls env o.op) 3 with
                    | true => have := Nat.eq_of_beq_eq_true hb; omega
                    | false => rfl
                  simp [h3] at this
                  exact this
                refine ⟨hi, ?_⟩
                rw [← hks]
                exact kills_low hc _ (fun f => rfl) _
              have hlowfr : cls env o.op ≤ 2 → ∀ w, killV ks (subsV (sealV ids H) w) = w := fun hc w => by
                obtain ⟨h1, h2⟩ := low hc
                rw [h1, h2]; rfl
              have hlowS : cls env o.op ≤ 2 → ∀ (fr2 : List AV) (H2 : List Ob), St.seals ids ⟨fr2, H2⟩ = ⟨fr2, H2⟩ := fun hc fr2 H2 => by rw [(low hc).1]; rfl
              have again : ∀ (hc : cls env o.op ≤ 2) (fr2 : List AV) (H2 H3 : List Ob), (∀ x ∈ o.op.operands.toList, evA fr2 x = evA fr x) → hardK T h0 env inl o.op (evA fr) H2 (fun v h => some (v, h)) = some (v, H3) →
                  opD T h0 env inl true o.op ⟨fr2, H2⟩ = some (⟨fr2, H3⟩, v) := fun hc fr2 H2 H3 ha hk2 => by
                simp only [opD, hs, cond_false, hardD, Bool.not_true, Bool.false_or, sealsOf_congr ha, hids, hcc, cond_true, hlowS hc, hardK_congr T ha, hk2, killsOf_congr ha, kills_low hc (evA fr) (fun f => rfl) H2, killFr]
              refine ⟨fun v => killV ks (subsV (sealV ids H) v), H', by rw [hfr], by simp only [hφ1.undef, hφ2.undef], fun w hw => by show killV ks (subsV (sealV ids H) w) = w; rw [plain_subs _ (sealV_give ids H) w hw]; exact plain_kill ks w hw, hgen, hlowfr, fun hc => ?_, fun hc => ?_, fun hc => ?_, fun hq => ?_, fun hc => ?_, fun hl => by rw [len_soft hl] at hs; cases hs⟩
              · rw [hlowS (by omega)] at hk
                obtain ⟨r1, r2⟩ := hard_cls0 hs hc hk
                exact ⟨r1, fun fr2 H2 ha => again (by omega) fr2 H2 H2 ha (r2 H2)⟩
              · rw [hlowS (by omega)] at hk
                obtain ⟨r1, r2⟩ := hard_cls1 hm.2 hs hc (fun f => rfl) hk
                exact ⟨r1, fun fr2 ob ha => again (by omega) fr2 _ _ ha (r2 ob)⟩
              · rw [hlowS (by omega)] at hk
                exact .inr (hard_cls2 hc hk)
              · obtain ⟨q1, q2, q3⟩ := qz_spec hm.1 hq (fun t ht => (hplain (qz_dst hq)).2 t (by rw [looks_eq]; exact List.mem_append.2 (.inl ht))) (hslot (qz_dst hq)) (fr := fr) (H := H)
                rw [q1] at hids
                subst hids
                have hk' : hardK T h0 env inl o.op (evA fr) H (fun v h => some (v, h)) = some (v, H') := hk
                obtain ⟨r1, r2⟩ := q3 v H' hk'
                have hks' : ks = [] := by rw [← hks]; exact q2 H
                subst hks'
                refine ⟨fun w => rfl, r1, fun fr2 H2 ha => ?_⟩
                have hsl : St.seals [] ⟨fr2, H2⟩ = ⟨fr2, H2⟩ := rfl
                simp only [opD, hs, cond_false, hardD, Bool.not_true, Bool.false_or, sealsOf_congr ha, q1, hcc, cond_true, hsl, hardK_congr T ha, r2 H2, killsOf_congr ha, q2 H2, killFr]
              · have hi : ids = [] := by
                  rw [Bool.and_eq_true] at hcc
                  have := hcc.2
                  rw [hc] at this
                  simpa using this
                subst hi
                have hop : ∃ t a x, o.op = .store t a x := cls_store hc
                obtain ⟨t, a, x, hop⟩ := hop
                have hk0 : ks = [] := by rw [← hks, hop]; rfl
                subst hk0
                refine ⟨fun w => rfl, fun c => ?_⟩
                have hk' : hardK T h0 env inl o.op (evA fr) H (fun v h => some (v, h)) = some (v, H') := hk
                rw [hop] at hk'
                simp only [hardK] at hk'
                split at hk'
                · rename_i H2 hst
                  cases hk'
                  exact store_len hst c
                · cases hk'
            · cases hop
      obtain ⟨φ, H', rfl, q1, q2, q3, q4, q5, q6, q7, q8, q9, q10⟩ := core
      refine ⟨φ, H', v, o.looksAt ops, rfl, hL, q1, q2, fun fr2 ha => ?_, q4, fun hc => ⟨(q5 hc).1, fun fr2 H2 ha => ?_⟩, fun hc => ⟨(q6 hc).1, fun fr2 ob ha => ?_⟩, q7, fun _ hd => hplain hd, fun hq => ⟨(q8 hq).1, (q8 hq).2.1, fun fr2 H2 ha => ?_, hplain (qz_dst hq)⟩, q9, fun hl => ⟨(q10 hl).1, (q10 hl).2.1, fun fr2 H2 ha hlen => ?_⟩⟩
      · obtain ⟨a1, a2⟩ := split2 ha
        simp only [stepD, a2, q3 fr2 a1, plOk_agree a1, hp, cond_true]
      · obtain ⟨a1, a2⟩ := split2 ha
        simp only [stepD, a2, (q5 hc).2 fr2 H2 a1, plOk_agree a1, hp, cond_true]
      · obtain ⟨a1, a2⟩ := split2 ha
        simp only [stepD, a2, (q6 hc).2 fr2 ob a1, plOk_agree a1, hp, cond_true]
      · obtain ⟨a1, a2⟩ := split2 ha
        simp only [stepD, a2, (q8 hq).2.2 fr2 H2 a1, plOk_agree a1, hp, cond_true]
      · obtain ⟨a1, a2⟩ := split2 ha
        simp only [stepD, a2, (q10 hl).2.2 fr2 H2 a1 hlen, plOk_agree a1, hp, cond_true]
    · cases h

/-! ### Two steps change places -/
def comm (env : FuncId → Option Con) (pl : List Nat) (ops : Array Oper) (x y : Oper) : Bool :=
  Oper.apart ops x y && (((Nat.beq (cls env x.op) 0 && (Nat.ble (cls env y.op) 2 || (match x.dst with | some d => memN d pl | none => false))) || qz env pl x) ||
    ((Nat.beq (cls env y.op) 0 || qz env pl y) && (Nat.ble (cls env x.op) 2 || qz env pl x)) || (Nat.beq (cls env x.op) 1 && (Nat.beq (cls env y.op) 1 || Nat.beq (cls env y.op) 2)) ||
    ((Nat.beq (cls env x.op) 0 || isLen x.op) && Nat.beq (cls env y.op) 4))

theorem slot_put {fr : List AV} {dst : Option Tmp} {v : AV} {t : Nat} (h : ∀ d, dst = some d → t ≠ d) : slotAt (putA fr dst v) t = slotAt fr t := by
  cases dst with
  | none => rfl
  | some d => exact getD_set _ _ _ _ (h d rfl)

theorem putA_comm {fr : List AV} {a b : Option Tmp} {v u : AV} (h : ∀ d, a = some d → b ≠ some d) : putA (putA fr a v) b u = putA (putA fr b u) a v := by
  cases a with
  | none => rfl
  | some d =>
    cases b with
    | none => rfl
    | some e =>
      have hne : d ≠ e := fun he => h d rfl (by rw [he])
      exact List.set_comm _ _ hne

theorem putA_map {φ : AV → AV} (fr : List AV) (dst : Option Tmp) (v : AV) : (putA fr dst v).map φ = putA (fr.map φ) dst (φ v) := by
  cases dst with
  | none => rfl
  | some d => exact List.map_set

theorem swap (hm : Mono1 env) {x y : Oper} (hc : comm env pl ops x y = true) {st s1 s2 : St} (h1 : stepD T h0 env inl true pl ops.toList x st = some s1) (h2 : stepD T h0 env inl true pl ops.toList y s1 = some s2) :
    ∃ s, stepD T h0 env inl true pl ops.toList y st = some s ∧ stepD T h0 env inl true pl ops.toList x s = some s2 := by
  obtain ⟨fr, H⟩ := st
  unfold comm at hc
  rw [Bool.and_eq_true] at hc
  obtain ⟨hap, hc⟩ := hc
  obtain ⟨ap1, ap2, ap3⟩ := Oper.apart_spec hap
  obtain ⟨φ, H1, vx, Lx, rfl, lx, fu, fp, gx, x2, x0, x1, xg, xp, xq, x4, xl⟩ := (eff_of hm h1).out
  obtain ⟨ψ, H2, vy, Ly, rfl, ly, gu, gp, gy, y2, y0, y1, yg, yp, yq, y4, yl⟩ := (eff_of hm h2).out
  have agx : ∀ (f : List AV) (v : AV), ∀ t ∈ Lx, slotAt (putA f y.dst v) t = slotAt f t := fun f v t ht => slot_put (fun d hd e => by subst e; exact ap3 t hd (lx t ht))
  have agy : ∀ (f : List AV) (v : AV), ∀ t ∈ Ly, slotAt (putA f x.dst v) t = slotAt f t := fun f v t ht => slot_put (fun d hd e => by subst e; exact ap1 t hd (ly t ht))
  have hdd : ∀ d, x.dst = some d → y.dst ≠ some d := ap2
  simp only [Bool.or_eq_true, Bool.and_eq_true, nbeq, Nat.ble_eq] at hc
  rcases hc with ((hxy | ⟨hy, hx⟩) | ⟨hx, hy⟩) | ⟨hx, hy⟩
  · -- the first touches no object
    have hx3 : (∀ v, φ v = v) ∧ H1 = H ∧ (∀ (fr2 : List AV) H2, (∀ t ∈ Lx, slotAt fr2 t = slotAt fr t) → stepD T h0 env inl true pl ops.toList x ⟨fr2, H2⟩ = some ⟨putA fr2 x.dst vx, H2⟩) ∧
        (ψ vx = vx ∧ ∀ t ∈ Lx, ψ (slotAt fr t) = slotAt fr t) := by
      rcases hxy with ⟨hx, hy⟩ | hq
      · obtain ⟨e1, e2⟩ := x0 hx
        refine ⟨x2 (by omega), e1, e2, ?_⟩
        rcases hy with hy | hy
        · exact ⟨y2 hy _, fun t _ => y2 hy _⟩
        · cases hd : x.dst with
          | none => simp [hd] at hy
          | some d =>
            simp only [hd] at hy
            obtain ⟨p1, p2⟩ := xp hx ⟨d, hd, hy⟩
            exact ⟨gp _ p1, fun t ht => gp _ (p2 t ht)⟩
      · obtain ⟨e1, e2, e3, p1, p2⟩ := xq hq
        exact ⟨e1, e2, e3, gp _ p1, fun t ht => gp _ (p2 t ht)⟩
    obtain ⟨hφ, rfl, x0', hψ⟩ := hx3
    rw [map_fix hφ] at gy h2 ⊢
    have hst := gy fr (fun t ht => (agy fr vx t ht).symm)
    refine ⟨_, hst, ?_⟩
    have hx3 := x0' (putA (fr.map ψ) y.dst vy) H2 (fun t ht => by
      rw [agx _ _ t ht]
      show (fr.map ψ).getD t .undef = _
      rw [getD_map gu]
      exact hψ.2 t ht)
    rw [hx3, putA_map, hψ.1, putA_comm hdd]
  · have hy3 : (∀ v, ψ v = v) ∧ H2 = H1 ∧ ∀ (fr2 : List AV) H3, (∀ t ∈ Ly, slotAt fr2 t = slotAt (putA (fr.map φ) x.dst vx) t) → stepD T h0 env inl true pl ops.toList y ⟨fr2, H3⟩ = some ⟨putA fr2 y.dst vy, H3⟩ := by
      rcases hy with hy | hq
      · exact ⟨y2 (by omega), (y0 hy).1, (y0 hy).2⟩
      · exact ⟨(yq hq).1, (yq hq).2.1, (yq hq).2.2.1⟩
    have hφ : ∀ v, φ v = v := by
      rcases hx with hx | hq
      · exact x2 hx
      · exact (xq hq).1
    obtain ⟨hψ, rfl, y0'⟩ := hy3
    rw [map_fix hφ] at y0' h2 ⊢
    refine ⟨_, y0' fr H (fun t ht => (agy fr vx t ht).symm), ?_⟩
    have hx3 := gx (putA fr y.dst vy) (fun t ht => agx fr vy t ht)
    rw [hx3, map_fix hφ, map_fix hψ, putA_comm hdd]
  · obtain ⟨rfl, x1'⟩ := x1 hx
    have hφ := x2 (by omega)
    have hψ := y2 (by omega)
    rw [map_fix hφ] at gy y1 h2 ⊢
    have hst := gy fr (fun t ht => (agy fr vx t ht).symm)
    rw [map_fix hψ] at hst
    refine ⟨_, hst, ?_⟩
    have hH : H2 = H1 ∨ ∃ ob, H2 = H1 ++ [ob] := by
      rcases hy with hy | hy
      · exact .inl (y1 hy).1
      · exact yg hy
    rcases hH with rfl | ⟨ob, rfl⟩
    · have hx3 := gx (putA fr y.dst vy) (fun t ht => agx fr vy t ht)
      rw [hx3, map_fix hφ, map_fix hψ, putA_comm hdd]
    · have hx3 := x1' (putA fr y.dst vy) ob (fun t ht => agx fr vy t ht)
      rw [hx3, map_fix hψ, putA_comm hdd]
  · -- the second stores, the first reads no datum
    obtain ⟨hψ, hlen⟩ := y4 hy
    have hx3 : (∀ v, φ v = v) ∧ H1 = H ∧ ∀ (fr2 : List AV), (∀ t ∈ Lx, slotAt fr2 t = slotAt fr t) → stepD T h0 env inl true pl ops.toList x ⟨fr2, H2⟩ = some ⟨putA fr2 x.dst vx, H2⟩ := by
      rcases hx with hx | hx
      · exact ⟨x2 (by omega), (x0 hx).1, fun fr2 ha => (x0 hx).2 fr2 H2 ha⟩
      · obtain ⟨e1, e2, e3⟩ := xl hx
        exact ⟨e1, e2, fun fr2 ha => e3 fr2 H2 ha (fun c => by rw [hlen c, e2])⟩
    obtain ⟨hφ, rfl, x0'⟩ := hx3
    rw [map_fix hφ] at gy h2 ⊢
    have hst := gy fr (fun t ht => (agy fr vx t ht).symm)
    rw [map_fix hψ] at hst
    refine ⟨_, hst, ?_⟩
    rw [x0' (putA fr y.dst vy) (fun t ht => agx fr vy t ht), map_fix hψ, putA_comm hdd]
end

end Go.Proofs.YtiolbhmbobelcaaGreatDoor.AI
