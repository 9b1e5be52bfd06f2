/- A part of the proof. -/
import Derived.Test.YtefddghdaimklaaGreatDoorAiv
set_option linter.unusedVariables false
set_option linter.unusedSimpArgs false
namespace Go.Proofs.YtefddghdaimklaaGreatDoor.AI
open Go
abbrev Sig := List (Bool × Ty)
@[reducible] def Sig.den : Sig → Type
 | [] => Unit
 | [p] => p.2.den
 | p :: q :: l => p.2.den × Sig.den (q :: l)
def nj (p : Bool × Ty) : AV → Option p.2.den
 | .val g cs => if g = p.1 then p.2.whole cs else none
 | _ => none
def zU : (s : Sig) → List AV → Option s.den
 | [], [] => some ()
 | [p], [a] => nj p a
 | p :: q :: l, a :: avs => match nj p a with
  | some x => match zU (q :: l) avs with
   | some y => some (x, y)
   | none => none
  | none => none
 | _, _ => none
def gM : (s : Sig) → s.den → List (Bool × List C)
 | [], _ => []
 | [p], x => [(p.1, p.2.cells x)]
 | p :: q :: l, x => (p.1, p.2.cells x.1) :: gM (q :: l) x.2
def zu (s : Sig) (x : s.den) : List AV := (gM s x).map fun p => .val p.1 p.2
def jY (s : Sig) (x : s.den) : AV :=
 match gM s x with
 | [p] => .val p.1 p.2
 | l => .tup l
def zq (s : Sig) (v : AV) (H : List Ob) : Option s.den :=
 match s, v with
 | [p], .val g cs => nj p (roV H (.val g cs))
 | [_], _ => none
 | s, .tup l => zU s (l.map fun p => roV H (.val p.1 p.2))
 | _, _ => none
def Ty.flat : Ty → Bool
 | .sl _ => false
 | .rose _ => false
 | .set _ => false
 | .pair a b => a.flat && b.flat
 | _ => true
theorem s0 {ok ok' : Nat → Prop} {w w' : World} : ∀ (t : Ty) (x : t.den) (vs : List Value), t.flat = true → RepT ok w t x vs → RepT ok' w' t x vs
 | .bool, _, _, _, h => h
 | .int _, _, _, _, h => h
 | .float _, _, _, _, h => h
 | .str, _, _, _, h => h
 | .unit, _, _, _, h => h
 | .pair a b, x, vs, hf, h => by
  simp only [Ty.flat, Nt] at hf
  obtain ⟨p, q, h1, h2, h3⟩ := h
  exact ⟨p, q, h1, s0 a _ _ hf.1 h2, s0 b _ _ hf.2 h3⟩
def Cx.lend (x : Cx) : Cx := { ok := fun b => x.ok b ∨ x.mine b, at_ := x.at_, w := x.w, H := x.H }
def Cx.bare (x : Cx) : Cx := { ok := x.ok, at_ := fun _ => none, w := x.w, H := [] }
theorem u4 {x : Cx} (h : ∀ b, x.ok b → b < x.w.heap.size) (ht : Tabs x.ok x.w) : Inv x.bare :=
 ⟨h, fun i j b oi oj hi => by simp [Cx.bare] at hi, fun i b o hi => by simp [Cx.bare] at hi, fun i o hi => by simp [Cx.bare] at hi, ht⟩
theorem qS {x : Cx} (h : Inv x) : Tabs x.lend.ok x.lend.w := h.tab.imp (fun b hb => .inl hb) (fun _ _ => rfl)
theorem mD {x : Cx} (hI : Inv x) (b : Nat) (h : x.lend.ok b) : b < x.w.heap.size := by
 rcases h with h | ⟨i, o, h1, h2, h3⟩
 ·exact hI.okb b h
 ·exact hI.lt h1 h2 h3
theorem Carry.lend {x : Cx} (hI : Inv x) : Carry (roC x.H) x x.lend := by
 have hk : Kin x x.lend := ⟨fun b h => .inl h, fun _ _ => rfl⟩
 have hid : ∀ id, IdOk x x.lend id := fun id => IdOk.same hI rfl rfl (fun _ _ _ => rfl)
 intro c v h
 cases c with
 | own id n =>
  have h2 := h.2
  cases hx : x.H[id]? with
  | none => simp [zV, hx] at h2
  | some o =>
   cases o with
   | box cs => simp [zV, hx] at h2
   | mp _ _ => simp [zV, hx] at h2
   | tb _ => simp [zV, hx] at h2
   | dead => simp [zV, hx] at h2
   | arr e t xs =>
    simp only [zV, hx] at h2
    simp only [roC, hx]
    refine ⟨h.1, ?_⟩
    obtain ⟨hn, h2⟩ := h2
    have ho := hI.obs _ _ hx
    have hlen : (xs.take n).length = n := by simp [Nat.min_eq_left hn]
    cases hat : x.at_ id with
    | none =>
     simp only [hat] at h2
     obtain ⟨⟨A, rfl⟩, rfl⟩ := h2
     exact ⟨A, 0, by simp, by simp, fun hne => absurd (by simp) hne⟩
    | some b =>
     simp only [hat] at h2
     obtain ⟨c, rfl, h3, h4, h5⟩ := h2
     refine ⟨some ⟨b, 0, none⟩, c, by rw [hlen], by rw [hlen]; exact h3, fun _ => ⟨b, 0, rfl, .inr ⟨id, _, hx, by simp, hat⟩, fun j d hj => ?_⟩⟩
     simp only [ObRep, hat] at ho
     obtain ⟨cur, h6, h7, h8⟩ := ho
     rw [List.getElem?_take] at hj
     split at hj
     ·obtain ⟨vs, h9, h10⟩ := h8 j d hj
      refine ⟨vs, RepT.kin hk h9, (RepT.len t d vs h9).1, fun q u hq => ?_⟩
      have := h10 q u hq
      simp [World.cell?, Cx.lend, h6, this]
     ·cases hj
 | mp id =>
  have h2 := h.2
  cases hx : x.H[id]? with
  | none => simp [zV, hx] at h2
  | some o =>
   cases o with
   | mp t xs =>
    simp only [zV, hx] at h2
    simp only [roC, hx]
    obtain ⟨b, hat, hv⟩ := h2
    obtain ⟨b', hat', hs⟩ := hI.obs _ _ hx
    rw [hat] at hat'; cases hat'
    exact ⟨h.1, b, by rw [hv], .inr ⟨id, _, hx, by simp, hat⟩, hs⟩
   | tb xs => simp only [roC, hx]; exact ⟨h.1, trivial⟩
   | _ => simp [zV, hx] at h2
 | _ => exact h.move hk (fun id _ => hid id)
theorem x9 : ∀ (t : Ty) (d : t.den) (r : List C), t.ofCells (t.cells d ++ r) = some (d, r)
 | .unit, d, r => rfl
 | .pair a b, d, r => by
  simp only [Ty.cells, NU, Ty.ofCells, x9 a, x9 b]
 | .rose a, .node x ks, r => by
  simp [Ty.cells, NU, Ty.ofCells, x9 a, Ty.one, Rose.lab, Rose.kids]
 | .bool, d, r => by simp [Ty.cells, Ty.ofCells, Ty.one, Rose.lab, Rose.kids]
 | .int k, d, r => by simp [Ty.cells, Ty.ofCells, Ty.one, Rose.lab, Rose.kids]
 | .float k, d, r => by simp [Ty.cells, Ty.ofCells, Ty.one]
 | .str, d, r => by simp [Ty.cells, Ty.ofCells, Ty.one]
 | .sl t, d, r => by simp [Ty.cells, Ty.ofCells, Ty.one]
 | .set t, d, r => by simp [Ty.cells, Ty.ofCells, Ty.one]
theorem tI (t : Ty) (d : t.den) : t.whole (t.cells d) = some d := by
 have := x9 t d []
 rw [List.append_nil] at this
 simp only [Ty.whole, this]
theorem wk {x : Cx} {p : Bool × Ty} {a : AV} {d : p.2.den} (h : nj p a = some d) {u : Value} (hu : RepV x a u) : RepV x (.val p.1 (p.2.cells d)) u := by
 unfold nj at h
 split at h
 ·rename_i g cs
  split at h
  ·rename_i hg
   subst hg
   cases hp : p.1 with
   | true =>
    rw [hp] at hu
    obtain ⟨vs, h1, h2⟩ := hu
    exact ⟨vs, h1, RepT.cells _ _ _ (zQ h h2)⟩
   | false =>
    rw [hp] at hu
    exact RepT.cells _ _ _ (zQ h hu)
  ·cases h
 ·cases h
theorem wX {x y : Cx} {p : Bool × Ty} {d : p.2.den} {u : Value} (hm : ∀ vs, RepT x.ok x.w p.2 d vs → RepT y.ok y.w p.2 d vs) (h : RepV x (.val p.1 (p.2.cells d)) u) : RepV y (.val p.1 (p.2.cells d)) u := by
 cases hp : p.1 with
 | true =>
  rw [hp] at h
  obtain ⟨vs, h1, h2⟩ := h
  exact ⟨vs, h1, RepT.cells _ _ _ (hm _ (zQ (tI p.2 d) h2))⟩
 | false =>
  rw [hp] at h
  exact RepT.cells _ _ _ (hm _ (zQ (tI p.2 d) h))
theorem yw {x y : Cx} (hm : ∀ t (d : Ty.den t) vs, RepT x.ok x.w t d vs → RepT y.ok y.w t d vs) : ∀ (s : Sig) (avs : List AV) (X : s.den) (us : List Value), zU s avs = some X → RepVs x avs us → RepVs y (zu s X) us
 | [], [], X, us, h, hu => hu
 | [], _ :: _, X, us, h, hu => by simp [zU] at h
 | [p], [], X, us, h, hu => by simp [zU] at h
 | [p], [a], X, us, h, hu => by
  obtain ⟨v, r, rfl, h1, h2⟩ := hu
  exact ⟨v, r, rfl, wX (hm _ _) (wk h h1), h2⟩
 | [p], _ :: _ :: _, X, us, h, hu => by simp [zU] at h
 | p :: q :: l, [], X, us, h, hu => by simp [zU] at h
 | p :: q :: l, a :: avs, X, us, h, hu => by
  simp only [zU] at h
  split at h
  ·rename_i d hd
   split at h
   ·rename_i Y hY
    cases h
    obtain ⟨v, r, rfl, h1, h2⟩ := hu
    exact ⟨v, r, rfl, wX (hm _ _) (wk hd h1), yw hm (q :: l) avs Y r hY h2⟩
   ·cases h
  ·cases h
theorem wM {x : Cx} (hI : Inv x) : ∀ (avs : List AV) (us : List Value), RepVs x avs us → RepVs x.lend (avs.map (roV x.H)) us
 | [], us, h => h
 | a :: l, us, h => by
  obtain ⟨v, r, rfl, h1, h2⟩ := h
  refine ⟨v, r, rfl, ?_, wM hI l r h2⟩
  have hid : Carry (fun c => c) x x.lend := by
   intro c v h
   exact h.move (⟨fun b h => Or.inl h, fun _ _ => rfl⟩ : Kin x x.lend) (fun id _ => IdOk.same hI rfl rfl (fun _ _ _ => rfl))
  cases a with
  | val g cs => exact Rep1.carry (Carry.lend hI) h1
  | tup l => exact RepV.keep hid h1
  | skip => exact h1
  | undef => trivial
theorem fK (H l : List Ob) (t : Ty) (c : C) (d : t.den) (h : t.one (roC H c) = some d) : t.one (roC (H ++ l) c) = some d := by
 cases c with
 | own id n =>
  simp only [roC] at h ⊢
  cases hx : H[id]? with
  | none => simp [hx, Ty.one] at h
  | some o =>
   have hlt : id < H.length := (NB.1 hx).1
   rw [List.getElem?_append_left hlt, hx]
   rw [hx] at h
   exact h
 | mp id =>
  simp only [roC] at h ⊢
  cases hx : H[id]? with
  | none => simp [hx, Ty.one] at h
  | some o =>
   have hlt : id < H.length := (NB.1 hx).1
   rw [List.getElem?_append_left hlt, hx]
   rw [hx] at h
   exact h
 | _ => exact h
theorem vE (H l : List Ob) (t : Ty) (cs : List C) (d : t.den) (r : List C) (ho : ∀ c r, t.ofCells (c :: r) = (match t.one c with | some x => some (x, r) | none => none)) (hn : t.ofCells [] = none)
  (h : t.ofCells (cs.map (roC H)) = some (d, r)) : ∃ r' : List C, r = r'.map (roC H) ∧ t.ofCells (cs.map (roC (H ++ l))) = some (d, r'.map (roC (H ++ l))) := by
 cases cs with
 | nil => rw [List.map_nil, hn] at h; cases h
 | cons c cs =>
  rw [NN, ho] at h
  rw [NN, ho]
  cases hx : t.one (roC H c) with
  | none => rw [hx] at h; cases h
  | some y =>
   rw [hx] at h
   cases h
   rw [fK H l t c _ hx]
   exact ⟨cs, rfl, rfl⟩
theorem wF (H l : List Ob) : ∀ (t : Ty) (cs : List C) (d : t.den) (r : List C), t.ofCells (cs.map (roC H)) = some (d, r) → ∃ r' : List C, r = r'.map (roC H) ∧ t.ofCells (cs.map (roC (H ++ l))) = some (d, r'.map (roC (H ++ l)))
 | .unit, cs, d, r, h => by
  simp only [Ty.ofCells, NA, NH] at h
  exact ⟨cs, h.2.symm, rfl⟩
 | .bool, cs, d, r, h => vE H l .bool cs d r (fun c _ => by rw [Ty.ofCells]; cases Ty.one _ c <;> rfl) rfl h
 | .int k, cs, d, r, h => vE H l (.int k) cs d r (fun c _ => by rw [Ty.ofCells]; cases Ty.one _ c <;> rfl) rfl h
 | .float k, cs, d, r, h => vE H l (.float k) cs d r (fun c _ => by rw [Ty.ofCells]; cases Ty.one _ c <;> rfl) rfl h
 | .str, cs, d, r, h => vE H l .str cs d r (fun c _ => by rw [Ty.ofCells]; cases Ty.one _ c <;> rfl) rfl h
 | .set t, cs, d, r, h => vE H l (.set t) cs d r (fun c _ => by rw [Ty.ofCells]; cases Ty.one _ c <;> rfl) rfl h
 | .sl t, cs, d, r, h => vE H l (.sl t) cs d r (fun c _ => by rw [Ty.ofCells]; cases Ty.one _ c <;> rfl) rfl h
 | .pair a b, cs, d, r, h => by
  unfold Ty.ofCells at h ⊢
  split at h
  ·rename_i y r1 h1
   split at h
   ·rename_i z r2 h2
    cases h
    obtain ⟨s1, rfl, e1⟩ := wF H l a cs y r1 h1
    obtain ⟨s2, rfl, e2⟩ := wF H l b s1 z _ h2
    exact ⟨s2, rfl, by simp only [e1, e2]⟩
   ·cases h
  ·cases h
 | .rose a, cs, d, r, h => by
  unfold Ty.ofCells at h ⊢
  split at h
  ·rename_i y c r1 h1
   split at h
   ·rename_i ks h2
    cases h
    obtain ⟨s1, hs, e1⟩ := wF H l a cs y _ h1
    cases s1 with
    | nil => cases hs
    | cons c' s1 =>
     simp only [NN, List.cons.injEq] at hs
     obtain ⟨rfl, rfl⟩ := hs
     exact ⟨s1, rfl, by simp only [e1, NN, fK H l _ c' ks h2]⟩
   ·cases h
  ·cases h
theorem dW (H l : List Ob) (t : Ty) (cs : List C) (d : t.den) (h : t.whole (cs.map (roC H)) = some d) : t.whole (cs.map (roC (H ++ l))) = some d := by
 unfold Ty.whole at h ⊢
 split at h
 ·rename_i x hx
  cases h
  obtain ⟨r', h1, h2⟩ := wF H l t cs _ _ hx
  have : r' = [] := by cases r' with
   | nil => rfl
   | cons a b => cases h1
  subst this
  simp only [h2, List.map_nil]
 ·cases h
theorem s5 (H l : List Ob) (p : Bool × Ty) (a : AV) (d : p.2.den) (h : nj p (roV H a) = some d) : nj p (roV (H ++ l) a) = some d := by
 cases a with
 | val g cs =>
  simp only [roV, nj] at h ⊢
  split at h
  ·rename_i hg; rw [if_pos hg]; exact dW H l _ _ _ h
  ·cases h
 | _ => exact h
theorem wj (H l : List Ob) : ∀ (s : Sig) (avs : List AV) (X : s.den), zU s (avs.map (roV H)) = some X → zU s (avs.map (roV (H ++ l))) = some X
 | [], [], X, h => h
 | [], _ :: _, X, h => by simp [zU] at h
 | [p], [], X, h => by simp [zU] at h
 | [p], [a], X, h => s5 H l p a X h
 | [p], _ :: _ :: _, X, h => by simp [zU] at h
 | p :: q :: r, [], X, h => by simp [zU] at h
 | p :: q :: r, a :: avs, X, h => by
  simp only [NN, zU] at h ⊢
  split at h
  ·rename_i d hd
   split at h
   ·rename_i Y hY
    cases h
    rw [s5 H l p a d hd, wj H l (q :: r) avs Y hY]
   ·cases h
  ·cases h
def zk (s rs : Sig) (lend : Bool) (F : s.den → Option rs.den) : Con :=
 {X := s.den, Y := rs.den, look := fun avs _ => zU s avs, F := F, outV := fun _ y => jY rs y, outH := fun _ _ H => H, mode := bif lend then 1 else 3, kills := fun _ _ => [] }
theorem RepVs.one {x : Cx} : ∀ {avs : List (Bool × List C)} {us : List Value}, RepVs x (avs.map fun p => .val p.1 p.2) us → Rep1s x avs us
 | [], us, h => h
 | a :: l, us, h => by
  obtain ⟨v, r, h1, h2, h3⟩ := h
  exact ⟨v, r, h1, h2, RepVs.one h3⟩
theorem jN {x : Cx} : ∀ {avs : List (Bool × List C)} {us : List Value}, Rep1s x avs us → RepVs x (avs.map fun p => .val p.1 p.2) us
 | [], us, h => h
 | a :: l, us, h => by
  obtain ⟨v, r, h1, h2, h3⟩ := h
  exact ⟨v, r, h1, h2, jN h3⟩
theorem qq {x y : Cx} : ∀ (s : Sig) (avs : List AV) (X : s.den) (us : List Value), (∀ p ∈ s, ∀ (d : Ty.den p.2) vs, RepT x.ok x.w p.2 d vs → RepT y.ok y.w p.2 d vs) → zU s avs = some X → RepVs x avs us → RepVs y (zu s X) us
 | [], [], X, us, hm, h, hu => hu
 | [], _ :: _, X, us, hm, h, hu => by simp [zU] at h
 | [p], [], X, us, hm, h, hu => by simp [zU] at h
 | [p], [a], X, us, hm, h, hu => by
  obtain ⟨v, r, rfl, h1, h2⟩ := hu
  exact ⟨v, r, rfl, wX (hm p (by simp) _) (wk h h1), h2⟩
 | [p], _ :: _ :: _, X, us, hm, h, hu => by simp [zU] at h
 | p :: q :: l, [], X, us, hm, h, hu => by simp [zU] at h
 | p :: q :: l, a :: avs, X, us, hm, h, hu => by
  simp only [zU] at h
  split at h
  ·rename_i d hd
   split at h
   ·rename_i Y hY
    cases h
    obtain ⟨v, r, rfl, h1, h2⟩ := hu
    exact ⟨v, r, rfl, wX (hm p (by simp) _) (wk hd h1), qq (q :: l) avs Y r (fun p' hp' => hm p' (by simp at hp' ⊢; exact .inr hp')) hY h2⟩
   ·cases h
  ·cases h
theorem tF {x y : Cx} (hI : Inv x) {rs : Sig} {v : AV} {Y : rs.den} (h : zq rs v x.H = some Y) {u : Value} (hu : RepV x v u)
  (hm : ∀ p ∈ rs, ∀ (d : Ty.den p.2) vs, RepT x.lend.ok x.lend.w p.2 d vs → RepT y.ok y.w p.2 d vs) : RepV y (jY rs Y) u := by
 have hmany : ∀ l : List (Bool × List C), v = .tup l → zU rs (l.map fun p => roV x.H (.val p.1 p.2)) = some Y → (∀ p, rs ≠ [p]) → RepV y (jY rs Y) u := by
  rintro l rfl hl hne
  obtain ⟨vs, rfl, h2⟩ := hu
  have h3 := wM hI _ _ (jN h2)
  rw [List.map_map] at h3
  have h4 := qq rs _ Y _ hm hl h3
  have h5 := RepVs.one h4
  have : jY rs Y = .tup (gM rs Y) := by
   unfold jY
   cases rs with
   | nil => rfl
   | cons p r =>
    cases r with
    | nil => exact absurd rfl (hne p)
    | cons q r =>
     cases r <;> rfl
  rw [this]
  exact ⟨vs, rfl, h5⟩
 unfold zq at h
 split at h
 ·rename_i p g cs
  have h3 := wM hI [_] [u] ⟨u, [], rfl, hu, rfl⟩
  obtain ⟨u', r', h4, h5, h6⟩ := h3
  cases h4
  exact wX (hm p (by simp) _) (wk h h5)
 ·cases h
 ·rename_i l hne
  exact hmany l rfl h (fun p hp => hne p hp)
 ·cases h
section
variable {P : Program} {T : TypeId → Option TI} {env : FuncId → Option Con} {ann : FuncId → Nat → Ann} {code : FuncId → Option Func}
theorem mG {f : FuncId} {s rs : Sig} {lend : Bool} {F : s.den → Option rs.den} (hfl : lend = true → ∀ p ∈ rs, p.2.flat = true)
  (hdoes : ∀ X Y, F X = some Y → ∀ (x' : Cx) (vals : Array Value), x'.H = [] → Inv x' → RepVs x' (zu s X) vals.toList → ∀ S : Value → World → Prop, (∀ v H' y u, zq rs v H' = some Y → Left x' 0 v H' u y → S u y.w) → Does P (callFunc f vals) x'.w S) : ConOk P f (zk s rs lend F) := by
 refine ⟨fun x args vals X Y hI hv hl hF => ?_, fun _ => ⟨fun _ _ _ => rfl, fun _ _ => rfl, fun _ _ _ => rfl⟩, fun _ args H l X h => wj H l s args X h, fun h => by cases lend <;> cases h⟩
 have hl' : zU s (conv x.H (zk s rs lend F).mode args) = some X := hl
 have hF' : F X = some Y := hF
 obtain ⟨x', hxw, hxH, hIx, hvx, hokx⟩ : ∃ x' : Cx, x'.w = x.w ∧ x'.H = [] ∧ Inv x' ∧ RepVs x' (zu s X) vals.toList ∧ (lend = false → x'.ok = x.ok) := by
  cases lend with
  | true =>
   have hl2 : zU s (args.map (roV x.H)) = some X := hl'
   exact ⟨x.lend.bare, rfl, rfl, u4 (mD hI) (qS hI), yw (x := x.lend) (y := x.lend.bare) (fun t d vs h => h) s _ X _ hl2 (wM hI _ _ hv), fun h => by cases h⟩
  | false =>
   have hl2 : zU s args = some X := hl'
   exact ⟨x.bare, rfl, rfl, u4 hI.okb hI.tab, yw (x := x) (y := x.bare) (fun t d vs h => h) s _ X _ hl2 hv, fun _ => rfl⟩
 rw [← hxw]
 have hnm : ∀ b, ¬ x'.mine b := by
  rintro b ⟨i, o, h1, _⟩
  rw [hxH] at h1; simp at h1
 refine hdoes X Y hF' x' vals hxH hIx hvx _ ?_
 intro v H' y' u hk hL
 have hH : (bif Nat.beq (zk s rs lend F).mode 1 then x.H else (zk s rs lend F).outH X Y x.H) = x.H := by cases lend <;> rfl
 have hkl : (bif Nat.beq (zk s rs lend F).mode 1 then [] else (zk s rs lend F).kills X args) = [] := by cases lend <;> rfl
 rw [hH, hkl]
 have hblk : ∀ b, b < x.w.heap.size → y'.w.heap[b]? = x.w.heap[b]? := fun b hb => by
  have := hL.kept.block b (by rw [hxw]; exact hb) (hnm b)
  rw [this, hxw]
 let y : Cx := { ok := fun b => x.ok b ∨ (x.w.heap.size ≤ b ∧ (y'.ok b ∨ y'.mine b)), at_ := x.at_, w := y'.w, H := x.H }
 have hkin : Kin x y := ⟨fun b hb => .inl hb, fun b hb => hblk b (hI.okb b hb)⟩
 have hids : ∀ id, IdOk x y id := fun id => IdOk.same hI rfl rfl (fun b _ hb => hblk b hb)
 have hcar : Carry (fun c => c) x y := Carry.id_of hkin (fun id _ => hids id)
 have hsz : x.w.heap.size ≤ y'.w.heap.size := by have := hL.kept.size; rw [hxw] at this; exact this
 have hmineb : ∀ b, y'.mine b → x.w.heap.size ≤ b := fun b hb => by
  rcases hL.kept.mine b hb with h | h
  ·exact absurd h (hnm b)
  ·rw [hxw] at h; exact h
 have hinv : Inv y := by
  refine ⟨fun b hb => ?_, hI.inj, fun i b o h1 h2 h3 h4 => ?_, fun i o h => ?_, hI.tab.kin hkin⟩
  ·rcases hb with hb | ⟨_, hb | ⟨i, o, h1, h2, h3⟩⟩
   ·exact Nat.lt_of_lt_of_le (hI.okb b hb) hsz
   ·exact hL.inv.okb b hb
   ·exact hL.inv.lt h1 h2 h3
  ·rcases h4 with h4 | ⟨h4, _⟩
   ·exact hI.off i b o h1 h2 h3 h4
   ·have := hI.lt h1 h2 h3; omega
  ·by_cases hd : o = .dead
   ·subst hd; trivial
   ·exact (hI.obs i o h).keep hkin hcar rfl (fun b hb => hblk b (hI.lt h hd hb))
 have hval : RepV y (jY rs Y) u := by
  rw [← hL.H] at hk
  refine tF hL.inv hk hL.val (fun p hp dd vs hrep => ?_)
  cases lend with
  | true => exact s0 _ _ _ (hfl rfl p hp) hrep
  | false =>
   refine RepT.imp (fun b hb => ?_) (fun b hb => rfl) _ _ _ hrep
   rcases hb with hb | hb
   ·rcases hL.kept.oknew b hb with h1 | h1 | h1
    ·left; rw [← hokx rfl]; exact h1
    ·exact absurd h1 (hnm b)
    ·right; rw [hxw] at h1; exact ⟨h1, .inl hb⟩
   ·exact .inr ⟨hmineb b hb, .inr hb⟩
 refine ⟨y, rfl, rfl, hinv, ?_, fun id _ _ => hids id, hcar, NF _, hval⟩
 have k1 := hL.kept.os; have k2 := hL.kept.tape; have k3 := hL.kept.output
 rw [hxw] at k1 k2 k3
 refine ⟨k1, k2, k3, hsz, fun b hb _ => hblk b hb, fun b hb => .inl hb, fun b hb => .inl hb, fun b hb => ?_⟩
 rcases hb with hb | ⟨hb, _⟩
 ·exact .inl hb
 ·exact .inr (.inr hb)
theorem zn (hm : P.follows .mixedOrders = true) (hT : TOk P T) (hE : xL P env) (hC : xc P env ann code) {d : Nat} {f : FuncId} {s rs : Sig} {lend : Bool} {F : s.den → Option rs.den}
  (hfl : lend = true → ∀ p ∈ rs, p.2.flat = true) (hrun : ∀ X Y, F X = some Y → ∃ n, iR T env n ann code d f (zu s X) [] (zq rs) = some Y) : ConOk P f (zk s rs lend F) :=
 mG hfl fun X Y hF x' vals hH hI hv S hk => by
  obtain ⟨n, hr⟩ := hrun X Y hF
  exact re hm hT hE hC (x := x') (r := Y) (k := zq rs) (by rw [hH]; exact hr) hI hv hk
def zN (f : FuncId) (c : Con) (env : FuncId → Option Con) : FuncId → Option Con := fun g => bif Nat.beq g f then some c else env g
theorem zf {f : FuncId} {c : Con} (h : ConOk P f c) (hE : xL P env) : xL P (zN f c env) := by
 intro g con hg
 unfold zN at hg
 cases hb : Nat.beq g f with
 | true =>
  rw [hb] at hg
  have := Nz hb
  subst this
  cases hg; exact h
 | false => rw [hb] at hg; exact hE g con hg
def yc : FuncId → Option Con := fun _ => none
theorem zj : xL P yc := fun _ _ h => by cases h
end
end Go.Proofs.YtefddghdaimklaaGreatDoor.AI
