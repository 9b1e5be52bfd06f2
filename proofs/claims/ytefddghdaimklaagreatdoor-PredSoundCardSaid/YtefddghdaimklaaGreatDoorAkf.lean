/- A part of the proof. -/
import Derived.Test.YtefddghdaimklaaGreatDoorAkc
set_option linter.unusedVariables false
set_option linter.unusedSimpArgs false
namespace Go.Proofs.YtefddghdaimklaaGreatDoor.AI
open Go Go.ChangeMaps
theorem UP (a b t : Nat) : rU (Question.cut (.nanBits .f64 a b) t) := by
 show rU ((t % 2) * 2 ^ 63 + 0x7ff0000000000000 + 1 + (t / 2) % (2 ^ 52 - 1))
 have h1 : (t / 2) % (2 ^ 52 - 1) < 2 ^ 52 - 1 := Nat.mod_lt _ (by decide)
 have h2 : t % 2 < 2 := Nat.mod_lt _ (by decide)
 generalize (t / 2) % (2 ^ 52 - 1) = r at h1 ⊢
 generalize t % 2 = s at h2 ⊢
 have hs : Ieee.double.signWeight = 9223372036854775808 := rfl
 have hb : Ieee.double.binade = 4503599627370496 := rfl
 have hi : Ieee.double.infRung = 9218868437227405312 := rfl
 have hrung : (s * 2 ^ 63 + 0x7ff0000000000000 + 1 + r) % 9223372036854775808 = 9218868437227405313 + r := by omega
 unfold rU Ieee.Format.read
 simp only [hs, hb, hi, hrung]
 rw [if_neg (by omega), if_neg (by omega), if_neg (by omega)]
 exact ⟨_, _, rfl⟩
section
variable {P : Program} {T : TypeId → Option TI}
theorem dV {x : Cx} (hI : Inv x) {h0 : Nat} (hle : h0 ≤ x.H.length) {w : World} (hh : w.heap = x.w.heap) (h1 : w.os = x.w.os) (h2 : w.tape = x.w.tape) (h3 : w.output = x.w.output) : Step h0 [] x (x.withW w) :=
 Step.of_id (jl hI hh) (nk hh h1 h2 h3) hle (fun id _ => rz hI hh id) (s6 hh) (NF _)
theorem kf {x : Cx} (hI : Inv x) {h0 : Nat} (hle : h0 ≤ x.H.length) {t : TypeId} {op : BinOp} (hop : op = .add ∨ op = .sub ∨ op = .mul ∨ op = .quo) (a b : Nat) (o1 o2 : Operand) :
  ∃ z, ∃ y : Cx, (do eqGuard op t o1 o2 (.float .f64 a) (.float .f64 b); binOp op t (.float .f64 a) (.float .f64 b) : Sem Value).run P x.w = .ok z y.w ∧ y.H = x.H ∧ Step h0 [] x y ∧ RepV y (TC (ln op a b)) z := by
 cases hr : ln op a b with
 | some r =>
  refine ⟨.float .f64 r, x, ?_, rfl, Step.refl hI hle, vG _ _⟩
  rcases hop with rfl | rfl | rfl | rfl <;> (simp only [ln] at hr; simp [eqGuard, binOp, Op.floatArith, hr])
 | none =>
  refine ⟨.float .f64 (Question.cut (.nanBits .f64 a b) (x.w.tape x.w.drawn (.nanBits .f64 a b))), x.withW x.w.drew, ?_, rfl, dV hI hle rfl rfl rfl rfl, Wy (UP _ _ _)⟩
  rcases hop with rfl | rfl | rfl | rfl <;> (simp only [ln] at hr; simp [eqGuard, binOp, Op.floatArith, hr, run_choose_drew, Question.forced, Cx.withW])
theorem ta {x : Cx} (hI : Inv x) {h0 : Nat} (hle : h0 ≤ x.H.length) {t : TypeId} {op : BinOp} (hop : op = .add ∨ op = .sub ∨ op = .mul ∨ op = .quo) {a b : Nat} {p q : Value} (hp : RepV x (.val false [.sc (.float .f64) a]) p) (hq : RepV x (.val false [.sc (.float .f64) b]) q) (o1 o2 : Operand) :
  ∃ z, ∃ y : Cx, (do eqGuard op t o1 o2 p q; binOp op t p q : Sem Value).run P x.w = .ok z y.w ∧ y.H = x.H ∧ Step h0 [] x y ∧ RepV y (TC (ln op a b)) z := by
 rw [yS hp, yS hq]
 exact kf hI hle hop a b o1 o2
theorem XK {op : BinOp} (hop : op = .add ∨ op = .quo) {a b : Nat} (h : rU a ∨ rU b) : ln op a b = none := by
 have hd : ∀ c, FloatKind.f64.format.read c = Ieee.double.read c := fun _ => rfl
 rcases hop with rfl | rfl
 ·rcases h with ⟨s, p, h⟩ | ⟨s, p, h⟩
  ·simp only [ln, Ieee.Format.add, hd, h, Ieee.Datum.sum, Option.map_none]
  ·simp only [ln, Ieee.Format.add, hd, h]
   cases Ieee.double.read a <;> simp [Ieee.Datum.sum]
 ·rcases h with ⟨s, p, h⟩ | ⟨s, p, h⟩
  ·simp only [ln, Ieee.Format.div, hd, h, Ieee.Datum.quotient, Option.map_none]
  ·simp only [ln, Ieee.Format.div, hd, h]
   cases Ieee.double.read a <;> simp [Ieee.Datum.quotient]
theorem tg {x : Cx} (hI : Inv x) {h0 : Nat} (hle : h0 ≤ x.H.length) {t : TypeId} {op : BinOp} (hop : op = .add ∨ op = .quo) {a b : Nat} (h : rU a ∨ rU b) (o1 o2 : Operand) :
  ∃ z, ∃ y : Cx, (do eqGuard op t o1 o2 (.float .f64 a) (.float .f64 b); binOp op t (.float .f64 a) (.float .f64 b) : Sem Value).run P x.w = .ok z y.w ∧ y.H = x.H ∧ Step h0 [] x y ∧ RepV y (.val false [.nan]) z := by
 have := kf (P := P) hI hle (t := t) (op := op) (by rcases hop with h | h <;> simp [h]) a b o1 o2
 rw [XK hop h] at this
 exact this
theorem Qv {x : Cx} (hI : Inv x) {h0 : Nat} (hle : h0 ≤ x.H.length) {s : Sem Value} {v : AV} (h : ∃ z, s.run P x.w = .ok z x.w ∧ RepV x v z) :
  ∃ z, ∃ y : Cx, s.run P x.w = .ok z y.w ∧ y.H = x.H ∧ Step h0 [] x y ∧ RepV y v z := by
 obtain ⟨z, h1, h2⟩ := h
 exact ⟨z, x, h1, rfl, Step.refl hI hle, h2⟩
theorem aG (hT : TOk P T) {x : Cx} (hI : Inv x) {h0 : Nat} (hle : h0 ≤ x.H.length) {t : TypeId} {a b v : AV} {p q : Value} (h : Rn a b = some v) (hp : RepV x a p) (hq : RepV x b q) (o1 o2 : Operand) :
  ∃ z, ∃ y : Cx, (do eqGuard .sub t o1 o2 p q; binOp .sub t p q : Sem Value).run P x.w = .ok z y.w ∧ y.H = x.H ∧ Step h0 [] x y ∧ RepV y v z := by
 unfold Rn at h
 split at h
 ·rename_i k1 m k2 n
  split at h
  ·rename_i hk
   subst hk
   exact Qv hI hle (nK hT (op := .sub) (t := t) (by simp only [Q5, if_true, bE]; exact h) hp hq o1 o2)
  ·cases h
 ·cases h
  exact ta hI hle (.inr (.inl rfl)) hp hq o1 o2
 ·cases h
theorem bt {x : Cx} (hI : Inv x) {h0 : Nat} (hle : h0 ≤ x.H.length) {t : TypeId} {a b v : AV} {p q : Value} (h : Qa a b = some v) (hp : RepV x a p) (hq : RepV x b q) (o1 o2 : Operand) :
  ∃ z, ∃ y : Cx, (do eqGuard .add t o1 o2 p q; binOp .add t p q : Sem Value).run P x.w = .ok z y.w ∧ y.H = x.H ∧ Step h0 [] x y ∧ RepV y v z := by
 unfold Qa at h
 split at h
 ·exact Qv hI hle (dJ h hp hq o1 o2)
 ·cases h
  exact ta hI hle (.inl rfl) hp hq o1 o2
 ·cases h
  obtain ⟨a, rfl, ha⟩ := sm hp
  rw [yS hq]
  exact tg hI hle (.inl rfl) (.inl ha) o1 o2
 ·cases h
  obtain ⟨b, rfl, hb⟩ := sm hq
  rw [yS hp]
  exact tg hI hle (.inl rfl) (.inr hb) o1 o2
 ·cases h
  obtain ⟨a, rfl, ha⟩ := sm hp
  obtain ⟨b, rfl, hb⟩ := sm hq
  exact tg hI hle (.inl rfl) (.inl ha) o1 o2
 ·cases h
theorem cz {x : Cx} (hI : Inv x) {h0 : Nat} (hle : h0 ≤ x.H.length) {t : TypeId} {a b v : AV} {p q : Value} (h : Rj a b = some v) (hp : RepV x a p) (hq : RepV x b q) (o1 o2 : Operand) :
  ∃ z, ∃ y : Cx, (do eqGuard .mul t o1 o2 p q; binOp .mul t p q : Sem Value).run P x.w = .ok z y.w ∧ y.H = x.H ∧ Step h0 [] x y ∧ RepV y v z := by
 unfold Rj at h
 split at h
 ·cases h
  exact ta hI hle (.inr (.inr (.inl rfl))) hp hq o1 o2
 ·cases h
theorem cJ {x : Cx} (hI : Inv x) {h0 : Nat} (hle : h0 ≤ x.H.length) {t : TypeId} {a b v : AV} {p q : Value} (h : Qx a b = some v) (hp : RepV x a p) (hq : RepV x b q) (o1 o2 : Operand) :
  ∃ z, ∃ y : Cx, (do eqGuard .quo t o1 o2 p q; binOp .quo t p q : Sem Value).run P x.w = .ok z y.w ∧ y.H = x.H ∧ Step h0 [] x y ∧ RepV y v z := by
 unfold Qx at h
 split at h
 ·exact Qv hI hle (dc h hp hq o1 o2)
 ·cases h
  exact ta hI hle (.inr (.inr (.inr rfl))) hp hq o1 o2
 ·cases h
  obtain ⟨a, rfl, ha⟩ := sm hp
  rw [yS hq]
  exact tg hI hle (.inr rfl) (.inl ha) o1 o2
 ·cases h
theorem oI {x : Cx} (hI : Inv x) {h0 : Nat} (hle : h0 ≤ x.H.length) {t : TypeId} {op : BinOp} (hop : op = .shl ∨ op = .shr) {a b v : AV} {p q : Value} (h : nL op a b = some v) (hp : RepV x a p) (hq : RepV x b q) (o1 o2 : Operand) :
  ∃ z, ∃ y : Cx, (do eqGuard op t o1 o2 p q; binOp op t p q : Sem Value).run P x.w = .ok z y.w ∧ y.H = x.H ∧ Step h0 [] x y ∧ RepV y v z := by
 unfold nL at h
 split at h
 ·rename_i k1 m k2 n
  refine Qv hI hle ?_
  rw [xM hp, xM hq]
  cases hn : decide (n < 0) with
  | true => rw [hn] at h; cases h
  | false =>
   rw [hn] at h
   cases h
   have h0 : ¬ n < 0 := of_decide_eq_false hn
   refine ⟨_, ?_, zZ _ _⟩
   rcases hop with rfl | rfl <;> simp [eqGuard, binOp, Op.shift, h0, zA]
 ·cases h
def Ts (mx : Bool) (a b : Value) : Sem Value := bif mx then Builtin.max2 a b else Builtin.min2 a b
theorem nq {x : Cx} {mx : Bool} {a b v : AV} {p q : Value} (h : Pj mx a b = some v) (hp : RepV x a p) (hq : RepV x b q) :
  ∃ z, (Ts mx p q).run P x.w = .ok z x.w ∧ RepV x v z := by
 unfold Pj at h
 split at h
 ·rename_i k1 m k2 n
  cases h
  rw [xM hp, xM hq]
  cases mx with
  | true =>
   refine ⟨.int k1 (mz true m n), ?_, zZ _ _⟩
   simp only [Ts, Nv, Builtin.max2, Sem.run_pure, mz]
   by_cases hc : n > m <;> simp [hc]
  | false =>
   refine ⟨.int k1 (mz false m n), ?_, zZ _ _⟩
   simp only [Ts, Nu, Builtin.min2, Sem.run_pure, mz]
   by_cases hc : n < m <;> simp [hc]
 ·rename_i s t
  cases h
  rw [w9 hp, w9 hq]
  cases mx with
  | true =>
   refine ⟨.string (na true s t), ?_, xG _⟩
   simp only [Ts, Nv, Builtin.max2, Op.stringOp, na, yA]
   cases hc : Op.bytesLess s.toList t.toList <;> simp [asBool, hc]
  | false =>
   refine ⟨.string (na false s t), ?_, xG _⟩
   simp only [Ts, Nu, Builtin.min2, Op.stringOp, na, yA, zd]
   cases hc : (Op.bytesLess s.toList t.toList || s.toList == t.toList) <;> simp [asBool, hc]
 ·cases h
theorem a7 (a b : ByteArray) : (a == b) = zd a b := by
 rw [beq_toListBytes]; rfl
theorem pq {k : TypeId} (s : ByteArray) : ∀ (es : List MapEntry) (rows : List (ByteArray × List C)) (i : Nat), es.map (fun e => (e.key, e.val)) = rows.map (fun r => (Value.string r.1, Value.agg (r.2.map fnV).toArray)) →
  (rows.any (fun r => zd s r.1) = false ∧ Instr.findNow .string (.string s) es i = some none ∧ ∀ z, tbA z s rows = z) ∨
  (∃ j r, rows.any (fun r => zd s r.1) = true ∧ Instr.findNow .string (.string s) es i = some (some (j, .agg (r.2.map fnV).toArray)) ∧ r ∈ rows ∧ ∀ z, tbA z s rows = r.2)
 | [], [], i, _ => .inl ⟨rfl, rfl, fun _ => rfl⟩
 | [], _ :: _, i, h => by cases h
 | _ :: _, [], i, h => by cases h
 | e :: es, r :: rows, i, h => by
  simp only [NN, List.cons.injEq, NH] at h
  obtain ⟨⟨h1, h2⟩, h3⟩ := h
  have heq : Instr.sameNow .string (.string s) e.key = some (zd s r.1) := by rw [h1]; simp only [Instr.sameNow, a7]
  cases hc : zd s r.1 with
  | true =>
   refine .inr ⟨i, r, by rw [List.any_cons, hc]; rfl, ?_, by simp, fun z => by simp only [tbA, hc, Nv]⟩
   simp only [Instr.findNow, heq, hc, h2]
  | false =>
   rcases pq (k := k) s es rows (i + 1) h3 with ⟨q1, q2, q3⟩ | ⟨j, r', q1, q2, q3, q4⟩
   ·exact .inl ⟨by rw [List.any_cons, hc, q1]; rfl, by simp only [Instr.findNow, heq, hc, q2], fun z => by simp only [tbA, hc, Nu, q3]⟩
   ·exact .inr ⟨j, r', by rw [List.any_cons, hc, q1]; rfl, by simp only [Instr.findNow, heq, hc, q2], by simp [q3], fun z => by simp only [tbA, hc, Nu, q4]⟩
theorem ay {x : Cx} : ∀ (cs : List C), cs.all fnB = true → RepCs x cs (cs.map fnV)
 | [], _ => rfl
 | c :: l, h => by
  simp only [List.all_cons, Nt] at h
  refine ⟨_, _, rfl, ?_, ay l h.2⟩
  cases c with
  | fn f caps => cases caps with
   | nil => exact ⟨rfl, #[], rfl, rfl⟩
   | cons _ _ => simp [fnB] at h
  | nilf => exact ⟨rfl, rfl⟩
  | _ => simp [fnB] at h
theorem V1 {x : Cx} : ∀ (cs : List C) (vs : List Value), cs.all fnB = true → RepCs x cs vs → vs = cs.map fnV
 | [], vs, _, h => h
 | c :: l, vs, h, hr => by
  simp only [List.all_cons, Nt] at h
  obtain ⟨v, r, rfl, h1, h2⟩ := hr
  rw [V1 l r h.2 h2]
  have : v = fnV c := by
   cases c with
   | fn f caps => cases caps with
    | nil =>
     obtain ⟨vs, h3, h4⟩ := h1.2
     have : vs = #[] := by
      have : vs.toList = [] := h4
      cases vs; simp_all
     rw [h3, this]; rfl
    | cons _ _ => simp [fnB] at h
   | nilf => exact h1.2
   | _ => simp [fnB] at h
  rw [this]; rfl
theorem lj {t : TypeId} {z : List Z} {sz by_ : Nat} {ty : Option Ty} {zz : List Z} (hT : TOk P T) (h : T t = some ⟨.tab z, sz, by_, ty, zz⟩) : ∃ k e, P.underlying t = some (.map k e) ∧ P.underlying k = some .string ∧ (∀ w : World, (zeroValue e).run P w = .ok (.agg ((z.map Z.cell).map fnV).toArray) w) ∧ (z.map Z.cell).all fnB = true := (hT _ _ h).desc
theorem nJ {k : TypeId} (hks : P.underlying k = some .string) (s : ByteArray) (em : Bool) (w : World) : (Instr.checkKey em 10000 k (.string s)).run P w = .ok () w := by
 have h : ∀ n, (Instr.checkKey em (n + 1) k (.string s)).run P w = .ok () w := fun n => by simp [Instr.checkKey, run_underlying hks]
 exact h 9999
theorem iW (hT : TOk P T) {x : Cx} (hI : Inv x) {t : TypeId} {z : List Z} {sz by_ : Nat} {ty : Option Ty} {zz : List Z} (ht : T t = some ⟨.tab z, sz, by_, ty, zz⟩) {id : Nat} {s : ByteArray} {rows : List (ByteArray × List C)} (hx : x.H[id]? = some (.tb rows)) {m key : Value} (hm : RepV x (.val false [.mp id]) m) (hk : RepV x (.val false [.sc .str s]) key) :
  ∃ u, (Instr.lookup t m key false).run P x.w = .ok u x.w ∧ RepV x (.val true (tbA (z.map Z.cell) s rows)) u := by
 obtain ⟨k, e, hu, hks, hz, hzb⟩ := lj hT ht
 rw [w9 hk]
 have hm2 := (zG hm).2
 simp only [zV, hx] at hm2
 obtain ⟨b, hat, rfl⟩ := hm2
 obtain ⟨b', hat', es, clock, hb, hrows, hfn⟩ := hI.obs _ _ hx
 rw [hat] at hat'; cases hat'
 have hchk := nJ (P := P) hks s
 have hfind : ∀ o, Instr.findNow .string (.string s) es.toList 0 = some o → (Instr.findKey k (.string s) es.toList).run P x.w = .ok o x.w := fun o ho => by
  simp [Instr.findKey, run_underlying hks, ho]
 rcases pq (k := k) s es.toList rows 0 hrows with ⟨q1, q2, q3⟩ | ⟨j, r, q1, q2, q3, q4⟩
 ·refine ⟨.agg ((z.map Z.cell).map fnV).toArray, ?_, ?_⟩
  ·simp [Instr.lookup, run_underlying hu, MapKept.run_getObj_map hb, hchk, hfind _ q2, hz]
  ·rw [q3]
   exact ⟨_, rfl, ay _ hzb⟩
 ·refine ⟨.agg (r.2.map fnV).toArray, ?_, ?_⟩
  ·simp [Instr.lookup, run_underlying hu, MapKept.run_getObj_map hb, hchk, hfind _ q2]
  ·rw [q4]
   exact ⟨_, rfl, ay _ (hfn r q3)⟩
theorem nD (hT : TOk P T) {x : Cx} (hI : Inv x) {h0 : Nat} (hle : h0 ≤ x.H.length) {t : TypeId} {z : List Z} {sz by_ : Nat} {ty : Option Ty} {zz : List Z} (ht : T t = some ⟨.tab z, sz, by_, ty, zz⟩) {id : Nat} {s : ByteArray} {cs : List C} {H' : List Ob} (h : Pf x.H id s cs = some H') {m key v : Value} (hm : RepV x (.val false [.mp id]) m) (hk : RepV x (.val false [.sc .str s]) key) (hv : RepV x (.val true cs) v) :
  ∃ y : Cx, (Instr.mapUpdate t m key v).run P x.w = .ok () y.w ∧ y.H = H' ∧ Step h0 [] x y := by
 obtain ⟨k, e, hu, hks, hz, hzb⟩ := lj hT ht
 unfold Pf at h
 split at h
 ·rename_i rows hx
  cases hc : (cs.all fnB && !(rows.any fun r => zd s r.1)) with
  | false => rw [hc] at h; cases h
  | true =>
   rw [hc] at h
   cases h
   simp only [Nt, Bool.not_eq_true'] at hc
   rw [w9 hk]
   have hm2 := (zG hm).2
   simp only [zV, hx] at hm2
   obtain ⟨b, hat, rfl⟩ := hm2
   obtain ⟨b', hat', es, clock, hb, hrows, hfn⟩ := hI.obs _ _ hx
   rw [hat] at hat'; cases hat'
   obtain ⟨us, rfl, hus⟩ := hv
   have eu : us = (cs.map fnV).toArray := by rw [← V1 cs _ hc.1 hus]
   subst eu
   have hchk := nJ (P := P) hks s
   have hnone : Instr.findNow .string (.string s) es.toList 0 = some none := by
    rcases pq (k := k) s es.toList rows 0 hrows with ⟨q1, q2, q3⟩ | ⟨j, r, q1, q2, q3, q4⟩
    ·exact q2
    ·rw [q1] at hc; exact absurd hc.2 (by simp)
   have hfind : (Instr.findKey k (.string s) es.toList).run P x.w = .ok none x.w := by simp [Instr.findKey, run_underlying hks, hnone]
   have hset' : Oj (rows ++ [(s, cs)]) (some (.map (es.push ⟨.string s, .agg (cs.map fnV).toArray, clock⟩) (clock + 1))) :=
    ⟨_, _, rfl, by simp [hrows], fun r hr => by
     rcases NS.1 hr with hr | hr
     ·exact hfn r hr
     ·rw [List.mem_singleton.1 hr]; exact hc.1⟩
   generalize hes : es.push ⟨.string s, .agg (cs.map fnV).toArray, clock⟩ = es' at hset'
   have hrun : (Instr.mapUpdate t (.map (some b)) (.string s) (.agg (cs.map fnV).toArray)).run P x.w = .ok () (setBlock x.w b (.map es' (clock + 1))) := by
    rw [← hes]
    simp [Instr.mapUpdate, run_underlying hu, MapKept.run_getObj_map hb, hchk, hfind, MapKept.run_setObj_map _ hb, Result.andThen, setBlock]
   have hsame := heap_setBlock_same hb (.map es' (clock + 1))
   have hother := fun (i : Nat) (hi : i ≠ b) => heap_setBlock_other hb (.map es' (clock + 1)) hi
   have hput : PutOk x (setBlock x.w b (.map es' (clock + 1))) id b := ⟨rfl, rfl, rfl, by simp [setBlock], fun k hk => hother k hk, ⟨_, hx, by simp⟩, hat, fun cur' e' fr' hc => by rw [hsame] at hc; cases hc⟩
   have hids := fun j => tn (o := .tb (rows ++ [(s, cs)])) hI hput (by rw [hx]; exact ⟨_, rfl⟩) j
   exact ⟨x.put _ id _, hrun, rfl, qM hI hput hids (by simp) ⟨b, hat, by show Oj _ ((setBlock x.w b (.map es' (clock + 1))).heap[b]?); rw [hsame]; exact hset'⟩ hle⟩
 ·cases h
end
end Go.Proofs.YtefddghdaimklaaGreatDoor.AI
