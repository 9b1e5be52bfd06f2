/- A part of the proof. -/
import Derived.Test.YtefddghdaimklaaGreatDoorAih
import Derived.Deep.AppendSrc
import Derived.Lib.AppendZeros
set_option linter.unusedVariables false
set_option linter.unusedSimpArgs false
namespace Go.Proofs.YtefddghdaimklaaGreatDoor.AI
open Go
section
variable {P : Program} {T : TypeId → Option TI}
theorem xI {x : Cx} {w : World} {b : Option Nat} {o : Ob} {h0 : Nat} (hI : Inv x) (h : PushOk x w b) (ho : ObRep (x.push w b o) x.H.length o) (hle : h0 ≤ x.H.length) : Step h0 [] x (x.push w b o) :=
 Step.of_id (mY hI h ho) (uy hI h) hle (fun id hid => vI hI h hid) (xE hI h) (by simp [Cx.push])
theorem rh {y : Cx} {id n b c : Nat} {e : TypeId} {t : Ty} {xs : List t.den} (hH : y.H[id]? = some (.arr e t xs)) (hat : y.at_ id = some b) (h1 : n ≤ xs.length) (h2 : n ≤ c) (h3 : c ≤ maxLen)
  (h4 : ∀ cur e' fr, y.w.heap[b]? = some (.cells cur e' fr) → c * t.size ≤ cur.size) : zV y (.own id n) (.slice (some ⟨b, 0, none⟩) n c) := by
 simp only [zV, hH, hat]
 exact ⟨h1, c, rfl, h2, h3, h4⟩
theorem oZ {y : Cx} {id : Nat} {e : TypeId} {t : Ty} {xs : List t.den} (hH : y.H[id]? = some (.arr e t xs)) (hat : y.at_ id = none) {A : Option Addr} : zV y (.own id 0) (.slice A 0 0) := by
 simp only [zV, hH, hat]
 exact ⟨Nat.zero_le _, ⟨A, rfl⟩, trivial⟩
theorem Rp (w : World) (size : Nat) (A : Option Addr) : (Builtin.firstCells size 0 (.slice A 0 0)).run P w = .ok ([] : List Value).toArray w := by
 cases A with
 | none => exact run_firstCells_none w size 0 0 0
 | some a => exact run_firstCells_some w size 0 a 0 0 [] (by simp) (fun j v hj => by simp at hj)
theorem bX {y : Cx} {t : Ty} {ys : List t.den} {news : List Value} {rest : Array Value} (hl : news.length = ys.length * t.size)
  (hr : ∀ i d, ys[i]? = some d → ∃ vs, RepT y.ok y.w t d vs ∧ vs.length = t.size ∧ ∀ j u, vs[j]? = some u → news[i * t.size + j]? = some u) :
  ys.length * t.size ≤ (news.toArray ++ rest).size ∧ ∀ i d, ys[i]? = some d → ∃ vs, RepT y.ok y.w t d vs ∧ ∀ j u, vs[j]? = some u → (news.toArray ++ rest)[i * t.size + j]? = some u := by
 refine ⟨by simp [hl], fun i d hi => ?_⟩
 obtain ⟨vs, h1, h2, h3⟩ := hr i d hi
 refine ⟨vs, h1, fun j u hj => ?_⟩
 have := h3 j u hj
 rw [ua _ _ _ (NB.1 this).1]
 exact this
def Uv : C → List Nat
 | .own id _ => [id]
 | _ => []
theorem qB (w : World) (t tx ty e : TypeId) (i : TypeInfo) (ht : P.underlying t = some (.slice e)) (hi : P.info? e = some i)
  (g sLen sCap : Nat) (cur : Array Value) (hg : w.heap[g]? = some (.cells cur e (0, 0))) (v : Value) (m : Nat) (news : List Value) (hs : Go.Src P i.size tx v m news w)
  (hroom : sLen + m ≤ sCap) (hfit : sLen * i.size + news.length ≤ cur.size) :
  (Builtin.append_ #[t, tx] ty #[.slice (some ⟨g, 0, none⟩) sLen sCap, v]).run P w =
   .ok (.slice (some ⟨g, 0, none⟩) (sLen + m) sCap) (w.setRow g (cur.toList.take (sLen * i.size) ++ news ++ cur.toList.drop (sLen * i.size + news.length)).toArray) := by
 have hst := run_storeCells_at P g (sLen * i.size) e news 0 cur w hg (by simpa using hfit) hs.one
 simp only [Nat.add_zero] at hst
 rcases hs.kind with ⟨e', hk⟩ | hk <;> simp [Builtin.append_, run_underlying ht, run_underlying hk, sizeOf, typeInfo, hi, hs.len, hroom, hs.cells, Addr.add_lit, hst]
theorem xV (w : World) (t tx ty e : TypeId) (i : TypeInfo) (ht : P.underlying t = some (.slice e)) (hi : P.info? e = some i) (base : Option Addr) (sLen sCap : Nat) (hle : sLen ≤ sCap) (v : Value) (hs : Go.Src P i.size tx v 0 [] w) :
  (Builtin.append_ #[t, tx] ty #[.slice base sLen sCap, v]).run P w = .ok (.slice base sLen sCap) w := by
 rcases hs.kind with ⟨e', hk⟩ | hk <;> cases base <;> simp [Builtin.append_, run_underlying ht, run_underlying hk, sizeOf, typeInfo, hi, hs.len, hle, hs.cells, storeCells]
theorem e9 (hT : TOk P T) {x : Cx} (hI : Inv x) {st sx e : TypeId} {i : TypeInfo} {t : Ty} (hst : P.underlying st = some (.slice e)) (hsz : i.size = t.size) {c : C} {ys : List t.den} (h : PS T st sx x.H t c = some ys) {cv : Value} (hr : RepC x c cv) :
  ∃ news, Go.Src P i.size sx cv ys.length news x.w ∧ ∀ j d, ys[j]? = some d → ∃ vs, RepT x.ok x.w t d vs ∧ vs.length = t.size ∧ ∀ q u, vs[q]? = some u → news[j * t.size + q]? = some u := by
 unfold PS at h
 split at h
 ·rename_i he
  subst he
  obtain ⟨A, cc, rfl, hsrc⟩ := (iL hI h hr).out
  by_cases hne : ys = []
  ·subst hne
   refine ⟨[], ?_, fun j d hj => by simp at hj⟩
   cases A with
   | none => exact Go.Src.ofNil _ hst cc
   | some a => exact Go.Src.ofSlice _ hst a 0 cc [] (by simp) (fun j u hj => by simp at hj) (fun u hu => by cases hu)
  ·obtain ⟨b, off, news, rfl, q1, q2, q3, q4⟩ := hsrc hne
   exact ⟨news, Go.Src.ofSlice _ hst _ _ cc news (by rw [q1, hsz]) (fun j v hj => by rw [sC]; exact q3 j v hj) q2, q4⟩
 ·split at h
  ·rename_i hts
   have hu := (hT _ _ hts).desc
   simp only at hu
   split at h
   ·rename_i s
    cases h
    have hv : cv = .string s := by
     have h9 : [cv] = [Value.string s] := hr.2
     cases h9; rfl
    subst hv
    have h1 : i.size = 1 := hsz
    refine ⟨byteCells s, ?_, fun j d hj => ?_⟩
    ·have : (tw s).length = s.size := by unfold tw; rw [List.length_map, Array.length_toList]; rfl
     rw [h1, this]
     exact Go.Src.ofString _ hu s
    ·unfold tw at hj
     rw [List.getElem?_map] at hj
     cases hb : s.data.toList[j]? with
     | none => rw [hb] at hj; cases hj
     | some b =>
      rw [hb] at hj
      cases hj
      refine ⟨[.int .u8 b.toNat], rfl, rfl, fun q u hq => ?_⟩
      cases q with
      | zero =>
       cases hq
       show (byteCells s)[j * 1 + 0]? = _
       unfold byteCells
       rw [List.getElem?_map, Nat.mul_one, Nat.add_zero, hb]
       rfl
      | succ q => cases hq
   ·cases h
  ·cases h
theorem Pu {size : Nat} {tx : TypeId} {v : Value} {news : List Value} {w : World} {t : Ty} (hs : Go.Src P size tx v ([] : List t.den).length news w) (h : news.length = ([] : List t.den).length * t.size) : Go.Src P size tx v 0 [] w := by
 have : news = [] := List.eq_nil_of_length_eq_zero (by rw [h]; simp)
 subst this
 exact hs
theorem jO (hT : TOk P T) {x : Cx} (hI : Inv x) {h0 : Nat} (hle : h0 ≤ x.H.length) {st sx : TypeId} {s c : C} {sv cv : Value} {v : AV} {H' : List Ob}
  (h : tJ T h0 x.H st sx s c (fun v h => some (v, h)) = some (v, H')) (hs : RepC x s sv) (hc : RepC x c cv) (ty : TypeId) :
  ∃ y u, (Builtin.append_ #[st, sx] ty #[sv, cv]).run P x.w = .ok u y.w ∧ y.H = H' ∧ Step h0 (Uv s) x y ∧ RepV y v u := by
 unfold tJ at h
 split at h
 ·rename_i e a1 a2 a3 a4 hst
  have hu := (hT _ _ hst).desc
  simp only at hu
  split at h
  ·rename_i d size bytes t zz hte
   have hOk := hT _ _ hte
   obtain ⟨i, z, hi, hsz, hby, hz, hzc, hzp, hzl, _⟩ := hOk.info
   obtain ⟨hts, _⟩ := hOk.ty t rfl
   simp only at hsz hby hts hzl
   have hzs : z.cells.size = size := by rw [hzc]; simpa using hzl
   split at h
   ·cases h
   ·rename_i hcond
    have hpos : 0 < size := by omega
    have hbpos : 0 < bytes := by omega
    split at h
    ·rename_i ys hys
     obtain ⟨news, hS, q4⟩ := e9 (i := i) hT hI hu (by rw [hsz, hts]) hys hc
     have q1 : news.length = ys.length * t.size := by rw [hS.newsLen, hsz, hts]
     have q2 := hS.one
     have newRow : ∀ (xs : List t.den) (news : List Value) (cap : Nat) (y : Cx) (b : Nat), news.length = xs.length * t.size → xs.length ≤ cap →
       y.w.heap[b]? = some (.cells (news.toArray ++ Builtin.zeroCells z.cells (cap - xs.length)) e) → y.at_ x.H.length = some b → True := fun _ _ _ _ _ _ _ _ _ => trivial
     clear newRow
     have capsize : ∀ (m cap : Nat), m ≤ cap → m * t.size + (cap - m) * z.cells.size = cap * t.size := fun m cap hm => by
      rw [hzs, hts, ← Nat.add_mul]; congr 1; omega
     split at h
     ·
      have hsv : sv = .slice none 0 0 := hs.2
      subst hsv
      cases hb : decide (ys.length * bytes ≤ zo) with
      | false => simp [hb] at h
      | true =>
       simp only [hb, Nv, NA, NH] at h
       obtain ⟨rfl, rfl⟩ := h
       have hbound : ys.length * bytes ≤ 140737488355328 := NK hb
       have hmax : ys.length ≤ 140737488355328 := Nat.le_trans (Nat.le_mul_of_pos_right _ hbpos) hbound
       by_cases hne : ys = []
       ·subst hne
        refine ⟨x.push x.w none (.arr e t []), .slice none 0 0, xV _ st sx ty _ i hu hi none 0 0 (NF _) _ (Pu hS q1), rfl, xI hI (wu x) ?_ hle, zF ⟨rfl, ?_⟩⟩
        ·simp only [ObRep, zv]
        ·exact oZ zW zv
       ·have hlen : 0 < ys.length := List.length_pos_iff.2 hne
        have hr := run_append_grow_src (P := P) x.w st sx ty e i z hu hi hz none 0 0 [] (run_firstCells_none _ _ 0 0 0) cv ys.length news hS (by omega) (by omega) (by rw [hby]; exact growslice_fits (by omega) (by rw [Nat.zero_add]; omega))
        simp only [Nat.zero_add, List.nil_append] at hr
        have hp := xX x (news.toArray ++ Builtin.zeroCells z.cells (grownCap x.w ys.length 0 e - ys.length)) e
        have hcap := grownCap_ge x.w ys.length 0 e
        have hcapm := grownCap_le_maxLen x.w ys.length 0 e (by simp only [maxLen]; omega)
        refine ⟨x.push (x.w.drew.alloc (.cells (news.toArray ++ Builtin.zeroCells z.cells (grownCap x.w ys.length 0 e - ys.length)) e)) (some x.w.heap.size) (.arr e t ys), _, hr, rfl, xI hI hp ?_ hle, zF ⟨rfl, ?_⟩⟩
        ·simp only [ObRep, zv]
         obtain ⟨r1, r2⟩ := bX (y := x.push (x.w.drew.alloc (.cells (news.toArray ++ Builtin.zeroCells z.cells (grownCap x.w ys.length 0 e - ys.length)) e)) (some x.w.heap.size) (.arr e t ys))
          (rest := Builtin.zeroCells z.cells (grownCap x.w ys.length 0 e - ys.length)) q1 (fun i d hi => by
           obtain ⟨vs, w1, w2, w3⟩ := q4 i d hi
           exact ⟨vs, RepT.kin (xE hI hp) w1, w2, w3⟩)
         exact ⟨_, heap_alloc_new x.w.drew _, r1, r2⟩
        ·refine rh zW zv (NF _) hcap hcapm (fun cur' e' fr' hcur => ?_)
         have hcur' : (x.w.drew.alloc (.cells (news.toArray ++ Builtin.zeroCells z.cells (grownCap x.w ys.length 0 e - ys.length)) e)).heap[x.w.drew.heap.size]? = some (.cells cur' e' fr') := hcur
         rw [heap_alloc_new] at hcur'
         injection hcur' with hcur'
         injection hcur' with h1 h2 h3
         subst h1
         simp only [Array.size_append, List.size_toArray, size_zeroCells, q1]
         exact Nat.le_of_eq (capsize _ _ hcap).symm
     ·
      rename_i id n
      split at h
      ·rename_i e' t' xs' hx
       split at h
       ·rename_i he
        obtain ⟨he, hid⟩ := he
        subst he
        split at h
        ·rename_i xs hcast
         unfold oN at hcast
         split at hcast
         ·rename_i htt
          subst htt
          cases hcast
          cases hb : decide ((n + ys.length) * bytes ≤ zo) with
          | false => simp [hb] at h
          | true =>
           simp only [hb, Nv, NA, NH] at h
           obtain ⟨rfl, rfl⟩ := h
           have hbound : (n + ys.length) * bytes ≤ 140737488355328 := NK hb
           have hmax : n + ys.length ≤ 140737488355328 := Nat.le_trans (Nat.le_mul_of_pos_right _ hbpos) hbound
           have hs2 := hs.2
           simp only [zV, hx] at hs2
           obtain ⟨hn, hs2⟩ := hs2
           have htake : (xs'.take n).length = n := by simp [Nat.min_eq_left hn]
           have hlen' : (xs'.take n ++ ys).length = n + ys.length := by rw [NV, htake]
           have ho := hI.obs _ _ hx
           by_cases hne : ys = []
           ·
            subst hne
            simp only [List.length_nil, Nat.add_zero, List.append_nil]
            have hrok : ReplOk x x.w id (x.at_ id) := ⟨rfl, rfl, rfl, NF _, fun _ _ _ => rfl, ⟨_, _, _, hx⟩, fun k hk => ⟨.inl hk, hI.lt hx (by simp) hk⟩⟩
            have hob : ObRep (x.repl x.w id (x.at_ id) (.arr e' t' (xs'.take n))) id (.arr e' t' (xs'.take n)) := by
             simp only [ObRep, z6] at ho ⊢
             cases hat : x.at_ id with
             | none => simp only [hat] at ho; simp [ho]
             | some b =>
              simp only [hat] at ho ⊢
              obtain ⟨cur, w1, w2, w3⟩ := ho
              refine ⟨cur, w1, Nat.le_trans (NP _ (by rw [htake]; exact hn)) w2, fun j d hj => ?_⟩
              rw [List.getElem?_take] at hj
              split at hj
              ·obtain ⟨vs, r1, r2⟩ := w3 j d hj
               exact ⟨vs, RepT.kin (x := x) (y := x.repl x.w id (some b) (.arr e' t' (xs'.take n))) ⟨fun _ h => h, fun _ _ => rfl⟩ r1, r2⟩
              ·cases hj
            cases hat : x.at_ id with
            | none =>
             simp only [hat] at hs2
             obtain ⟨⟨A, rfl⟩, rfl⟩ := hs2
             refine ⟨x.repl x.w id (x.at_ id) (.arr e' t' (xs'.take 0)), _, xV _ st sx ty _ i hu hi A 0 0 (NF _) _ (Pu hS q1), rfl, t6 hI hrok (by simp) hob hid, zF ⟨rfl, ?_⟩⟩
             exact oZ (xO hrok) (by rw [z6, hat])
            | some b =>
             simp only [hat] at hs2
             obtain ⟨c', rfl, w1, w2, w3⟩ := hs2
             refine ⟨x.repl x.w id (x.at_ id) (.arr e' t' (xs'.take n)), _, xV _ st sx ty _ i hu hi _ n c' w1 _ (Pu hS q1), rfl, t6 hI hrok (by simp) hob hid, zF ⟨rfl, ?_⟩⟩
             exact rh (xO hrok) (by rw [z6, hat]) (Nat.le_of_eq htake.symm) w1 w2 w3
           ·have hlen : 0 < ys.length := List.length_pos_iff.2 hne
            have growS : ∀ (old : Nat), old < n + ys.length → ∀ (olds : List Value), olds.length = n * t'.size →
              (∀ i d, (xs'.take n)[i]? = some d → ∃ vs, RepT x.ok x.w t' d vs ∧ vs.length = t'.size ∧ ∀ j u, vs[j]? = some u → olds[i * t'.size + j]? = some u) →
              ∀ (W : World), W = x.w.drew.alloc (.cells (olds.toArray ++ news.toArray ++ Builtin.zeroCells z.cells (grownCap x.w (n + ys.length) old e' - (n + ys.length))) e') →
              Step h0 [id] x (x.repl W id (some x.w.heap.size) (.arr e' t' (xs'.take n ++ ys))) ∧
               RepV (x.repl W id (some x.w.heap.size) (.arr e' t' (xs'.take n ++ ys))) (.val false [.own id (n + ys.length)]) (.slice (some ⟨x.w.heap.size, 0, none⟩) (n + ys.length) (grownCap x.w (n + ys.length) old e')) := by
             intro old hold olds ho1 ho2 W hW
             have hp := xX x (olds.toArray ++ news.toArray ++ Builtin.zeroCells z.cells (grownCap x.w (n + ys.length) old e' - (n + ys.length))) e'
             have hheap : W.heap[x.w.heap.size]? = some (.cells (olds.toArray ++ news.toArray ++ Builtin.zeroCells z.cells (grownCap x.w (n + ys.length) old e' - (n + ys.length))) e') := by
              rw [hW]; exact heap_alloc_new x.w.drew _
             have hcap := grownCap_ge x.w (n + ys.length) old e'
             have hcapm := grownCap_le_maxLen x.w (n + ys.length) old e' (by simp only [maxLen]; omega)
             have hrok : ReplOk x W id (some x.w.heap.size) := by
              subst hW
              exact ⟨rfl, rfl, rfl, hp.size, fun k hk _ => hp.old k hk, ⟨_, _, _, hx⟩, fun k hk => ⟨.inr (hp.new k hk).1, (hp.new k hk).2⟩⟩
             have hk := sD (o := .arr e' t' (xs'.take n ++ ys)) hI hrok
             have hall : (olds ++ news).length = (xs'.take n ++ ys).length * t'.size := by rw [NV, ho1, q1, hlen', Nat.add_mul]
             refine ⟨t6 hI hrok (by simp) ?_ hid, zF ⟨rfl, ?_⟩⟩
             ·simp only [ObRep, z6]
              obtain ⟨r1, r2⟩ := bX (y := x.repl W id (some x.w.heap.size) (.arr e' t' (xs'.take n ++ ys))) (t := t') (ys := xs'.take n ++ ys) (news := olds ++ news)
               (rest := Builtin.zeroCells z.cells (grownCap x.w (n + ys.length) old e' - (n + ys.length))) hall (fun j d hj => by
                rw [List.getElem?_append] at hj
                split at hj
                ·obtain ⟨vs, w1, w2, w3⟩ := ho2 j d hj
                 refine ⟨vs, RepT.kin hk w1, w2, fun q u hq => ?_⟩
                 have := w3 q u hq
                 rw [List.getElem?_append_left (NB.1 this).1]
                 exact this
                ·rename_i hjn
                 obtain ⟨vs, w1, w2, w3⟩ := q4 _ d hj
                 refine ⟨vs, RepT.kin hk w1, w2, fun q u hq => ?_⟩
                 have := w3 q u hq
                 rw [htake] at hjn this
                 have hge : olds.length ≤ j * t'.size + q := by
                  rw [ho1]; have := NP t'.size (Nat.le_of_not_lt hjn); omega
                 rw [List.getElem?_append_right hge, ho1]
                 rw [← this]; congr 1
                 rw [Nat.sub_mul]
                 have := NP t'.size (Nat.le_of_not_lt hjn); omega)
              rw [show (olds ++ news).toArray = olds.toArray ++ news.toArray by simp] at r1 r2
              exact ⟨_, hheap, r1, r2⟩
             ·refine rh (xO hrok) z6 (Nat.le_of_eq hlen'.symm) hcap hcapm (fun cur' e2 fr' hcur => ?_)
              have hcur' : W.heap[x.w.heap.size]? = some (.cells cur' e2 fr') := hcur
              rw [hheap] at hcur'
              injection hcur' with hcur'
              injection hcur' with h1 h2 h3
              subst h1
              simp only [Array.size_append, List.size_toArray, size_zeroCells, q1, ho1]
              rw [← Nat.add_mul]
              exact Nat.le_of_eq (capsize _ _ hcap).symm
            cases hat : x.at_ id with
            | none =>
             simp only [hat] at hs2
             obtain ⟨⟨A, rfl⟩, rfl⟩ := hs2
             have hr := run_append_grow_src (P := P) x.w st sx ty e' i z hu hi hz A 0 0 [] (Rp _ _ A) cv ys.length news hS (by omega) (by omega) (by rw [hby]; exact growslice_fits (by omega) hbound)
             simp only [Nat.zero_add, List.nil_append] at hr
             obtain ⟨g1, g2⟩ := growS 0 (by omega) [] (by simp) (fun i d hi => by simp at hi) _ rfl
             simp only [Nat.zero_add, List.append_nil, Array.empty_append] at g1 g2 ⊢
             exact ⟨_, _, hr, rfl, g1, g2⟩
            | some b =>
             simp only [hat] at hs2 ho
             obtain ⟨c', rfl, w1, w2, w3⟩ := hs2
             simp only [ObRep, hat] at ho
             obtain ⟨cur, o1, o2, o3⟩ := ho
             have hfit := w3 _ _ _ o1
             by_cases hroom : n + ys.length ≤ c'
             ·have hfit2 : n * i.size + news.length ≤ cur.size := by
               rw [hsz, ← hts, q1, ← Nat.add_mul]
               exact Nat.le_trans (NP _ hroom) hfit
              have hr := qB (P := P) x.w st sx ty e' i hu hi b n c' cur o1 cv ys.length news hS hroom hfit2
              rw [hsz, ← hts] at hr hfit2
              have hheap := setRow_heap x.w b cur (cur.toList.take (n * t'.size) ++ news ++ cur.toList.drop (n * t'.size + news.length)).toArray e' (0, 0) o1
              have hlt := hI.lt hx (by simp) hat
              have hrok : ReplOk x (x.w.setRow b (cur.toList.take (n * t'.size) ++ news ++ cur.toList.drop (n * t'.size + news.length)).toArray) id (some b) :=
               ⟨rfl, rfl, rfl, by simp, fun k hk hne => setRow_other x.w b k _ (fun e => hne (by rw [hat, e])), ⟨_, _, _, hx⟩, fun k hk => by cases hk; exact ⟨.inl hat, by simpa using hlt⟩⟩
              have hk := sD (o := .arr e' t' (xs'.take n ++ ys)) hI hrok
              have hns : (cur.toList.take (n * t'.size) ++ news ++ cur.toList.drop (n * t'.size + news.length)).toArray.size = cur.size := by simp; omega
              have hget : ∀ q, (cur.toList.take (n * t'.size) ++ news ++ cur.toList.drop (n * t'.size + news.length)).toArray[q]? = if q < n * t'.size then cur[q]? else if q < n * t'.size + news.length then news[q - n * t'.size]? else cur[q]? := by
               intro q
               simp only [List.getElem?_toArray, List.getElem?_append, NV, List.length_take, Array.length_toList]
               have e1 : min (n * t'.size) cur.size = n * t'.size := Nat.min_eq_left (by omega)
               rw [e1]
               by_cases hq1 : q < n * t'.size
               ·rw [if_pos (by omega), if_pos hq1, if_pos hq1, List.getElem?_take, if_pos hq1]; simp
               ·by_cases hq2 : q < n * t'.size + news.length
                ·rw [if_pos hq2, if_neg hq1, if_neg hq1, if_pos hq2]
                ·rw [if_neg hq2, if_neg hq1, if_neg hq2, List.getElem?_drop]
                 simp only [Array.getElem?_toList]
                 congr 1
                 omega
              refine ⟨x.repl _ id (some b) (.arr e' t' (xs'.take n ++ ys)), _, hr, rfl, t6 hI hrok (by simp) ?_ hid, zF ⟨rfl, ?_⟩⟩
              ·simp only [ObRep, z6]
               refine ⟨_, hheap, by rw [hns, hlen', Nat.add_mul, ← q1]; exact hfit2, fun j d hj => ?_⟩
               rw [List.getElem?_append] at hj
               split at hj
               ·rename_i hjn
                rw [htake] at hjn
                rw [List.getElem?_take, if_pos hjn] at hj
                obtain ⟨vs, r1, r2⟩ := o3 j d hj
                refine ⟨vs, RepT.kin hk r1, fun q u hq => ?_⟩
                have hql : q < t'.size := by rw [← (RepT.len _ _ _ r1).1]; exact (NB.1 hq).1
                have hlt2 : j * t'.size + q < n * t'.size := by
                 have := NP t'.size (show j + 1 ≤ n by omega)
                 rw [Nat.add_mul, Nat.one_mul] at this; omega
                rw [hget, if_pos hlt2]
                exact r2 q u hq
               ·rename_i hjn
                rw [htake] at hjn hj
                obtain ⟨vs, r1, r2, r3⟩ := q4 _ d hj
                refine ⟨vs, RepT.kin hk r1, fun q u hq => ?_⟩
                have := r3 q u hq
                have hm := NP t'.size (Nat.le_of_not_lt hjn)
                have hlt3 := (NB.1 this).1
                rw [Nat.sub_mul] at this hlt3
                rw [hget, if_neg (by omega), if_pos (by omega)]
                rw [← this]; congr 1; omega
              ·refine rh (xO hrok) z6 (Nat.le_of_eq hlen'.symm) hroom w2 (fun cur' e2 fr' hcur => ?_)
               have hcur' : (x.w.setRow b (cur.toList.take (n * t'.size) ++ news ++ cur.toList.drop (n * t'.size + news.length)).toArray).heap[b]? = some (.cells cur' e2 fr') := hcur
               rw [hheap] at hcur'
               injection hcur' with hcur'
               injection hcur' with h1 h2 h3
               subst h1
               rw [hns]; exact hfit
             ·obtain ⟨A3, c3, h3v, hsrc3⟩ := (f7 hI hx hs).out
              by_cases hn0 : xs'.take n = []
              ·have hn0' : n = 0 := by rw [← htake, hn0]; rfl
               subst hn0'
               have hr := run_append_grow_src (P := P) x.w st sx ty e' i z hu hi hz (some ⟨b, 0, none⟩) 0 c' [] (run_firstCells_some _ _ 0 _ 0 c' [] (by simp) (fun j v hj => by simp at hj)) cv ys.length news hS (by omega) (by omega) (by rw [hby]; exact growslice_fits (by omega) hbound)
               rw [show (([] : List Value) ++ news).toArray = #[] ++ news.toArray by simp] at hr
               obtain ⟨g1, g2⟩ := growS c' (by omega) [] (by simp) (fun i d hi => by simp at hi) _ rfl
               exact ⟨_, _, hr, rfl, g1, g2⟩
              ·obtain ⟨b4, off4, olds, h4, p1, p2, p3, p4⟩ := hsrc3 hn0
               simp only [Value.slice.injEq] at h3v
               obtain ⟨h3a, h3b, h3c⟩ := h3v
               rw [h4] at h3a
               simp only [NA, Addr.mk.injEq, and_true] at h3a
               obtain ⟨rfl, rfl⟩ := h3a
               rw [htake] at p1
               have hr := run_append_grow_src (P := P) x.w st sx ty e' i z hu hi hz (some ⟨b, 0, none⟩) n c' olds (run_firstCells_some _ _ n _ n c' olds (by rw [p1, hts, hsz]) (fun j v hj => by rw [sC]; simpa using p3 j v hj)) cv ys.length news hS (by omega) (by omega) (by rw [hby]; exact growslice_fits (by omega) hbound)
               rw [show (olds ++ news).toArray = olds.toArray ++ news.toArray by simp] at hr
               obtain ⟨g1, g2⟩ := growS c' (by omega) olds p1 p4 _ rfl
               exact ⟨_, _, hr, rfl, g1, g2⟩
         ·cases hcast
        ·cases h
       ·cases h
      ·cases h
     ·cases h
    ·cases h
  ·cases h
 ·cases h
theorem Un {z : Array Value} {n j q : Nat} {v : Value} (hj : j < n) (hq : z[q]? = some v) (rest : Array Value) : (Builtin.zeroCells z n ++ rest)[j * z.size + q]? = some v := by
 have hqs : q < z.size := (Array.getElem?_eq_some_iff.1 hq).1
 have hidx : j * z.size + q < n * z.size := by
  have : (j + 1) * z.size ≤ n * z.size := NP _ hj
  rw [Nat.add_mul] at this; omega
 have hmod : (j * z.size + q) % z.size = q := by
  rw [Nat.add_comm, Nat.add_mul_mod_self_right, Nat.mod_eq_of_lt hqs]
 rw [Array.getElem?_append_left (by rw [size_zeroCells]; exact hidx)]
 unfold Builtin.zeroCells
 rw [Array.getElem?_map, Array.getElem?_range, if_pos hidx]
 simp only [Option.map_some, hmod]
 rw [getElem!_def, hq]
theorem Ym (hT : TOk P T) {x : Cx} (hI : Inv x) {h0 : Nat} (hle : h0 ≤ x.H.length) {st sx : TypeId} {s c : C} {sv cv : Value} {v : AV} {H' : List Ob}
  (h : Td T h0 x.H st sx s c (fun v h => some (v, h)) = some (v, H')) (hs : RepC x s sv) (hc : RepC x c cv) (ty : TypeId) :
  ∃ y u, (Builtin.append_ #[st, sx] ty #[sv, cv]).run P x.w = .ok u y.w ∧ y.H = H' ∧ Step h0 (Uv s) x y ∧ RepV y v u := by
 unfold Td at h
 split at h
 ·rename_i n hz
  unfold TW at hz
  split at hz
  ·rename_i kn n'
   split at hz
   ·rename_i kk b1 b2 b3 b4 hsx
    cases hz
    unfold fe at h
    split at h
    ·rename_i e a1 a2 a3 a4 hst
     split at h
     ·rename_i d size bytes t zz hte
      split at h
      ·rename_i dd hdd
       cases hb : (decide (0 < n) && decide (0 < size)) && (decide (n.toNat * bytes ≤ zo) && decide (0 < bytes)) with
       | false => rw [hb] at h; cases h
       | true =>
        rw [hb, Nv] at h
        simp only [NA, NH] at h
        obtain ⟨rfl, rfl⟩ := h
        simp only [Nt, NE] at hb
        obtain ⟨⟨hn0, hsz0⟩, hb1, hb2⟩ := hb
        simp only [zo] at hb1
        have hu := (hT _ _ hst).desc
        have hux := (hT _ _ hsx).desc
        simp only at hu hux
        have hOk := hT _ _ hte
        obtain ⟨i, z, hi, hsz, hby, hz, hzc, hzp, hzl, hagg⟩ := hOk.info
        obtain ⟨hts, _⟩ := hOk.ty t rfl
        simp only at hsz hts hby hzl
        have hsv : sv = .slice none 0 0 := hs.2
        subst hsv
        have hcv : cv = .int kn n := by
         have h9 : [cv] = [Value.int kn n] := hc.2
         cases h9; rfl
        subst hcv
        have hnn : n = (n.toNat : Int) := by omega
        have hmax : n.toNat ≤ n.toNat * bytes := Nat.le_mul_of_pos_right _ hb2
        have hr := Lib.run_append_nil_zeros (P := P) x.w st sx ty e i z kn kk hu hux hi hz n.toNat (by omega) (by omega) (by omega) (by rw [hby]; omega)
        rw [← hnn] at hr
        have hzs : RepCs x (zz.map Z.cell) z.cells.toList := by rw [hzc]; exact xz _ hzp
        have hrep := zQ hdd hzs
        have hzl' : z.cells.size = t.size := by
         have := (RepT.len t _ _ hrep).1
         simpa using this
        have hcap := grownCap_ge x.w n.toNat 0 e
        have hcapm := grownCap_le_maxLen x.w n.toNat 0 e (by simp only [maxLen]; omega)
        have hp := xX x (Builtin.zeroCells z.cells n.toNat ++ Builtin.zeroCells z.cells (grownCap x.w n.toNat 0 e - n.toNat)) e
        have hsize : (Builtin.zeroCells z.cells n.toNat ++ Builtin.zeroCells z.cells (grownCap x.w n.toNat 0 e - n.toNat)).size = grownCap x.w n.toNat 0 e * t.size := by
         rw [Array.size_append, size_zeroCells, size_zeroCells, hzl', ← Nat.add_mul]; congr 1; omega
        refine ⟨x.push (x.w.drew.alloc (.cells (Builtin.zeroCells z.cells n.toNat ++ Builtin.zeroCells z.cells (grownCap x.w n.toNat 0 e - n.toNat)) e)) (some x.w.heap.size) (.arr e t (List.replicate n.toNat dd)), _, hr, rfl, xI hI hp ?_ hle, zF ⟨rfl, ?_⟩⟩
        ·simp only [ObRep, zv]
         refine ⟨_, heap_alloc_new x.w.drew _, by rw [hsize, List.length_replicate]; exact NP _ hcap, fun j y hj => ?_⟩
         have hjn : j < n.toNat := by
          have := (NB.1 hj).1
          simpa using this
         have hy : y = dd := by
          rw [List.getElem?_replicate] at hj
          simp [hjn] at hj
          exact hj.symm
         subst hy
         refine ⟨z.cells.toList, RepT.kin (xE hI hp) hrep, fun q v hq => ?_⟩
         have hv : z.cells[q]? = some v := by simpa using hq
         rw [← hzl']
         exact Un hjn hv _
        ·refine rh zW zv (by simp) hcap hcapm (fun cur' e' fr' hcur => ?_)
         have hcur' : (x.w.drew.alloc (.cells (Builtin.zeroCells z.cells n.toNat ++ Builtin.zeroCells z.cells (grownCap x.w n.toNat 0 e - n.toNat)) e)).heap[x.w.drew.heap.size]? = some (.cells cur' e' fr') := hcur
         rw [heap_alloc_new] at hcur'
         injection hcur' with hcur'
         injection hcur' with h1 h2 h3
         subst h1
         exact Nat.le_of_eq hsize.symm
      ·cases h
     ·cases h
    ·cases h
   ·cases hz
  ·cases hz
 ·exact jO hT hI hle h hs hc ty
end
end Go.Proofs.YtefddghdaimklaaGreatDoor.AI
