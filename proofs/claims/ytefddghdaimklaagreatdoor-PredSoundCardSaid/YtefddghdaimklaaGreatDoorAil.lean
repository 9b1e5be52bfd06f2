/- A part of the proof. -/
import Derived.Test.YtefddghdaimklaaGreatDoorAik
import Derived.Test.YtefddghdaimklaaGreatDoorAkc
import Derived.Test.YtefddghdaimklaaGreatDoorAkf
set_option linter.unusedVariables false
set_option linter.unusedSimpArgs false
namespace Go.Proofs.YtefddghdaimklaaGreatDoor.AI
open Go
theorem ny {α : Type} {c : Bool} {A : Option α} {w : α} (h : (bif c then A else none) = some w) : c = true ∧ A = some w := by
 cases c
 ·cases h
 ·exact ⟨rfl, h⟩
section
variable {P : Program} {T : TypeId → Option TI}
theorem Does.congr {s s' : Sem Next} {w : World} {R : Value → World → Prop} (h : s.run P w = s'.run P w) (hd : Does P s' w R) : Does P s w R := by
 unfold Does at *; rw [h]; exact hd
theorem sW {x : Cx} {ev : Operand → AV} {ρ : Operand → Value} (hev : ∀ o, RepV x (ev o) (ρ o)) : ∀ (l : List Operand), RepVs x (l.map ev) (l.map ρ)
 | [] => rfl
 | o :: r => ⟨_, _, rfl, hev o, sW hev r⟩
theorem uP {x : Cx} : ∀ (avs bs : List AV) (us vs : List Value), RepVs x avs us → RepVs x bs vs → RepVs x (avs ++ bs) (us ++ vs)
 | [], bs, us, vs, h, k => by rw [show us = [] from h]; exact k
 | a :: l, bs, us, vs, h, k => by
  obtain ⟨v, r, rfl, h2, h3⟩ := h
  exact ⟨v, r ++ vs, rfl, h2, uP l bs r vs h3 k⟩
theorem kF {x : Cx} : ∀ (caps : List ((t : Ty) × t.den)) (vs : List Value), RepRo x caps vs → RepVs x (caps.map fun p => .val false [.elr p.1 p.2 0]) vs
 | [], vs, h => h
 | ⟨t, d⟩ :: l, vs, h => by
  obtain ⟨v, r, h1, h2, h3⟩ := h
  refine ⟨v, r, h1, zF ⟨?_, h2⟩, kF l r h3⟩
  obtain ⟨b, o, us, rfl, _⟩ := h2
  rfl
theorem n5 {x : Cx} : ∀ (caps : List (Nat × Nat)) (vs : List Value), RepCaps x caps vs → RepVs x (caps.map fun p => .val false [.ptr p.1 p.2]) vs
 | [], vs, h => h
 | (id, off) :: l, vs, h => by
  obtain ⟨v, r, rfl, h2, h3, h4⟩ := h
  exact ⟨v, r, rfl, zF ⟨h2, h3⟩, n5 l r h4⟩
theorem dD (hT : TOk P T) {env : FuncId → Option Con} {inl : FuncId → List AV → List Ob → (AV → List Ob → Option (AV × List Ob)) → Option (AV × List Ob)} (hE : xL P env) (hN : mA P inl)
    {x : Cx} (hI : Inv x) {h0 : Nat} (hle : h0 ≤ x.H.length) {ev : Operand → AV} {ρ : Operand → Value} (hev : ∀ o, RepV x (ev o) (ρ o)) {o : Oper} {v : AV} {H' : List Ob}
    (h : z0 T h0 env inl o.op ev x.H (fun v h => some (v, h)) = some (v, H')) :
    Does P (execOp ρ o) x.w fun u w' => ∃ y : Cx, y.w = w' ∧ y.H = H' ∧ Step h0 (zL env o.op ev x.H) x y ∧ RepV y v u := by
  unfold z0 at h
  split at h
  ·
    rename_i t ho
    rw [ho]
    split at h
    · rename_i ti hti
      simp only [NA, NH] at h
      obtain ⟨rfl, rfl⟩ := h
      obtain ⟨i, z, hi, hsz, hby, hz, hzc, hzp, hzl, _⟩ := (hT _ _ hti).info
      have hrun : (execOp ρ o).run P x.w = .ok (.value (.pointer (some ⟨x.w.heap.size, 0, none⟩))) (x.w.alloc (.cells z.cells t)) := by
        simp [execOp, ho, Instr.alloc, zeroValue, typeInfo, hi, hz, newVar, newRow]
      have hb := gX hI (vs := z.cells) (cs := ti.zero.map Z.cell) t (by rw [hzc]; exact xz _ hzp)
      have hp := xN x z.cells t
      exact Does.value hrun ⟨_, rfl, rfl, Step.of_id hb.1 (uy hI hp) hle (fun id hid => vI hI hp hid) (xE hI hp) (by simp [Cx.push]), hb.2⟩
    · cases h
  ·
    rename_i t a ho
    rw [ho]
    split at h
    · rename_i g cs he
      simp only [NA, NH] at h
      obtain ⟨rfl, rfl⟩ := h
      have ha := hev a
      rw [he] at ha
      have hrun : (execOp ρ o).run P x.w = .ok (.value (.pointer (some ⟨x.w.heap.size, 0, none⟩))) (x.w.alloc (.cells (ρ a).cells t)) := by
        simp [execOp, ho, Instr.box, newVar, newRow]
      have hb := gX hI (vs := (ρ a).cells) (cs := cs) t (yW ha)
      have hp := xN x (ρ a).cells t
      exact Does.value hrun ⟨_, rfl, rfl, Step.of_id hb.1 (uy hI hp) hle (fun id hid => vI hI hp hid) (xE hI hp) (by simp [Cx.push]), hb.2⟩
    · cases h
  ·
    rename_i t parts ho
    rw [ho]
    split at h
    · rename_i fs eq a1 a2 a3 zs hti
      split at h
      · rename_i cs hcs
        simp only [NA, NH] at h
        obtain ⟨rfl, rfl⟩ := h
        have hOk := hT _ _ hti
        obtain ⟨i, z, hi, hsz, hby, hz, hzc, hzp, hzl, hagg⟩ := hOk.info
        obtain ⟨⟨F, h1, h2, h3⟩, _⟩ := hOk.desc
        obtain ⟨cells', h4, h5⟩ := tU hev parts.toList _ _ z.cells hcs (by rw [hzc]; exact xz _ hzp)
        have hbuilt : P.built t (parts.map fun (i, x) => (i, ρ x)).toList = some cells' := by
          unfold Program.built
          simp only [hi, h1, hz, h2]
          rw [← h4, Array.toList_map]
        have hrun : (execOp ρ o).run P x.w = .ok (.value (.agg cells')) x.w := by
          simp [execOp, ho, run_build (P := P) x.w t _ cells' hbuilt]
        exact Does.value hrun ⟨x, rfl, rfl, Step.refl hI hle, cells', rfl, h5⟩
      · cases h
    · rename_i n e a1 a2 a3 zs hti
      split at h
      · rename_i d size a4 a5 a6 hte
        split at h
        · rename_i cs hcs
          simp only [NA, NH] at h
          obtain ⟨rfl, rfl⟩ := h
          have hOk := hT _ _ hti
          obtain ⟨i, z, hi, hsz, hby, hz, hzc, hzp, hzl, hagg⟩ := hOk.info
          obtain ⟨ie, ze, hie, hsize, _⟩ := (hT _ _ hte).info
          have hu : P.underlying t = some (.array n e) := hOk.desc
          obtain ⟨cells', h4, h5⟩ := tU hev parts.toList _ _ z.cells hcs (by rw [hzc]; exact xz _ hzp)
          have hw := jJ (size := size) (fun i p hp => by
            simp only [List.map_map, List.getElem?_map, Option.map_eq_some_iff] at hp
            obtain ⟨j, hj, rfl⟩ := hp
            have hji : j = i := by
              have := NB.1 hj
              obtain ⟨q1, q2⟩ := this
              simp at q2
              exact q2.symm
            rw [hji]; rfl) _ _ _ h4
          have hbuilt : P.built t (parts.map fun (i, x) => (i, ρ x)).toList = some cells' := by
            unfold Program.built
            simp only [hi, hu, hz, hie]
            have hs : ie.size = size := hsize
            rw [hs, ← hw, Array.toList_map]
          have hrun : (execOp ρ o).run P x.w = .ok (.value (.agg cells')) x.w := by
            simp [execOp, ho, run_build (P := P) x.w t _ cells' hbuilt]
          exact Does.value hrun ⟨x, rfl, rfl, Step.refl hI hle, cells', rfl, h5⟩
        · cases h
      · cases h
    · cases h
  ·
    rename_i t len parts ho
    rw [ho]
    split at h
    · rename_i e a1 a2 a3 a4 hti
      split at h
      · rename_i d size bytes ty zz hte
        split at h
        · rename_i xs hxs
          split at h
          · rename_i hc
            obtain ⟨hc1, hc2, hc3⟩ := hc
            simp only [NA, NH] at h
            obtain ⟨rfl, rfl⟩ := h
            have hu := (hT _ _ hti).desc
            simp only at hu
            have hOk := hT _ _ hte
            obtain ⟨i, z, hi, hsz, hby, hz, hzc, hzp, hzl, hagg⟩ := hOk.info
            obtain ⟨hts, _⟩ := hOk.ty ty rfl
            simp only at hsz hts hby hzl
            obtain ⟨h1, h2⟩ := pj (x := x) hev parts.toList 0 xs hxs
            have hlen : len = parts.toList.length := by rw [← h1, hc1]
            have fin : ∀ (cells : Array Value), (execOp ρ o).run P x.w = .ok (.value (.slice (some ⟨x.w.heap.size, 0, none⟩) len len)) (x.w.alloc (.cells cells e)) → cells.size = len * ty.size → len ≤ maxLen →
                (∀ i d, xs[i]? = some d → ∃ vs, RepT x.ok x.w ty d vs ∧ ∀ j v, vs[j]? = some v → cells[i * ty.size + j]? = some v) →
                Does P (execOp ρ o) x.w fun u w' => ∃ y : Cx, y.w = w' ∧ y.H = x.H ++ [Ob.arr e ty xs] ∧ Step h0 (zL env (.buildSlice t len parts) ev x.H) x y ∧ RepV y (.val false [.own x.H.length len]) u := by
              intro cells hrun hcz hml hrows
              have hp := xN x cells e
              refine Does.value hrun ⟨x.push (x.w.alloc (.cells cells e)) (some x.w.heap.size) (.arr e ty xs), rfl, rfl, xI hI hp ?_ hle, zF ⟨rfl, rh zW zv (by omega) (NF _) hml (fun cur e' fr hcur => ?_)⟩⟩
              · simp only [ObRep, zv]
                refine ⟨cells, heap_alloc_new x.w _, by rw [hc1, hcz]; exact NF _, fun j dd hj => ?_⟩
                obtain ⟨vs, r1, r2⟩ := hrows j dd hj
                exact ⟨vs, RepT.kin (xE hI hp) r1, r2⟩
              · have hcur' : (x.w.alloc (.cells cells e)).heap[x.w.heap.size]? = some (.cells cur e' fr) := hcur
                rw [heap_alloc_new] at hcur'
                injection hcur' with hcur'
                injection hcur' with q1 q2 q3
                subst q1
                exact Nat.le_of_eq hcz.symm
            by_cases hz0 : len * i.size = 0
            ·
              have hl0 : len = 0 := by
                rcases Nat.eq_zero_or_pos size with h7 | h7
                · exact hc3 h7
                · rw [hsz] at hz0
                  rcases Nat.mul_eq_zero.1 hz0 with h8 | h8
                  · exact h8
                  · omega
              subst hl0
              have hpe : parts = #[] := by
                have : parts.size = 0 := by simpa using hlen.symm
                exact Array.eq_empty_of_size_eq_zero this
              have hxe : xs = [] := List.eq_nil_of_length_eq_zero hc1
              have hrun : (execOp ρ o).run P x.w = .ok (.value (.slice (some ⟨x.w.heap.size, 0, none⟩) 0 0)) (x.w.alloc (.cells #[] e)) := by
                simp [execOp, ho, hpe, Instr.buildSlice, run_underlying hu, sizeOf, typeInfo, hi, newRow, Instr.fill]
                rw [show Array.map (fun _ => (default : Value)) (Array.range 0) = #[] from Array.eq_empty_of_size_eq_zero (by simp)]
              exact fin #[] hrun (by simp) (Nat.zero_le _) (fun j dd hj => by rw [hxe] at hj; simp at hj)
            · have hpos : 0 < i.size := Nat.pos_of_ne_zero (fun e => hz0 (by rw [e]; rfl))
              have hzn : ((Array.range (len * i.size)).map (z.cells[· % z.cells.size]!)).size = len * i.size := by simp
              obtain ⟨cells', h4, h5, _, h6⟩ := h2 ((Array.range (len * i.size)).map (z.cells[· % z.cells.size]!)) (by rw [hzn, Nat.zero_add, ← hlen, hts, hsz]; exact NF _)
              have hrun : (execOp ρ o).run P x.w = .ok (.value (.slice (some ⟨x.w.heap.size, 0, none⟩) len len)) (x.w.alloc (.cells cells' e)) := by
                have hf := run_buildSlice (P := P) x.w t e len (parts.map fun (i, x) => (i, ρ x)) cells' i z hu hi hz (by rw [hsz]; omega) hz0 (by rw [hsz, ← hts, Array.toList_map] at *; exact h4)
                simp [execOp, ho] at hf ⊢
                simp [hf]
              have hml : len ≤ maxLen := by
                simp only [maxLen]
                have := Nat.le_mul_of_pos_right len hpos
                rw [hsz] at this; omega
              refine fin cells' hrun (by rw [h5, hzn, hts, hsz]) hml (fun j dd hj => ?_)
              obtain ⟨vs, r1, r2⟩ := h6 j dd hj
              exact ⟨vs, r1, fun q u hq => by have := r2 q u hq; simpa using this⟩
          · cases h
        · cases h
      · cases h
    · cases h
  ·
    rename_i t l c ho
    rw [ho]
    split at h
    · rename_i e a1 a2 a3 a4 kl n kc m hti hl hc
      split at h
      · rename_i d size bytes ty zz hte
        split at h
        · rename_i dd hdd
          obtain ⟨hb, h2⟩ := ny h
          simp only [NA, NH] at h2
          obtain ⟨rfl, rfl⟩ := h2
          simp only [Nt, NE] at hb
          obtain ⟨⟨rfl, hn0⟩, hb1, hb2⟩ := hb
          have hu := (hT _ _ hti).desc
          simp only at hu
          have hOk := hT _ _ hte
          obtain ⟨i, z, hi, hsz, hby, hz, hzc, hzp, hzl, hagg⟩ := hOk.info
          obtain ⟨hts, _⟩ := hOk.ty ty rfl
          simp only at hsz hts hby hzl
          have e1 := yG hl (hev l)
          have e2 := yG hc (hev c)
          have hnn : n = (n.toNat : Int) := by omega
          have hrun := run_make (P := P) x.w t e i z hu hi hz kl kc n n hn0 (Int.le_refl _) (by
            rw [hby]
            have : ((bytes * n.toNat : Nat) : Int) ≤ 281474976710656 := by rw [Nat.mul_comm]; simp only [zo] at hb1; omega
            rw [Int.natCast_mul, ← hnn] at this; exact this) (by
            have : n.toNat ≤ n.toNat * bytes := Nat.le_mul_of_pos_right _ hb2
            simp only [zo] at hb1; omega)
          have hzs : RepCs x (zz.map Z.cell) z.cells.toList := by rw [hzc]; exact xz _ hzp
          have hrep := zQ hdd hzs
          have hzl' : z.cells.size = size := by
            have := (RepT.len ty _ _ hrep).1
            rw [hts] at this
            simpa using this
          have hp := xN x (madeCells z.cells (n.toNat * i.size)) e
          rw [hsz] at hrun hp
          have hszc := size_madeCells z.cells (n.toNat * size)
          refine Does.value (v := .slice (some ⟨x.w.heap.size, 0, none⟩) n.toNat n.toNat) (w' := x.w.alloc (.cells (madeCells z.cells (n.toNat * size)) e)) ?_ ⟨x.push (x.w.alloc (.cells (madeCells z.cells (n.toNat * size)) e)) (some x.w.heap.size) (.arr e ty (List.replicate n.toNat dd)), rfl, rfl, xI hI hp ?_ hle, zF ⟨rfl, rh zW zv (by simp) (NF _) ?_ (fun cur e' fr hcur => ?_)⟩⟩
          · simp only [execOp, ho, e1, e2]
            rw [Sem.run_bind, hrun]; rfl
          · simp only [ObRep, zv]
            refine ⟨_, heap_alloc_new x.w _, by rw [hszc, List.length_replicate, hts]; exact NF _, fun j y hj => ?_⟩
            have hjn : j < n.toNat := by
              have := (NB.1 hj).1
              simpa using this
            have hy : y = dd := by
              rw [List.getElem?_replicate] at hj
              simp [hjn] at hj
              exact hj.symm
            subst hy
            refine ⟨z.cells.toList, RepT.kin (xE hI hp) hrep, fun q v hq => ?_⟩
            have hqs : q < size := by
              have := (NB.1 hq).1
              simp at this; omega
            have hidx : j * size + q < n.toNat * size := by
              have : (j + 1) * size ≤ n.toNat * size := NP _ hjn
              rw [Nat.add_mul] at this; omega
            have hmod : (j * size + q) % z.cells.size = q := by
              rw [hzl', Nat.add_comm, Nat.add_mul_mod_self_right, Nat.mod_eq_of_lt hqs]
            have hv : z.cells[q]? = some v := by simpa using hq
            rw [hts]
            unfold madeCells
            rw [Array.getElem?_map, Array.getElem?_range, if_pos hidx]
            simp only [Option.map_some, hmod]
            rw [getElem!_def, hv]
          · have : n.toNat ≤ n.toNat * bytes := Nat.le_mul_of_pos_right _ hb2
            simp only [maxLen, zo] at *; omega
          · have hcur' : (x.w.alloc (.cells (madeCells z.cells (n.toNat * size)) e)).heap[x.w.heap.size]? = some (.cells cur e' fr) := hcur
            rw [heap_alloc_new] at hcur'
            injection hcur' with hcur'
            injection hcur' with q1 q2 q3
            subst q1
            rw [hszc, hts]; exact NF _
        · cases h
      · cases h
    · cases h
  ·
    rename_i t a c ho
    rw [ho]
    split at h
    · rename_i H2 hs
      simp only [NA, NH] at h
      obtain ⟨rfl, rfl⟩ := h
      obtain ⟨y, h1, h2, h3⟩ := kx hT hI hle hs (hev a) (hev c)
      refine Does.skip (w' := y.w) (by simp [execOp, ho, h1]) ⟨y, rfl, h2, h3, rfl⟩
    · cases h
  ·
    rename_i t r ho
    rw [ho]
    obtain ⟨hroom, h⟩ := ny h
    have hrun : ∀ kk ee, P.underlying t = some (.map kk ee) → (execOp ρ o).run P x.w = .ok (.value (.map (some x.w.heap.size))) (x.w.alloc (.map #[] 0)) := fun kk ee hue => by
      cases r with
      | none => simp [execOp, ho, Instr.makeMap]
      | some o' =>
        have ho' := hev o'
        simp only [aK] at hroom
        cases hi : sF (ev o') with
        | none => rw [hi] at hroom; cases hroom
        | some p =>
          obtain ⟨k, n⟩ := p
          have hin := yG hi ho'
          simp [execOp, ho, Instr.makeMap, hin, run_underlying hue, asInt, asIntOf]
    split at h
    · rename_i k kt a1 a2 a3 a4 hti
      simp only [NA, NH] at h
      obtain ⟨rfl, rfl⟩ := h
      have hrun := (map_some hT hti).elim fun e he => hrun k e he.1
      have hp := sZ x (.map #[] 0)
      have ho' : ObRep (x.push (x.w.alloc (.map #[] 0)) (some x.w.heap.size) (.mp kt [])) x.H.length (.mp kt []) := ⟨x.w.heap.size, zv, #[], 0, by show (x.w.alloc (.map #[] 0)).heap[x.w.heap.size]? = _; exact heap_alloc_new x.w _, rfl, fun e he => by simp at he⟩
      refine Does.value hrun ⟨_, rfl, rfl, xI hI hp ho' hle, zF ⟨rfl, ?_⟩⟩
      simp only [zV, zW]
      exact ⟨_, zv, rfl⟩
    · rename_i z a1 a2 a3 a4 hti
      simp only [NA, NH] at h
      obtain ⟨rfl, rfl⟩ := h
      obtain ⟨k, e, hue, _⟩ := lj hT hti
      have hp := sZ x (.map #[] 0)
      have ho' : ObRep (x.push (x.w.alloc (.map #[] 0)) (some x.w.heap.size) (.tb [])) x.H.length (.tb []) := ⟨x.w.heap.size, zv, #[], 0, by show (x.w.alloc (.map #[] 0)).heap[x.w.heap.size]? = _; exact heap_alloc_new x.w _, rfl, fun e he => by simp at he⟩
      refine Does.value (hrun k e hue) ⟨_, rfl, rfl, xI hI hp ho' hle, zF ⟨rfl, ?_⟩⟩
      simp only [zV, zW]
      exact ⟨_, zv, rfl⟩
    · cases h
  ·
    rename_i t m key el ho
    rw [ho]
    split at h
    · rename_i k kt a1 a2 a3 a4 id cs hti hm hkey hel
      split at h
      · rename_i H2 hs
        simp only [NA, NH] at h
        obtain ⟨rfl, rfl⟩ := h
        have e1 := hev m
        have e2 := hev key
        have e3 := hev el
        rw [hm] at e1; rw [hkey] at e2; rw [hel] at e3
        obtain ⟨y, h1, h2, h3⟩ := dt hT hI hle hti hs e1 e2 e3
        exact Does.skip (w' := y.w) (by simp [execOp, ho, h1]) ⟨y, rfl, h2, h3, rfl⟩
      · cases h
    · rename_i z a1 a2 a3 a4 id s cs hti hm hkey hel
      split at h
      · rename_i H2 hs
        simp only [NA, NH] at h
        obtain ⟨rfl, rfl⟩ := h
        have e1 := hev m
        have e2 := hev key
        have e3 := hev el
        rw [hm] at e1; rw [hkey] at e2; rw [hel] at e3
        obtain ⟨y, h1, h2, h3⟩ := nD hT hI hle hti hs e1 e2 e3
        exact Does.skip (w' := y.w) (by simp [execOp, ho, h1]) ⟨y, rfl, h2, h3, rfl⟩
      · cases h
    · cases h
  ·
    rename_i t m key el ho
    rw [ho]
    split at h
    · rename_i z a1 a2 a3 a4 id s cs hti hm hkey hel
      split at h
      · rename_i H2 hs
        simp only [NA, NH] at h
        obtain ⟨rfl, rfl⟩ := h
        have e1 := hev m
        have e2 := hev key
        have e3 := hev el
        rw [hm] at e1; rw [hkey] at e2; rw [hel] at e3
        obtain ⟨y, h1, h2, h3⟩ := nD hT hI hle hti hs e1 e2 e3
        exact Does.skip (w' := y.w) (by simp [execOp, ho, h1]) ⟨y, rfl, h2, h3, rfl⟩
      · cases h
    · cases h
  ·
    rename_i t m key okk ho
    rw [ho]
    split at h
    · rename_i k kt a1 a2 a3 a4 c cs hti hm hkey
      cases okk with
      | false => cases h
      | true =>
        simp only [Nv] at h
        split at h
        · rename_i z hz
          simp only [NA, NH] at h
          obtain ⟨rfl, rfl⟩ := h
          have e1 := hev m
          have e2 := hev key
          rw [hm] at e1; rw [hkey] at e2
          obtain ⟨u, h1, h2⟩ := iV hT hI hti hz (zG e1) e2
          exact Does.value (v := u) (w' := x.w) (by simp [execOp, ho, h1]) ⟨x, rfl, rfl, Step.refl hI hle, h2⟩
        · cases h
    · rename_i z a1 a2 a3 a4 id s hti hm hkey
      cases okk with
      | true => cases h
      | false =>
        simp only [Nu] at h
        split at h
        · rename_i rows hx
          rw [qZ] at h
          simp only [NA, NH] at h
          obtain ⟨rfl, rfl⟩ := h
          have e1 := hev m
          have e2 := hev key
          rw [hm] at e1; rw [hkey] at e2
          obtain ⟨u, h1, h2⟩ := iW hT hI hti hx e1 e2
          exact Does.value (v := u) (w' := x.w) (by simp [execOp, ho, h1]) ⟨x, rfl, rfl, Step.refl hI hle, h2⟩
        · cases h
    · cases h
  ·
    rename_i s d a ho
    rw [ho]
    rw [uU] at h
    obtain ⟨z, hz, e⟩ := NQ.1 h
    cases e
    obtain ⟨u, h1, h2⟩ := hP hT hz (hev a)
    exact Does.value (by simp [execOp, ho, h1]) ⟨x, rfl, rfl, Step.refl hI hle, h2⟩
  ·
    rename_i b t a c ty ho
    split at h
    · rw [ho]
      rw [sI] at h
      obtain ⟨z, hz, e⟩ := NQ.1 h
      cases e
      obtain ⟨u, y, h1, h2, h3, h4⟩ := aG (P := P) hT hI hle (t := t) hz (hev a) (hev c) a c
      refine Does.value (v := u) (w' := y.w) ?_ ⟨y, rfl, h2, h3, h4⟩
      simp only [execOp, ho]
      rw [Sem.run_bind, h1]; rfl
    · rw [ho]
      rw [sQ] at h
      obtain ⟨z, hz, e⟩ := NQ.1 h
      cases e
      obtain ⟨u, y, h1, h2, h3, h4⟩ := bt (P := P) hI hle (t := t) hz (hev a) (hev c) a c
      refine Does.value (v := u) (w' := y.w) ?_ ⟨y, rfl, h2, h3, h4⟩
      simp only [execOp, ho]
      rw [Sem.run_bind, h1]; rfl
    · rw [ho]
      rw [sM] at h
      obtain ⟨z, hz, e⟩ := NQ.1 h
      cases e
      obtain ⟨u, y, h1, h2, h3, h4⟩ := cJ (P := P) hI hle (t := t) hz (hev a) (hev c) a c
      refine Does.value (v := u) (w' := y.w) ?_ ⟨y, rfl, h2, h3, h4⟩
      simp only [execOp, ho]
      rw [Sem.run_bind, h1]; rfl
    · rw [ho]
      rw [tY] at h
      obtain ⟨z, hz, e⟩ := NQ.1 h
      cases e
      obtain ⟨u, y, h1, h2, h3, h4⟩ := Qv hI hle (eS (P := P) (t := t) hz (hev a) (hev c) a c)
      refine Does.value (v := u) (w' := y.w) ?_ ⟨y, rfl, h2, h3, h4⟩
      simp only [execOp, ho]
      rw [Sem.run_bind, h1]; rfl
    · rw [ho]
      rw [sr] at h
      obtain ⟨z, hz, e⟩ := NQ.1 h
      cases e
      obtain ⟨u, y, h1, h2, h3, h4⟩ := cz (P := P) hI hle (t := t) hz (hev a) (hev c) a c
      refine Does.value (v := u) (w' := y.w) ?_ ⟨y, rfl, h2, h3, h4⟩
      simp only [execOp, ho]
      rw [Sem.run_bind, h1]; rfl
    · rw [ho]
      rw [yD] at h
      obtain ⟨z, hz, e⟩ := NQ.1 h
      cases e
      obtain ⟨u, y, h1, h2, h3, h4⟩ := oI (P := P) hI hle (t := t) (.inl rfl) hz (hev a) (hev c) a c
      refine Does.value (v := u) (w' := y.w) ?_ ⟨y, rfl, h2, h3, h4⟩
      simp only [execOp, ho]
      rw [Sem.run_bind, h1]; rfl
    · rw [ho]
      rw [yD] at h
      obtain ⟨z, hz, e⟩ := NQ.1 h
      cases e
      obtain ⟨u, y, h1, h2, h3, h4⟩ := oI (P := P) hI hle (t := t) (.inr rfl) hz (hev a) (hev c) a c
      refine Does.value (v := u) (w' := y.w) ?_ ⟨y, rfl, h2, h3, h4⟩
      simp only [execOp, ho]
      rw [Sem.run_bind, h1]; rfl
    · cases h
  ·
    rename_i t a i ho
    rw [ho]
    split at h
    · rename_i c e b1 b2 b3 b4 k n hc ht hi
      split at h
      · rename_i d size b5 b6 b7 hte
        have ha := hev a
        rw [hc] at ha
        have hin := yG hi (hev i)
        obtain ⟨u, h1, h2, h3⟩ := lH hT hI (hT _ _ ht).desc hte h (zG ha) k
        rw [← hin] at h1
        exact Does.value (by simp [execOp, ho, h1]) ⟨x, rfl, h2.symm, Step.refl hI hle, h3⟩
      · cases h
    · rename_i id off m e b1 b2 b3 b4 k n hc ht hi
      split at h
      · rename_i d size b5 b6 b7 hte
        · rw [xJ] at h
          obtain ⟨q, hq, h⟩ := NQ.1 h
          simp only [NA, NH] at h
          obtain ⟨rfl, rfl⟩ := h
          obtain ⟨hn, hlt⟩ := lA _ _ _ _ hq
          subst hn
          have hb1 : (0 : Int) ≤ (q : Int) := by omega
          have hb2 : (q : Int) < (m : Int) := by omega
          have ha := hev a
          rw [hc] at ha
          have hin := yG hi (hev i)
          have hp := (zG ha).2
          have hp' : RepP x id off (ρ a) := hp
          unfold RepP at hp'
          split at hp'
          · rename_i cs hbx
            obtain ⟨b, h1, h2⟩ := hp'
            have hu : P.underlying t = some (.array m e) := (hT _ _ ht).desc
            have hsz := fun w => vS (hT _ _ hte) w
            have hr : (Instr.indexAt t (ρ a) (.int k (q : Int))).run P x.w = .ok (.pointer (some ⟨b, off + q * size, none⟩)) x.w := by
              simp [Instr.indexAt, Instr.sureAddr, asIntOf, run_underlying hu, hsz, hb1, hb2, sC, h2]
              intro hmq
              omega
            rw [← hin] at hr
            have hrep : RepV x (.val false [.ptr id (off + q * size)]) (.pointer (some ⟨b, off + q * size, none⟩)) := zF ⟨rfl, by
              show RepP x id (off + q * size) _
              unfold RepP
              rw [hbx]
              exact ⟨b, h1, rfl⟩⟩
            exact Does.value (by simp [execOp, ho, hr]) ⟨x, rfl, rfl, Step.refl hI hle, hrep⟩
          · exact hp'.elim
      · cases h
    · cases h
  ·
    rename_i t a i ho
    rw [ho]
    split at h
    · rename_i s b1 b2 b3 b4 k n hc ht hi
      cases hb : (decide (0 ≤ n) && decide (n < (s.size : Int))) with
      | false => simp [hb] at h
      | true =>
        simp only [hb, Nv, NA, NH] at h
        obtain ⟨rfl, rfl⟩ := h
        simp only [Nt, NE] at hb
        have ha := hev a
        rw [hc] at ha
        have hin := yG hi (hev i)
        have hs := w9 ha
        have hu := (hT _ _ ht).desc
        have hr := kz (P := P) hu hb.1 hb.2 k x.w
        rw [← hin, ← hs] at hr
        exact Does.value (by simp [execOp, ho, hr]) ⟨x, rfl, rfl, Step.refl hI hle, zZ _ _⟩
    · cases h
  ·
    rename_i t a lo hi mx ho
    rw [ho]
    have opt : ∀ (q : Option Operand) (l : Option Int), qf ev q = some l → ∃ k, q.map ρ = l.map (.int k) := by
      intro q l hq
      unfold qf at hq
      split at hq
      · cases hq; exact ⟨.i64, rfl⟩
      · split at hq
        · rename_i oo k n hn
          cases hq
          exact ⟨k, congrArg some (yG hn (hev _))⟩
        · cases hq
    split at h
    · rename_i l h1 m hl hh hm
      obtain ⟨klo, e1⟩ := opt _ _ hl
      obtain ⟨khi, e2⟩ := opt _ _ hh
      obtain ⟨kmx, e3⟩ := opt _ _ hm
      have ha := hev a
      split at h
      · rename_i s b1 b2 b3 b4 hc ht
        rw [hc] at ha
        have hs := w9 ha
        split at h
        · obtain ⟨u, r1, r2, r3⟩ := ku (x := x) (P := P) (hT _ _ ht).desc h klo khi
          rw [← hs, ← e1, ← e2] at r1
          simp only [Option.map_none] at e3
          exact Does.value (by simp only [execOp, ho, Sem.run_bind, e3, r1, Result.andThen_ok, Sem.run_pure]) ⟨x, rfl, r2.symm, Step.refl hI hle, r3⟩
        · cases h
      · rename_i c e b1 b2 b3 b4 hnot hc ht
        rw [hc] at ha
        split at h
        · rename_i d size b5 b6 b7 hte
          split at h
          · obtain ⟨u, r1, r2, r3⟩ := kY hT hI (hT _ _ ht).desc hte h (zG ha) klo khi
            rw [← e1, ← e2] at r1
            simp only [Option.map_none] at e3
            exact Does.value (by simp only [execOp, ho, Sem.run_bind, e3, r1, Result.andThen_ok, Sem.run_pure]) ⟨x, rfl, r2.symm, Step.refl hI hle, r3⟩
          · rename_i m
            split at h
            · rename_i id n b
              cases hmb : decide (m = b) with
              | false => simp [hmb] at h
              | true =>
                simp only [hmb, Nv] at h
                have : m = b := NK hmb
                subst this
                obtain ⟨u, r1, r2, r3⟩ := jA hT hI (hT _ _ ht).desc hte h (zG ha) khi kmx
                simp only [Option.map_none] at e1
                simp only [Option.map_some] at e2 e3
                rw [← e2, ← e3] at r1
                exact Does.value (by simp only [execOp, ho, Sem.run_bind, e1, r1, Result.andThen_ok, Sem.run_pure]) ⟨x, rfl, r2.symm, Step.refl hI hle, r3⟩
            · rename_i u xs b
              cases hmb : decide (m = 0) && decide (b = 0) with
              | false => simp [hmb] at h
              | true =>
                simp only [hmb, Nv, NA, NH] at h
                obtain ⟨rfl, rfl⟩ := h
                rw [Nt, NE, NE] at hmb
                obtain ⟨rfl, rfl⟩ := hmb
                obtain ⟨A, r1⟩ := jE x.w hT (hT _ _ ht).desc hte (zG ha) khi kmx
                simp only [Option.map_none] at e1
                simp only [Option.map_some] at e2 e3
                rw [← e2, ← e3] at r1
                have hr : (execOp ρ o).run P x.w = .ok (.value (.slice A 0 0)) x.w := by simp only [execOp, ho, Sem.run_bind, e1, r1, Result.andThen_ok, Sem.run_pure]
                refine Does.value hr ⟨x.push x.w none (.arr _ u []), rfl, rfl, xI hI (wu x) (by simp only [ObRep, zv]) hle, zF ⟨rfl, oZ zW zv⟩⟩
            · cases h
        · cases h
      · cases h
    · cases h
  ·
    rename_i c ho
    rw [ho]
    split at h
    · rename_i hcal
      split at h
      · rename_i s a st sx hargs hts
        split at h
        · rename_i cs ca hs ha
          have h1 : c.args = #[s, a] := Q9 hargs
          have h2 : c.argTypes = #[st, sx] := Q9 hts
          have hs' := hev s
          have ha' := hev a
          rw [hs] at hs'
          rw [ha] at ha'
          obtain ⟨y, u, r1, r2, r3, r4⟩ := Ym hT hI hle h (zG hs') (zG ha') o.type
          refine Does.value (w' := y.w) (by simp [execOp, ho, resolve, hcal, h1, h2, invoke, builtin, r1]) ⟨y, rfl, r2, ?_, r4⟩
          have hk : zL env (.call c) ev x.H = Uv cs := by
            simp only [zL, hcal, hargs, hs]
            cases cs <;> rfl
          rw [hk]; exact r3
        · cases h
      · cases h
    · rename_i hcal
      split at h
      · rename_i s st hargs hts
        split at h
        · rename_i e b1 b2 b3 b4 hs ht
          cases h
          have h1 : c.args = #[s] := RF hargs
          have h2 : c.argTypes = #[st] := RF hts
          have hs' := hev s
          rw [hs] at hs'
          have hv : ρ s = .slice none 0 0 := (zG hs').2
          have hu := (hT _ _ ht).desc
          simp only at hu
          have hk : zL env (.call c) ev x.H = [] := by simp only [zL, hcal]
          rw [hk]
          exact Does.value (v := .int .i64 0) (w' := x.w) (by simp [execOp, ho, resolve, hcal, h1, h2, invoke, builtin, Builtin.cap_, run_underlying hu, hv, goInt]) ⟨x, rfl, rfl, Step.refl hI hle, zZ _ _⟩
        · cases h
      · cases h
    · rename_i hcal
      split at h
      · rename_i a1 a2 hargs
        split at h
        · rename_i z hz
          simp only [NA, NH] at h
          obtain ⟨rfl, rfl⟩ := h
          obtain ⟨u, h1, h2⟩ := nq (P := P) hz (hev a1) (hev a2)
          have hk : zL env (.call c) ev x.H = [] := by simp only [zL, hcal]
          have h3 : c.args = #[a1, a2] := Q9 hargs
          refine Does.value (v := u) (w' := x.w) ?_ ⟨x, rfl, rfl, by rw [hk]; exact Step.refl hI hle, h2⟩
          simp [execOp, ho, resolve, hcal, h3, invoke, builtin, Builtin.max_, Ts] at h1 ⊢
          rw [h1]; rfl
        · cases h
      · cases h
    · rename_i hcal
      split at h
      · rename_i a1 a2 hargs
        split at h
        · rename_i z hz
          simp only [NA, NH] at h
          obtain ⟨rfl, rfl⟩ := h
          obtain ⟨u, h1, h2⟩ := nq (P := P) hz (hev a1) (hev a2)
          have hk : zL env (.call c) ev x.H = [] := by simp only [zL, hcal]
          have h3 : c.args = #[a1, a2] := Q9 hargs
          refine Does.value (v := u) (w' := x.w) ?_ ⟨x, rfl, rfl, by rw [hk]; exact Step.refl hI hle, h2⟩
          simp [execOp, ho, resolve, hcal, h3, invoke, builtin, Builtin.min_, Ts] at h1 ⊢
          rw [h1]; rfl
        · cases h
      · cases h
    · rename_i f hcal
      split at h
      · rename_i g caps hf
        have hf' := hev f
        rw [hf] at hf'
        obtain ⟨vs, hv1, hv2⟩ := (zG hf').2
        have hrun : (execOp ρ o).run P x.w = (callFunc g (c.args.map ρ ++ vs)).run P x.w := by
          simp [execOp, ho, resolve, hcal, hv1, Deferred.ofValue, invoke]
        have hvals : RepVs x (pk ev c.args.toList ++ caps.map fun p => .val false [.ptr p.1 p.2]) (c.args.map ρ ++ vs).toList := by
          rw [Array.toList_append, Array.toList_map]
          exact uP _ _ _ _ (sW hev _) (n5 _ _ hv2)
        refine Does.congr hrun ?_
        unfold lG at h
        split at h
        · rename_i con hcon
          split at h
          · rename_i X hX
            cases hmode : Nat.beq con.mode 1 with
            | true =>
              simp only [hmode, Nv] at h
              cases hF : con.F X with
              | none => simp [hF] at h
              | some Y =>
                simp only [hF, Nx, NA, NH] at h
                obtain ⟨rfl, rfl⟩ := h
                have := (hE g con hcon).calls x _ (c.args.map ρ ++ vs) X Y hI hvals hX hF
                refine this.mono ?_
                simp only [hmode, Nv]
                rintro u w' ⟨y, r1, r2, r3, r4, r5, r6, r7, r8⟩
                have hk : zL env (.call c) ev x.H = [] := by
                  simp only [zL, hcal, hf, hcon, hX, hmode, Nv]
                exact ⟨y, r1, r2, ⟨r3, r4, fun id hid => r5 id (by omega) (by simp), by rw [hk]; exact r6, r7⟩, r8⟩
            | false =>
              simp only [hmode, Nu] at h
              cases hka : (con.kills X (pk ev c.args.toList ++ caps.map fun p => .val false [.ptr p.1 p.2])).all (Nat.ble h0) with
              | false => simp [hka] at h
              | true =>
                simp only [hka, Nv] at h
                cases hF : con.F X with
                | none => simp [hF] at h
                | some Y =>
                  simp only [hF, Nx, NA, NH] at h
                  obtain ⟨rfl, rfl⟩ := h
                  have := (hE g con hcon).calls x _ (c.args.map ρ ++ vs) X Y hI hvals hX hF
                  refine this.mono ?_
                  simp only [hmode, Nu]
                  rintro u w' ⟨y, r1, r2, r3, r4, r5, r6, r7, r8⟩
                  have hk : zL env (.call c) ev x.H = con.kills X (pk ev c.args.toList ++ caps.map fun p => .val false [.ptr p.1 p.2]) := by
                    simp only [zL, hcal, hf, hcon, hX, hmode, Nu]
                  refine ⟨y, r1, r2, ⟨r3, r4, fun id hid => ?_, by rw [hk]; exact r6, r7⟩, r8⟩
                  refine r5 id (by omega) (fun hm => ?_)
                  have := Nat.le_of_ble_eq_true (Nw.1 hka id hm)
                  omega
          · cases h
        · rename_i hcon
          have := hN g _ x (c.args.map ρ ++ vs) v H' h hI hvals
          refine this.mono ?_
          rintro u w' ⟨y, r1, r2, r3, r4⟩
          have hk : zL env (.call c) ev x.H = [] := by
            simp only [zL, hcal, hf, hcon]
          refine ⟨y, r1, r2, ⟨r3.inv, r3.kept, fun id hid => r3.ids id (by omega), by rw [hk]; exact r3.carry, r3.len⟩, r4⟩
      · rename_i g caps hf
        have hf' := hev f
        rw [hf] at hf'
        obtain ⟨vs, hv1, hv2⟩ := (zG hf').2
        have hrun : (execOp ρ o).run P x.w = (callFunc g (c.args.map ρ ++ vs)).run P x.w := by
          simp [execOp, ho, resolve, hcal, hv1, Deferred.ofValue, invoke]
        have hvals : RepVs x (pk ev c.args.toList ++ caps.map fun p => .val false [.elr p.1 p.2 0]) (c.args.map ρ ++ vs).toList := by
          rw [Array.toList_append, Array.toList_map]
          exact uP _ _ _ _ (sW hev _) (kF _ _ hv2)
        refine Does.congr hrun ?_
        split at h
        · cases h
        · have := hN g _ x (c.args.map ρ ++ vs) v H' h hI hvals
          refine this.mono ?_
          rintro u w' ⟨y, r1, r2, r3, r4⟩
          have hk : zL env (.call c) ev x.H = [] := by
            simp only [zL, hcal, hf]
          refine ⟨y, r1, r2, ⟨r3.inv, r3.kept, fun id hid => r3.ids id (by omega), by rw [hk]; exact r3.carry, r3.len⟩, r4⟩
      · rename_i g id0 off0 hf
        have hf' := hev f
        rw [hf] at hf'
        obtain ⟨p, hv1, hv2, hv3⟩ := (zG hf').2
        have hrun : (execOp ρ o).run P x.w = (callFunc g (#[p] ++ c.args.map ρ)).run P x.w := by
          simp [execOp, ho, resolve, hcal, hv1, Deferred.ofValue, invoke]
        have hvals : RepVs x (.val false [.ptr id0 off0] :: pk ev c.args.toList) (#[p] ++ c.args.map ρ).toList := by
          rw [Array.toList_append, Array.toList_map]
          exact ⟨_, _, rfl, zF ⟨hv2, hv3⟩, sW hev _⟩
        refine Does.congr hrun ?_
        split at h
        · cases h
        · have := hN g _ x (#[p] ++ c.args.map ρ) v H' h hI hvals
          refine this.mono ?_
          rintro u w' ⟨y, r1, r2, r3, r4⟩
          have hk : zL env (.call c) ev x.H = [] := by
            simp only [zL, hcal, hf]
          refine ⟨y, r1, r2, ⟨r3.inv, r3.kept, fun id hid => r3.ids id (by omega), by rw [hk]; exact r3.carry, r3.len⟩, r4⟩
      · cases h
    · cases h
  · cases h
end
end Go.Proofs.YtefddghdaimklaaGreatDoor.AI
