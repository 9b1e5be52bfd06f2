/- A part of the proof. -/
import Derived.Test.YtefddghdaimklaaGreatDoorQa
set_option linter.unusedVariables false
set_option linter.unusedSimpArgs false
namespace Go.Proofs.YtefddghdaimklaaGreatDoor.AI
open Go
theorem UK {l : List Int} (h : (Ty.sl (.int .i64)).wf l) : okB 8 l = true := qh (t := .int .i64) (b := 8) rfl h
theorem fy : ∀ {cs : List Int} {row : List zc}, xY cs row = true → ∀ v ∈ row, okI v.2.1 = true ∧ zt v = 0
 | [], [], _, v, hv => by cases hv
 | k :: l, u :: r, h, v, hv => by
  simp only [xY, Nt, beq_iff_eq] at h
  rcases NM.1 hv with rfl | hv
  ·exact ⟨(Xw h.2.2.1).1, h.2.1⟩
  ·exact fy h.2.2.2 v hv
 | [], _ :: _, h, _, _ => by simp [xY] at h
 | _ :: _, [], h, _, _ => by simp [xY] at h
theorem jt : ∀ {cs : List Int} {row : List zc}, xY cs row = true → row.length = cs.length
 | [], [], _ => rfl
 | k :: l, u :: r, h => by
  simp only [xY, Nt] at h
  simp [jt h.2.2.2]
 | [], _ :: _, h => by simp [xY] at h
 | _ :: _, [], h => by simp [xY] at h
theorem VZ {row : List zc} {P : zc → Prop} (h : ∀ v ∈ row, P v) (h0 : P zeroV) (c : Int) : P (atR row c) := by
 unfold atR
 by_cases hc : c.toNat < row.length
 ·rw [List.getD_eq_getElem?_getD, NL hc]; exact h _ (List.getElem_mem hc)
 ·rw [List.getD_eq_getElem?_getD, List.getElem?_eq_none (by omega)]; exact h0
theorem XS (a b : List Int) : zC (a ++ b) = zC a ++ zC b := by
 unfold zC
 apply ByteArray.ext
 simp
theorem ZE : (⟨#[3, 128]⟩ : ByteArray) = zC [3, 128] := by kernel_rfl
theorem Zi : Byts [3, 128] := fun x hx => by
 simp only [NM, List.not_mem_nil, or_false] at hx
 rcases hx with rfl | rfl <;> omega
theorem ZP (a : List Int) : (zC a).size = a.length := by
 unfold zC
 simp [ByteArray.size]
theorem ZK (l : List zc) : ((qE l).2 != 0) = true ∨ (qE l = (zC (yF l), 0) ∧ (yF l).length ≤ 1024) := by
 unfold qE
 cases l.any (fun v => zt v != 0) with
 | true => exact .inl rfl
 | false =>
  rw [Nu]
  cases h2 : decide (1024 < (yF l).length) with
  | true => exact .inl rfl
  | false =>
   rw [decide_eq_false_iff_not] at h2
   exact .inr ⟨rfl, by omega⟩
theorem Ve (row : List zc) (cols : List Int) {i : Nat} {c : Int} (h : cols[i]? = some c) : (cols.take i).map (atR row) ++ [atR row c] = (cols.take (i + 1)).map (atR row) := by
 rw [← su h, List.map_append]; rfl
theorem Py : ∀ (X : VU × List Int) (Y : Bool), FL [(true, c7), (false, .sl (.int .i64))] X = some Y → ∃ n, f4.g n X = some Y := by
 rintro ⟨x, cols⟩ y h
 obtain ⟨hw, rfl⟩ := UT h
 have hw' : (tTable.wf x.1 ∧ tExpr.wf x.2.1 ∧ (Ty.sl tValue).wf x.2.2) ∧ (Ty.sl (.int .i64)).wf cols := hw
 have ht := R7 hw'.1.1
 have hb := SM hw'.1.2.1
 have hr := Qe hw'.1.2.2
 have hcb := UK hw'.2
 have hc := Qk hb
 have g1 : F5 x.2.1 = some (S8 x.2.1) := zp hb
 obtain ⟨t, e0, row⟩ := x
 generalize he : S8 e0 = e at hc g1
 have g3 : F6 (t, (e, cols)) = some (v6 (t, (e, cols))) := zp (by rw [ht, hc, hcb]; rfl)
 have g4 : F11 (t, (e, row)) = some (uH t e row) := zp (by rw [ht, hc, hr]; rfl)
 have g6 : F10 () = some true := rfl
 refine ⟨cols.length + 1, ?_⟩
 have g1' : F5 e0 = some e := g1
 simp only [f4.g, Rose.eta, g1', g3, g4, g6, Nx]
 cases hgo : (bif bif (v6 (t, (e, cols))).2 != (0 : Int) then true else (uH t e row).2 != (0 : Int) then true else !(uH t e row).1) with
 | true => rfl
 | false =>
  rw [Nu]
  rw [yK, yK, Bool.or_eq_false_iff, Bool.or_eq_false_iff] at hgo
  obtain ⟨⟨q1, q2⟩, q3⟩ := hgo
  have q1' : (v6 (t, (e, cols))).2 = 0 := by simpa using q1
  have q2' : (uH t e row).2 = 0 := by simpa using q2
  have q3' : (uH t e row).1 = true := by simpa using q3
  have hcond : wD t e = 0 := by
   unfold uH at q2'
   cases hz : wD t e != 0 with
   | true =>
    rw [hz, Nv] at q2'
    exact q2'
   | false => simpa using hz
  have hne : (wD t e != 0) = false := by rw [hcond]; rfl
  have htk : uH t e row = (isT (od t e row).1, (od t e row).2) := by unfold uH; rw [hne]; rfl
  rw [htk] at q2' q3'
  have hck : (yM t e).2 = 0 := by
   unfold od at q2'
   cases hz : (yM t e).2 != 0 with
   | true =>
    rw [hz, Nv] at q2'
    exact q2'
   | false => simpa using hz
  have had : vw t row = 0 := by
   unfold od at q2'
   rw [hck] at q2'
   cases hz : vw t row != 0 with
   | true =>
    rw [hz] at q2'
    exact q2'
   | false => simpa using hz
  have hev : od t e row = bif (zO row e).2 != 0 then (zeroV, (zO row e).2) else ((zO row e).1, 0) := by unfold od; rw [hck, had]; rfl
  have hev2 : (zO row e).2 = 0 := by
   rw [hev] at q2'
   cases hz : (zO row e).2 != 0 with
   | true =>
    rw [hz, Nv] at q2'
    exact q2'
   | false => simpa using hz
  have hev1 : isT (zO row e).1 = true := by
   rw [hev, hev2] at q3'
   exact q3'
  obtain ⟨k1, k2, _⟩ := nB hck
  have hbig := (az hc).1
  have hfit := jq had (rg hr).2.1
  have hfine : xK (xQ t).length e = true := by rw [show (xQ t).length = t.2.1.length by simp [xQ]]; exact kD hcond
  have hparts := oW hfit e hbig hfine k2 hev2 hev1
  have hsome : uz t.2.1.length cols = true := by
   unfold v6 at q1'
   rw [hne] at q1'
   cases hz : uz t.2.1.length cols with
   | true => rfl
   | false => rw [hz] at q1'; cases q1'
  have hbounds : v6 (t, (e, cols)) = (tA (yV (xQ t) e) cols, 0) := by
   unfold v6
   rw [hne, hsome]; rfl
  have h64 : cols.length ≤ 64 := by
   unfold uz at hsome
   cases hz : decide (cols.length < 1) || decide (cols.length > 64) with
   | true => rw [hz] at hsome; cases hsome
   | false =>
    rw [Bool.or_eq_false_iff, decide_eq_false_iff_not, decide_eq_false_iff_not] at hz
    omega
  have hin : ∀ c ∈ cols, 0 ≤ c ∧ c < (row.length : Int) := fun c hcm => by
   unfold uz at hsome
   cases hz : decide (cols.length < 1) || decide (cols.length > 64) with
   | true => rw [hz] at hsome; cases hsome
   | false =>
    rw [hz, Nu] at hsome
    have := Nw.1 (m7 _ _ _ hsome) c hcm
    rw [Nt, NO, NO] at this
    have hl := jt hfit
    rw [show (xQ t).length = t.2.1.length by simp [xQ]] at hl
    omega
  have hvals : ∀ v ∈ cols.map (atR row), okI v.2.1 = true ∧ zt v = 0 := fun v hv => by
   obtain ⟨c, _, rfl⟩ := List.mem_map.1 hv
   exact VZ (P := fun v => okI v.2.1 = true ∧ zt v = 0) (fy hfit) ⟨by kernel_rfl, rQ⟩ c
  have hkey : okR (cols.map (atR row)) = true := by
   unfold okR
   rw [Nt]
   refine ⟨xB.2 (by rw [List.length_map]; omega), Nw.2 fun v hv => ?_⟩
   obtain ⟨c, _, rfl⟩ := List.mem_map.1 hv
   exact VZ (P := fun v => okZ v = true) (rg hr).2.1 t7 c
  rw [hbounds]
  have loop := z9 (step := f4.s1 (cols.length + 1) ((t, (e0, row)), cols) e (tA (yV (xQ t) e) cols, 0) (uH t e row)) cols (fun i (_ : Unit) => (i, ((i : Int), (cols.take i).map (atR row)))) (fun _ _ => True) (fun _ _ _ => some true)
   (fun S _ _ => by
    have hl : ((cols.take cols.length).map (atR row)) = cols.map (atR row) := by rw [NI]
    have hl2 : List.take cols.length (cols.map (atR row)) = cols.map (atR row) := by rw [List.take_of_length_le (by simp)]
    have gE : F12 (cols.map (atR row)) = some (qE (cols.map (atR row))) := zp hkey
    simp only [f4.s1, yi, Nu, hl, hl2, gE, Nx, g6]
    rcases ZK (cols.map (atR row)) with hk | ⟨hk, hlen⟩
    ·rw [hk]; rfl
    ·rw [hk]
     have r1 := kH hparts hvals (t := []) (fun x hx => by cases hx) (.inl rfl)
     have r2 := kH hparts hvals (t := [3, 128]) Zi c6
     rw [List.append_nil] at r1
     rw [XS, ← ZE] at r2
     have gH1 : F13 (tA (yV (xQ t) e) cols, zC (yF (cols.map (atR row)))) = some true := by
      show some (nC _ _) = _
      rw [r1]
     have gH2 : F13 (tA (yV (xQ t) e) cols, zC (yF (cols.map (atR row))) ++ (⟨#[3, 128]⟩ : ByteArray)) = some true := by
      show some (nC _ _) = _
      rw [r2]
     have hroom : decide ((zC (yF (cols.map (atR row)))).size + (⟨#[3, 128]⟩ : ByteArray).size ≤ y8) = true := Ny (by
      rw [ZP, show (⟨#[3, 128]⟩ : ByteArray).size = 2 from rfl]
      have : (2000 : Nat) ≤ y8 := NK (by kernel_rfl)
      omega)
     have z : ((0 : Int) != 0) = false := rfl
     simp only [z, Nu, gH1, gH2, hroom, Nv, Nx])
   (fun S i _ c r hi hv hr' _ ih => by
    obtain ⟨h0, h1⟩ := hin c (ND hv)
    have hroom : decide ((i + 1) * 40 ≤ zo) = true := Ny (by rw [show zo = 140737488355328 from rfl]; omega)
    have htk : List.take i ((cols.take i).map (atR row)) = (cols.take i).map (atR row) := by rw [List.take_of_length_le (by simp; omega)]
    have hat : row.getD c.toNat tValue.dflt = atR row c := rfl
    simp only [f4.s1, xi hi, yZ, NC, Nv, yf hv, Ny h0, Ny h1, hroom, htk, nx (show i ≤ _ by omega), hat]
    rw [Ve row cols hv]
    exact ih () trivial)
   (cols.length + 1) (NG _) () trivial
  exact loop
theorem UN : ConOk Tryz.prog 4 Nq := f4.ok Py U8 Tu WX fX Xy YU
end Go.Proofs.YtefddghdaimklaaGreatDoor.AI
