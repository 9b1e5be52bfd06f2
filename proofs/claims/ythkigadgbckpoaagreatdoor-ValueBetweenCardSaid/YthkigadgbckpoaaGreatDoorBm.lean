/- The plain laws of the runs: what awake asks. -/
import Derived.Test.YthkigadgbckpoaaGreatDoorBl
set_option linter.unusedVariables false
set_option linter.unusedSimpArgs false
namespace Go.Proofs.YthkigadgbckpoaaGreatDoor.AI
open Go

theorem some_bif' {α : Type} {c : Bool} {x y : α} (h : (bif c then some x else none) = some y) : c = true ∧ x = y := by
  cases c with
  | true => exact ⟨rfl, Option.some.inj h⟩
  | false => cases h

theorem strEq_iff (a b : ByteArray) : strEq a b = true ↔ a = b := by
  unfold strEq
  rw [beq_iff_eq]
  constructor
  · intro h
    cases a with
    | mk d => cases b with
      | mk e =>
        have h1 : d.toList = e.toList := by simpa [ByteArray.toList_eq] using h
        exact congrArg ByteArray.mk (Array.ext' h1)
  · intro h; rw [h]

theorem con36_ok : ConOk Tryz.prog 36 con36 := f36.ok (fun x y h => ⟨0, by
  cases h
  have e : ∀ n : Int, (n != n) = false := fun n => by simp
  simp only [f36.g, e, cond_false, intS]
  cases decide (x.1 < x.2) <;> cases decide (x.1 > x.2) <;> rfl⟩)
theorem con13_ok : ConOk Tryz.prog 13 con13 := f13.ok (fun x y h => ⟨0, by
  cases h
  have e : ∀ n : Int, (n != n) = false := fun n => by simp
  simp only [f13.g, e, cond_false, intS]
  cases decide (x.1 < x.2) <;> cases decide (x.1 > x.2) <;> rfl⟩)
theorem con14_ok : ConOk Tryz.prog 14 con14 := f14.ok (fun x y h => ⟨0, by
  cases h
  simp only [f14.g, fltS, fo]
  cases FloatKind.f64.format.order x.1 x.1 != some .eq <;> cases FloatKind.f64.format.order x.2 x.2 != some .eq <;> cases FloatKind.f64.format.order x.1 x.2 == some .lt <;> cases FloatKind.f64.format.order x.1 x.2 == some .gt <;> rfl⟩)
theorem val_eq {x : dValue} {k n : Int} {f : Nat} {s : ByteArray} (h : (x.1 == k && x.2.1 == n && (x.2.2.1 == f) && strEq x.2.2.2 s) = true) : x = (k, (n, (f, s))) := by
  simp only [Bool.and_eq_true] at h
  obtain ⟨⟨⟨h1, h2⟩, h3⟩, h4⟩ := h
  exact Prod.ext (eq_of_beq h1) (Prod.ext (eq_of_beq h2) (Prod.ext (eq_of_beq h3) ((strEq_iff _ _).1 h4)))

/-! ### Texts -/
theorem less_cmp : ∀ (a b : List UInt8), (Op.bytesLess a b = true ↔ Lib.compareBytes a b = -1) ∧ (a = b ↔ Lib.compareBytes a b = 0)
  | [], [] => ⟨⟨fun h => (by cases h), fun h => (by cases h)⟩, ⟨fun _ => rfl, fun _ => rfl⟩⟩
  | [], _ :: _ => ⟨⟨fun _ => rfl, fun _ => rfl⟩, ⟨fun h => (by cases h), fun h => (by cases h)⟩⟩
  | _ :: _, [] => ⟨⟨fun h => (by cases h), fun h => (by cases h)⟩, ⟨fun h => (by cases h), fun h => (by cases h)⟩⟩
  | a :: l, b :: m => by
    obtain ⟨h1, h2⟩ := less_cmp l m
    simp only [Op.bytesLess, Lib.compareBytes]
    by_cases hab : a < b
    · have hne : a ≠ b := fun e => by subst e; exact absurd hab (UInt8.lt_irrefl a)
      rw [if_pos hab]
      simp [hab, hne]
    · rw [if_neg hab]
      by_cases hba : b < a
      · have hne : a ≠ b := fun e => by subst e; exact absurd hba (UInt8.lt_irrefl a)
        rw [if_pos hba]
        simp [hab, hne]
      · have he : a = b := UInt8.le_antisymm (UInt8.not_lt.1 hba) (UInt8.not_lt.1 hab)
        subst he
        rw [if_neg hba, ← h1, ← h2]
        simp [hab]

theorem str_cmp (a b : ByteArray) : strLt a b = decide (strS a b = -1) ∧ strEq a b = decide (strS a b = 0) := by
  obtain ⟨h1, h2⟩ := less_cmp a.data.toList b.data.toList
  unfold strLt strEq strS
  rw [ByteArray.toList_eq, ByteArray.toList_eq]
  refine ⟨?_, ?_⟩
  · rw [Bool.eq_iff_iff, decide_eq_true_iff]; exact h1
  · rw [Bool.eq_iff_iff, decide_eq_true_iff, beq_iff_eq]; exact h2

theorem cmp_range : ∀ (a b : List UInt8), Lib.compareBytes a b = -1 ∨ Lib.compareBytes a b = 0 ∨ Lib.compareBytes a b = 1
  | [], [] => .inr (.inl rfl)
  | [], _ :: _ => .inl rfl
  | _ :: _, [] => .inr (.inr rfl)
  | a :: l, b :: m => by
    simp only [Lib.compareBytes]
    split
    · exact .inl rfl
    · split
      · exact .inr (.inr rfl)
      · exact cmp_range l m

theorem intS_ne {a b : Int} : (intS a b != 0) = (a != b) := by
  unfold intS
  by_cases h1 : a < b
  · rw [decide_eq_true h1]
    have : (a != b) = true := by simp; omega
    rw [this]; rfl
  · rw [decide_eq_false h1]
    by_cases h2 : a > b
    · rw [decide_eq_true h2]
      have : (a != b) = true := by simp; omega
      rw [this]; rfl
    · rw [decide_eq_false h2]
      have : (a != b) = false := by simp; omega
      rw [this]; rfl

theorem spec18 (x : dValue × dValue) : f18.g 0 x = some (cmpV x.1 x.2) := by
  simp only [f18.g, F36, F13, F14, F37, Option.bind_some, intS_ne, cmpV]
  cases x.1.1 != x.2.1 <;> cases x.1.1 == 1 <;> cases x.1.1 == 2 <;> cases x.1.1 == 3 <;> cases x.1.1 == 4 <;> cases x.1.1 == 5 <;> rfl
theorem con18_ok : ConOk Tryz.prog 18 con18 := f18.ok (fun x y h => ⟨0, by cases h; exact spec18 x⟩) con13_ok con14_ok con36_ok con37_ok
theorem nat_beq (a b : Nat) : (((a : Int)) == ((b : Int))) = (a == b) := by
  rw [Bool.eq_iff_iff, beq_iff_eq, beq_iff_eq]; omega
theorem int_ne (a b : Int) : (a != b) = !(a == b) := rfl
theorem nat_ne (a b : Nat) : (((a : Int)) != ((b : Int))) = !(a == b) := by rw [int_ne, nat_beq]
theorem check_ok (x : dValue) (q : decide (x.2.2.2.size ≤ 9223372036854775807) = true) : f8.g 0 x = some (checkV x) := by
  have e21 : F20 x.2.2.2 = some (Lib.validD x.2.2.2.data.toList) := by
    show (bif decide (x.2.2.2.size ≤ 9223372036854775807) then _ else _) = _
    rw [q]; rfl
  have e0 : (((x.2.2.1 : Nat) : Int) != 0) = (x.2.2.1 != 0) := nat_ne _ 0
  simp only [f8.g, F19, e21, Option.bind_some, e0, checkV, noS]
  simp only [bne]
  generalize decide (x.1 < 0) = k0
  generalize decide (x.1 > 5) = k9
  generalize (x.1 == 1) = k1
  generalize (x.1 == 2) = k2
  generalize (x.1 == 3) = k3
  generalize (x.1 == 4) = k4
  generalize (x.1 == 5) = k5
  generalize (x.2.1 == 0) = n0
  generalize (x.2.1 == 1) = n1
  generalize (x.2.2.1 == 0) = z
  generalize strEq x.2.2.2 ⟨#[]⟩ = e
  generalize Lib.validD x.2.2.2.data.toList = v
  generalize decide ((x.2.2.2.size : Int) > 65536) = g
  cases k0
  · cases k9
    · cases k1 <;> cases n0 <;> cases n1 <;> first | rfl | (cases k2 <;> cases k3 <;> cases z <;> first | rfl | (cases k4 <;> cases k5 <;> cases e <;> cases v <;> cases g <;> rfl))
    · rfl
  · rfl
theorem F8_iff {x : dValue} {y : Int} (h : F8 x = some y) : decide (x.2.2.2.size ≤ 9223372036854775807) = true ∧ checkV x = y :=
  some_bif' (show (bif decide (x.2.2.2.size ≤ 9223372036854775807) then some (checkV x) else none) = some y from h)
theorem con8_ok : ConOk Tryz.prog 8 con8 := f8.ok (fun x y h => ⟨0, by
  obtain ⟨q, rfl⟩ := F8_iff h
  exact check_ok x q⟩) con19_ok con20_ok
theorem con16_ok : ConOk Tryz.prog 16 con16 := f16.ok (fun x y h => by
  obtain ⟨q, rfl⟩ := some_bif' (show (bif x.1 == 2 && x.2.1 == -7 && (x.2.2.1 == 0) && strEq x.2.2.2 noS then some ((⟨#[45, 55]⟩ : ByteArray), (0 : Int)) else none) = some y from h)
  exact ⟨val_eq q, 0, by kernel_rfl⟩) con8_ok con30_ok

/-! ### Cast, of a whole number to a float -/
set_option maxRecDepth 100000 in
theorem f5k (k : Int) (n : Nat) : runK TT E5 n ann (tabC C5) 3 5 (argsL [(true, tValue), (false, .int .i64)] (((2 : Int), (k, (0, (⟨#[]⟩ : ByteArray)))), (3 : Int))) [] (readL [(true, tValue), (false, .int .i64)]) =
    (F8 ((2 : Int), (k, (0, (⟨#[]⟩ : ByteArray))))).bind fun r1 => bif r1 != (0 : Int) then some (((0 : Int), ((0 : Int), (0, (⟨#[]⟩ : ByteArray)))), r1) else some (((3 : Int), ((0 : Int), (FloatKind.f64.nearest k, (⟨#[]⟩ : ByteArray)))), (0 : Int)) := by
  kernel_rfl
theorem check_int (k : Int) : F8 ((2 : Int), (k, (0, (⟨#[]⟩ : ByteArray)))) = some 0 := by kernel_rfl
theorem con5_ok : ConOk Tryz.prog 5 con5 := mkCon_ok mixed TT_ok (envC_ok con8_ok env0_ok) f5.codes (fun _ => List.all_eq_true.1 rfl) (fun X Y hF => by
  obtain ⟨q, rfl⟩ := some_bif' (show (bif X.1.1 == 2 && (X.1.2.2.1 == 0) && strEq X.1.2.2.2 noS && X.2 == 3 then some (((3, (0, (FloatKind.f64.nearest X.1.2.1, noS))), 0) : dValue × Int) else none) = some Y from hF)
  simp only [Bool.and_eq_true] at q
  obtain ⟨⟨⟨h1, h3⟩, h4⟩, h5⟩ := q
  have e : X = (((2 : Int), (X.1.2.1, (0, noS))), (3 : Int)) := Prod.ext (Prod.ext (eq_of_beq h1) (Prod.ext rfl (Prod.ext (eq_of_beq h3) ((strEq_iff _ _).1 h4)))) (eq_of_beq h5)
  rw [e]
  refine ⟨0, (f5k X.1.2.1 0).trans ?_⟩
  rw [check_int]
  rfl)

end Go.Proofs.YthkigadgbckpoaaGreatDoor.AI
