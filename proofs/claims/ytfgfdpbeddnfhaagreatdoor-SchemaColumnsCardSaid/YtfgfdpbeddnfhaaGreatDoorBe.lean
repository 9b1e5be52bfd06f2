/- The plain laws of the runs: names, and values that may be. -/
import Derived.Test.YtfgfdpbeddnfhaaGreatDoorBd
import Derived.Lib.IndexMore
import Derived.KernelRfl
set_option linter.unusedVariables false
set_option linter.unusedSimpArgs false
namespace Go.Proofs.YtfgfdpbeddnfhaaGreatDoor.AI
open Go

/-! ### Words in a text, each between two blanks -/
theorem contains_cons (b : UInt8) (l sub : List UInt8) : Lib.contains (b :: l) sub = (sub.isPrefixOf (b :: l) || Lib.contains l sub) := by
  unfold Lib.contains
  rw [Lib.index]
  have hg := Lib.index_ge l sub
  cases hp : sub.isPrefixOf (b :: l) with
  | true => rfl
  | false =>
    simp only [Bool.false_eq_true, if_false, Bool.false_or]
    by_cases h : Lib.index l sub = -1
    · rw [h]; rfl
    · have : (Lib.index l sub == -1) = false := by simp; exact h
      rw [this]
      simp only [Bool.false_eq_true, if_false]
      rw [decide_eq_true (show 0 ≤ Lib.index l sub + 1 by omega), decide_eq_true (show 0 ≤ Lib.index l sub by omega)]

/-- Words, a blank behind each. -/
def blanks : List (List UInt8) → List UInt8
  | [] => []
  | w :: ws => w ++ 32 :: blanks ws

theorem pre_word : ∀ (s w r : List UInt8), (32 : UInt8) ∉ s → (32 : UInt8) ∉ w → (s ++ [32]).isPrefixOf (w ++ 32 :: r) = decide (s = w)
  | [], [], r, _, _ => by simp
  | [], b :: w, r, _, hw => by
    have : ¬ (32 : UInt8) = b := fun e => hw (by simp [e])
    simp [List.isPrefixOf, this]
  | a :: s, [], r, hs, _ => by
    have : ¬ a = (32 : UInt8) := fun e => hs (by simp [e])
    simp [List.isPrefixOf, this]
  | a :: s, b :: w, r, hs, hw => by
    have ih := pre_word s w r (fun h => hs (List.mem_cons_of_mem _ h)) (fun h => hw (List.mem_cons_of_mem _ h))
    simp only [List.cons_append, List.isPrefixOf, ih]
    by_cases h : a = b
    · subst h; simp
    · simp [h]

theorem skip_word (pat r : List UInt8) : ∀ (w : List UInt8), (32 : UInt8) ∉ w → Lib.contains (w ++ r) (32 :: pat) = Lib.contains r (32 :: pat)
  | [], _ => rfl
  | b :: w, hw => by
    have : ((32 : UInt8) == b) = false := by simp; exact fun e => hw (by simp [e])
    rw [List.cons_append, contains_cons, List.isPrefixOf, this, skip_word pat r w (fun h => hw (List.mem_cons_of_mem _ h))]
    rfl

theorem contains_words (s : List UInt8) (hs : (32 : UInt8) ∉ s) : ∀ (ws : List (List UInt8)), (∀ w ∈ ws, (32 : UInt8) ∉ w) → Lib.contains (32 :: blanks ws) (32 :: (s ++ [32])) = ws.any (fun w => decide (s = w))
  | [], _ => by
    have hne : (32 :: (s ++ [32]) : List UInt8).isPrefixOf [32] = false := by
      cases s with
      | nil => rfl
      | cons a s => simp [List.isPrefixOf]
    show Lib.contains [32] _ = _
    rw [contains_cons, hne]
    rfl
  | w :: ws, h => by
    have ih := contains_words s hs ws (fun v hv => h v (List.mem_cons_of_mem _ hv))
    rw [blanks, contains_cons, List.isPrefixOf, pre_word s w _ hs (h w (by simp)), skip_word _ _ w (h w (by simp)), ih]
    simp

/-! ### Bytes -/
theorem strEq_iff (a b : ByteArray) : strEq a b = true ↔ a = b := by
  unfold strEq
  rw [beq_iff_eq]
  constructor
  · intro h
    cases a with
    | mk d => cases b with
      | mk e =>
        have h1 : d.toList = e.toList := by simpa [ByteArray.toList_eq] using h
        exact congrArg ByteArray.mk (Array.ext' h1)
  · intro h; rw [h]
theorem strEq_dec (a b : ByteArray) : strEq a b = decide (b.data.toList = a.data.toList) := by
  rw [Bool.eq_iff_iff, strEq_iff, decide_eq_true_iff]
  constructor
  · intro h; rw [h]
  · intro h
    cases a with
    | mk d => cases b with
      | mk e => exact congrArg ByteArray.mk (Array.ext' h.symm)
theorem bytes_len (x : ByteArray) : (bytesI x).length = x.size := by
  unfold bytesI
  rw [List.length_map]
  rfl
theorem byte_at {x : ByteArray} {i : Nat} {v : Int} (h : (bytesI x)[i]? = some v) : byteAt x (i : Int) = v := by
  unfold bytesI at h
  rw [List.getElem?_map, Option.map_eq_some_iff] at h
  obtain ⟨b, hb, rfl⟩ := h
  have hx : x[i]? = some b := by
    obtain ⟨hlt, e⟩ := List.getElem?_eq_some_iff.1 hb
    have hlt' : i < x.size := hlt
    rw [getElem?_pos x i hlt']
    rw [← e]; rfl
  unfold byteAt
  rw [Int.toNat_natCast, hx]

theorem wordsS_eq : wordsS.data.toList = 32 :: blanks (wordsL.map fun w => w.data.toList) := by kernel_rfl
theorem wordsL_no : ∀ w ∈ wordsL.map fun w => w.data.toList, (32 : UInt8) ∉ w := by
  have h : ((wordsL.map fun w => w.data.toList).all fun w => w.all fun b => b != 32) = true := by kernel_rfl
  intro w hw hm
  have := List.all_eq_true.1 (List.all_eq_true.1 h w hw) _ hm
  simp at this
theorem words_any {x : ByteArray} (h : (32 : UInt8) ∉ x.data.toList) : Lib.contains wordsS.data.toList (32 :: (x.data.toList ++ [32])) = wordsL.any fun w => strEq w x := by
  rw [wordsS_eq, contains_words _ h _ wordsL_no, List.any_map]
  congr 1
  funext w
  simp only [Function.comp, strEq_dec]

theorem F23_some {x : ByteArray} (h : x.size ≤ 140737488355328) : F23 x = some (Lib.contains wordsS.data.toList (32 :: (x.data.toList ++ [32]))) := by
  unfold F23; rw [decide_eq_true h]; rfl
set_option maxRecDepth 100000 in
theorem spec23 : ∀ X Y, F23 X = some Y → ∃ n, f23.g n X = some Y := by
  intro x y h
  obtain ⟨hq, rfl⟩ := some_bif h
  have hq := of_decide_eq_true hq
  have hb : boundS = 9223372036854775807 := rfl
  have s1 : (⟨#[32]⟩ : ByteArray).size = 1 := rfl
  have s2 : ((⟨#[32]⟩ : ByteArray) ++ x).size = 1 + x.size := by rw [ByteArray.size_append, s1]
  refine ⟨0, ?_⟩
  have e : F47 (wordsS, ((⟨#[32]⟩ : ByteArray) ++ x) ++ (⟨#[32]⟩ : ByteArray)) = some (Lib.contains wordsS.data.toList (32 :: (x.data.toList ++ [32]))) := by
    unfold F47
    rw [show decide (wordsS.size < 4294967281) = true from rfl, cond_true]
    rw [show (((⟨#[32]⟩ : ByteArray) ++ x) ++ (⟨#[32]⟩ : ByteArray)).data.toList = 32 :: (x.data.toList ++ [32]) by simp [ByteArray.data_append]]
  have hg : f23.g 0 x = (bif decide ((⟨#[32]⟩ : ByteArray).size + x.size ≤ boundS) then (bif decide (((⟨#[32]⟩ : ByteArray) ++ x).size + (⟨#[32]⟩ : ByteArray).size ≤ boundS) then ((F47 (wordsS, ((⟨#[32]⟩ : ByteArray) ++ x) ++ (⟨#[32]⟩ : ByteArray))).bind fun r1 => some r1) else none) else none) := rfl
  rw [hg, decide_eq_true (show (⟨#[32]⟩ : ByteArray).size + x.size ≤ boundS by rw [s1, hb]; omega), decide_eq_true (show ((⟨#[32]⟩ : ByteArray) ++ x).size + (⟨#[32]⟩ : ByteArray).size ≤ boundS by rw [s2, s1, hb]; omega), e]
  rfl
theorem con23_ok : ConOk Tryz.prog 23 con23 := f23.ok spec23 con47_ok

theorem small_eq (c : Int) : (bif (c == (95 : Int)) then true else (bif (decide (c ≥ (97 : Int))) then (decide (c ≤ (122 : Int))) else false)) = smallI c := by
  rw [cond_or', cond_and']; rfl
theorem small_eq' (c : Int) : (bif (bif (decide (c ≥ (97 : Int))) then (decide (c ≤ (122 : Int))) else false) then true else (c == (95 : Int))) = smallI c := by
  rw [cond_or', cond_and', Bool.or_comm]; rfl
theorem digit_eq (c : Int) : (bif (decide (c ≥ (48 : Int))) then (decide (c ≤ (57 : Int))) else false) = digitI c := by
  rw [cond_and']; rfl
theorem blank_not {x : ByteArray} (h : (32 : UInt8) ∈ x.data.toList) : ((bytesI x).all fun c => smallI c || digitI c) = false := by
  rw [List.all_eq_false]
  exact ⟨32, List.mem_map.2 ⟨32, h, rfl⟩, by decide⟩

theorem spec8 (x : ByteArray) : ∃ n, f8.g n x = some (nameS x) := by
  refine ⟨x.size + 1, ?_⟩
  unfold f8.g nameS
  have e1 : (bif strEq x (⟨#[]⟩ : ByteArray) then true else decide ((x.size : Int) > (63 : Int))) = (decide (x.size < 1) || decide (x.size > 63)) := by
    rw [cond_or']
    have q1 : strEq x (⟨#[]⟩ : ByteArray) = decide (x.size < 1) := by
      rw [Bool.eq_iff_iff, strEq_iff, decide_eq_true_iff]
      constructor
      · intro h; rw [h]; decide
      · intro h
        cases x with
        | mk d =>
          have : d.size = 0 := by
            have : d.size < 1 := h
            omega
          rw [Array.eq_empty_of_size_eq_zero this]
    rw [q1, show decide ((x.size : Int) > (63 : Int)) = decide (x.size > 63) from len_gt _ 63]
  rw [e1]
  cases hs : decide (x.size < 1) || decide (x.size > 63) with
  | true => rfl
  | false =>
    simp only [Bool.or_eq_false_iff, decide_eq_false_iff_not] at hs
    simp only [cond_false]
    have p1 : (decide (0 ≤ (0 : Int)) && decide ((0 : Int) < (x.size : Int))) = true := by simp; omega
    have key : ∀ r1, iter (f8.s1 (x.size + 1) x r1) (x.size + 1) 0 = some ((bytesI x).all fun c => smallI c || digitI c) := fun r1 => all_loop (l := bytesI x) (fun c => smallI c || digitI c) (by rw [bytes_len]; omega) (fun S => by
      rw [bytes_len]
      have : decide ((x.size : Int) < (x.size : Int)) = false := by simp
      simp only [f8.s1, this, cond_false]) (fun S i v hi hv => by
      rw [bytes_len] at hi
      have q : decide ((i : Int) < (x.size : Int)) = true := by simp; exact hi
      simp only [f8.s1, q, at_ge, byte_at hv, nx (show i ≤ _ by omega), Bool.and_self, cond_true, small_eq, digit_eq]
      cases smallI v <;> cases digitI v <;> rfl)
    rw [p1, cond_true, small_eq]
    cases smallI (byteAt x 0) with
    | false => rfl
    | true =>
      simp only [Bool.not_true, cond_false, F23_some (show x.size ≤ 140737488355328 by omega), Option.bind_some, key, Bool.false_or]
      by_cases h32 : (32 : UInt8) ∈ x.data.toList
      · rw [blank_not h32]
        cases Lib.contains wordsS.data.toList (32 :: (x.data.toList ++ [32])) <;> cases wordsL.any fun w => strEq w x <;> rfl
      · rw [words_any h32]
        cases wordsL.any fun w => strEq w x <;> rfl
theorem con8_ok : ConOk Tryz.prog 8 con8 := f8.ok (fun x y h => by cases h; exact spec8 x) con23_ok

theorem spec9 (x : ByteArray) : ∃ n, f9.g n x = some (nameS x) := by
  refine ⟨x.size + 1, ?_⟩
  unfold f9.g nameS
  rw [cond_or', show decide ((x.size : Int) < (1 : Int)) = decide (x.size < 1) from len_lt _ 1, show decide ((x.size : Int) > (63 : Int)) = decide (x.size > 63) from len_gt _ 63]
  cases hs : decide (x.size < 1) || decide (x.size > 63) with
  | true => rfl
  | false =>
    simp only [Bool.or_eq_false_iff, decide_eq_false_iff_not] at hs
    simp only [cond_false]
    have p1 : (decide (0 ≤ (0 : Int)) && decide ((0 : Int) < (x.size : Int))) = true := by simp; omega
    have key : ∀ r1 r2, iter (f9.s1 (x.size + 1) x r1 r2) (x.size + 1) 0 = some ((bytesI x).all fun c => smallI c || digitI c) := fun r1 r2 => all_loop (l := bytesI x) (fun c => smallI c || digitI c) (by rw [bytes_len]; omega) (fun S => by
      rw [bytes_len]
      have : decide ((x.size : Int) < (x.size : Int)) = false := by simp
      simp only [f9.s1, this, cond_false]) (fun S i v hi hv => by
      rw [bytes_len] at hi
      have q : decide ((i : Int) < (x.size : Int)) = true := by simp; exact hi
      simp only [f9.s1, q, at_ge, byte_at hv, nx (show i ≤ _ by omega), Bool.and_self, cond_true, small_eq', digit_eq]
      cases smallI v <;> cases digitI v <;> rfl)
    rw [p1, cond_true, small_eq']
    have e27 : F27 () = some wordsL := rfl
    have e26 : F26 (wordsL, x) = some (wordsL.any fun w => strEq w x) := by
      show (bif okB 16 wordsL then some (wordsL.any fun w => strEq w x) else none) = _
      rw [show okB 16 wordsL = true from rfl]; rfl
    cases smallI (byteAt x 0) with
    | false => rfl
    | true =>
      simp only [Bool.not_true, cond_false, e27, e26, Option.bind_some, key, Bool.false_or]
      cases wordsL.any fun w => strEq w x <;> rfl
theorem con9_ok : ConOk Tryz.prog 9 con9 := f9.ok (fun x y h => by cases h; exact spec9 x) con26_ok con27_ok

/-! ### Values -/
theorem nat_beq (a b : Nat) : (((a : Int)) == ((b : Int))) = (a == b) := by
  rw [Bool.eq_iff_iff, beq_iff_eq, beq_iff_eq]; omega
theorem int_ne (a b : Int) : (a != b) = !(a == b) := rfl
theorem nat_ne (a b : Nat) : (((a : Int)) != ((b : Int))) = !(a == b) := by rw [int_ne, nat_beq]
theorem okV_size {x : dValue} (h : okV x = true) : x.2.2.2.size ≤ 140737488355328 := of_decide_eq_true (show decide (x.2.2.2.size ≤ 140737488355328) = true from h)
theorem check_ok (x : dValue) (q : okV x = true) : f42.g 0 x = some (checkV x) ∧ f43.g 0 x = some (checkV x) := by
  have hq := okV_size q
  have e21 : F57 x.2.2.2 = some (Lib.validD x.2.2.2.data.toList) := by
    show (bif decide (x.2.2.2.size ≤ 9223372036854775807) then _ else _) = _
    rw [decide_eq_true (by omega)]; rfl
  have e0 : (((x.2.2.1 : Nat) : Int) != 0) = (x.2.2.1 != 0) := nat_ne _ 0
  simp only [f42.g, f43.g, F56, e21, Option.bind_some, e0, checkV, noS]
  simp only [bne]
  generalize decide (x.1 < 0) = k0
  generalize decide (x.1 > 5) = k9
  generalize (x.1 == 1) = k1
  generalize (x.1 == 2) = k2
  generalize (x.1 == 3) = k3
  generalize (x.1 == 4) = k4
  generalize (x.1 == 5) = k5
  generalize (x.2.1 == 0) = n0
  generalize (x.2.1 == 1) = n1
  generalize (x.2.2.1 == 0) = z
  generalize strEq x.2.2.2 ⟨#[]⟩ = e
  generalize Lib.validD x.2.2.2.data.toList = v
  generalize decide ((x.2.2.2.size : Int) > 65536) = g
  constructor
  · cases k0
    · cases k9
      · cases k1 <;> cases n0 <;> cases n1 <;> first | rfl | (cases k2 <;> cases k3 <;> cases z <;> first | rfl | (cases k4 <;> cases k5 <;> cases e <;> cases v <;> cases g <;> rfl))
      · rfl
    · rfl
  · cases k0
    · cases k9
      · cases k1 <;> cases n0 <;> cases n1 <;> first | rfl | (cases k2 <;> cases k3 <;> cases z <;> first | rfl | (cases k4 <;> cases k5 <;> cases e <;> cases v <;> cases g <;> rfl))
      · rfl
    · rfl
theorem F42_some {x : dValue} (h : okV x = true) : F42 x = some (checkV x) := by unfold F42; rw [h]; rfl
theorem F43_some {x : dValue} (h : okV x = true) : F43 x = some (checkV x) := F42_some h
theorem con42_ok : ConOk Tryz.prog 42 con42 := f42.ok (fun x y h => ⟨0, by
  obtain ⟨q, rfl⟩ := some_bif (show (bif okV x then some (checkV x) else none) = some y from h)
  exact (check_ok x q).1⟩) con56_ok con57_ok
theorem con43_ok : ConOk Tryz.prog 43 con43 := f43.ok (fun x y h => ⟨0, by
  obtain ⟨q, rfl⟩ := some_bif (show (bif okV x then some (checkV x) else none) = some y from h)
  exact (check_ok x q).2⟩) con56_ok con57_ok
theorem con44_ok : ConOk Tryz.prog 44 con44 := f44.ok (fun x y h => ⟨0, by
  cases h
  simp only [f44.g, F56, Option.bind_some, nat_beq, sameV]
  cases x.1.1 == x.2.1 <;> cases x.1.2.1 == x.2.2.1 <;> cases x.1.2.2.1 == x.2.2.2.1 <;> rfl⟩) con56_ok

end Go.Proofs.YtfgfdpbeddnfhaaGreatDoor.AI
