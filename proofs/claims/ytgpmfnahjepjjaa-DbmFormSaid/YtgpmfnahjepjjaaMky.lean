/- Keys of cells: in the order of the cells, and unlike where these are. -/
import Derived.Test.YtgpmfnahjepjjaaKe
import Derived.Laws.BytesArg
namespace Go.Proofs.Ytgpmfnahjepjjaa
open Go
set_option linter.unusedVariables false
set_option linter.unusedSimpArgs false

/-- The order of two rows, after so many places: -1, 0, 1. -/
def cmpUp (xs ys : List Int) : Nat → Int
  | 0 => 0
  | p + 1 => if cmpUp xs ys p = 0 then (if xs.getD p 0 < ys.getD p 0 then -1 else if ys.getD p 0 < xs.getD p 0 then 1 else 0) else cmpUp xs ys p
theorem cmpUp_stays {xs ys : List Int} {p : Nat} (h : cmpUp xs ys p ≠ 0) : ∀ d, cmpUp xs ys (p + d) = cmpUp xs ys p
  | 0 => rfl
  | d + 1 => by
    have ih := cmpUp_stays h d
    show (if cmpUp xs ys (p + d) = 0 then _ else cmpUp xs ys (p + d)) = _
    rw [ih, if_neg h]
theorem cmpUp_bd (xs ys : List Int) : ∀ p, -1 ≤ cmpUp xs ys p ∧ cmpUp xs ys p ≤ 1
  | 0 => by simp [cmpUp]
  | p + 1 => by
    have ih := cmpUp_bd xs ys p
    unfold cmpUp
    split
    · split
      · omega
      · split <;> omega
    · exact ih
theorem cmpUp_cons (x y : Int) (xs ys : List Int) : ∀ p, cmpUp (x :: xs) (y :: ys) (p + 1) = if x < y then -1 else if y < x then 1 else cmpUp xs ys p
  | 0 => by simp [cmpUp]
  | p + 1 => by
    have ih := cmpUp_cons x y xs ys p
    show (if cmpUp (x :: xs) (y :: ys) (p + 1) = 0 then (if (x :: xs).getD (p + 1) 0 < (y :: ys).getD (p + 1) 0 then (-1 : Int) else if (y :: ys).getD (p + 1) 0 < (x :: xs).getD (p + 1) 0 then 1 else 0) else cmpUp (x :: xs) (y :: ys) (p + 1)) = _
    rw [ih]
    show _ = if x < y then -1 else if y < x then 1 else (if cmpUp xs ys p = 0 then (if xs.getD p 0 < ys.getD p 0 then (-1 : Int) else if ys.getD p 0 < xs.getD p 0 then 1 else 0) else cmpUp xs ys p)
    simp only [List.getD_cons_succ]
    by_cases h1 : x < y
    · simp [h1]
    · by_cases h2 : y < x
      · simp [h1, h2]
      · simp [h1, h2]
/-- The order of two lists, from the left. -/
def cmpL : List Int → List Int → Int
  | x :: xs, y :: ys => if x < y then -1 else if y < x then 1 else cmpL xs ys
  | _, _ => 0
theorem cmpUp_list : ∀ (xs ys : List Int), xs.length = ys.length → cmpUp xs ys xs.length = cmpL xs ys
  | [], [], _ => rfl
  | x :: xs, y :: ys, h => by
    rw [List.length_cons, cmpUp_cons, cmpUp_list xs ys (by simpa using h)]
    rfl
theorem cmpL_zero : ∀ (xs ys : List Int), xs.length = ys.length → (cmpL xs ys = 0 ↔ xs = ys)
  | [], [], _ => by simp [cmpL]
  | x :: xs, y :: ys, h => by
    have ih := cmpL_zero xs ys (by simpa using h)
    unfold cmpL
    by_cases h1 : x < y
    · rw [if_pos h1]; simp; omega
    · rw [if_neg h1]
      by_cases h2 : y < x
      · rw [if_pos h2]; simp; omega
      · rw [if_neg h2, ih]
        have : x = y := by omega
        simp [this]

/-- The order of bytes' numbers, from the left. -/
def lexI : List Int → List Int → Bool
  | _, [] => false
  | [], _ :: _ => true
  | a :: x, b :: y => decide (a < b) || (decide (a = b) && lexI x y)
theorem lex_bytes : ∀ (x y : List Int), (∀ a ∈ x, 0 ≤ a ∧ a ≤ 255) → (∀ a ∈ y, 0 ≤ a ∧ a ≤ 255) →
    Op.bytesLess (x.map fun n => UInt8.ofNat n.toNat) (y.map fun n => UInt8.ofNat n.toNat) = lexI x y
  | [], [], _, _ => rfl
  | _ :: _, [], _, _ => rfl
  | [], _ :: _, _, _ => rfl
  | a :: x, b :: y, hx, hy => by
    have ih := lex_bytes x y (fun c hc => hx c (List.mem_cons_of_mem _ hc)) (fun c hc => hy c (List.mem_cons_of_mem _ hc))
    have ha := hx a (List.mem_cons_self ..)
    have hb := hy b (List.mem_cons_self ..)
    simp only [List.map_cons, Op.bytesLess, lexI, ih]
    have e1 : (decide (UInt8.ofNat a.toNat < UInt8.ofNat b.toNat)) = decide (a < b) := by
      rw [decide_eq_decide, UInt8.lt_iff_toNat_lt]
      simp only [UInt8.toNat_ofNat']
      omega
    have e2 : (UInt8.ofNat a.toNat == UInt8.ofNat b.toNat) = decide (a = b) := by
      rw [Bool.eq_iff_iff]
      simp only [beq_iff_eq, decide_eq_true_eq]
      rw [← UInt8.toNat_inj]
      simp only [UInt8.toNat_ofNat']
      omega
    rw [e1, e2]

theorem digits (C : Int) (h0 : 0 ≤ C) (h1 : C < 4294967296) : ∃ a b c d : Int, C = a * 16777216 + b * 65536 + c * 256 + d ∧ (0 ≤ a ∧ a ≤ 255) ∧ (0 ≤ b ∧ b ≤ 255) ∧ (0 ≤ c ∧ c ≤ 255) ∧ (0 ≤ d ∧ d ≤ 255) ∧
    C / 16777216 % 256 = a ∧ C / 65536 % 256 = b ∧ C / 256 % 256 = c ∧ C % 256 = d :=
  ⟨C / 16777216 % 256, C / 65536 % 256, C / 256 % 256, C % 256, by omega, by omega, by omega, by omega, by omega, rfl, rfl, rfl, rfl⟩
theorem lex_four (c d : Int) (hc0 : -2147483648 ≤ c) (hc1 : c ≤ 2147483647) (hd0 : -2147483648 ≤ d) (hd1 : d ≤ 2147483647) (s t : List Int) :
    lexI (fourL c ++ s) (fourL d ++ t) = if c < d then true else if d < c then false else lexI s t := by
  obtain ⟨c1, c2, c3, c4, e, g1, g2, g3, g4, f1, f2, f3, f4⟩ := digits (c + 2147483648) (by omega) (by omega)
  obtain ⟨d1, d2, d3, d4, e', g1', g2', g3', g4', f1', f2', f3', f4'⟩ := digits (d + 2147483648) (by omega) (by omega)
  simp only [fourL, List.cons_append, List.nil_append, lexI]
  rw [f1, f2, f3, f4, f1', f2', f3', f4']
  clear f1 f2 f3 f4 f1' f2' f3' f4'
  by_cases h : c = d
  · subst h
    have k1 : c1 = d1 := by omega
    have k2 : c2 = d2 := by omega
    have k3 : c3 = d3 := by omega
    have k4 : c4 = d4 := by omega
    simp [k1, k2, k3, k4]
  · by_cases h1 : c < d
    · rw [if_pos h1]
      simp only [Bool.or_eq_true, Bool.and_eq_true, decide_eq_true_eq]
      by_cases k1 : c1 = d1
      · by_cases k2 : c2 = d2
        · by_cases k3 : c3 = d3
          · exact .inr ⟨k1, .inr ⟨k2, .inr ⟨k3, .inl (by omega)⟩⟩⟩
          · exact .inr ⟨k1, .inr ⟨k2, .inl (by omega)⟩⟩
        · exact .inr ⟨k1, .inl (by omega)⟩
      · exact .inl (by omega)
    · rw [if_neg h1, if_pos (by omega)]
      rw [Bool.eq_false_iff]
      simp only [ne_eq, Bool.or_eq_true, Bool.and_eq_true, decide_eq_true_eq]
      intro hh
      rcases hh with hh | ⟨k1, hh | ⟨k2, hh | ⟨k3, hh | ⟨k4, _⟩⟩⟩⟩ <;> omega
theorem lex_fours : ∀ (xs ys : List Int), xs.length = ys.length → (∀ c ∈ xs, -2147483648 ≤ c ∧ c ≤ 2147483647) → (∀ c ∈ ys, -2147483648 ≤ c ∧ c ≤ 2147483647) →
    lexI (xs.flatMap fourL) (ys.flatMap fourL) = decide (cmpL xs ys < 0)
  | [], [], _, _, _ => rfl
  | x :: xs, y :: ys, h, hx, hy => by
    have ih := lex_fours xs ys (by simpa using h) (fun c hc => hx c (List.mem_cons_of_mem _ hc)) (fun c hc => hy c (List.mem_cons_of_mem _ hc))
    have ha := hx x (List.mem_cons_self ..)
    have hb := hy y (List.mem_cons_self ..)
    rw [List.flatMap_cons, List.flatMap_cons, lex_four x y ha.1 ha.2 hb.1 hb.2, ih]
    show _ = decide ((if x < y then -1 else if y < x then 1 else cmpL xs ys) < 0)
    by_cases h1 : x < y
    · simp [h1]
    · by_cases h2 : y < x
      · simp [h1, h2]
      · simp [h1, h2]
theorem keyL_flat (n : Nat) (xs : List Int) : ∀ p, p ≤ xs.length → keyL n xs p = (n : Int) :: (xs.take p).flatMap fourL
  | 0, _ => by simp [keyL]
  | p + 1, h => by
    rw [show keyL n xs (p + 1) = keyL n xs p ++ fourL (xs.getD p 0) from rfl, keyL_flat n xs p (by omega), List.take_succ_eq_append_getElem (by omega), List.flatMap_append, List.getD_eq_getElem?_getD, List.getElem?_eq_getElem (by omega)]
    simp
theorem keyL_whole (n : Nat) (xs : List Int) : keyL n xs xs.length = (n : Int) :: xs.flatMap fourL := by
  rw [keyL_flat n xs _ (Nat.le_refl _), List.take_length]
theorem four_bytes (c : Int) : ∀ a ∈ fourL c, 0 ≤ a ∧ a ≤ 255 := by
  intro a ha
  simp only [fourL, List.mem_cons, List.mem_nil_iff, or_false] at ha
  rcases ha with rfl | rfl | rfl | rfl <;> omega
theorem key_bytes (n : Nat) (hn : n ≤ 8) (xs : List Int) : ∀ a ∈ keyL n xs xs.length, 0 ≤ a ∧ a ≤ 255 := by
  intro a ha
  rw [keyL_whole] at ha
  rcases List.mem_cons.1 ha with rfl | h
  · omega
  · obtain ⟨c, _, h⟩ := List.mem_flatMap.1 h
    exact four_bytes c a h

/-- Keys of zones of as many clocks: which comes first. -/
theorem key_less (n : Nat) (hn : n ≤ 8) (xs ys : List Int) (h : xs.length = ys.length) (hx : ∀ c ∈ xs, -2147483648 ≤ c ∧ c ≤ 2147483647) (hy : ∀ c ∈ ys, -2147483648 ≤ c ∧ c ≤ 2147483647) :
    Op.bytesLess (strOfNums (keyL n xs xs.length)).toList (strOfNums (keyL n ys ys.length)).toList = decide (cmpUp xs ys xs.length < 0) := by
  rw [cmpUp_list xs ys h]
  rw [ByteArray.toList_eq, ByteArray.toList_eq, strOfNums_data, strOfNums_data, lex_bytes _ _ (key_bytes n hn xs) (key_bytes n hn ys), keyL_whole, keyL_whole]
  simp only [lexI]
  rw [lex_fours xs ys h hx hy]
  simp
theorem lexI_self : ∀ x : List Int, lexI x x = false
  | [] => rfl
  | a :: x => by simp [lexI, lexI_self x]
theorem cmpL_swap : ∀ (xs ys : List Int), cmpL ys xs = - cmpL xs ys
  | [], [] => rfl
  | [], _ :: _ => rfl
  | _ :: _, [] => rfl
  | x :: xs, y :: ys => by
    have ih := cmpL_swap xs ys
    unfold cmpL
    by_cases h1 : x < y
    · rw [if_neg (by omega), if_pos h1, if_pos h1]; rfl
    · by_cases h2 : y < x
      · rw [if_pos h2, if_neg h1, if_pos h2]
      · rw [if_neg h2, if_neg h1, if_neg h1, if_neg h2, ih]
theorem key_same (n : Nat) (hn : n ≤ 8) (xs ys : List Int) (h : xs.length = ys.length) (hx : ∀ c ∈ xs, -2147483648 ≤ c ∧ c ≤ 2147483647) (hy : ∀ c ∈ ys, -2147483648 ≤ c ∧ c ≤ 2147483647) :
    ((strOfNums (keyL n xs xs.length)).toList == (strOfNums (keyL n ys ys.length)).toList) = decide (xs = ys) := by
  rw [Bool.eq_iff_iff]
  simp only [beq_iff_eq, decide_eq_true_eq]
  constructor
  · intro e
    have h1 := key_less n hn xs ys h hx hy
    have h2 := key_less n hn ys xs h.symm hy hx
    rw [e] at h1
    rw [← e] at h2
    have e1 : ∀ l : List UInt8, Op.bytesLess l l = false := fun l => by
      induction l with
      | nil => rfl
      | cons a l ih => simp [Op.bytesLess, ih]
    rw [e1] at h1 h2
    have h1 := of_decide_eq_false h1.symm
    have h2 := of_decide_eq_false h2.symm
    rw [cmpUp_list xs ys h] at h1
    rw [cmpUp_list ys xs h.symm, cmpL_swap] at h2
    exact (cmpL_zero xs ys h).1 (by omega)
  · intro e
    rw [e]

end Go.Proofs.Ytgpmfnahjepjjaa
