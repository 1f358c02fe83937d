/- Bounds as texts: plain. -/
import Derived.Test.YtdeblempnmklfaaDoorPo
import Derived.Lib.ItoaNum
import Derived.Lib.ItoaLen
import Derived.Lib.AtoiTie
import Derived.Lib.Strings
namespace Go.Proofs.YtdeblempnmklfaaDoor
open Go Go.RowKit
set_option linter.unusedVariables false
set_option linter.unusedSimpArgs false

theorem decFrom_app (l m : List UInt8) : ∀ acc, Lib.decFrom acc (l ++ m) = (Lib.decFrom acc l).bind fun n => Lib.decFrom n m := by
  induction l with
  | nil => intro acc; rfl
  | cons a t ih =>
    intro acc
    simp only [List.cons_append, Lib.decFrom]
    cases Lib.digitVal a with
    | none => rfl
    | some d => exact ih _
theorem digit_of (k : Nat) (h : k < 10) : Lib.digitVal (UInt8.ofNat (48 + k)) = some k := by
  have e : (UInt8.ofNat (48 + k)).toNat = 48 + k := by simp; omega
  unfold Lib.digitVal
  rw [if_pos (by omega), e]
  congr 1
  omega
/-- The digits of a number spell it. -/
theorem decFrom_digits (u : Nat) : Lib.decFrom 0 (Lib.decDigits u) = some u := by
  induction u using Nat.strongRecOn with
  | _ u ih =>
    by_cases h : u < 10
    · rw [Lib.decDigits, dif_pos h, Lib.decFrom, digit_of u h]
      show Lib.decFrom (0 * 10 + u) [] = _
      simp [Lib.decFrom]
    · rw [Lib.decDigits, dif_neg h, decFrom_app, ih (u / 10) (by omega)]
      show Lib.decFrom (u / 10) [UInt8.ofNat (48 + u % 10)] = _
      rw [Lib.decFrom, digit_of (u % 10) (by omega)]
      show Lib.decFrom (u / 10 * 10 + u % 10) [] = _
      simp only [Lib.decFrom]
      congr 1
      omega
theorem digits_some (u : Nat) : Lib.decDigits u ≠ [] := by
  intro e
  have := Lib.decDigits_length u
  rw [e] at this
  have := Lib.nDigits_pos u
  simp at *
  omega
/-- A digit stands first. -/
theorem digits_head (u : Nat) : ∃ d r, d < 10 ∧ Lib.decDigits u = UInt8.ofNat (48 + d) :: r := by
  induction u using Nat.strongRecOn with
  | _ u ih =>
    by_cases h : u < 10
    · exact ⟨u, [], h, by rw [Lib.decDigits, dif_pos h]⟩
    · obtain ⟨d, r, hd, e⟩ := ih (u / 10) (by omega)
      exact ⟨d, r ++ [UInt8.ofNat (48 + u % 10)], hd, by rw [Lib.decDigits, dif_neg h, e]; rfl⟩
theorem head_ne (d k : Nat) (h : d < 10) (hk : k < 48) : UInt8.ofNat (48 + d) ≠ UInt8.ofNat k := by
  intro e
  have := congrArg UInt8.toNat e
  simp at this
  omega
theorem atoi_itoa (n : Int) : Lib.atoi (Lib.itoa n) = some n := by
  unfold Lib.itoa
  by_cases h : n < 0
  · rw [if_pos h]
    have hn : Lib.decNat (Lib.decDigits n.natAbs) = some n.natAbs := by
      unfold Lib.decNat
      rw [if_neg (by simpa using digits_some n.natAbs), decFrom_digits]
    have h1 : ((45 : UInt8) == 45) = true := rfl
    simp only [Lib.atoi, h1, hn]
    simp
    omega
  · rw [if_neg h]
    obtain ⟨d, r, hd, e⟩ := digits_head n.toNat
    have hn : Lib.decNat (Lib.decDigits n.toNat) = some n.toNat := by
      unfold Lib.decNat
      rw [if_neg (by simpa using digits_some n.toNat), decFrom_digits]
    rw [e] at hn ⊢
    have h1 : (UInt8.ofNat (48 + d) == 45) = false := beq_eq_false_iff_ne.2 (head_ne d 45 hd (by omega))
    have h2 : (UInt8.ofNat (48 + d) == 43) = false := beq_eq_false_iff_ne.2 (head_ne d 43 hd (by omega))
    simp only [Lib.atoi, h1, h2, hn]
    simp
    omega
theorem itoa_short (n : Int) (h0 : -268435456 ≤ n) (h1 : n ≤ 268435456) : (Lib.itoa n).length ≤ 18 := by
  have hd : ∀ u : Nat, u ≤ 268435456 → (Lib.decDigits u).length ≤ 9 := fun u hu => by
    rw [Lib.decDigits_length]
    by_cases c : Lib.nDigits u ≤ 9
    · exact c
    · exfalso
      have := Lib.nDigits_pos u
      have hp : ∀ k u, k + 1 ≤ Lib.nDigits u → 0 < k → 10 ^ k ≤ u := fun k => by
        induction k with
        | zero => intro u _ h; omega
        | succ k ih =>
          intro u h _
          by_cases c : u < 10
          · rw [Lib.nDigits_small c] at h; omega
          · rw [Lib.nDigits_big c] at h
            by_cases hk : 0 < k
            · have := ih (u / 10) (by omega) hk
              rw [Nat.pow_succ]; omega
            · have : k = 0 := by omega
              subst this
              simpa using (show 10 ≤ u by omega)
      have := hp 9 u (by omega) (by omega)
      omega
  unfold Lib.itoa
  split
  · rw [List.length_cons]; have := hd n.natAbs (by omega); omega
  · have := hd n.toNat (by omega); omega
theorem atoiAll_itoa (n : Int) (h0 : -268435456 ≤ n) (h1 : n ≤ 268435456) : Lib.atoiAll (Lib.itoa n) = .ok n := by
  rw [Lib.atoiAll_short _ (itoa_short n h0 h1), atoi_itoa]
  rfl
/-- What stands first in a numeral: a digit, or '-'. -/
theorem itoa_head (n : Int) : ∃ c r, Lib.itoa n = c :: r ∧ c ≠ 61 ∧ c ≠ 60 := by
  unfold Lib.itoa
  split
  · exact ⟨45, _, rfl, by decide, by decide⟩
  · obtain ⟨d, r, hd, e⟩ := digits_head n.toNat
    refine ⟨_, r, e, ?_, ?_⟩
    · intro e
      have := congrArg UInt8.toNat e
      simp at this
      omega
    · intro e
      have := congrArg UInt8.toNat e
      simp at this
      omega

/-- A bound as a row of bytes. -/
def printL (b : Int) : List UInt8 := if b = 2147483647 then [105, 110, 102] else if someB b then (if b % 2 = 1 then [60, 61] else [60]) ++ Lib.itoa (b / 2) else []
theorem printL_some {b : Int} (h : someB b = true) : printL b = (if b % 2 = 1 then [60, 61] else [60]) ++ Lib.itoa (b / 2) := by
  have hn : b ≠ 2147483647 := by rintro rfl; exact absurd h (by decide +kernel)
  unfold printL
  rw [if_neg hn, if_pos h]
theorem printL_not_inf {b : Int} (h : someB b = true) : printL b ≠ [105, 110, 102] := by
  rw [printL_some h]
  split <;> intro e <;> cases e
/-- Texts of two bounds are two. -/
theorem printL_inj {a b : Int} (ha : someB a = true) (hb : someB b = true) (h : printL a = printL b) : a = b := by
  rw [printL_some ha, printL_some hb] at h
  have key : ∀ x y : Int, Lib.itoa x = Lib.itoa y → x = y := fun x y e => by
    have := atoi_itoa x
    rw [e, atoi_itoa] at this
    exact (Option.some.inj this).symm
  obtain ⟨c1, r1, e1, n1, _⟩ := itoa_head (a / 2)
  obtain ⟨c2, r2, e2, n2, _⟩ := itoa_head (b / 2)
  by_cases x : a % 2 = 1
  · by_cases y : b % 2 = 1
    · rw [if_pos x, if_pos y] at h
      have := key _ _ (by simpa using h)
      omega
    · rw [if_pos x, if_neg y, e2] at h
      simp at h
      exact absurd h.1.symm n2
  · by_cases y : b % 2 = 1
    · rw [if_neg x, if_pos y, e1] at h
      simp at h
      exact absurd h.1 n1
    · rw [if_neg x, if_neg y] at h
      have := key _ _ (by simpa using h)
      omega

/-- What a text tells of: no bound, a bound, or an error. -/
def ParsesTo (s : List UInt8) (r : Int × Int) : Prop :=
  (s = [105, 110, 102] ∧ r = (2147483647, 0)) ∨ (∃ b, someB b = true ∧ printL b = s ∧ r = (b, 0)) ∨ (s ≠ [105, 110, 102] ∧ (∀ b, someB b = true → printL b ≠ s) ∧ r = (0, 7))
theorem parses_one {s : List UInt8} {r r' : Int × Int} (h : ParsesTo s r) (h' : ParsesTo s r') : r = r' := by
  rcases h with ⟨h1, h2⟩ | ⟨b, h1, h2, h3⟩ | ⟨h1, h2, h3⟩ <;> rcases h' with ⟨k1, k2⟩ | ⟨c, k1, k2, k3⟩ | ⟨k1, k2, k3⟩
  · rw [h2, k2]
  · exact absurd (k2.trans h1) (printL_not_inf k1)
  · exact absurd h1 k1
  · exact absurd (h2.trans k1) (printL_not_inf h1)
  · rw [h3, k3, printL_inj h1 k1 (h2.trans k2.symm)]
  · exact absurd h2 (k2 b h1)
  · exact absurd k1 h1
  · exact absurd k2 (h2 c k1)
  · rw [h3, k3]

/-- A bound that was made is the one that is printed so. -/
theorem made_some {v : Int} {r : Bool} (h : (ofB v r).2 = 0) : someB (ofB v r).1 = true := by
  obtain ⟨_, _, _, _, h3, h4⟩ := ofB_ok h
  exact fin_some h3 h4
theorem made_back {b : Int} (h : someB b = true) : ofB (b / 2) (decide (b % 2 = 1)) = (b, 0) := by
  obtain ⟨hr, hn⟩ : rightB b = true ∧ b ≠ 2147483647 := by simpa [someB] using h
  have := rightB_bd hr hn
  unfold ofB
  rw [if_neg (by omega)]
  by_cases e : b % 2 = 1
  · simp [e]; omega
  · simp [e]; omega

end Go.Proofs.YtdeblempnmklfaaDoor
