/- Bounds: their numbers, sums and opposites: plain. -/
import Derived.Test.YtdeblempnmklfaaDoorMat
import Derived.WalkKit
namespace Go.Proofs.YtdeblempnmklfaaDoor
open Go Go.RowKit
set_option linter.unusedVariables false
set_option linter.unusedSimpArgs false

/-- Is a bound finite, and right? -/
def someB (b : Int) : Bool := rightB b && decide (b ≠ 2147483647)
/-- The bound of a number, or the error. -/
def ofB (v : Int) (r : Bool) : Int × Int := if v < -268435456 ∨ 268435456 < v then (0, 10) else (2 * v + (if r then 1 else 0), 0)
/-- Is one of the first p without a bound? Are all reached? Their sum, as the machine reckons. -/
def infUp (l : List Int) : Nat → Bool
  | 0 => false
  | p + 1 => infUp l p || decide (l.getD p 0 = 2147483647)
def redUp (l : List Int) : Nat → Bool
  | 0 => true
  | p + 1 => redUp l p && decide (l.getD p 0 % 2 = 1)
def sumUp (l : List Int) : Nat → Int
  | 0 => 0
  | p + 1 => wrap64 (sumUp l p + l.getD p 0 / 2)
/-- The bound of the sum of all, or the error. -/
def sumP (l : List Int) : Int × Int := if l.all rightB then (if infUp l l.length then (2147483647, 0) else ofB (sumUp l l.length) (redUp l l.length)) else (0, 7)
theorem infUp_no {l : List Int} : ∀ {N}, infUp l N = false → ∀ q, q < N → l.getD q 0 ≠ 2147483647
  | 0, _, q, hq => by omega
  | N + 1, h, q, hq => by
    simp only [infUp, Bool.or_eq_false_iff, decide_eq_false_iff_not] at h
    by_cases e : q = N
    · subst e; exact h.2
    · exact infUp_no h.1 q (by omega)

/-- What Not tells. -/
def notP (b : Int) : Int × Int := if someB b then ofB (-(b / 2)) (!decide (b % 2 = 1)) else if rightB b then (0, 4) else (0, 7)

/-- A bound's number, and whether it is reached; 0 and no if it has none. -/
def numB (b : Int) : Int := if someB b then b / 2 else 0
def redB (b : Int) : Bool := someB b && decide (b % 2 = 1)
/-- The sum of the first p, as it is reckoned in one pass. -/
def sumAll (l : List Int) : Nat → Int
  | 0 => 0
  | p + 1 => wrap64 (sumAll l p + numB (l.getD p 0))
def redAll (l : List Int) : Nat → Bool
  | 0 => true
  | p + 1 => redAll l p && redB (l.getD p 0)
def badUp (l : List Int) : Nat → Bool
  | 0 => false
  | p + 1 => badUp l p || !rightB (l.getD p 0)
theorem badUp_all (l : List Int) : ∀ p, p ≤ l.length → badUp l p = !(l.take p).all rightB
  | 0, _ => rfl
  | p + 1, h => by
    have e : l.take (p + 1) = l.take p ++ [l.getD p 0] := by
      rw [List.take_succ_eq_append_getElem (by omega), List.getD_eq_getElem?_getD, List.getElem?_eq_getElem (by omega)]
      rfl
    rw [badUp, badUp_all l p (by omega), e, List.all_append]
    simp
theorem bad_all (l : List Int) : badUp l l.length = !l.all rightB := by
  rw [badUp_all l _ (Nat.le_refl _), List.take_length]
theorem same_up {l : List Int} : ∀ p, (∀ q, q < p → someB (l.getD q 0) = true) → sumAll l p = sumUp l p ∧ redAll l p = redUp l p
  | 0, _ => ⟨rfl, rfl⟩
  | p + 1, h => by
    obtain ⟨h1, h2⟩ := same_up p fun q hq => h q (by omega)
    have h3 := h p (by omega)
    exact ⟨by rw [sumAll, sumUp, h1, numB, if_pos h3], by rw [redAll, redUp, h2, redB, h3, Bool.true_and]⟩
theorem getD_right {l : List Int} (h : l.all rightB = true) (q : Nat) (hq : q < l.length) : rightB (l.getD q 0) = true := by
  rw [List.getD_eq_getElem?_getD, List.getElem?_eq_getElem hq]
  exact List.all_eq_true.1 h _ (List.getElem_mem hq)
/-- The answer, out of what one pass gathers. -/
def sumR (v : Int) (r i x : Bool) : Int × Int := if x then (0, 7) else if i then (2147483647, 0) else ofB v r
theorem sum_pass (l : List Int) : sumP l = sumR (sumAll l l.length) (redAll l l.length) (infUp l l.length) (badUp l l.length) := by
  unfold sumP sumR
  rw [bad_all]
  by_cases h : l.all rightB = true
  · rw [if_pos h, h]
    simp only [Bool.not_true, Bool.false_eq_true, if_false]
    by_cases i : infUp l l.length = true
    · rw [if_pos i, if_pos i]
    · rw [if_neg i, if_neg i]
      have := same_up (l := l) l.length fun q hq => by
        unfold someB
        rw [getD_right h q hq, decide_eq_true (infUp_no (by simpa using i) q hq)]
        rfl
      rw [this.1, this.2]
  · rw [if_neg h]
    simp [h]

/-- Does a fraction keep a bound? -/
def keepsB (b x d : Int) : Bool := decide (1 ≤ d ∧ (b = 2147483647 ∨ (someB b = true ∧ x < b / 2 * d + b % 2)))

end Go.Proofs.YtdeblempnmklfaaDoor
