/- What keeps bounds, and sums and opposites: plain. -/
import Derived.Test.YtdeblempnmklfaaDoorPo
namespace Go.Proofs.YtdeblempnmklfaaDoor
open Go Go.RowKit
set_option linter.unusedVariables false
set_option linter.unusedSimpArgs false

theorem keeps_inf {x d : Int} (hd : 1 ≤ d) : keepsB 2147483647 x d = true := decide_eq_true ⟨hd, .inl rfl⟩
theorem keeps_fin {b x d : Int} (h : someB b = true) (hd : 1 ≤ d) : keepsB b x d = decide (x < b / 2 * d + b % 2) := by
  have hn : b ≠ 2147483647 := by rintro rfl; exact absurd h (by decide +kernel)
  unfold keepsB
  congr 1
  simp [h, hn, hd]
theorem some_parts {b : Int} (h : someB b = true) : rightB b = true ∧ b ≠ 2147483647 := by simpa [someB] using h

/-- Two differences that keep both have a sum that keeps the sum's bound. -/
theorem plus_keeps {a b x y d : Int} (hd : 1 ≤ d) (h : (sumP [a, b]).2 = 0) (h1 : keepsB a x d = true) (h2 : keepsB b y d = true) : keepsB (sumP [a, b]).1 (x + y) d = true := by
  obtain ⟨ha, hb⟩ := sum_ok h
  by_cases i : a = 2147483647 ∨ b = 2147483647
  · rw [sum_two_inf ha hb i]; exact keeps_inf hd
  · have ia : a ≠ 2147483647 := fun e => i (.inl e)
    have ib : b ≠ 2147483647 := fun e => i (.inr e)
    rw [sum_two ha hb ia ib] at h ⊢
    obtain ⟨_, _, e1, e2, e3, e4⟩ := ofB_ok h
    rw [keeps_fin (fin_some ha ia) hd] at h1
    rw [keeps_fin (fin_some hb ib) hd] at h2
    rw [keeps_fin (fin_some e3 e4) hd, e1]
    have h1 := of_decide_eq_true h1
    have h2 := of_decide_eq_true h2
    rw [Int.add_mul]
    generalize a / 2 * d = P at *
    generalize b / 2 * d = Q at *
    generalize (ofB (a / 2 + b / 2) (decide (a % 2 = 1) && decide (b % 2 = 1))).1 = c at *
    apply decide_eq_true
    by_cases ra : a % 2 = 1
    · by_cases rb : b % 2 = 1
      · have : c % 2 = 1 := of_decide_eq_true (by rw [e2]; simp [ra, rb])
        omega
      · omega
    · omega

/-- The smaller bound is the stricter one. -/
theorem stricter_keeps {a b x d : Int} (ha : rightB a = true) (hb : rightB b = true) (hd : 1 ≤ d) (hab : a ≤ b) (h : keepsB a x d = true) : keepsB b x d = true := by
  by_cases ib : b = 2147483647
  · rw [ib]; exact keeps_inf hd
  · have h2 := rightB_bd hb ib
    have ia : a ≠ 2147483647 := by omega
    rw [keeps_fin (fin_some ha ia) hd] at h
    rw [keeps_fin (fin_some hb ib) hd]
    have h := of_decide_eq_true h
    apply decide_eq_true
    by_cases e : a / 2 = b / 2
    · rw [e] at h; omega
    · have hm := Int.mul_le_mul_of_nonneg_right (show a / 2 + 1 ≤ b / 2 by omega) (show (0 : Int) ≤ d by omega)
      rw [Int.add_mul, Int.one_mul] at hm
      generalize a / 2 * d = P at *
      generalize b / 2 * d = Q at *
      omega

theorem not_fin {a : Int} (h : someB a = true) : notP a = (1 - a, 0) := by
  obtain ⟨hr, hn⟩ := some_parts h
  have hb := rightB_bd hr hn
  unfold notP
  rw [if_pos h]
  unfold ofB
  rw [if_neg (by omega)]
  by_cases e : a % 2 = 1
  · simp [e]; omega
  · simp [e]; omega
theorem not_keeps {a x d : Int} (h : someB a = true) (hd : 1 ≤ d) : keepsB (1 - a) (-x) d = !keepsB a x d := by
  obtain ⟨hr, hn⟩ := some_parts h
  have hb := rightB_bd hr hn
  have hs : someB (1 - a) = true := fin_some (decide_eq_true (.inr (by omega))) (by omega)
  rw [keeps_fin h hd, keeps_fin hs hd]
  have e : (1 - a) / 2 = -(a / 2) := by omega
  rw [e, Int.neg_mul]
  generalize a / 2 * d = P
  by_cases c : x < P + a % 2
  · rw [decide_eq_true c, decide_eq_false (by omega)]; rfl
  · rw [decide_eq_false c, decide_eq_true (by omega)]; rfl

end Go.Proofs.YtdeblempnmklfaaDoor
