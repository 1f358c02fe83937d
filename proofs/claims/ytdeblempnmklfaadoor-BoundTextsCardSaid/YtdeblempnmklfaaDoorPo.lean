/- Sums of bounds in any order: plain. -/
import Derived.Test.YtdeblempnmklfaaDoorPb
namespace Go.Proofs.YtdeblempnmklfaaDoor
open Go Go.RowKit
set_option linter.unusedVariables false
set_option linter.unusedSimpArgs false

theorem inf_right : rightB 2147483647 = true := by decide +kernel
theorem fin_some {a : Int} (h : rightB a = true) (h' : a ≠ 2147483647) : someB a = true := by simp [someB, h, h']
theorem sum_bad {l : List Int} (h : ¬ l.all rightB = true) : sumP l = (0, 7) := by unfold sumP; rw [if_neg h]
theorem sum_two {a b : Int} (ha : rightB a = true) (hb : rightB b = true) (ha' : a ≠ 2147483647) (hb' : b ≠ 2147483647) :
    sumP [a, b] = ofB (a / 2 + b / 2) (decide (a % 2 = 1) && decide (b % 2 = 1)) := by
  have h1 := rightB_bd ha ha'
  have h2 := rightB_bd hb hb'
  have e0 : infUp [a, b] 2 = false := by simp [infUp, ha', hb']
  have e1 : redUp [a, b] 2 = (decide (a % 2 = 1) && decide (b % 2 = 1)) := by simp [redUp]
  have e2 : sumUp [a, b] 2 = a / 2 + b / 2 := by simp [sumUp, wrap64]; omega
  unfold sumP
  rw [if_pos (by simp [ha, hb])]
  show (if infUp [a, b] 2 = true then _ else ofB (sumUp [a, b] 2) (redUp [a, b] 2)) = _
  rw [e0, e1, e2]
  rfl
theorem sum_two_inf {a b : Int} (ha : rightB a = true) (hb : rightB b = true) (h : a = 2147483647 ∨ b = 2147483647) : sumP [a, b] = (2147483647, 0) := by
  have e0 : infUp [a, b] 2 = true := by rcases h with h | h <;> simp [infUp, h]
  unfold sumP
  rw [if_pos (by simp [ha, hb])]
  show (if infUp [a, b] 2 = true then _ else _) = _
  rw [e0]
  rfl
theorem sum_three {a b c : Int} (ha : rightB a = true) (hb : rightB b = true) (hc : rightB c = true) (ha' : a ≠ 2147483647) (hb' : b ≠ 2147483647) (hc' : c ≠ 2147483647) :
    sumP [a, b, c] = ofB (a / 2 + b / 2 + c / 2) (decide (a % 2 = 1) && decide (b % 2 = 1) && decide (c % 2 = 1)) := by
  have h1 := rightB_bd ha ha'
  have h2 := rightB_bd hb hb'
  have h3 := rightB_bd hc hc'
  have e0 : infUp [a, b, c] 3 = false := by simp [infUp, ha', hb', hc']
  have e1 : redUp [a, b, c] 3 = (decide (a % 2 = 1) && decide (b % 2 = 1) && decide (c % 2 = 1)) := by simp [redUp]
  have e2 : sumUp [a, b, c] 3 = a / 2 + b / 2 + c / 2 := by simp [sumUp, wrap64]; omega
  unfold sumP
  rw [if_pos (by simp [ha, hb, hc])]
  show (if infUp [a, b, c] 3 = true then _ else ofB (sumUp [a, b, c] 3) (redUp [a, b, c] 3)) = _
  rw [e0, e1, e2]
  rfl
theorem sum_three_inf {a b c : Int} (ha : rightB a = true) (hb : rightB b = true) (hc : rightB c = true) (h : a = 2147483647 ∨ b = 2147483647 ∨ c = 2147483647) : sumP [a, b, c] = (2147483647, 0) := by
  have e0 : infUp [a, b, c] 3 = true := by rcases h with h | h | h <;> simp [infUp, h]
  unfold sumP
  rw [if_pos (by simp [ha, hb, hc])]
  show (if infUp [a, b, c] 3 = true then _ else _) = _
  rw [e0]
  rfl
/-- A bound that was made. -/
theorem ofB_ok {v : Int} {r : Bool} (h : (ofB v r).2 = 0) : -268435456 ≤ v ∧ v ≤ 268435456 ∧ (ofB v r).1 / 2 = v ∧ decide ((ofB v r).1 % 2 = 1) = r ∧ rightB (ofB v r).1 = true ∧ (ofB v r).1 ≠ 2147483647 := by
  unfold ofB at h ⊢
  by_cases c : v < -268435456 ∨ 268435456 < v
  · rw [if_pos c] at h; cases h
  · rw [if_neg c]
    cases r
    · have e : decide ((2 * v + 0) % 2 = 1) = false := decide_eq_false (by omega)
      refine ⟨by omega, by omega, ?_, e, ?_, ?_⟩
      · show (2 * v + 0) / 2 = v; omega
      · exact decide_eq_true (.inr (by show _ ≤ 2 * v + 0 ∧ 2 * v + 0 ≤ _; omega))
      · show 2 * v + 0 ≠ _; omega
    · have e : decide ((2 * v + 1) % 2 = 1) = true := decide_eq_true (by omega)
      refine ⟨by omega, by omega, ?_, e, ?_, ?_⟩
      · show (2 * v + 1) / 2 = v; omega
      · exact decide_eq_true (.inr (by show _ ≤ 2 * v + 1 ∧ 2 * v + 1 ≤ _; omega))
      · show 2 * v + 1 ≠ _; omega

theorem sum_comm2 (a b : Int) : sumP [a, b] = sumP [b, a] := by
  by_cases h : rightB a = true ∧ rightB b = true
  · by_cases i : a = 2147483647 ∨ b = 2147483647
    · rw [sum_two_inf h.1 h.2 i, sum_two_inf h.2 h.1 i.symm]
    · rw [sum_two h.1 h.2 (fun e => i (.inl e)) (fun e => i (.inr e)), sum_two h.2 h.1 (fun e => i (.inr e)) (fun e => i (.inl e)), Int.add_comm, Bool.and_comm]
  · rw [sum_bad (by simpa using fun x y => h ⟨x, y⟩), sum_bad (by simpa using fun x y => h ⟨y, x⟩)]
/-- What is known where a sum could be made. -/
theorem sum_ok {a b : Int} (h : (sumP [a, b]).2 = 0) : rightB a = true ∧ rightB b = true := by
  by_cases c : rightB a = true ∧ rightB b = true
  · exact c
  · rw [sum_bad (by simpa using fun x y => c ⟨x, y⟩)] at h; cases h
theorem sum_assoc {a b c : Int} (h1 : (sumP [a, b]).2 = 0) (h2 : (sumP [b, c]).2 = 0) : sumP [(sumP [a, b]).1, c] = sumP [a, b, c] ∧ sumP [a, (sumP [b, c]).1] = sumP [a, b, c] := by
  obtain ⟨ha, hb⟩ := sum_ok h1
  obtain ⟨_, hc⟩ := sum_ok h2
  by_cases ia : a = 2147483647
  · subst ia
    rw [sum_three_inf ha hb hc (.inl rfl), sum_two_inf ha hb (.inl rfl)]
    refine ⟨sum_two_inf inf_right hc (.inl rfl), sum_two_inf ha ?_ (.inl rfl)⟩
    by_cases i : b = 2147483647 ∨ c = 2147483647
    · rw [sum_two_inf hb hc i]; exact inf_right
    · rw [sum_two hb hc (fun e => i (.inl e)) (fun e => i (.inr e))] at h2 ⊢
      exact (ofB_ok h2).2.2.2.2.1
  · by_cases ic : c = 2147483647
    · subst ic
      rw [sum_three_inf ha hb hc (.inr (.inr rfl)), sum_two_inf hb hc (.inr rfl)]
      refine ⟨sum_two_inf ?_ hc (.inr rfl), sum_two_inf ha inf_right (.inr rfl)⟩
      by_cases i : b = 2147483647
      · rw [sum_two_inf ha hb (.inr i)]; exact inf_right
      · rw [sum_two ha hb ia i] at h1 ⊢
        exact (ofB_ok h1).2.2.2.2.1
    · by_cases ib : b = 2147483647
      · subst ib
        rw [sum_three_inf ha hb hc (.inr (.inl rfl)), sum_two_inf hb hc (.inl rfl), sum_two_inf ha hb (.inr rfl)]
        exact ⟨sum_two_inf inf_right hc (.inl rfl), by first | rfl | exact sum_two_inf ha inf_right (.inr rfl)⟩
      · rw [sum_three ha hb hc ia ib ic]
        rw [sum_two ha hb ia ib] at h1 ⊢
        rw [sum_two hb hc ib ic] at h2 ⊢
        obtain ⟨_, _, x1, x2, x3, x4⟩ := ofB_ok h1
        obtain ⟨_, _, y1, y2, y3, y4⟩ := ofB_ok h2
        rw [sum_two x3 hc x4 ic, sum_two ha y3 ia y4, x1, x2, y1, y2, Int.add_assoc, Bool.and_assoc]
        exact ⟨rfl, rfl⟩

end Go.Proofs.YtdeblempnmklfaaDoor
