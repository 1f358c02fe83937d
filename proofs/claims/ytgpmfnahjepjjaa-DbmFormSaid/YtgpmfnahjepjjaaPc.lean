/- Includes, Equal and Meets: the program's answers are the document's. -/
import Derived.Test.YtgpmfnahjepjjaaMcl
import Derived.Test.YtgpmfnahjepjjaaDf
import Derived.Test.YtgpmfnahjepjjaaDg
import Derived.Test.YtgpmfnahjepjjaaDh
import Derived.Test.YtgpmfnahjepjjaaRk
namespace Go.Proofs.Ytgpmfnahjepjjaa
set_option linter.unusedVariables false
set_option linter.unusedSimpArgs false

/-- A zone's shape, where there is one. -/
def ShapeZ (z : Option (Nat × Mat)) : Prop := match z with | some (n, m) => Shape n m ∧ RightM n m | none => True

theorem shape_empty {n : Nat} {m : Mat} (h : Shape n m) : emptyR (some (n, m)) = decide (m 0 0 < 1) := by
  show decide (m 0 0 ≠ 1) = decide (m 0 0 < 1)
  rcases h.cases with e | e
  · rw [e]; decide
  · rw [e 0 (by omega)]; decide

theorem le_flat {n : Nat} {m o : Mat} : (∀ i, i ≤ n → ∀ j, j ≤ n → o i j ≤ m i j) ↔ ∀ p, p < (flat n m).length → (flat n o).getD p 0 ≤ (flat n m).getD p 0 := by
  constructor
  · intro h p hp
    rw [flat_length] at hp
    rw [flat_getD _ _ _ hp, flat_getD _ _ _ hp]
    have h1 : p / (n + 1) < n + 1 := Nat.div_lt_of_lt_mul hp
    have h2 := Nat.mod_lt p (show 0 < n + 1 by omega)
    exact h _ (by omega) _ (by omega)
  · intro h i hi j hj
    have := h (i * (n + 1) + j) (by rw [flat_length]; exact at_lt (by omega) (by omega))
    rwa [flat_at _ (by omega) (by omega), flat_at _ (by omega) (by omega)] at this

theorem incl_law {z o : Option (Nat × Mat)} (hz : ShapeZ z) (ho : ShapeZ o) : inclP z o = inclR z o := by
  match z, o, hz, ho with
  | none, _, _, _ => rfl
  | some (n, m), none, _, _ => rfl
  | some (n, m), some (k, o), hz, ho =>
    by_cases e : n = k
    · subst e
      have hl : alikeP (some (n, m)) (some (n, o)) = true := decide_eq_true rfl
      have hp : inclP (some (n, m)) (some (n, o)) = inclM n m o := by
        show (decide (n = n) && inclM n m o) = _
        rw [decide_eq_true rfl, Bool.true_and]
      unfold inclR
      rw [if_pos hl, hp, shape_empty hz.1, shape_empty ho.1]
      unfold inclM
      by_cases h1 : o 0 0 < 1
      · rw [decide_eq_true (Or.inl h1), decide_eq_true h1]; simp
      · rw [decide_eq_false h1]
        by_cases h2 : m 0 0 < 1
        · rw [decide_eq_true h2]
          simp only [Bool.or_true, if_true]
          refine decide_eq_false fun h => ?_
          rcases h with h | h
          · exact h1 h
          · have := h 0 (by omega) 0 (by omega); omega
        · rw [decide_eq_false h2]
          simp only [Bool.or_self, Bool.false_eq_true, if_false]
          show _ = leL (flat n o) (flat n m)
          unfold leL
          congr 1
          rw [← le_flat]
          simp [h1]
    · have hl : alikeP (some (n, m)) (some (k, o)) = false := decide_eq_false e
      have hp : inclP (some (n, m)) (some (k, o)) = false := by
        show (decide (n = k) && inclM n m o) = _
        rw [decide_eq_false e, Bool.false_and]
      unfold inclR
      rw [hl, hp]; rfl

theorem eqM_iff (m o : Mat) : eqM m o = true ↔ ∀ i, i < 9 → ∀ j, j < 9 → m i j = o i j := by
  unfold eqM
  simp [List.all_eq_true]

theorem equal_law {z o : Option (Nat × Mat)} (hz : ShapeZ z) (ho : ShapeZ o) (hn : ∀ n m, z = some (n, m) → n ≤ 8) : equalP z o = eqR z o := by
  match z, o, hz, ho with
  | none, o, _, _ => unfold equalP eqR alikeP; simp
  | some (n, m), none, _, _ => unfold equalP eqR alikeP; simp
  | some (n, m), some (k, o), hz, ho =>
    by_cases e : n = k
    · subst e
      have h8 := hn n m rfl
      show (decide (n = n) && eqM m o) = (sameL (flat n m) (flat n o) && decide (n = n))
      rw [decide_eq_true rfl, Bool.true_and, Bool.and_true, Bool.eq_iff_iff, eqM_iff]
      constructor
      · intro h
        rw [flat_congr (o := o) fun i j hi hj => h i (by omega) j (by omega)]
        exact decide_eq_true rfl
      · intro h i hi j hj
        have hf : flat n m = flat n o := of_decide_eq_true h
        have : m = o := inside_ext hz.1.inside ho.1.inside fun i j hi hj => by
          rw [← flat_at m (show i < n + 1 by omega) (show j < n + 1 by omega), hf, flat_at _ (by omega) (by omega)]
        rw [this]
    · show (decide (n = k) && eqM m o) = (sameL (flat n m) (flat k o) && decide (n = k))
      rw [decide_eq_false e]; simp

theorem flat_min {n : Nat} {m o : Mat} (hm : RightM n m) : flat n (minM m o) = lessUp (flat n m) (flat n o) ((n + 1) * (n + 1)) :=
  list_ext0 (by rw [lessUp_length, flat_length, flat_length]) fun q hq => by
    rw [flat_length] at hq
    rw [lessUp_getD _ _ _ _ (by rw [flat_length]; exact hq), if_pos hq, flat_getD _ _ _ hq, flat_getD _ _ _ hq, flat_getD _ _ _ hq]
    have h1 : q / (n + 1) < n + 1 := Nat.div_lt_of_lt_mul hq
    have h2 := Nat.mod_lt q (show 0 < n + 1 by omega)
    have h := hm (q / (n + 1)) (q % (n + 1)) (by omega) (by omega)
    unfold rightB at h
    have := of_decide_eq_true h
    show min (min 2147483647 (m _ _)) (o _ _) = min (m _ _) (o _ _)
    have e : min 2147483647 (m (q / (n + 1)) (q % (n + 1))) = m (q / (n + 1)) (q % (n + 1)) := by omega
    rw [e]

theorem of_min {n : Nat} {m o : Mat} (hn : n ≤ 8) (hm : RightM n m) (ho : RightM n o) :
    ofP n (lessUp (flat n m) (flat n o) ((n + 1) * (n + 1))) = zoneP n (meetM n m o ((n + 1) * (n + 1))) := by
  rw [← flat_min hm]
  have hall : (flat n (minM m o)).all rightB = true := (all_getD _ _ 0).2 fun q hq => by
    rw [flat_length] at hq
    rw [flat_getD _ _ _ hq]
    have h1 : q / (n + 1) < n + 1 := Nat.div_lt_of_lt_mul hq
    have h2 := Nat.mod_lt q (show 0 < n + 1 by omega)
    exact minM_right hm ho _ _ (by omega) (by omega)
  unfold ofP
  rw [if_pos (by omega), if_pos (by rw [flat_length]; simp), if_pos hall, flat_length, Int.toNat_natCast]
  rfl

theorem meet_law {z o : Option (Nat × Mat)} (hz : ShapeZ z) (ho : ShapeZ o) (hn : ∀ n m, z = some (n, m) → n ≤ 8) : meetsP z o = meetR z o := by
  match z, o, hz, ho with
  | none, _, _, _ => rfl
  | some (n, m), none, _, _ => rfl
  | some (n, m), some (k, o), hz, ho =>
    by_cases e : n = k
    · subst e
      have h8 := hn n m rfl
      have hp := of_min h8 hz.2 ho.2
      show (decide (n = n) && (closed n (meetM n m o ((n + 1) * (n + 1)))).isSome) = (decide (n = n) && _)
      rw [hp]
      have hd := (meetM_fit (minM_right hz.2 ho.2) ((n + 1) * (n + 1)) (Nat.le_refl _)).diag
      congr 1
      generalize meetM n m o ((n + 1) * (n + 1)) = M at hd
      cases hc : closed n M with
      | none =>
        have hz : zoneP n M = (some (fun _ _ => 0), 0) := by unfold zoneP; rw [hc]
        rw [hz]; simp [emptyR]
      | some m' =>
        have h1 := closed_diag hd hc 0 (by omega)
        by_cases ha : allR n m'
        · have hz : zoneP n M = (some (narM n m'), 0) := by unfold zoneP; rw [hc]; simp only; rw [if_pos ha]
          rw [hz]
          simp [emptyR, narM, nar, h1, none62]
        · have hz : zoneP n M = (none, 10) := by unfold zoneP; rw [hc]; simp only; rw [if_neg ha]
          rw [hz]
          simp
    · show (decide (n = k) && _) = (decide (n = k) && _)
      rw [decide_eq_false e, Bool.false_and, Bool.false_and]

/-- Of other clocks: nothing in common. -/
theorem other_dim {z o : Option (Nat × Mat)} (h : ∀ a ma b mb, z = some (a, ma) → o = some (b, mb) → a ≠ b) : inclP z o = false ∧ equalP z o = false ∧ meetsP z o = false := by
  match z, o, h with
  | none, _, _ => exact ⟨rfl, rfl, rfl⟩
  | some (n, m), none, _ => exact ⟨rfl, rfl, rfl⟩
  | some (n, m), some (k, o), h =>
    have e : n ≠ k := h _ _ _ _ rfl rfl
    refine ⟨?_, ?_, ?_⟩
    · show (decide (n = k) && _) = false
      rw [decide_eq_false e, Bool.false_and]
    · show (decide (n = k) && _) = false
      rw [decide_eq_false e, Bool.false_and]
    · show (decide (n = k) && _) = false
      rw [decide_eq_false e, Bool.false_and]

end Go.Proofs.Ytgpmfnahjepjjaa
