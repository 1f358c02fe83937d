/- The diagonal of a closed form, and the shape of every zone. -/
import Derived.Test.YtgpmfnahjepjjaaMab
namespace Go.Proofs.Ytgpmfnahjepjjaa
set_option linter.unusedVariables false
set_option linter.unusedSimpArgs false

theorem fw_diag {k n : Nat} {m : Mat} (h : ∀ i, i ≤ n → m i i ≤ 1) : ∀ i, i ≤ n → fw k n m i i ≤ 1 := fun i hi => by
  unfold fw
  rw [if_pos ⟨hi, hi⟩]
  have := h i hi
  omega
theorem closeP_diag {n : Nat} : ∀ s k m m', (∀ i, i ≤ n → m i i ≤ 1) → closeP n s k m = some m' → ∀ i, i ≤ n → m' i i ≤ 1
  | 0, k, m, m', h, e => by
    simp [closeP] at e
    subst e
    exact h
  | s + 1, k, m, m', h, e => by
    unfold closeP at e
    split at e
    · exact closeP_diag s (k + 1) _ m' (fw_diag h) e
    · cases e
theorem closeP_low {n : Nat} : ∀ s k m m', closeP n (s + 1) k m = some m' → ∀ i, i ≤ n → 1 ≤ m' i i
  | 0, k, m, m', e => by
    unfold closeP at e
    split at e
    · simp [closeP] at e
      subst e
      assumption
    · cases e
  | s + 1, k, m, m', e => by
    unfold closeP at e
    split at e
    · exact closeP_low s (k + 1) _ m' e
    · cases e
/-- On the diagonal of a closed form stands 0, reached. -/
theorem closed_diag {n : Nat} {m m' : Mat} (h : ∀ i, i ≤ n → m i i ≤ 1) (e : closed n m = some m') : ∀ i, i ≤ n → m' i i = 1 := fun i hi => by
  have h1 := closeP_diag _ _ _ _ h e i hi
  have h2 := closeP_low _ _ _ _ e i hi
  omega

/-- The shape of a zone: nothing outside; empty: all 0; else 1 on the diagonal. -/
structure Shape (n : Nat) (m : Mat) : Prop where
  inside : Inside n m
  cases : m = (fun _ _ => 0) ∨ ∀ i, i ≤ n → m i i = 1
theorem zoneP_shape {n : Nat} {m z : Mat} (h : ∀ i, i ≤ n → m i i ≤ 1) (e : (zoneP n m).1 = some z) : Shape n z := by
  unfold zoneP at e
  split at e
  · simp at e
    subst e
    exact ⟨fun _ _ _ => rfl, .inl rfl⟩
  · rename_i m' hm
    split at e
    · simp at e
      subst e
      refine ⟨narM_inside _ _, .inr fun i hi => ?_⟩
      unfold narM
      rw [if_pos ⟨hi, hi⟩, closed_diag h hm i hi]
      decide
    · cases e
theorem ofP_shape {n : Int} {cells : List Int} {z : Mat} (e : (ofP n cells).1 = some z) : 0 ≤ n ∧ n ≤ 8 ∧ Shape n.toNat z := by
  unfold ofP at e
  split at e
  · rename_i hn
    refine ⟨hn.1, hn.2, ?_⟩
    split at e
    · split at e
      · rename_i hr
        have hr' := (all_getD cells rightB 0).1 hr
        exact zoneP_shape (fun i hi => (keepUp_fit _ _ _ hr').diag i hi) e
      · cases e
    · cases e
  · cases e
theorem limP_shape {n : Int} {l : List (Int × Int × Int)} {z : Mat} (e : (limP n l).1 = some z) : 0 ≤ n ∧ n ≤ 8 ∧ Shape n.toNat z := by
  unfold limP at e
  split at e
  · rename_i hn
    refine ⟨hn.1, hn.2, ?_⟩
    split at e
    · rename_i hr
      have hr' := (all_getD l (limOk n.toNat) (0, 0, 0)).1 hr
      exact zoneP_shape (fun i hi => (limUp_fit _ _ _ hr').diag i hi) e
    · cases e
  · cases e
/-- Two that hold the same within are the same. -/
theorem inside_ext {n : Nat} {m o : Mat} (hm : Inside n m) (ho : Inside n o) (h : ∀ i j, i ≤ n → j ≤ n → m i j = o i j) : m = o := by
  funext a c
  by_cases hb : a ≤ n ∧ c ≤ n
  · exact h a c hb.1 hb.2
  · rw [hm a c (by omega), ho a c (by omega)]

end Go.Proofs.Ytgpmfnahjepjjaa
