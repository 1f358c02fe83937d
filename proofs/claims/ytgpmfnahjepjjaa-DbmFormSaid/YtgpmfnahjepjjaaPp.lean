/- A valuation is in the zone just if it keeps all that was handed in. -/
import Derived.Test.YtgpmfnahjepjjaaLk
namespace Go.Proofs.Ytgpmfnahjepjjaa
set_option linter.unusedVariables false
set_option linter.unusedSimpArgs false

theorem keepsB_sat {n : Nat} {cells v : List Int} {g : Int} (hr : ∀ q, q < (n + 1) * (n + 1) → rightB (cells.getD q 0) = true) :
    keepsB n cells v g = true ↔ ∀ i j, i ≤ n → j ≤ n → sat g (wid (cells.getD (i * (n + 1) + j) 0)) (v.getD i 0 - v.getD j 0) := by
  unfold keepsB
  rw [decide_eq_true_iff]
  constructor
  · intro h i j hi hj
    exact (holds_sat (hr _ (at_lt (by omega) (by omega)))).1 (h i hi j hj)
  · intro h i hi j hj
    exact (holds_sat (hr _ (at_lt (by omega) (by omega)))).2 (h i j hi hj)
theorem wid_fb {b : Int} (h : rightB b = true) : FB (wid b) := by
  unfold wid
  split
  · exact .inl rfl
  · rename_i e
    have := rightB_bd h e
    exact .inr (by omega)
/-- What was handed in, and what is reckoned with, keep the same valuations. -/
theorem keepsB_wide {n : Nat} {cells v : List Int} {g : Int} (hg : 1 ≤ g) (hr : ∀ q, q < (n + 1) * (n + 1) → rightB (cells.getD q 0) = true) (hv0 : v.getD 0 0 = 0) (hv : ∀ q, q ≤ n → 0 ≤ v.getD q 0) :
    keepsB n cells v g = true ↔ satM n g (keepUp n cells ((n + 1) * (n + 1))) (fun i => v.getD i 0) := by
  rw [keepsB_sat hr]
  have hcell : ∀ i j, i ≤ n → j ≤ n → (sat g (keepUp n cells ((n + 1) * (n + 1)) i j) (v.getD i 0 - v.getD j 0) ↔ sat g (wid (cells.getD (i * (n + 1) + j) 0)) (v.getD i 0 - v.getD j 0)) := fun i j hi hj => by
    rw [keepUp_cell n cells i j hi hj hr _ (Nat.le_refl _), if_pos (at_lt (by omega) (by omega))]
    split
    · rename_i hij
      rw [sat_min hg (.inr (by omega)) (wid_fb (hr _ (at_lt (by omega) (by omega))))]
      have h1 : sat g 1 (v.getD i 0 - v.getD j 0) := sat_one (by
        rcases hij with rfl | rfl
        · omega
        · have := hv j hj; omega)
      exact ⟨fun h => h.2, fun h => ⟨h1, h⟩⟩
    · exact Iff.rfl
  constructor
  · intro h i j hi hj
    exact (hcell i j hi hj).2 (h i j hi hj)
  · intro h i j hi hj
    exact (hcell i j hi hj).1 (h i j hi hj)
/-- What a call of Of that went well says. -/
theorem ofP_good {n : Int} {cells : List Int} {m : Mat} (h : (ofP n cells).1 = some m) : 0 ≤ n ∧ n ≤ 8 ∧ cells.length = (n.toNat + 1) * (n.toNat + 1) ∧ (∀ q, q < (n.toNat + 1) * (n.toNat + 1) → rightB (cells.getD q 0) = true) ∧
    (zoneP n.toNat (keepUp n.toNat cells ((n.toNat + 1) * (n.toNat + 1)))).1 = some m := by
  unfold ofP at h
  split at h
  · rename_i hn
    split at h
    · rename_i hl
      split at h
      · rename_i hr
        have hl' : cells.length = (n.toNat + 1) * (n.toNat + 1) := by
          have e : ((n.toNat : Nat) : Int) = n := by omega
          have : ((cells.length : Nat) : Int) = (((n.toNat + 1) * (n.toNat + 1) : Nat) : Int) := by rw [hl]; simp [e]
          omega
        refine ⟨hn.1, hn.2, hl', fun q hq => (all_getD cells rightB 0).1 hr q (by omega), ?_⟩
        rw [hl'] at h
        exact h
      · cases h
    · cases h
  · cases h
theorem flat_wid {n : Nat} {m m' : Mat} (ha : allR n m') (hz : m = narM n m') {i j : Nat} (hi : i ≤ n) (hj : j ≤ n) : wid ((flat n m).getD (i * (n + 1) + j) 0) = m' i j := by
  rw [flat_at _ (by omega) (by omega), hz]
  unfold narM
  rw [if_pos ⟨hi, hj⟩]
  exact wid_nar (ha i hi j hj)
theorem flat_rights {n : Nat} {m : Mat} (hr : RightM n m) : ∀ q, q < (n + 1) * (n + 1) → rightB ((flat n m).getD q 0) = true := fun q hq => by
  rw [flat_getD _ _ _ hq]
  have h1 : q / (n + 1) < n + 1 := Nat.div_lt_of_lt_mul hq
  have h2 := Nat.mod_lt q (show 0 < n + 1 by omega)
  exact hr _ _ (by omega) (by omega)
theorem points_pure {n : Nat} {cells v : List Int} {m : Mat} {g : Int} (hn : n ≤ 8) (hg : 1 ≤ g) (hr : ∀ q, q < (n + 1) * (n + 1) → rightB (cells.getD q 0) = true)
    (hz : (zoneP n (keepUp n cells ((n + 1) * (n + 1)))).1 = some m) (hrm : RightM n m) (hv0 : v.getD 0 0 = 0) (hv : ∀ q, q ≤ n → 0 ≤ v.getD q 0) :
    keepsB n cells v g = (keepsB n (flat n m) v g && !decide (m 0 0 < 1)) := by
  have hfit : Fit n 1073741824 (keepUp n cells ((n + 1) * (n + 1))) := keepUp_fit n cells _ hr
  have hs := closed_sat hn hg (fun i => v.getD i 0) hfit
  rcases zoneP_is hn hfit hz with ⟨h0, hc⟩ | ⟨m', hc, ha, hm, hcl⟩
  · rw [hc] at hs
    have e1 : keepsB n cells v g = false := by
      rw [Bool.eq_false_iff]
      intro h
      exact hs ((keepsB_wide hg hr hv0 hv).1 h)
    rw [e1, h0]
    simp
  · rw [hc] at hs
    have e0 : decide (m 0 0 < 1) = false := decide_eq_false (by
      rw [hm]
      unfold narM
      rw [if_pos ⟨Nat.zero_le _, Nat.zero_le _⟩, hcl.one 0 (Nat.zero_le _)]
      decide)
    rw [e0, Bool.not_false, Bool.and_true, Bool.eq_iff_iff, keepsB_wide hg hr hv0 hv]
    refine Iff.trans hs ?_
    rw [keepsB_sat (flat_rights hrm)]
    constructor
    · intro h i j hi hj
      rw [flat_wid ha hm hi hj]
      exact h i j hi hj
    · intro h i j hi hj
      have := h i j hi hj
      rw [flat_wid ha hm hi hj] at this
      exact this
theorem keepUp_top {n : Nat} {cells : List Int} (hr : ∀ q, q < (n + 1) * (n + 1) → rightB (cells.getD q 0) = true) : ∀ j, j ≤ n → keepUp n cells ((n + 1) * (n + 1)) 0 j ≤ 1 := fun j hj => by
  rw [keepUp_cell n cells 0 j (Nat.zero_le _) hj hr _ (Nat.le_refl _), if_pos (at_lt (by omega) (by omega)), if_pos (.inr rfl)]
  omega
/-- A zone of its own cells is the same. -/
theorem zone_again {n : Nat} {cells : List Int} {m : Mat} (hn : n ≤ 8) (hr : ∀ q, q < (n + 1) * (n + 1) → rightB (cells.getD q 0) = true) (hz : (zoneP n (keepUp n cells ((n + 1) * (n + 1)))).1 = some m) : ofP n (flat n m) = (some m, 0) :=
  of_again hn (keepUp_fit n cells _ hr) (keepUp_top hr) hz

end Go.Proofs.Ytgpmfnahjepjjaa
