/- Of zones that are not empty: the least valuation is in; sums of cells; what a zone lets beyond a bound. -/
import Derived.Test.YtgpmfnahjepjjaaPp
import Derived.Test.YtgpmfnahjepjjaaIn
namespace Go.Proofs.Ytgpmfnahjepjjaa
open Go Go.RowKit
set_option linter.unusedVariables false
set_option linter.unusedSimpArgs false

theorem Sol.agree {n : Nat} {g : Int} {m o : Mat} {u : Nat → Int} (h : Sol n g m u) (ha : Agree n m o) : Sol n g o u := ⟨h.1, fun i j hi hj hf => by
  rw [← ha i j hi hj] at hf ⊢
  exact h.2 i j hi hj hf⟩
theorem closed_solid {n : Nat} {M m' : Mat} (h : Closed n M m') (h0 : ∀ j, j ≤ n → M 0 j ≤ 1) : Solid n m' :=
  ⟨h.tri, fun i j hi hj => half_fb (h.bd i j hi hj), h.one, fun j hj => Int.le_trans (h.le 0 j) (h0 j hj)⟩
theorem widC_flat {n : Nat} {m m' : Mat} (ha : allR n m') (hz : m = narM n m') : Agree n m' (widC n (flat n m)) := fun i j hi hj => (flat_wid ha hz hi hj).symm
/-- What inside finds of a zone's cells. -/
theorem inside_good {n : Nat} {m m' : Mat} (hn : n ≤ 8) (hs : Solid n m') (ha : allR n m') (hz : m = narM n m') :
    Sol n ((n : Int) + 1) (widC n (flat n m)) (solU n m') ∧ (∀ a, a ≤ n → solU n m' a ≤ 137438953472) ∧ satM n ((n : Int) + 1) m' (insR n ((n : Int) + 1) (widC n (flat n m)) (n + 2)) ∧
    ∀ a, a ≤ n → 0 ≤ insR n ((n : Int) + 1) (widC n (flat n m)) (n + 2) a ∧ insR n ((n : Int) + 1) (widC n (flat n m)) (n + 2) a ≤ 137438953472 := by
  have hag := widC_flat ha hz
  have h1 := (solid_sol hs).agree hag
  have h2 : ∀ a, a ≤ n → solU n m' a ≤ 137438953472 := fun a h => by
    have := solU_le (n := n) (m := m') (X := 268435456) (fun j hj => by
      have h3 := ha 0 (Nat.zero_le _) j hj
      have h4 := hs.top j hj
      unfold inR none62 at h3
      omega) a h
    have h5 : ((n : Int) + 1) * 268435456 ≤ 9 * 268435456 := Int.mul_le_mul (by omega) (by omega) (by omega) (by omega)
    omega
  obtain ⟨h3, h4⟩ := inside_sol h1
  refine ⟨h1, h2, ?_, fun a h => ⟨h3.1 a h, Int.le_trans (h4 (n + 2) a h) (h2 a h)⟩⟩
  have := sol_sat (h3.agree fun i j hi hj => (hag i j hi hj).symm)
  exact this
theorem lst_bd {n : Nat} {f : Nat → Int} (h : ∀ a, a ≤ n → 0 ≤ f a ∧ f a ≤ 137438953472) : ∀ q, q < n + 1 → 0 ≤ (lst n f).getD q 0 ∧ (lst n f).getD q 0 ≤ 549755813888 := fun q hq => by
  rw [lst_getD _ _ _ hq]
  have := h q (by omega)
  omega
/-- The least valuation of a zone is in it. -/
theorem inside_keeps {n : Nat} {m m' : Mat} (hn : n ≤ 8) (hs : Solid n m') (ha : allR n m') (hz : m = narM n m') (hrm : RightM n m) :
    keepsB n (flat n m) (lst n (insR n ((n : Int) + 1) (widC n (flat n m)) (n + 2))) ((n : Int) + 1) = true := by
  rw [keepsB_sat (flat_rights hrm)]
  intro i j hi hj
  rw [flat_wid ha hz hi hj, lst_getD _ _ _ (by omega), lst_getD _ _ _ (by omega)]
  exact (inside_good hn hs ha hz).2.2.1 i j hi hj

/-! ### sums of cells -/
theorem sum_two (a b : Int) (ha : rightB a = true) (hb : rightB b = true) : sumP [a, b] = if a = 2147483647 ∨ b = 2147483647 then (2147483647, 0) else ofB (a / 2 + b / 2) (decide (a % 2 = 1) && decide (b % 2 = 1)) := by
  have h1 : ([a, b] : List Int).all rightB = true := by simp [ha, hb]
  unfold sumP
  rw [if_pos h1]
  have h2 : infUp [a, b] [a, b].length = (decide (a = 2147483647) || decide (b = 2147483647)) := by
    show (false || decide (a = 2147483647) || decide (b = 2147483647)) = _
    simp
  rw [h2]
  by_cases e : a = 2147483647 ∨ b = 2147483647
  · rw [if_pos (by simpa using e), if_pos e]
  · rw [if_neg (by simpa using e), if_neg e]
    have e1 : a ≠ 2147483647 := fun h => e (.inl h)
    have e2 : b ≠ 2147483647 := fun h => e (.inr h)
    have f1 := rightB_bd ha e1
    have f2 := rightB_bd hb e2
    have h3 : sumUp [a, b] [a, b].length = a / 2 + b / 2 := by
      show wrap64 (wrap64 (0 + a / 2) + b / 2) = _
      unfold wrap64
      omega
    have h4 : redUp [a, b] [a, b].length = (decide (a % 2 = 1) && decide (b % 2 = 1)) := by
      show (true && decide (a % 2 = 1) && decide (b % 2 = 1)) = _
      simp
    rw [h3, h4]
/-- The sum of two cells is no stricter than the cell. -/
theorem add_pure {n : Nat} {m m' : Mat} (hc : Tri n m' (n + 1)) (ha : allR n m') (hz : m = narM n m') (hrm : RightM n m) {i k j : Nat} (hi : i ≤ n) (hk : k ≤ n) (hj : j ≤ n) (h : (sumP [m i k, m k j]).2 = 0) : ¬ (sumP [m i k, m k j]).1 < m i j := by
  have ra := hrm i k hi hk
  have rb := hrm k j hk hj
  have rc := hrm i j hi hj
  rw [sum_two _ _ ra rb] at h ⊢
  by_cases e : m i k = 2147483647 ∨ m k j = 2147483647
  · rw [if_pos e]
    unfold rightB at rc
    have := of_decide_eq_true rc
    show ¬ (2147483647 : Int) < _
    omega
  · rw [if_neg e] at h ⊢
    have e1 : m i k ≠ 2147483647 := fun h => e (.inl h)
    have e2 : m k j ≠ 2147483647 := fun h => e (.inr h)
    have w : ∀ a b, a ≤ n → b ≤ n → wid (m a b) = m' a b := fun a b h1 h2 => by
      rw [hz]; unfold narM; rw [if_pos ⟨h1, h2⟩]; exact wid_nar (ha a h1 b h2)
    have w1 : m' i k = m i k := by rw [← w i k hi hk]; unfold wid; rw [if_neg e1]
    have w2 : m' k j = m k j := by rw [← w k j hk hj]; unfold wid; rw [if_neg e2]
    have f1 := rightB_bd ra e1
    have f2 := rightB_bd rb e2
    have t := hc k (by omega) i j hi hj
    rw [w1, w2, wsum_min (by unfold none62; omega) (by unfold none62; omega)] at t
    have e3 : m i j ≠ 2147483647 := fun e3 => by
      have := w i j hi hj
      unfold wid at this
      rw [if_pos e3] at this
      rw [← this] at t
      unfold none62 at t
      omega
    have w3 : m' i j = m i j := by rw [← w i j hi hj]; unfold wid; rw [if_neg e3]
    rw [w3] at t
    unfold ofB at h ⊢
    split at h
    · simp at h
    · rename_i hb
      rw [if_neg hb]
      show ¬ (2 * (m i k / 2 + m k j / 2) + (if (decide (m i k % 2 = 1) && decide (m k j % 2 = 1)) = true then 1 else 0)) < m i j
      by_cases p1 : m i k % 2 = 1
      · by_cases p2 : m k j % 2 = 1
        · rw [if_pos (by simp [p1, p2])]; omega
        · rw [if_neg (by simp [p2])]; omega
      · rw [if_neg (by simp [p1])]; omega

/-! ### beyond a bound -/
/-- The cells with one made stricter. -/
def lowL (xs : List Int) (p : Nat) (o : Int) : List Int := if o < xs.getD p 0 then xs.set p o else xs
theorem lowL_length (xs : List Int) (p : Nat) (o : Int) : (lowL xs p o).length = xs.length := by unfold lowL; split <;> simp
theorem lowL_getD (xs : List Int) (p q : Nat) (o : Int) (hp : p < xs.length) : (lowL xs p o).getD q 0 = if q = p then min (xs.getD p 0) o else xs.getD q 0 := by
  unfold lowL
  split
  · rename_i h
    rw [List.getD_eq_getElem?_getD, List.getElem?_set]
    by_cases e : p = q
    · subst e
      rw [if_pos rfl, if_pos hp, if_pos rfl]
      show o = _
      omega
    · rw [if_neg e, if_neg (fun h => e h.symm), ← List.getD_eq_getElem?_getD]
  · rename_i h
    split
    · rename_i e; subst e; omega
    · rfl
theorem opp_right {b : Int} (hb : rightB b = true) (hn : b ≠ 2147483647) : rightB (1 - b) = true := by
  have := rightB_bd hb hn
  unfold rightB
  exact decide_eq_true (.inr (by omega))
/-- What a zone's cells with one more bound tell. -/
structure Beyond (n : Nat) (L : List Int) : Prop where
  right : ∀ q, q < (n + 1) * (n + 1) → rightB (L.getD q 0) = true
  length : L.length = (n + 1) * (n + 1)
  ends : ofP n L = (none, 10) ∨ ∃ z m2, ofP n L = (some z, 0) ∧ Solid n m2 ∧ allR n m2 ∧ z = narM n m2 ∧ RightM n z ∧ z 0 0 = 1 ∧
    keepsB n L (lst n (insR n ((n : Int) + 1) (widC n (flat n z)) (n + 2))) ((n : Int) + 1) = true
theorem beyond_pure {n : Nat} {M m m' : Mat} (hn : n ≤ 8) (hcl : Closed n M m') (h0 : ∀ j, j ≤ n → M 0 j ≤ 1) (ha : allR n m') (hz : m = narM n m') (hrm : RightM n m) {i j : Nat} (hi : i ≤ n) (hj : j ≤ n) {b : Int}
    (hb : rightB b = true) (hlt : b < m i j) : Beyond n (lowL (flat n m) (j * (n + 1) + i) (1 - b)) := by
  have rij := hrm i j hi hj
  have hbn : b ≠ 2147483647 := by
    unfold rightB at rij
    have := of_decide_eq_true rij
    omega
  have hbb := rightB_bd hb hbn
  have ho := opp_right hb hbn
  have hp : j * (n + 1) + i < (flat n m).length := by rw [flat_length]; exact at_lt (by omega) (by omega)
  have hlen : (lowL (flat n m) (j * (n + 1) + i) (1 - b)).length = (n + 1) * (n + 1) := by rw [lowL_length, flat_length]
  have hright : ∀ q, q < (n + 1) * (n + 1) → rightB ((lowL (flat n m) (j * (n + 1) + i) (1 - b)).getD q 0) = true := fun q hq => by
    rw [lowL_getD _ _ _ _ hp]
    have hrq := flat_rights hrm
    split
    · rcases (show min ((flat n m).getD (j * (n + 1) + i) 0) (1 - b) = (flat n m).getD (j * (n + 1) + i) 0 ∨ min ((flat n m).getD (j * (n + 1) + i) 0) (1 - b) = 1 - b by omega) with e | e <;> rw [e]
      · exact hrq _ (by rw [flat_length] at hp; exact hp)
      · exact ho
    · exact hrq q hq
  have w : ∀ a c, a ≤ n → c ≤ n → wid (m a c) = m' a c := fun a c h1 h2 => by
    rw [hz]; unfold narM; rw [if_pos ⟨h1, h2⟩]; exact wid_nar (ha a h1 c h2)
  -- the valuation beyond
  have hcm : Closed n m' m' := ⟨hcl.tri, hcl.bd, hcl.one, fun _ _ => Int.le_refl _⟩
  have h0' : ∀ c, c ≤ n → m' 0 c ≤ 1 := fun c hc => Int.le_trans (hcl.le 0 c) (h0 c hc)
  have hone : 1 ≤ wsum (1 - b) (m' i j) := not_one (.inr (by omega)) (by unfold none62; omega) (half_fb (hcl.bd i j hi hj)) (by
    rw [← w i j hi hj]; unfold wid none62; split <;> omega)
  have hts := tighter_solid hcm h0' hi hj (o := 1 - b) (.inr (by omega)) hone
  have hL : ∀ a c, a ≤ n → c ≤ n → tighter m' j i (1 - b) a c ≤ wid ((lowL (flat n m) (j * (n + 1) + i) (1 - b)).getD (a * (n + 1) + c) 0) := fun a c h1 h2 => by
    have t1 := tighter_le m' j i (1 - b) a c
    rw [lowL_getD _ _ _ _ hp]
    by_cases e : a * (n + 1) + c = j * (n + 1) + i
    · rw [if_pos e]
      have a1 := at_row (i := a) (show c < n + 1 by omega)
      have a2 := at_row (i := j) (show i < n + 1 by omega)
      rw [e] at a1
      obtain rfl : a = j := a1.1.symm.trans a2.1
      obtain rfl : c = i := a1.2.symm.trans a2.2
      rw [flat_at _ (by omega) (by omega)]
      have t2 := tighter_at hcm hi hj (1 - b)
      have hwm := w a c h1 h2
      have hro := hrm a c h1 h2
      unfold rightB at hro
      have hro := of_decide_eq_true hro
      have e3 : wid (min (m a c) (1 - b)) = min (wid (m a c)) (1 - b) := by
        by_cases e4 : m a c = 2147483647
        · rw [e4]
          have : min (2147483647 : Int) (1 - b) = 1 - b := by omega
          rw [this]
          unfold wid none62
          rw [if_neg (by omega), if_pos rfl]
          omega
        · unfold wid
          rw [if_neg e4, if_neg (by omega)]
      rw [e3, hwm]
      omega
    · rw [if_neg e, flat_at _ (by omega) (by omega), w a c h1 h2]
      exact t1
  have hfit : Fit n 1073741824 (keepUp n (lowL (flat n m) (j * (n + 1) + i) (1 - b)) ((n + 1) * (n + 1))) := keepUp_fit n _ _ hright
  have hM2 : ∀ a c, a ≤ n → c ≤ n → tighter m' j i (1 - b) a c ≤ keepUp n (lowL (flat n m) (j * (n + 1) + i) (1 - b)) ((n + 1) * (n + 1)) a c ∧
      keepUp n (lowL (flat n m) (j * (n + 1) + i) (1 - b)) ((n + 1) * (n + 1)) a c ≤ wid ((lowL (flat n m) (j * (n + 1) + i) (1 - b)).getD (a * (n + 1) + c) 0) := fun a c h1 h2 => by
    have t := hL a c h1 h2
    rw [keepUp_cell n _ a c h1 h2 hright _ (Nat.le_refl _), if_pos (at_lt (by omega) (by omega))]
    split
    · rename_i hac
      have : tighter m' j i (1 - b) a c ≤ 1 := by
        rcases hac with rfl | rfl
        · rw [hts.one a h1]; exact Int.le_refl _
        · exact hts.top c h2
      omega
    · exact ⟨t, Int.le_refl _⟩
  have hsat : satM n ((n : Int) + 1) (keepUp n (lowL (flat n m) (j * (n + 1) + i) (1 - b)) ((n + 1) * (n + 1))) (solU n (tighter m' j i (1 - b))) := fun a c h1 h2 =>
    sat_mono (by omega) ((hfit.bd a c h1 h2).mono (by omega)) (hM2 a c h1 h2).1 (solid_sat hts a c h1 h2)
  have hof : ofP n (lowL (flat n m) (j * (n + 1) + i) (1 - b)) = zoneP n (keepUp n (lowL (flat n m) (j * (n + 1) + i) (1 - b)) ((n + 1) * (n + 1))) := by
    unfold ofP
    rw [if_pos (by omega), if_pos (by rw [hlen]; simp), if_pos ((all_getD _ _ 0).2 fun q hq => hright q (by omega)), Int.toNat_natCast, hlen]
  have htop := keepUp_top hright
  generalize hLL : lowL (flat n m) (j * (n + 1) + i) (1 - b) = L at *
  refine ⟨hright, hlen, ?_⟩
  rw [hof]
  have hcs := closed_sat hn (g := (n : Int) + 1) (by omega) (solU n (tighter m' j i (1 - b))) hfit
  cases hc : closed n (keepUp n L ((n + 1) * (n + 1))) with
  | none =>
    rw [hc] at hcs
    exact absurd hsat hcs
  | some m2 =>
    have hcl2 := closed_closed hn hfit hc
    have hsol2 := closed_solid hcl2 htop
    by_cases hall : allR n m2
    · right
      have hz2 : zoneP n (keepUp n L ((n + 1) * (n + 1))) = (some (narM n m2), 0) := by unfold zoneP; rw [hc]; simp only; rw [if_pos hall]
      refine ⟨narM n m2, m2, hz2, hsol2, hall, rfl, narM_right hall, ?_, ?_⟩
      · unfold narM
        rw [if_pos ⟨Nat.zero_le _, Nat.zero_le _⟩, hcl2.one 0 (Nat.zero_le _)]
        decide
      · rw [keepsB_sat hright]
        intro a c h1 h2
        rw [lst_getD _ _ _ (by omega), lst_getD _ _ _ (by omega)]
        have hi2 := (inside_good hn hsol2 hall rfl).2.2.1
        have hcs2 := closed_sat hn (g := (n : Int) + 1) (by omega) (insR n ((n : Int) + 1) (widC n (flat n (narM n m2))) (n + 2)) hfit
        rw [hc] at hcs2
        have := (hcs2.2 hi2) a c h1 h2
        exact sat_mono (by omega) (wid_fb (hright _ (at_lt (by omega) (by omega)))) (hM2 a c h1 h2).2 this
    · left
      unfold zoneP
      rw [hc]
      simp only
      rw [if_neg hall]

end Go.Proofs.Ytgpmfnahjepjjaa
