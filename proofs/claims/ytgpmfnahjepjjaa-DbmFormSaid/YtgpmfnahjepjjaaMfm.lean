/- Each zone that is not empty has a valuation on the grid of its clocks and one; how it is found; what is not forbidden is there. -/
import Derived.Test.YtgpmfnahjepjjaaMsm
namespace Go.Proofs.Ytgpmfnahjepjjaa
set_option linter.unusedVariables false
set_option linter.unusedSimpArgs false

/-! ### counting -/
def cnt (P : Nat → Bool) : Nat → Int
  | 0 => 0
  | k + 1 => cnt P k + (if P k then 1 else 0)
theorem cnt_le {P Q : Nat → Bool} : ∀ N, (∀ k, k < N → P k = true → Q k = true) → cnt P N ≤ cnt Q N
  | 0, _ => Int.le_refl _
  | N + 1, h => by
    have ih := cnt_le N fun k hk => h k (by omega)
    have hN := h N (by omega)
    unfold cnt
    cases hp : P N
    · cases Q N <;> simp <;> omega
    · rw [hN hp]; simp; omega
theorem cnt_lt {P Q : Nat → Bool} : ∀ N k0, k0 < N → (∀ k, k < N → P k = true → Q k = true) → P k0 = false → Q k0 = true → cnt P N + 1 ≤ cnt Q N
  | 0, k0, h0, _, _, _ => by omega
  | N + 1, k0, h0, h, hp, hq => by
    unfold cnt
    by_cases e : k0 = N
    · subst e
      have := cnt_le k0 fun k hk => h k (by omega)
      rw [hp, hq]; simp; omega
    · have ih := cnt_lt N k0 (by omega) (fun k hk => h k (by omega)) hp hq
      have hN := h N (by omega)
      cases hpN : P N
      · cases Q N <;> simp <;> omega
      · rw [hN hpN]; simp; omega
theorem cnt_bd (P : Nat → Bool) : ∀ N, 0 ≤ cnt P N ∧ cnt P N ≤ N
  | 0 => by simp [cnt]
  | N + 1 => by
    have ih := cnt_bd P N
    unfold cnt
    split <;> omega
theorem cnt_miss (P : Nat → Bool) (N k0 : Nat) (h0 : k0 < N) (h : P k0 = false) : cnt P N + 1 ≤ N := by
  have h1 := cnt_lt (P := P) (Q := fun _ => true) N k0 h0 (fun _ _ _ => rfl) h rfl
  have h2 := (cnt_bd (fun _ => true) N).2
  omega

/-! ### a valuation of a closed matrix -/
/-- What a matrix must be to have a valuation: closed, and no clock below 0. -/
structure Solid (n : Nat) (m : Mat) : Prop where
  tri : Tri n m (n + 1)
  bd : ∀ i j, i ≤ n → j ≤ n → FB (m i j)
  one : ∀ i, i ≤ n → m i i = 1
  top : ∀ j, j ≤ n → m 0 j ≤ 1
theorem Solid.fin {n : Nat} {m : Mat} (h : Solid n m) {j : Nat} (hj : j ≤ n) : m 0 j ≠ none62 := fun e => by
  have := h.top j hj
  rw [e] at this
  unfold none62 at this
  omega
theorem Solid.step {n : Nat} {m : Mat} (h : Solid n m) {i k j : Nat} (hi : i ≤ n) (hk : k ≤ n) (hj : j ≤ n) (h1 : m i k ≠ none62) (h2 : m k j ≠ none62) :
    m i j ≠ none62 ∧ m i j ≤ (m i k - m i k % 2) + (m k j - m k j % 2) + min (m i k % 2) (m k j % 2) := by
  have t := h.tri k (by omega) i j hi hj
  rw [wsum_min h1 h2] at t
  refine ⟨fun e => ?_, t⟩
  have f1 := (h.bd i k hi hk).fin h1
  have f2 := (h.bd k j hk hj).fin h2
  rw [e] at t
  unfold none62 at t
  omega
/-- A way that is as short as it can be, and less than reached. -/
def tightR (m : Mat) (k j : Nat) : Bool := decide (m k j ≠ none62 ∧ m 0 j / 2 = m 0 k / 2 + m k j / 2 ∧ m k j % 2 = 0)
/-- The valuation. -/
def solU (n : Nat) (m : Mat) (j : Nat) : Int := ((n : Int) + 1) * (-(m 0 j / 2)) + cnt (fun k => tightR m k j) (n + 1)

theorem tight_trans {n : Nat} {m : Mat} (h : Solid n m) {k i j : Nat} (hk : k ≤ n) (hi : i ≤ n) (hj : j ≤ n) (h1 : tightR m k i = true) (h2 : m i j ≠ none62) (h3 : m 0 j / 2 = m 0 i / 2 + m i j / 2) : tightR m k j = true := by
  unfold tightR at h1
  obtain ⟨a1, a2, a3⟩ := of_decide_eq_true h1
  obtain ⟨b1, b2⟩ := h.step hk hi hj a1 h2
  have b3 := (h.step (Nat.zero_le n) hk hj (h.fin hk) b1).2
  refine decide_eq_true ⟨b1, ?_, ?_⟩ <;> omega
theorem solU_sat {n : Nat} {m : Mat} (h : Solid n m) : ∀ i j, i ≤ n → j ≤ n → m i j ≠ none62 → solU n m i - (m i j / 2 * ((n : Int) + 1) - (1 - m i j % 2)) ≤ solU n m j := fun i j hi hj hf => by
  have t := (h.step (Nat.zero_le n) hi hj (h.fin hi) hf).2
  have hp : -(m 0 j / 2) ≥ -(m 0 i / 2) - m i j / 2 := by omega
  have hself : tightR m i i = false := by
    unfold tightR
    rw [h.one i hi]
    refine decide_eq_false fun hh => ?_
    have := hh.2.2
    omega
  have hqi := cnt_miss (fun k => tightR m k i) (n + 1) i (by omega) hself
  have hqj := (cnt_bd (fun k => tightR m k j) (n + 1)).1
  unfold solU
  obtain ⟨a, ha⟩ : ∃ a, a = m 0 i / 2 := ⟨_, rfl⟩
  obtain ⟨b, hb⟩ : ∃ b, b = m 0 j / 2 := ⟨_, rfl⟩
  obtain ⟨x, hx⟩ : ∃ x, x = m i j / 2 := ⟨_, rfl⟩
  obtain ⟨r, hr⟩ : ∃ r, r = m i j % 2 := ⟨_, rfl⟩
  have hr2 : 0 ≤ r ∧ r ≤ 1 := by omega
  rw [← ha, ← hb, ← hx, ← hr]
  rw [← ha, ← hb, ← hx] at hp
  by_cases e : b = a + x
  · have hq : cnt (fun k => tightR m k i) (n + 1) + (1 - r) ≤ cnt (fun k => tightR m k j) (n + 1) := by
      have himp : ∀ k, k < n + 1 → (fun k => tightR m k i) k = true → (fun k => tightR m k j) k = true := fun k hk h1 => tight_trans h (by omega) hi hj h1 hf (by omega)
      by_cases hr0 : r = 0
      · have := cnt_lt (P := fun k => tightR m k i) (Q := fun k => tightR m k j) (n + 1) i (by omega) himp hself (decide_eq_true ⟨hf, by omega, by omega⟩)
        omega
      · have := cnt_le (P := fun k => tightR m k i) (Q := fun k => tightR m k j) (n + 1) himp
        omega
    have e2 : ((n : Int) + 1) * -b = ((n : Int) + 1) * -a - x * ((n : Int) + 1) := by
      rw [e, Int.neg_add, Int.mul_add, Int.mul_neg, Int.mul_neg, Int.mul_comm x]; omega
    omega
  · have e1 : -b ≥ -a - x + 1 := by omega
    have e2 : ((n : Int) + 1) * -b ≥ ((n : Int) + 1) * (-a - x + 1) := Int.mul_le_mul_of_nonneg_left e1 (by omega)
    have e3 : ((n : Int) + 1) * (-a - x + 1) = ((n : Int) + 1) * -a - x * ((n : Int) + 1) + ((n : Int) + 1) := by
      rw [Int.mul_add, Int.mul_sub, Int.mul_comm x]; omega
    omega
theorem solU_pos {n : Nat} {m : Mat} (h : Solid n m) : ∀ j, j ≤ n → 0 ≤ solU n m j := fun j hj => by
  have h1 := h.top j hj
  have h2 := (cnt_bd (fun k => tightR m k j) (n + 1)).1
  have h3 : 0 ≤ ((n : Int) + 1) * (-(m 0 j / 2)) := Int.mul_nonneg (by omega) (by omega)
  unfold solU
  omega
theorem solU_le {n : Nat} {m : Mat} {X : Int} (hX : ∀ j, j ≤ n → -X ≤ m 0 j / 2) : ∀ j, j ≤ n → solU n m j ≤ ((n : Int) + 1) * X + ((n : Int) + 1) := fun j hj => by
  have h1 := hX j hj
  have h2 := (cnt_bd (fun k => tightR m k j) (n + 1)).2
  have h3 : ((n : Int) + 1) * (-(m 0 j / 2)) ≤ ((n : Int) + 1) * X := Int.mul_le_mul_of_nonneg_left (by omega) (by omega)
  unfold solU
  omega
theorem sat_of_le {g b x : Int} (h : b ≠ none62 → x ≤ b / 2 * g - (1 - b % 2)) : sat g b x := by
  by_cases e : b = none62
  · exact .inl e
  · have := h e
    exact .inr (by omega)
theorem le_of_sat {g b x : Int} (h : sat g b x) (hb : b ≠ none62) : x ≤ b / 2 * g - (1 - b % 2) := by
  rcases h with h | h
  · exact absurd h hb
  · omega
theorem solid_sat {n : Nat} {m : Mat} (h : Solid n m) : satM n ((n : Int) + 1) m (solU n m) := fun i j hi hj => sat_of_le fun hf => by
  have := solU_sat h i j hi hj hf
  omega

/-! ### how the least one is found -/
/-- A valuation that keeps all bounds, none below 0. -/
def Sol (n : Nat) (g : Int) (m : Mat) (u : Nat → Int) : Prop := (∀ j, j ≤ n → 0 ≤ u j) ∧ ∀ i j, i ≤ n → j ≤ n → m i j ≠ none62 → u i - (m i j / 2 * g - (1 - m i j % 2)) ≤ u j
/-- One bound is looked at. -/
def insS (g : Int) (m : Mat) (v : Nat → Int) (i j : Nat) : Nat → Int :=
  if m i j ≠ none62 ∧ v j < v i - (m i j / 2 * g - (1 - m i j % 2)) then fun a => if a = j then v i - (m i j / 2 * g - (1 - m i j % 2)) else v a else v
def insJ (g : Int) (m : Mat) (v : Nat → Int) (i : Nat) : Nat → Nat → Int
  | 0 => v
  | j + 1 => insS g m (insJ g m v i j) i j
def insI (n : Nat) (g : Int) (m : Mat) (v : Nat → Int) : Nat → Nat → Int
  | 0 => v
  | i + 1 => insJ g m (insI n g m v i) i (n + 1)
def insR (n : Nat) (g : Int) (m : Mat) : Nat → Nat → Int
  | 0 => fun _ => 0
  | r + 1 => insI n g m (insR n g m r) (n + 1)
theorem insS_ge (g : Int) (m : Mat) (v : Nat → Int) (i j a : Nat) : v a ≤ insS g m v i j a := by
  unfold insS
  split
  · rename_i h
    show _ ≤ if a = j then _ else _
    split
    · rename_i e; subst e; omega
    · exact Int.le_refl _
  · exact Int.le_refl _
theorem insJ_ge (g : Int) (m : Mat) (v : Nat → Int) (i a : Nat) : ∀ j d, insJ g m v i j a ≤ insJ g m v i (j + d) a
  | _, 0 => Int.le_refl _
  | j, d + 1 => Int.le_trans (insJ_ge g m v i a j d) (insS_ge g m _ i (j + d) a)
theorem insI_ge (n : Nat) (g : Int) (m : Mat) (v : Nat → Int) (a : Nat) : ∀ i d, insI n g m v i a ≤ insI n g m v (i + d) a
  | _, 0 => Int.le_refl _
  | i, d + 1 => Int.le_trans (insI_ge n g m v a i d) (by
    have := insJ_ge g m (insI n g m v (i + d)) (i + d) a 0 (n + 1)
    rw [Nat.zero_add] at this
    exact this)
theorem insS_le {n : Nat} {g : Int} {m : Mat} {u v : Nat → Int} (hu : Sol n g m u) (hv : ∀ a, a ≤ n → v a ≤ u a) {i j : Nat} (hi : i ≤ n) (hj : j ≤ n) : ∀ a, a ≤ n → insS g m v i j a ≤ u a := fun a ha => by
  unfold insS
  split
  · rename_i h
    show (if a = j then _ else _) ≤ _
    split
    · rename_i e
      subst e
      have := hu.2 i a hi ha h.1
      have := hv i hi
      omega
    · exact hv a ha
  · exact hv a ha
theorem insJ_le {n : Nat} {g : Int} {m : Mat} {u v : Nat → Int} (hu : Sol n g m u) (hv : ∀ a, a ≤ n → v a ≤ u a) {i : Nat} (hi : i ≤ n) : ∀ j, j ≤ n + 1 → ∀ a, a ≤ n → insJ g m v i j a ≤ u a
  | 0, _ => hv
  | j + 1, h => insS_le hu (insJ_le hu hv hi j (by omega)) hi (by omega)
theorem insI_le {n : Nat} {g : Int} {m : Mat} {u v : Nat → Int} (hu : Sol n g m u) (hv : ∀ a, a ≤ n → v a ≤ u a) : ∀ i, i ≤ n + 1 → ∀ a, a ≤ n → insI n g m v i a ≤ u a
  | 0, _ => hv
  | i + 1, h => insJ_le hu (insI_le hu hv i (by omega)) (by omega) (n + 1) (Nat.le_refl _)
theorem insR_le {n : Nat} {g : Int} {m : Mat} {u : Nat → Int} (hu : Sol n g m u) : ∀ r, ∀ a, a ≤ n → insR n g m r a ≤ u a
  | 0 => fun a ha => hu.1 a ha
  | r + 1 => insI_le hu (insR_le hu r) (n + 1) (Nat.le_refl _)
theorem insR_pos (n : Nat) (g : Int) (m : Mat) : ∀ r a, 0 ≤ insR n g m r a
  | 0, _ => Int.le_refl _
  | r + 1, a => Int.le_trans (insR_pos n g m r a) (by
    have := insI_ge n g m (insR n g m r) a 0 (n + 1)
    rw [Nat.zero_add] at this
    exact this)
/-- Behind a round each bound was looked at. -/
theorem round_ge (n : Nat) (g : Int) (m : Mat) (v : Nat → Int) {i j : Nat} (hi : i ≤ n) (hj : j ≤ n) (hf : m i j ≠ none62) : v i - (m i j / 2 * g - (1 - m i j % 2)) ≤ insI n g m v (n + 1) j := by
  have h1 := insI_ge n g m v j (i + 1) (n - i)
  rw [show i + 1 + (n - i) = n + 1 by omega] at h1
  refine Int.le_trans ?_ h1
  show _ ≤ insJ g m (insI n g m v i) i (n + 1) j
  have h2 := insJ_ge g m (insI n g m v i) i j (j + 1) (n - j)
  rw [show j + 1 + (n - j) = n + 1 by omega] at h2
  refine Int.le_trans ?_ h2
  show _ ≤ insS g m (insJ g m (insI n g m v i) i j) i j j
  have h3 : v i ≤ insJ g m (insI n g m v i) i j i := by
    have a1 := insI_ge n g m v i 0 i
    have a2 := insJ_ge g m (insI n g m v i) i i 0 j
    rw [Nat.zero_add] at a1 a2
    exact Int.le_trans a1 a2
  generalize insJ g m (insI n g m v i) i j = x at h3
  unfold insS
  split
  · simp only [if_true]; omega
  · rename_i h
    have : ¬ x j < x i - (m i j / 2 * g - (1 - m i j % 2)) := fun hh => h ⟨hf, hh⟩
    omega

/-- The sum of a valuation. -/
def sumU (u : Nat → Int) : Nat → Int
  | 0 => 0
  | k + 1 => sumU u k + u k
theorem sumU_le {u v : Nat → Int} : ∀ N, (∀ a, a < N → u a ≤ v a) → sumU u N ≤ sumU v N
  | 0, _ => Int.le_refl _
  | N + 1, h => by
    have := sumU_le N fun a ha => h a (by omega)
    have := h N (by omega)
    unfold sumU; omega
theorem sumU_lt {u v : Nat → Int} : ∀ N k0, k0 < N → (∀ a, a < N → u a ≤ v a) → u k0 < v k0 → sumU u N < sumU v N
  | 0, k0, h0, _, _ => by omega
  | N + 1, k0, h0, h, hl => by
    unfold sumU
    by_cases e : k0 = N
    · subst e
      have := sumU_le k0 fun a ha => h a (by omega)
      omega
    · have := sumU_lt N k0 (by omega) (fun a ha => h a (by omega)) hl
      have := h N (by omega)
      omega
theorem sumU_pos {u : Nat → Int} : ∀ N, (∀ a, a < N → 0 ≤ u a) → 0 ≤ sumU u N
  | 0, _ => Int.le_refl _
  | N + 1, h => by
    have := sumU_pos N fun a ha => h a (by omega)
    have := h N (by omega)
    unfold sumU; omega
/-- There is one whose sum is the least. -/
theorem least_sol {n : Nat} {g : Int} {m : Mat} : ∀ (s : Nat) (u : Nat → Int), Sol n g m u → sumU u (n + 1) ≤ s → ∃ u', Sol n g m u' ∧ ∀ u'', Sol n g m u'' → sumU u' (n + 1) ≤ sumU u'' (n + 1)
  | 0, u, hu, hs => ⟨u, hu, fun u'' hu'' => by
    have := sumU_pos (n + 1) fun a ha => hu''.1 a (by omega)
    omega⟩
  | s + 1, u, hu, hs => by
    by_cases h : ∀ u'', Sol n g m u'' → sumU u (n + 1) ≤ sumU u'' (n + 1)
    · exact ⟨u, hu, h⟩
    · have : ∃ u'', Sol n g m u'' ∧ sumU u'' (n + 1) < sumU u (n + 1) := by
        refine Classical.byContradiction fun hn => h fun u'' hu'' => ?_
        exact Int.not_lt.1 fun hl => hn ⟨u'', hu'', hl⟩
      obtain ⟨u'', hu'', hl⟩ := this
      exact least_sol s u'' hu'' (by omega)

/-- So many places are as in u. -/
def same (n : Nat) (v u : Nat → Int) : Int := cnt (fun a => decide (v a = u a)) (n + 1)
theorem round_more {n : Nat} {g : Int} {m : Mat} {u v : Nat → Int} (hu : Sol n g m u) (hl : ∀ u'', Sol n g m u'' → sumU u (n + 1) ≤ sumU u'' (n + 1)) (hv0 : ∀ a, a ≤ n → 0 ≤ v a) (hv : ∀ a, a ≤ n → v a ≤ u a)
    (hne : ∃ a, a ≤ n ∧ v a ≠ u a) : same n v u + 1 ≤ same n (insI n g m v (n + 1)) u := by
  have hge : ∀ a, v a ≤ insI n g m v (n + 1) a := fun a => by
    have := insI_ge n g m v a 0 (n + 1)
    rw [Nat.zero_add] at this
    exact this
  have hle := insI_le hu hv (n + 1) (Nat.le_refl _)
  have hkeep : ∀ a, a ≤ n → v a = u a → insI n g m v (n + 1) a = u a := fun a ha e => by
    have := hge a
    have := hle a ha
    omega
  by_cases hex : ∃ a, a ≤ n ∧ v a ≠ u a ∧ insI n g m v (n + 1) a = u a
  · obtain ⟨a, ha, h1, h2⟩ := hex
    exact cnt_lt (n + 1) a (by omega) (fun k hk h => decide_eq_true (hkeep k (by omega) (of_decide_eq_true h))) (decide_eq_false h1) (decide_eq_true h2)
  · exfalso
    have hno : ∀ a, a ≤ n → v a ≠ u a → insI n g m v (n + 1) a < u a := fun a ha h1 => by
      have h2 := hle a ha
      have h3 : insI n g m v (n + 1) a ≠ u a := fun e => hex ⟨a, ha, h1, e⟩
      omega
    obtain ⟨a0, ha0, hne0⟩ := hne
    have hsol : Sol n g m (fun a => if v a = u a then u a else u a - 1) := by
      refine ⟨fun a ha => ?_, fun i j hi hj hf => ?_⟩
      · show 0 ≤ if v a = u a then u a else u a - 1
        split
        · exact hu.1 a ha
        · have := hv a ha
          have := hv0 a ha
          omega
      · show (if v i = u i then u i else u i - 1) - _ ≤ if v j = u j then u j else u j - 1
        have t := hu.2 i j hi hj hf
        by_cases h1 : v i = u i
        · rw [if_pos h1]
          by_cases h2 : v j = u j
          · rw [if_pos h2]; exact t
          · rw [if_neg h2]
            have r := round_ge n g m v hi hj hf
            have := hno j hj h2
            rw [h1] at r
            omega
        · rw [if_neg h1]
          split <;> omega
    have h1 := hl _ hsol
    have h2 := sumU_lt (u := fun a => if v a = u a then u a else u a - 1) (v := u) (n + 1) a0 (by omega) (fun a _ => by
      show (if v a = u a then u a else u a - 1) ≤ u a
      split <;> omega) (by
      show (if v a0 = u a0 then u a0 else u a0 - 1) < u a0
      rw [if_neg hne0]; omega)
    omega
theorem rounds_same {n : Nat} {g : Int} {m : Mat} {u : Nat → Int} (hu : Sol n g m u) (hl : ∀ u'', Sol n g m u'' → sumU u (n + 1) ≤ sumU u'' (n + 1)) : ∀ r : Nat, (r : Int) ≤ same n (insR n g m r) u ∨ ∀ a, a ≤ n → insR n g m r a = u a
  | 0 => .inl (by have := (cnt_bd (fun a => decide (insR n g m 0 a = u a)) (n + 1)).1; exact this)
  | r + 1 => by
    by_cases hall : ∀ a, a ≤ n → insR n g m r a = u a
    · right
      intro a ha
      have h1 := insR_le hu (r + 1) a ha
      have h2 := insI_ge n g m (insR n g m r) a 0 (n + 1)
      rw [Nat.zero_add] at h2
      have h3 : insR n g m r a ≤ insR n g m (r + 1) a := h2
      have := hall a ha
      omega
    · left
      rcases rounds_same hu hl r with ih | ih
      · have hne : ∃ a, a ≤ n ∧ insR n g m r a ≠ u a := by
          refine Classical.byContradiction fun hn => hall fun a ha => Classical.byContradiction fun h => hn ⟨a, ha, h⟩
        have := round_more hu hl (fun a _ => insR_pos n g m r a) (insR_le hu r) hne
        show ((r + 1 : Nat) : Int) ≤ same n (insI n g m (insR n g m r) (n + 1)) u
        omega
      · exact absurd ih hall
/-- What is found is a valuation, and the least of sums; no more than any. -/
theorem inside_sol {n : Nat} {g : Int} {m : Mat} {u0 : Nat → Int} (h : Sol n g m u0) : Sol n g m (insR n g m (n + 2)) ∧ (∀ r a, a ≤ n → insR n g m r a ≤ u0 a) := by
  refine ⟨?_, fun r => insR_le h r⟩
  obtain ⟨u, hu, hl⟩ := least_sol (sumU u0 (n + 1)).toNat u0 h (by omega)
  have hall : ∀ a, a ≤ n → insR n g m (n + 2) a = u a := by
    rcases rounds_same hu hl (n + 2) with hr | hr
    · exfalso
      have := (cnt_bd (fun a => decide (insR n g m (n + 2) a = u a)) (n + 1)).2
      have hr' : ((n + 2 : Nat) : Int) ≤ cnt (fun a => decide (insR n g m (n + 2) a = u a)) (n + 1) := hr
      omega
    · exact hr
  refine ⟨fun j hj => by rw [hall j hj]; exact hu.1 j hj, fun i j hi hj hf => ?_⟩
  rw [hall i hi, hall j hj]
  exact hu.2 i j hi hj hf
theorem sol_sat {n : Nat} {g : Int} {m : Mat} {u : Nat → Int} (h : Sol n g m u) : satM n g m u := fun i j hi hj => sat_of_le fun hf => by
  have := h.2 i j hi hj hf
  omega
theorem solid_sol {n : Nat} {m : Mat} (h : Solid n m) : Sol n ((n : Int) + 1) m (solU n m) := ⟨solU_pos h, solU_sat h⟩

/-! ### one bound more -/
/-- Closed, with one bound made stricter. -/
def tighter (m : Mat) (j i : Nat) (o : Int) : Mat := fun a b => min (m a b) (wsum (wsum (m a j) o) (m i b))
theorem tighter_solid {n : Nat} {m : Mat} (h : Closed n m m) (h0 : ∀ j, j ≤ n → m 0 j ≤ 1) {i j : Nat} {o : Int} (hi : i ≤ n) (hj : j ≤ n) (ho : Bd 1125899906842624 o) (hone : 1 ≤ wsum o (m i j)) : Solid n (tighter m j i o) := by
  have f := h.bd
  have F : ∀ a b, a ≤ n → b ≤ n → FB (m a b) := fun a b ha hb => half_fb (f a b ha hb)
  have fo : FB o := half_fb ho
  have f2 : ∀ a, a ≤ n → FB (wsum (m a j) o) := fun a ha => sum_fb (f a j ha hj) ho
  have f3 : ∀ a b, a ≤ n → b ≤ n → FB (wsum (wsum (m a j) o) (m i b)) := fun a b ha hb => (((f a j ha hj).sum ho).sum (f i b hi hb)).mono (by omega)
  have fs : ∀ a b c d, a ≤ n → b ≤ n → c ≤ n → d ≤ n → FB (wsum (m a b) (m c d)) := fun a b c d ha hb hc hd => sum_fb (f a b ha hb) (f c d hc hd)
  have tr : ∀ a k b, a ≤ n → k ≤ n → b ≤ n → m a b ≤ wsum (m a k) (m k b) := fun a k b ha hk hb => h.tri k (by omega) a b ha hb
  refine ⟨fun k hk a b ha hb => ?_, fun a b ha hb => ?_, fun a ha => ?_, fun b hb => ?_⟩
  · have hk : k ≤ n := by omega
    show min (m a b) (wsum (wsum (m a j) o) (m i b)) ≤ wsum (min (m a k) (wsum (wsum (m a j) o) (m i k))) (min (m k b) (wsum (wsum (m k j) o) (m i b)))
    have c1 := tr a k b ha hk hb
    have c2 : wsum (wsum (m a j) o) (m i b) ≤ wsum (wsum (wsum (m a j) o) (m i k)) (m k b) := by
      rw [wsum_assoc (f2 a ha) (F i k hi hk) (F k b hk hb)]
      exact wsum_le (f2 a ha) (f2 a ha) (F i b hi hb) (fs i k k b hi hk hk hb) (Int.le_refl _) (tr i k b hi hk hb)
    have c3 : wsum (wsum (m a j) o) (m i b) ≤ wsum (m a k) (wsum (wsum (m k j) o) (m i b)) := by
      rw [← wsum_assoc (F a k ha hk) (f2 k hk) (F i b hi hb), ← wsum_assoc (F a k ha hk) (F k j hk hj) fo]
      refine wsum_le (f2 a ha) ((((f a k ha hk).sum (f k j hk hj)).sum ho).mono (by omega)) (F i b hi hb) (F i b hi hb) ?_ (Int.le_refl _)
      exact wsum_le (F a j ha hj) (fs a k k j ha hk hk hj) fo fo (tr a k j ha hk hj) (Int.le_refl _)
    have c4 : wsum (wsum (m a j) o) (m i b) ≤ wsum (wsum (wsum (m a j) o) (m i k)) (wsum (wsum (m k j) o) (m i b)) := by
      rw [← wsum_assoc (f3 a k ha hk) (f2 k hk) (F i b hi hb)]
      refine wsum_le (f2 a ha) (((((f a j ha hj).sum ho).sum (f i k hi hk)).sum ((f k j hk hj).sum ho)).mono (by omega)) (F i b hi hb) (F i b hi hb) ?_ (Int.le_refl _)
      have e1 : wsum (wsum (wsum (m a j) o) (m i k)) (wsum (m k j) o) = wsum (wsum (m a j) o) (wsum (wsum (m i k) (m k j)) o) := by
        rw [wsum_assoc (f2 a ha) (F i k hi hk) (f2 k hk), wsum_assoc (F i k hi hk) (F k j hk hj) fo]
      rw [e1]
      have e2 : 1 ≤ wsum (wsum (m i k) (m k j)) o := by
        refine Int.le_trans hone ?_
        rw [wsum_comm o]
        exact wsum_le (F i j hi hj) (fs i k k j hi hk hk hj) fo fo (tr i k j hi hk hj) (Int.le_refl _)
      have := wsum_le (a := wsum (m a j) o) (a' := wsum (m a j) o) (b := 1) (b' := wsum (wsum (m i k) (m k j)) o) (f2 a ha) (f2 a ha) (.inr (by omega)) ((((f i k hi hk).sum (f k j hk hj)).sum ho).mono (by omega)) (Int.le_refl _) e2
      rwa [wsum_one_right] at this
    have m1 : min (m a k) (wsum (wsum (m a j) o) (m i k)) = m a k ∨ min (m a k) (wsum (wsum (m a j) o) (m i k)) = wsum (wsum (m a j) o) (m i k) := by omega
    have m2 : min (m k b) (wsum (wsum (m k j) o) (m i b)) = m k b ∨ min (m k b) (wsum (wsum (m k j) o) (m i b)) = wsum (wsum (m k j) o) (m i b) := by omega
    rcases m1 with m1 | m1 <;> rcases m2 with m2 | m2 <;> rw [m1, m2]
    · omega
    · omega
    · omega
    · omega
  · exact (F a b ha hb).min (f3 a b ha hb)
  · show min (m a a) (wsum (wsum (m a j) o) (m i a)) = 1
    have e : 1 ≤ wsum (wsum (m a j) o) (m i a) := by
      refine Int.le_trans hone ?_
      rw [wsum_comm (m a j) o, wsum_assoc fo (F a j ha hj) (F i a hi ha), wsum_comm (m a j)]
      exact wsum_le fo fo (F i j hi hj) (fs i a a j hi ha ha hj) (Int.le_refl _) (tr i a j hi ha hj)
    rw [h.one a ha]
    omega
  · have := h0 b hb
    show min (m 0 b) _ ≤ 1
    omega
theorem tighter_le (m : Mat) (j i : Nat) (o : Int) (a b : Nat) : tighter m j i o a b ≤ m a b := by
  unfold tighter; omega
theorem tighter_at {n : Nat} {m : Mat} (h : Closed n m m) {i j : Nat} (hi : i ≤ n) (hj : j ≤ n) (o : Int) : tighter m j i o j i ≤ o := by
  unfold tighter
  rw [h.one j hj, h.one i hi, wsum_one_left, wsum_one_right]
  omega
/-- The opposite of a bound that is stricter than a cell lets the cell be. -/
theorem not_one {b c : Int} (hb : Bd 1125899906842624 b) (hbn : b ≠ none62) (hc : FB c) (h : b < c) : 1 ≤ wsum (1 - b) c := by
  have f := (half_fb hb).fin hbn
  by_cases e : c = none62
  · rw [e, wsum_none_right]; decide
  · rw [wsum_min (by unfold none62; omega) e]
    omega

end Go.Proofs.Ytgpmfnahjepjjaa
