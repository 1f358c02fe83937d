/- Texts of ours, laid together: Mfm, Jb, Jd, Je, Jl, Ju, Gl, Gp. -/
import Derived.Test.YtmelblnflalanaaGreatMg11
/- Each zone that is not empty has a valuation on the grid of its clocks and one; how it is found; what is not forbidden is there. -/
namespace Go.Proofs.YtmelblnflalanaaGreat
set_option linter.unusedVariables false
set_option linter.unusedSimpArgs false

/-! ### counting -/
def cnt (P : Nat → Bool) : Nat → Int
  | 0 => 0
  | k + 1 => cnt P k + (if P k then 1 else 0)
theorem cnt_le {P Q : Nat → Bool} : ∀ N, (∀ k, k < N → P k = true → Q k = true) → cnt P N ≤ cnt Q N
  | 0, _ => Int.le_refl _
  | N + 1, h => by
    have ih := cnt_le N fun k hk => h k (by omega)
    have hN := h N (by omega)
    unfold cnt
    cases hp : P N
    · cases Q N <;> simp <;> omega
    · rw [hN hp]; simp; omega
theorem cnt_lt {P Q : Nat → Bool} : ∀ N k0, k0 < N → (∀ k, k < N → P k = true → Q k = true) → P k0 = false → Q k0 = true → cnt P N + 1 ≤ cnt Q N
  | 0, k0, h0, _, _, _ => by omega
  | N + 1, k0, h0, h, hp, hq => by
    unfold cnt
    by_cases e : k0 = N
    · subst e
      have := cnt_le k0 fun k hk => h k (by omega)
      rw [hp, hq]; simp; omega
    · have ih := cnt_lt N k0 (by omega) (fun k hk => h k (by omega)) hp hq
      have hN := h N (by omega)
      cases hpN : P N
      · cases Q N <;> simp <;> omega
      · rw [hN hpN]; simp; omega
theorem cnt_bd (P : Nat → Bool) : ∀ N, 0 ≤ cnt P N ∧ cnt P N ≤ N
  | 0 => by simp [cnt]
  | N + 1 => by
    have ih := cnt_bd P N
    unfold cnt
    split <;> omega
theorem cnt_miss (P : Nat → Bool) (N k0 : Nat) (h0 : k0 < N) (h : P k0 = false) : cnt P N + 1 ≤ N := by
  have h1 := cnt_lt (P := P) (Q := fun _ => true) N k0 h0 (fun _ _ _ => rfl) h rfl
  have h2 := (cnt_bd (fun _ => true) N).2
  omega

/-! ### a valuation of a closed matrix -/
/-- What a matrix must be to have a valuation: closed, and no clock below 0. -/
structure Solid (n : Nat) (m : Mat) : Prop where
  tri : Tri n m (n + 1)
  bd : ∀ i j, i ≤ n → j ≤ n → FB (m i j)
  one : ∀ i, i ≤ n → m i i = 1
  top : ∀ j, j ≤ n → m 0 j ≤ 1
theorem Solid.fin {n : Nat} {m : Mat} (h : Solid n m) {j : Nat} (hj : j ≤ n) : m 0 j ≠ none62 := fun e => by
  have := h.top j hj
  rw [e] at this
  unfold none62 at this
  omega
theorem Solid.step {n : Nat} {m : Mat} (h : Solid n m) {i k j : Nat} (hi : i ≤ n) (hk : k ≤ n) (hj : j ≤ n) (h1 : m i k ≠ none62) (h2 : m k j ≠ none62) :
    m i j ≠ none62 ∧ m i j ≤ (m i k - m i k % 2) + (m k j - m k j % 2) + min (m i k % 2) (m k j % 2) := by
  have t := h.tri k (by omega) i j hi hj
  rw [wsum_min h1 h2] at t
  refine ⟨fun e => ?_, t⟩
  have f1 := (h.bd i k hi hk).fin h1
  have f2 := (h.bd k j hk hj).fin h2
  rw [e] at t
  unfold none62 at t
  omega
/-- A way that is as short as it can be, and less than reached. -/
def tightR (m : Mat) (k j : Nat) : Bool := decide (m k j ≠ none62 ∧ m 0 j / 2 = m 0 k / 2 + m k j / 2 ∧ m k j % 2 = 0)
/-- The valuation. -/
def solU (n : Nat) (m : Mat) (j : Nat) : Int := ((n : Int) + 1) * (-(m 0 j / 2)) + cnt (fun k => tightR m k j) (n + 1)

theorem tight_trans {n : Nat} {m : Mat} (h : Solid n m) {k i j : Nat} (hk : k ≤ n) (hi : i ≤ n) (hj : j ≤ n) (h1 : tightR m k i = true) (h2 : m i j ≠ none62) (h3 : m 0 j / 2 = m 0 i / 2 + m i j / 2) : tightR m k j = true := by
  unfold tightR at h1
  obtain ⟨a1, a2, a3⟩ := of_decide_eq_true h1
  obtain ⟨b1, b2⟩ := h.step hk hi hj a1 h2
  have b3 := (h.step (Nat.zero_le n) hk hj (h.fin hk) b1).2
  refine decide_eq_true ⟨b1, ?_, ?_⟩ <;> omega
theorem solU_sat {n : Nat} {m : Mat} (h : Solid n m) : ∀ i j, i ≤ n → j ≤ n → m i j ≠ none62 → solU n m i - (m i j / 2 * ((n : Int) + 1) - (1 - m i j % 2)) ≤ solU n m j := fun i j hi hj hf => by
  have t := (h.step (Nat.zero_le n) hi hj (h.fin hi) hf).2
  have hp : -(m 0 j / 2) ≥ -(m 0 i / 2) - m i j / 2 := by omega
  have hself : tightR m i i = false := by
    unfold tightR
    rw [h.one i hi]
    refine decide_eq_false fun hh => ?_
    have := hh.2.2
    omega
  have hqi := cnt_miss (fun k => tightR m k i) (n + 1) i (by omega) hself
  have hqj := (cnt_bd (fun k => tightR m k j) (n + 1)).1
  unfold solU
  obtain ⟨a, ha⟩ : ∃ a, a = m 0 i / 2 := ⟨_, rfl⟩
  obtain ⟨b, hb⟩ : ∃ b, b = m 0 j / 2 := ⟨_, rfl⟩
  obtain ⟨x, hx⟩ : ∃ x, x = m i j / 2 := ⟨_, rfl⟩
  obtain ⟨r, hr⟩ : ∃ r, r = m i j % 2 := ⟨_, rfl⟩
  have hr2 : 0 ≤ r ∧ r ≤ 1 := by omega
  rw [← ha, ← hb, ← hx, ← hr]
  rw [← ha, ← hb, ← hx] at hp
  by_cases e : b = a + x
  · have hq : cnt (fun k => tightR m k i) (n + 1) + (1 - r) ≤ cnt (fun k => tightR m k j) (n + 1) := by
      have himp : ∀ k, k < n + 1 → (fun k => tightR m k i) k = true → (fun k => tightR m k j) k = true := fun k hk h1 => tight_trans h (by omega) hi hj h1 hf (by omega)
      by_cases hr0 : r = 0
      · have := cnt_lt (P := fun k => tightR m k i) (Q := fun k => tightR m k j) (n + 1) i (by omega) himp hself (decide_eq_true ⟨hf, by omega, by omega⟩)
        omega
      · have := cnt_le (P := fun k => tightR m k i) (Q := fun k => tightR m k j) (n + 1) himp
        omega
    have e2 : ((n : Int) + 1) * -b = ((n : Int) + 1) * -a - x * ((n : Int) + 1) := by
      rw [e, Int.neg_add, Int.mul_add, Int.mul_neg, Int.mul_neg, Int.mul_comm x]; omega
    omega
  · have e1 : -b ≥ -a - x + 1 := by omega
    have e2 : ((n : Int) + 1) * -b ≥ ((n : Int) + 1) * (-a - x + 1) := Int.mul_le_mul_of_nonneg_left e1 (by omega)
    have e3 : ((n : Int) + 1) * (-a - x + 1) = ((n : Int) + 1) * -a - x * ((n : Int) + 1) + ((n : Int) + 1) := by
      rw [Int.mul_add, Int.mul_sub, Int.mul_comm x]; omega
    omega
theorem solU_pos {n : Nat} {m : Mat} (h : Solid n m) : ∀ j, j ≤ n → 0 ≤ solU n m j := fun j hj => by
  have h1 := h.top j hj
  have h2 := (cnt_bd (fun k => tightR m k j) (n + 1)).1
  have h3 : 0 ≤ ((n : Int) + 1) * (-(m 0 j / 2)) := Int.mul_nonneg (by omega) (by omega)
  unfold solU
  omega
theorem solU_le {n : Nat} {m : Mat} {X : Int} (hX : ∀ j, j ≤ n → -X ≤ m 0 j / 2) : ∀ j, j ≤ n → solU n m j ≤ ((n : Int) + 1) * X + ((n : Int) + 1) := fun j hj => by
  have h1 := hX j hj
  have h2 := (cnt_bd (fun k => tightR m k j) (n + 1)).2
  have h3 : ((n : Int) + 1) * (-(m 0 j / 2)) ≤ ((n : Int) + 1) * X := Int.mul_le_mul_of_nonneg_left (by omega) (by omega)
  unfold solU
  omega
theorem sat_of_le {g b x : Int} (h : b ≠ none62 → x ≤ b / 2 * g - (1 - b % 2)) : sat g b x := by
  by_cases e : b = none62
  · exact .inl e
  · have := h e
    exact .inr (by omega)
theorem le_of_sat {g b x : Int} (h : sat g b x) (hb : b ≠ none62) : x ≤ b / 2 * g - (1 - b % 2) := by
  rcases h with h | h
  · exact absurd h hb
  · omega
theorem solid_sat {n : Nat} {m : Mat} (h : Solid n m) : satM n ((n : Int) + 1) m (solU n m) := fun i j hi hj => sat_of_le fun hf => by
  have := solU_sat h i j hi hj hf
  omega

/-! ### how the least one is found -/
/-- A valuation that keeps all bounds, none below 0. -/
def Sol (n : Nat) (g : Int) (m : Mat) (u : Nat → Int) : Prop := (∀ j, j ≤ n → 0 ≤ u j) ∧ ∀ i j, i ≤ n → j ≤ n → m i j ≠ none62 → u i - (m i j / 2 * g - (1 - m i j % 2)) ≤ u j
/-- One bound is looked at. -/
def insS (g : Int) (m : Mat) (v : Nat → Int) (i j : Nat) : Nat → Int :=
  if m i j ≠ none62 ∧ v j < v i - (m i j / 2 * g - (1 - m i j % 2)) then fun a => if a = j then v i - (m i j / 2 * g - (1 - m i j % 2)) else v a else v
def insJ (g : Int) (m : Mat) (v : Nat → Int) (i : Nat) : Nat → Nat → Int
  | 0 => v
  | j + 1 => insS g m (insJ g m v i j) i j
def insI (n : Nat) (g : Int) (m : Mat) (v : Nat → Int) : Nat → Nat → Int
  | 0 => v
  | i + 1 => insJ g m (insI n g m v i) i (n + 1)
def insR (n : Nat) (g : Int) (m : Mat) : Nat → Nat → Int
  | 0 => fun _ => 0
  | r + 1 => insI n g m (insR n g m r) (n + 1)
theorem insS_ge (g : Int) (m : Mat) (v : Nat → Int) (i j a : Nat) : v a ≤ insS g m v i j a := by
  unfold insS
  split
  · rename_i h
    show _ ≤ if a = j then _ else _
    split
    · rename_i e; subst e; omega
    · exact Int.le_refl _
  · exact Int.le_refl _
theorem insJ_ge (g : Int) (m : Mat) (v : Nat → Int) (i a : Nat) : ∀ j d, insJ g m v i j a ≤ insJ g m v i (j + d) a
  | _, 0 => Int.le_refl _
  | j, d + 1 => Int.le_trans (insJ_ge g m v i a j d) (insS_ge g m _ i (j + d) a)
theorem insI_ge (n : Nat) (g : Int) (m : Mat) (v : Nat → Int) (a : Nat) : ∀ i d, insI n g m v i a ≤ insI n g m v (i + d) a
  | _, 0 => Int.le_refl _
  | i, d + 1 => Int.le_trans (insI_ge n g m v a i d) (by
    have := insJ_ge g m (insI n g m v (i + d)) (i + d) a 0 (n + 1)
    rw [Nat.zero_add] at this
    exact this)
theorem insS_le {n : Nat} {g : Int} {m : Mat} {u v : Nat → Int} (hu : Sol n g m u) (hv : ∀ a, a ≤ n → v a ≤ u a) {i j : Nat} (hi : i ≤ n) (hj : j ≤ n) : ∀ a, a ≤ n → insS g m v i j a ≤ u a := fun a ha => by
  unfold insS
  split
  · rename_i h
    show (if a = j then _ else _) ≤ _
    split
    · rename_i e
      subst e
      have := hu.2 i a hi ha h.1
      have := hv i hi
      omega
    · exact hv a ha
  · exact hv a ha
theorem insJ_le {n : Nat} {g : Int} {m : Mat} {u v : Nat → Int} (hu : Sol n g m u) (hv : ∀ a, a ≤ n → v a ≤ u a) {i : Nat} (hi : i ≤ n) : ∀ j, j ≤ n + 1 → ∀ a, a ≤ n → insJ g m v i j a ≤ u a
  | 0, _ => hv
  | j + 1, h => insS_le hu (insJ_le hu hv hi j (by omega)) hi (by omega)
theorem insI_le {n : Nat} {g : Int} {m : Mat} {u v : Nat → Int} (hu : Sol n g m u) (hv : ∀ a, a ≤ n → v a ≤ u a) : ∀ i, i ≤ n + 1 → ∀ a, a ≤ n → insI n g m v i a ≤ u a
  | 0, _ => hv
  | i + 1, h => insJ_le hu (insI_le hu hv i (by omega)) (by omega) (n + 1) (Nat.le_refl _)
theorem insR_le {n : Nat} {g : Int} {m : Mat} {u : Nat → Int} (hu : Sol n g m u) : ∀ r, ∀ a, a ≤ n → insR n g m r a ≤ u a
  | 0 => fun a ha => hu.1 a ha
  | r + 1 => insI_le hu (insR_le hu r) (n + 1) (Nat.le_refl _)
theorem insR_pos (n : Nat) (g : Int) (m : Mat) : ∀ r a, 0 ≤ insR n g m r a
  | 0, _ => Int.le_refl _
  | r + 1, a => Int.le_trans (insR_pos n g m r a) (by
    have := insI_ge n g m (insR n g m r) a 0 (n + 1)
    rw [Nat.zero_add] at this
    exact this)
/-- Behind a round each bound was looked at. -/
theorem round_ge (n : Nat) (g : Int) (m : Mat) (v : Nat → Int) {i j : Nat} (hi : i ≤ n) (hj : j ≤ n) (hf : m i j ≠ none62) : v i - (m i j / 2 * g - (1 - m i j % 2)) ≤ insI n g m v (n + 1) j := by
  have h1 := insI_ge n g m v j (i + 1) (n - i)
  rw [show i + 1 + (n - i) = n + 1 by omega] at h1
  refine Int.le_trans ?_ h1
  show _ ≤ insJ g m (insI n g m v i) i (n + 1) j
  have h2 := insJ_ge g m (insI n g m v i) i j (j + 1) (n - j)
  rw [show j + 1 + (n - j) = n + 1 by omega] at h2
  refine Int.le_trans ?_ h2
  show _ ≤ insS g m (insJ g m (insI n g m v i) i j) i j j
  have h3 : v i ≤ insJ g m (insI n g m v i) i j i := by
    have a1 := insI_ge n g m v i 0 i
    have a2 := insJ_ge g m (insI n g m v i) i i 0 j
    rw [Nat.zero_add] at a1 a2
    exact Int.le_trans a1 a2
  generalize insJ g m (insI n g m v i) i j = x at h3
  unfold insS
  split
  · simp only [if_true]; omega
  · rename_i h
    have : ¬ x j < x i - (m i j / 2 * g - (1 - m i j % 2)) := fun hh => h ⟨hf, hh⟩
    omega

/-- The sum of a valuation. -/
def sumU (u : Nat → Int) : Nat → Int
  | 0 => 0
  | k + 1 => sumU u k + u k
theorem sumU_le {u v : Nat → Int} : ∀ N, (∀ a, a < N → u a ≤ v a) → sumU u N ≤ sumU v N
  | 0, _ => Int.le_refl _
  | N + 1, h => by
    have := sumU_le N fun a ha => h a (by omega)
    have := h N (by omega)
    unfold sumU; omega
theorem sumU_lt {u v : Nat → Int} : ∀ N k0, k0 < N → (∀ a, a < N → u a ≤ v a) → u k0 < v k0 → sumU u N < sumU v N
  | 0, k0, h0, _, _ => by omega
  | N + 1, k0, h0, h, hl => by
    unfold sumU
    by_cases e : k0 = N
    · subst e
      have := sumU_le k0 fun a ha => h a (by omega)
      omega
    · have := sumU_lt N k0 (by omega) (fun a ha => h a (by omega)) hl
      have := h N (by omega)
      omega
theorem sumU_pos {u : Nat → Int} : ∀ N, (∀ a, a < N → 0 ≤ u a) → 0 ≤ sumU u N
  | 0, _ => Int.le_refl _
  | N + 1, h => by
    have := sumU_pos N fun a ha => h a (by omega)
    have := h N (by omega)
    unfold sumU; omega
/-- There is one whose sum is the least. -/
theorem least_sol {n : Nat} {g : Int} {m : Mat} : ∀ (s : Nat) (u : Nat → Int), Sol n g m u → sumU u (n + 1) ≤ s → ∃ u', Sol n g m u' ∧ ∀ u'', Sol n g m u'' → sumU u' (n + 1) ≤ sumU u'' (n + 1)
  | 0, u, hu, hs => ⟨u, hu, fun u'' hu'' => by
    have := sumU_pos (n + 1) fun a ha => hu''.1 a (by omega)
    omega⟩
  | s + 1, u, hu, hs => by
    by_cases h : ∀ u'', Sol n g m u'' → sumU u (n + 1) ≤ sumU u'' (n + 1)
    · exact ⟨u, hu, h⟩
    · have : ∃ u'', Sol n g m u'' ∧ sumU u'' (n + 1) < sumU u (n + 1) := by
        refine Classical.byContradiction fun hn => h fun u'' hu'' => ?_
        exact Int.not_lt.1 fun hl => hn ⟨u'', hu'', hl⟩
      obtain ⟨u'', hu'', hl⟩ := this
      exact least_sol s u'' hu'' (by omega)

/-- So many places are as in u. -/
def same (n : Nat) (v u : Nat → Int) : Int := cnt (fun a => decide (v a = u a)) (n + 1)
theorem round_more {n : Nat} {g : Int} {m : Mat} {u v : Nat → Int} (hu : Sol n g m u) (hl : ∀ u'', Sol n g m u'' → sumU u (n + 1) ≤ sumU u'' (n + 1)) (hv0 : ∀ a, a ≤ n → 0 ≤ v a) (hv : ∀ a, a ≤ n → v a ≤ u a)
    (hne : ∃ a, a ≤ n ∧ v a ≠ u a) : same n v u + 1 ≤ same n (insI n g m v (n + 1)) u := by
  have hge : ∀ a, v a ≤ insI n g m v (n + 1) a := fun a => by
    have := insI_ge n g m v a 0 (n + 1)
    rw [Nat.zero_add] at this
    exact this
  have hle := insI_le hu hv (n + 1) (Nat.le_refl _)
  have hkeep : ∀ a, a ≤ n → v a = u a → insI n g m v (n + 1) a = u a := fun a ha e => by
    have := hge a
    have := hle a ha
    omega
  by_cases hex : ∃ a, a ≤ n ∧ v a ≠ u a ∧ insI n g m v (n + 1) a = u a
  · obtain ⟨a, ha, h1, h2⟩ := hex
    exact cnt_lt (n + 1) a (by omega) (fun k hk h => decide_eq_true (hkeep k (by omega) (of_decide_eq_true h))) (decide_eq_false h1) (decide_eq_true h2)
  · exfalso
    have hno : ∀ a, a ≤ n → v a ≠ u a → insI n g m v (n + 1) a < u a := fun a ha h1 => by
      have h2 := hle a ha
      have h3 : insI n g m v (n + 1) a ≠ u a := fun e => hex ⟨a, ha, h1, e⟩
      omega
    obtain ⟨a0, ha0, hne0⟩ := hne
    have hsol : Sol n g m (fun a => if v a = u a then u a else u a - 1) := by
      refine ⟨fun a ha => ?_, fun i j hi hj hf => ?_⟩
      · show 0 ≤ if v a = u a then u a else u a - 1
        split
        · exact hu.1 a ha
        · have := hv a ha
          have := hv0 a ha
          omega
      · show (if v i = u i then u i else u i - 1) - _ ≤ if v j = u j then u j else u j - 1
        have t := hu.2 i j hi hj hf
        by_cases h1 : v i = u i
        · rw [if_pos h1]
          by_cases h2 : v j = u j
          · rw [if_pos h2]; exact t
          · rw [if_neg h2]
            have r := round_ge n g m v hi hj hf
            have := hno j hj h2
            rw [h1] at r
            omega
        · rw [if_neg h1]
          split <;> omega
    have h1 := hl _ hsol
    have h2 := sumU_lt (u := fun a => if v a = u a then u a else u a - 1) (v := u) (n + 1) a0 (by omega) (fun a _ => by
      show (if v a = u a then u a else u a - 1) ≤ u a
      split <;> omega) (by
      show (if v a0 = u a0 then u a0 else u a0 - 1) < u a0
      rw [if_neg hne0]; omega)
    omega
theorem rounds_same {n : Nat} {g : Int} {m : Mat} {u : Nat → Int} (hu : Sol n g m u) (hl : ∀ u'', Sol n g m u'' → sumU u (n + 1) ≤ sumU u'' (n + 1)) : ∀ r : Nat, (r : Int) ≤ same n (insR n g m r) u ∨ ∀ a, a ≤ n → insR n g m r a = u a
  | 0 => .inl (by have := (cnt_bd (fun a => decide (insR n g m 0 a = u a)) (n + 1)).1; exact this)
  | r + 1 => by
    by_cases hall : ∀ a, a ≤ n → insR n g m r a = u a
    · right
      intro a ha
      have h1 := insR_le hu (r + 1) a ha
      have h2 := insI_ge n g m (insR n g m r) a 0 (n + 1)
      rw [Nat.zero_add] at h2
      have h3 : insR n g m r a ≤ insR n g m (r + 1) a := h2
      have := hall a ha
      omega
    · left
      rcases rounds_same hu hl r with ih | ih
      · have hne : ∃ a, a ≤ n ∧ insR n g m r a ≠ u a := by
          refine Classical.byContradiction fun hn => hall fun a ha => Classical.byContradiction fun h => hn ⟨a, ha, h⟩
        have := round_more hu hl (fun a _ => insR_pos n g m r a) (insR_le hu r) hne
        show ((r + 1 : Nat) : Int) ≤ same n (insI n g m (insR n g m r) (n + 1)) u
        omega
      · exact absurd ih hall
/-- What is found is a valuation, and the least of sums; no more than any. -/
theorem inside_sol {n : Nat} {g : Int} {m : Mat} {u0 : Nat → Int} (h : Sol n g m u0) : Sol n g m (insR n g m (n + 2)) ∧ (∀ r a, a ≤ n → insR n g m r a ≤ u0 a) := by
  refine ⟨?_, fun r => insR_le h r⟩
  obtain ⟨u, hu, hl⟩ := least_sol (sumU u0 (n + 1)).toNat u0 h (by omega)
  have hall : ∀ a, a ≤ n → insR n g m (n + 2) a = u a := by
    rcases rounds_same hu hl (n + 2) with hr | hr
    · exfalso
      have := (cnt_bd (fun a => decide (insR n g m (n + 2) a = u a)) (n + 1)).2
      have hr' : ((n + 2 : Nat) : Int) ≤ cnt (fun a => decide (insR n g m (n + 2) a = u a)) (n + 1) := hr
      omega
    · exact hr
  refine ⟨fun j hj => by rw [hall j hj]; exact hu.1 j hj, fun i j hi hj hf => ?_⟩
  rw [hall i hi, hall j hj]
  exact hu.2 i j hi hj hf
theorem sol_sat {n : Nat} {g : Int} {m : Mat} {u : Nat → Int} (h : Sol n g m u) : satM n g m u := fun i j hi hj => sat_of_le fun hf => by
  have := h.2 i j hi hj hf
  omega
theorem solid_sol {n : Nat} {m : Mat} (h : Solid n m) : Sol n ((n : Int) + 1) m (solU n m) := ⟨solU_pos h, solU_sat h⟩

/-! ### one bound more -/
/-- Closed, with one bound made stricter. -/
def tighter (m : Mat) (j i : Nat) (o : Int) : Mat := fun a b => min (m a b) (wsum (wsum (m a j) o) (m i b))
theorem tighter_solid {n : Nat} {m : Mat} (h : Closed n m m) (h0 : ∀ j, j ≤ n → m 0 j ≤ 1) {i j : Nat} {o : Int} (hi : i ≤ n) (hj : j ≤ n) (ho : Bd 1125899906842624 o) (hone : 1 ≤ wsum o (m i j)) : Solid n (tighter m j i o) := by
  have f := h.bd
  have F : ∀ a b, a ≤ n → b ≤ n → FB (m a b) := fun a b ha hb => half_fb (f a b ha hb)
  have fo : FB o := half_fb ho
  have f2 : ∀ a, a ≤ n → FB (wsum (m a j) o) := fun a ha => sum_fb (f a j ha hj) ho
  have f3 : ∀ a b, a ≤ n → b ≤ n → FB (wsum (wsum (m a j) o) (m i b)) := fun a b ha hb => (((f a j ha hj).sum ho).sum (f i b hi hb)).mono (by omega)
  have fs : ∀ a b c d, a ≤ n → b ≤ n → c ≤ n → d ≤ n → FB (wsum (m a b) (m c d)) := fun a b c d ha hb hc hd => sum_fb (f a b ha hb) (f c d hc hd)
  have tr : ∀ a k b, a ≤ n → k ≤ n → b ≤ n → m a b ≤ wsum (m a k) (m k b) := fun a k b ha hk hb => h.tri k (by omega) a b ha hb
  refine ⟨fun k hk a b ha hb => ?_, fun a b ha hb => ?_, fun a ha => ?_, fun b hb => ?_⟩
  · have hk : k ≤ n := by omega
    show min (m a b) (wsum (wsum (m a j) o) (m i b)) ≤ wsum (min (m a k) (wsum (wsum (m a j) o) (m i k))) (min (m k b) (wsum (wsum (m k j) o) (m i b)))
    have c1 := tr a k b ha hk hb
    have c2 : wsum (wsum (m a j) o) (m i b) ≤ wsum (wsum (wsum (m a j) o) (m i k)) (m k b) := by
      rw [wsum_assoc (f2 a ha) (F i k hi hk) (F k b hk hb)]
      exact wsum_le (f2 a ha) (f2 a ha) (F i b hi hb) (fs i k k b hi hk hk hb) (Int.le_refl _) (tr i k b hi hk hb)
    have c3 : wsum (wsum (m a j) o) (m i b) ≤ wsum (m a k) (wsum (wsum (m k j) o) (m i b)) := by
      rw [← wsum_assoc (F a k ha hk) (f2 k hk) (F i b hi hb), ← wsum_assoc (F a k ha hk) (F k j hk hj) fo]
      refine wsum_le (f2 a ha) ((((f a k ha hk).sum (f k j hk hj)).sum ho).mono (by omega)) (F i b hi hb) (F i b hi hb) ?_ (Int.le_refl _)
      exact wsum_le (F a j ha hj) (fs a k k j ha hk hk hj) fo fo (tr a k j ha hk hj) (Int.le_refl _)
    have c4 : wsum (wsum (m a j) o) (m i b) ≤ wsum (wsum (wsum (m a j) o) (m i k)) (wsum (wsum (m k j) o) (m i b)) := by
      rw [← wsum_assoc (f3 a k ha hk) (f2 k hk) (F i b hi hb)]
      refine wsum_le (f2 a ha) (((((f a j ha hj).sum ho).sum (f i k hi hk)).sum ((f k j hk hj).sum ho)).mono (by omega)) (F i b hi hb) (F i b hi hb) ?_ (Int.le_refl _)
      have e1 : wsum (wsum (wsum (m a j) o) (m i k)) (wsum (m k j) o) = wsum (wsum (m a j) o) (wsum (wsum (m i k) (m k j)) o) := by
        rw [wsum_assoc (f2 a ha) (F i k hi hk) (f2 k hk), wsum_assoc (F i k hi hk) (F k j hk hj) fo]
      rw [e1]
      have e2 : 1 ≤ wsum (wsum (m i k) (m k j)) o := by
        refine Int.le_trans hone ?_
        rw [wsum_comm o]
        exact wsum_le (F i j hi hj) (fs i k k j hi hk hk hj) fo fo (tr i k j hi hk hj) (Int.le_refl _)
      have := wsum_le (a := wsum (m a j) o) (a' := wsum (m a j) o) (b := 1) (b' := wsum (wsum (m i k) (m k j)) o) (f2 a ha) (f2 a ha) (.inr (by omega)) ((((f i k hi hk).sum (f k j hk hj)).sum ho).mono (by omega)) (Int.le_refl _) e2
      rwa [wsum_one_right] at this
    have m1 : min (m a k) (wsum (wsum (m a j) o) (m i k)) = m a k ∨ min (m a k) (wsum (wsum (m a j) o) (m i k)) = wsum (wsum (m a j) o) (m i k) := by omega
    have m2 : min (m k b) (wsum (wsum (m k j) o) (m i b)) = m k b ∨ min (m k b) (wsum (wsum (m k j) o) (m i b)) = wsum (wsum (m k j) o) (m i b) := by omega
    rcases m1 with m1 | m1 <;> rcases m2 with m2 | m2 <;> rw [m1, m2]
    · omega
    · omega
    · omega
    · omega
  · exact (F a b ha hb).min (f3 a b ha hb)
  · show min (m a a) (wsum (wsum (m a j) o) (m i a)) = 1
    have e : 1 ≤ wsum (wsum (m a j) o) (m i a) := by
      refine Int.le_trans hone ?_
      rw [wsum_comm (m a j) o, wsum_assoc fo (F a j ha hj) (F i a hi ha), wsum_comm (m a j)]
      exact wsum_le fo fo (F i j hi hj) (fs i a a j hi ha ha hj) (Int.le_refl _) (tr i a j hi ha hj)
    rw [h.one a ha]
    omega
  · have := h0 b hb
    show min (m 0 b) _ ≤ 1
    omega
theorem tighter_le (m : Mat) (j i : Nat) (o : Int) (a b : Nat) : tighter m j i o a b ≤ m a b := by
  unfold tighter; omega
theorem tighter_at {n : Nat} {m : Mat} (h : Closed n m m) {i j : Nat} (hi : i ≤ n) (hj : j ≤ n) (o : Int) : tighter m j i o j i ≤ o := by
  unfold tighter
  rw [h.one j hj, h.one i hi, wsum_one_left, wsum_one_right]
  omega
/-- The opposite of a bound that is stricter than a cell lets the cell be. -/
theorem not_one {b c : Int} (hb : Bd 1125899906842624 b) (hbn : b ≠ none62) (hc : FB c) (h : b < c) : 1 ≤ wsum (1 - b) c := by
  have f := (half_fb hb).fin hbn
  by_cases e : c = none62
  · rw [e, wsum_none_right]; decide
  · rw [wsum_min (by unfold none62; omega) e]
    omega

end Go.Proofs.YtmelblnflalanaaGreat

/- The least valuation of a zone on its grid: the rounds stand still in time. -/
namespace Go.Proofs.YtmelblnflalanaaGreat
set_option linter.unusedVariables false
set_option linter.unusedSimpArgs false

theorem sol_round {n : Nat} {g : Int} {m : Mat} {v : Nat → Int} (h : Sol n g m v) : ∀ k, k ≤ n + 1 → insI n g m v k = v := by
  have hs : ∀ i j, i ≤ n → j ≤ n → insS g m v i j = v := fun i j hi hj => by
    unfold insS
    rw [if_neg]
    rintro ⟨h1, h2⟩
    have := h.2 i j hi hj h1
    omega
  have hj : ∀ i, i ≤ n → ∀ j, j ≤ n + 1 → insJ g m v i j = v := fun i hi j => by
    induction j with
    | zero => intro _; rfl
    | succ j ih =>
      intro hj
      show insS g m (insJ g m v i j) i j = v
      rw [ih (by omega)]
      exact hs i j hi (by omega)
  intro k
  induction k with
  | zero => intro _; rfl
  | succ k ih =>
    intro hk
    show insJ g m (insI n g m v k) k (n + 1) = v
    rw [ih (by omega)]
    exact hj k (by omega) (n + 1) (Nat.le_refl _)
theorem insR_later {n : Nat} {g : Int} {m : Mat} {r : Nat} (h : insR n g m (r + 1) = insR n g m r) : ∀ d, insR n g m (r + d) = insR n g m r
  | 0 => rfl
  | d + 1 => by
    have ih := insR_later h d
    show insI n g m (insR n g m (r + d)) (n + 1) = _
    rw [ih]
    exact h
/-- Where the rounds stand still, there they are what n + 2 rounds come to. -/
theorem insR_end {n : Nat} {g : Int} {m : Mat} {u0 : Nat → Int} (hs : Sol n g m u0) {r : Nat} (h : insR n g m (r + 1) = insR n g m r) : insR n g m r = insR n g m (n + 2) := by
  rcases Nat.lt_or_ge r (n + 2) with hr | hr
  · have := insR_later h (n + 2 - r)
    rw [show r + (n + 2 - r) = n + 2 by omega] at this
    exact this.symm
  · have h2 : insR n g m (n + 2 + 1) = insR n g m (n + 2) := sol_round (inside_sol hs).1 (n + 1) (Nat.le_refl _)
    have := insR_later h2 (r - (n + 2))
    rw [show n + 2 + (r - (n + 2)) = r by omega] at this
    exact this
/-- The least valuation, as fractions. -/
def leastV (n : Nat) (m : Mat) : List (Int × Int) := (List.range n).map fun i => (newP (insR n ((n : Int) + 1) (fun a b => wid (m a b)) (n + 2) (i + 1)) ((n : Int) + 1)).1
theorem leastV_length (n : Nat) (m : Mat) : (leastV n m).length = n := by simp [leastV]

end Go.Proofs.YtmelblnflalanaaGreat

/- Fractions as rational numbers: order, sums, what keeps a bound; what is in a zone. -/
namespace Go.Proofs.YtmelblnflalanaaGreat
set_option linter.unusedVariables false
set_option linter.unusedSimpArgs false

def qv (x : Int × Int) : Rat := (x.1 : Rat) / (x.2 : Rat)
theorem cast_pos {d : Int} (h : 0 < d) : (0 : Rat) < (d : Rat) := by exact_mod_cast h
theorem qv_mul {x : Int × Int} (hx : 0 < x.2) : qv x * (x.2 : Rat) = (x.1 : Rat) := by
  have h1 := cast_pos hx
  exact Rat.div_mul_cancel (by grind)
theorem lt_iff_mul {a b c : Rat} (hc : 0 < c) : a < b ↔ a * c < b * c := (Rat.mul_lt_mul_right hc).symm
theorem eq_of_mul {a b c : Rat} (hc : 0 < c) (h : a * c = b * c) : a = b := by
  have hn : c ≠ 0 := by grind
  rw [← Rat.mul_div_cancel (a := a) hn, h, Rat.mul_div_cancel hn]
/-- comparing -/
theorem qv_lt {x y : Int × Int} (hx : 0 < x.2) (hy : 0 < y.2) : qv x < qv y ↔ x.1 * y.2 - y.1 * x.2 < 0 := by
  have h1 := cast_pos hx
  have h2 := cast_pos hy
  have e1 := qv_mul hx
  have e2 := qv_mul hy
  rw [lt_iff_mul (Rat.mul_pos h1 h2)]
  have e3 : qv x * ((x.2 : Rat) * (y.2 : Rat)) = (x.1 : Rat) * (y.2 : Rat) := by grind
  have e4 : qv y * ((x.2 : Rat) * (y.2 : Rat)) = (y.1 : Rat) * (x.2 : Rat) := by grind
  rw [e3, e4]
  have : ((x.1 : Rat) * (y.2 : Rat) < (y.1 : Rat) * (x.2 : Rat)) ↔ x.1 * y.2 < y.1 * x.2 := by exact_mod_cast Iff.rfl
  rw [this]; omega
theorem qv_eq {x y : Int × Int} (hx : 0 < x.2) (hy : 0 < y.2) : qv x = qv y ↔ x.1 * y.2 - y.1 * x.2 = 0 := by
  have h1 := qv_lt hx hy
  have h2 := qv_lt hy hx
  constructor
  · intro h; rw [h] at h1 h2
    have a : ¬ qv y < qv y := by grind
    have a1 : ¬ x.1 * y.2 - y.1 * x.2 < 0 := fun hh => a (h1.2 hh)
    have a2 : ¬ y.1 * x.2 - x.1 * y.2 < 0 := fun hh => a (h2.2 hh)
    omega
  · intro h
    have a : ¬ qv x < qv y := fun hh => by have := h1.1 hh; omega
    have b : ¬ qv y < qv x := fun hh => by have := h2.1 hh; omega
    grind
/-- A fraction's value by its place on a grid. -/
theorem qv_grid {x : Int × Int} {G u : Int} (hx : 0 < x.2) (hG : 0 < G) (e : u * x.2 = x.1 * G) : qv x = (u : Rat) / (G : Rat) := by
  have := (qv_eq (x := x) (y := (u, G)) hx hG).2 (by simp only; omega)
  exact this
theorem qv_of {x : Int × Int} {X D : Int} (hx : 0 < x.2) (hD : 0 < D) (e : x.1 * D = X * x.2) : qv x * (D : Rat) = (X : Rat) := by
  rw [qv_grid hx hD e.symm]
  exact Rat.div_mul_cancel (by have := cast_pos hD; grind)
def kq (b : Int) (q : Rat) : Prop := b = 2147483647 ∨ q < ((b / 2 : Int) : Rat) ∨ (b % 2 = 1 ∧ q = ((b / 2 : Int) : Rat))
theorem keeps_kq {x y : Int × Int} (hx : 0 < x.2) (hy : 0 < y.2) (b : Int) : keepsQ x y b = true ↔ kq b (qv x - qv y) := by
  have h1 := cast_pos hx
  have h2 := cast_pos hy
  have e1 := qv_mul hx
  have e2 := qv_mul hy
  have hp := Rat.mul_pos h1 h2
  obtain ⟨n, hn⟩ : ∃ n, n = b / 2 := ⟨_, rfl⟩
  have e3 : (qv x - qv y) * ((x.2 : Rat) * (y.2 : Rat)) = ((x.1 * y.2 - y.1 * x.2 : Int) : Rat) := by
    rw [Rat.intCast_sub, Rat.intCast_mul, Rat.intCast_mul]; grind
  have e4 : (n : Rat) * ((x.2 : Rat) * (y.2 : Rat)) = ((n * (x.2 * y.2) : Int) : Rat) := by
    rw [Rat.intCast_mul, Rat.intCast_mul]
  have l1 : qv x - qv y < (n : Rat) ↔ x.1 * y.2 - y.1 * x.2 < n * (x.2 * y.2) := by
    rw [lt_iff_mul hp, e3, e4]; exact_mod_cast Iff.rfl
  have l2 : qv x - qv y = (n : Rat) ↔ x.1 * y.2 - y.1 * x.2 = n * (x.2 * y.2) := by
    constructor
    · intro h; rw [h, e4] at e3; exact_mod_cast e3.symm
    · intro h
      rw [h, ← e4] at e3
      exact eq_of_mul hp e3
  unfold keepsQ kq
  rw [← hn, decide_eq_true_iff, l1, l2]
  have : b % 2 = 0 ∨ b % 2 = 1 := by omega
  omega

theorem rq_pos {x : Int × Int} (h : rightR x = true) : 0 < x.2 := (of_decide_eq_true h).1
theorem cmp_qv {x y : Int × Int} (hx : rightR x = true) (hy : rightR y = true) : (cmpP x y < 0 ↔ qv x < qv y) ∧ (cmpP x y = 0 ↔ qv x = qv y) ∧ (0 < cmpP x y ↔ qv y < qv x) := by
  have a := qv_lt (rq_pos hx) (rq_pos hy)
  have b := qv_eq (rq_pos hx) (rq_pos hy)
  have c := qv_lt (rq_pos hy) (rq_pos hx)
  have e : cmpP x y = cmpQI (x.1 * y.2 - y.1 * x.2) := by unfold cmpP; rw [if_pos (by rw [hx, hy]; rfl)]
  rw [e, a, b, c]
  rcases cmp_cases (x.1 * y.2 - y.1 * x.2) with ⟨h1, h2⟩ | ⟨h1, h2⟩ | ⟨h1, h2⟩ <;> rw [h2] <;> omega
theorem frac_qv {X D : Int} (hD : 0 < D) (h : (fracP X D).2 = 0) : rightR (fracP X D).1 = true ∧ qv (fracP X D).1 * (D : Rat) = (X : Rat) :=
  have hr := (frac_right (by omega) h).1
  ⟨hr, qv_of (rq_pos hr) hD (frac_value (by omega) h)⟩
theorem sub_qv {x y : Int × Int} (hx : rightR x = true) (hy : rightR y = true) (h : (subP x y).2 = 0) : rightR (subP x y).1 = true ∧ qv (subP x y).1 = qv x - qv y := by
  have px := rq_pos hx
  have py := rq_pos hy
  have e : subP x y = fracP (x.1 * y.2 - y.1 * x.2) (x.2 * y.2) := by unfold subP; rw [if_pos (by rw [hx, hy]; rfl)]
  rw [e] at h ⊢
  obtain ⟨h1, h2⟩ := frac_qv (Int.mul_pos px py) h
  refine ⟨h1, eq_of_mul (cast_pos (Int.mul_pos px py)) (h2.trans ?_)⟩
  have e1 := qv_mul px
  have e2 := qv_mul py
  rw [Rat.intCast_sub, Rat.intCast_mul, Rat.intCast_mul, Rat.intCast_mul]; grind
theorem add_qv {x y : Int × Int} (hx : rightR x = true) (hy : rightR y = true) (h : (addP x y).2 = 0) : rightR (addP x y).1 = true ∧ qv (addP x y).1 = qv x + qv y := by
  have px := rq_pos hx
  have py := rq_pos hy
  have e : addP x y = fracP (x.1 * y.2 + y.1 * x.2) (x.2 * y.2) := by unfold addP; rw [if_pos (by rw [hx, hy]; rfl)]
  rw [e] at h ⊢
  obtain ⟨h1, h2⟩ := frac_qv (Int.mul_pos px py) h
  refine ⟨h1, eq_of_mul (cast_pos (Int.mul_pos px py)) (h2.trans ?_)⟩
  have e1 := qv_mul px
  have e2 := qv_mul py
  rw [Rat.intCast_add, Rat.intCast_mul, Rat.intCast_mul, Rat.intCast_mul]; grind
theorem qv_int (n : Int) : qv (n, 1) = (n : Rat) := by
  have := qv_mul (x := (n, 1)) (show (0 : Int) < 1 by omega)
  simpa using this
theorem qv_pos {x : Int × Int} (hx : 0 < x.2) : 0 ≤ qv x ↔ 0 ≤ x.1 := by
  have h := qv_lt (x := x) (y := (0, 1)) hx (by decide)
  rw [qv_int] at h
  have e : x.1 * 1 - 0 * x.2 = x.1 := by omega
  simp only at h
  rw [e] at h
  constructor
  · intro a; apply Classical.byContradiction; intro b
    have := h.2 (by omega)
    have z : ((0 : Int) : Rat) = 0 := rfl
    rw [z] at this; grind
  · intro a; apply Classical.byContradiction; intro b
    have z : ((0 : Int) : Rat) = 0 := rfl
    have := h.1 (by rw [z]; grind)
    omega

/-! ### what is in a zone -/
/-- A clock's value as a rational number. -/
def cq (v : List (Int × Int)) (i : Nat) : Rat := qv (clockV v i)
theorem cq_zero (v : List (Int × Int)) : cq v 0 = 0 := by
  unfold cq clockV
  rw [if_pos rfl, qv_int]; rfl
theorem break_none {n : Nat} {m : Mat} {v : List (Int × Int)} : ∀ g k, breakFrom n m v g k = none ↔ ∀ q, k ≤ q → q < k + g → keptAt n m v q = true
  | 0, k => ⟨fun _ q h1 h2 => absurd h2 (by omega), fun _ => rfl⟩
  | g + 1, k => by
    unfold breakFrom
    by_cases h : keptAt n m v k = true
    · rw [if_pos h, break_none g (k + 1)]
      constructor
      · intro a q h1 h2
        by_cases e : q = k
        · rw [e]; exact h
        · exact a q (by omega) (by omega)
      · intro a q h1 h2; exact a q (by omega) (by omega)
    · rw [if_neg h]
      exact ⟨fun a => (by cases a), fun a => absurd (a k (Nat.le_refl _) (by omega)) h⟩
theorem cells_all {n : Nat} {P : Nat → Nat → Prop} : (∀ k, k < (n + 1) * (n + 1) → P (k / (n + 1)) (k % (n + 1))) ↔ ∀ i j, i ≤ n → j ≤ n → P i j := by
  constructor
  · intro h i j hi hj
    have hk : i * (n + 1) + j < (n + 1) * (n + 1) := at_lt (by omega) (by omega)
    have := h _ hk
    rwa [show (i * (n + 1) + j) / (n + 1) = i by rw [Nat.mul_comm, Nat.mul_add_div (by omega), Nat.div_eq_of_lt (by omega)]; omega, show (i * (n + 1) + j) % (n + 1) = j by rw [Nat.mul_comm, Nat.mul_add_mod, Nat.mod_eq_of_lt (by omega)]] at this
  · intro h k hk
    have h1 : k / (n + 1) < n + 1 := Nat.div_lt_of_lt_mul hk
    have h2 := Nat.mod_lt k (show 0 < n + 1 by omega)
    exact h _ _ (by omega) (by omega)
theorem clock_pos {v : List (Int × Int)} (h : rightV v = true) {i : Nat} (hi : i ≤ v.length) : 0 < (clockV v i).2 := rq_pos (clock_right h hi).1
theorem breaks_none {n : Nat} {m : Mat} {v : List (Int × Int)} (hv : rightV v = true) (hl : v.length = n) : breaksP n m v = none ↔ ∀ i j, i ≤ n → j ≤ n → kq (m i j) (cq v i - cq v j) := by
  unfold breaksP
  rw [break_none]
  have := cells_all (n := n) (P := fun i j => kq (m i j) (cq v i - cq v j))
  rw [← this]
  constructor
  · intro h k hk
    have h0 := h k (Nat.zero_le _) (by omega)
    have h1 : k / (n + 1) < n + 1 := Nat.div_lt_of_lt_mul hk
    have h2 := Nat.mod_lt k (show 0 < n + 1 by omega)
    exact (keeps_kq (clock_pos hv (by omega)) (clock_pos hv (by omega)) _).1 h0
  · intro h k _ hk
    have h0 := h k (by omega)
    have h1 : k / (n + 1) < n + 1 := Nat.div_lt_of_lt_mul (by omega)
    have h2 := Nat.mod_lt k (show 0 < n + 1 by omega)
    exact (keeps_kq (clock_pos hv (by omega)) (clock_pos hv (by omega)) _).2 h0
theorem in_iff {n : Nat} {m : Mat} {v : List (Int × Int)} : inP n m v = true ↔ rightV v = true ∧ v.length = n ∧ ∀ i j, i ≤ n → j ≤ n → kq (m i j) (cq v i - cq v j) := by
  unfold inP
  rw [Bool.and_eq_true_iff, Bool.and_eq_true_iff, decide_eq_true_iff, Option.isNone_iff_eq_none]
  constructor
  · rintro ⟨⟨a, b⟩, c⟩; exact ⟨a, b, (breaks_none a b).1 c⟩
  · rintro ⟨a, b, c⟩; exact ⟨⟨a, b⟩, (breaks_none a b).2 c⟩

end Go.Proofs.YtmelblnflalanaaGreat

/- Behind which delays a valuation is in a zone: plain. -/
namespace Go.Proofs.YtmelblnflalanaaGreat
set_option linter.unusedVariables false
set_option linter.unusedSimpArgs false

def spanOk (s : SpanP) : Prop := rightR s.lo = true ∧ (s.ever = true ∨ rightR s.hi = true)
def spanHas (s : SpanP) (q : Rat) : Prop := (qv s.lo < q ∨ (qv s.lo = q ∧ s.loIn = true)) ∧ (s.ever = true ∨ q < qv s.hi ∨ (q = qv s.hi ∧ s.hiIn = true))
theorem right_one (n : Int) : rightR (n, 1) = true := by
  unfold rightR
  refine decide_eq_true ⟨by show (0 : Int) < 1; omega, ?_⟩
  show Nat.gcd n.natAbs 1 = 1
  exact Nat.gcd_one_right _
theorem narrow_has {s s' : SpanP} {x : Int × Int} {b : Int} {above : Bool} (hs : spanOk s) (hx : rightR x = true) (hb : b ≠ 2147483647) (h : narrowP s x b above = some s') :
    spanOk s' ∧ ∀ q, spanHas s' q ↔ spanHas s q ∧ kq b (if above = true then qv x + q else -(qv x + q)) := by
  unfold narrowP at h
  obtain ⟨n, hn⟩ : ∃ n, n = b / 2 := ⟨_, rfl⟩
  rw [← hn] at h
  have hm : b % 2 = 0 ∨ b % 2 = 1 := by omega
  cases above with
  | true =>
    simp only [if_true] at h
    split at h
    · rename_i hk
      obtain ⟨dr, dv⟩ := sub_qv (right_one n) hx hk
      rw [qv_int] at dv
      obtain ⟨d, hd⟩ : ∃ d, d = (subP (n, 1) x).1 := ⟨_, rfl⟩
      rw [← hd] at h dr dv
      split at h
      · rename_i hc
        cases h
        refine ⟨⟨hs.1, .inr dr⟩, fun q => ?_⟩
        unfold spanHas kq
        rw [if_pos rfl, ← hn]
        simp only [Bool.false_eq_true, false_or, decide_eq_true_eq]
        rcases hc with hc | hc
        · rw [hc]; simp only [true_or, and_true]; grind
        · rcases hs.2 with he | he
          · rw [he]; simp only [true_or, and_true]; grind
          · obtain ⟨c1, c2, c3⟩ := cmp_qv dr he
            rw [c1, c2] at hc
            grind
      · rename_i hc
        cases h
        refine ⟨hs, fun q => ?_⟩
        have he : s.ever = false := by
          cases e : s.ever with
          | false => rfl
          | true => exact absurd (.inl e) hc
        rcases hs.2 with he' | he'
        · rw [he] at he'; cases he'
        · obtain ⟨c1, c2, c3⟩ := cmp_qv dr he'
          rw [c1, c2] at hc
          unfold spanHas kq
          rw [if_pos rfl, ← hn]
          grind
    · cases h
  | false =>
    simp only [Bool.false_eq_true, if_false] at h
    split at h
    · rename_i hk
      obtain ⟨dr, dv⟩ := sub_qv (right_one (-n)) hx hk
      rw [qv_int, Rat.intCast_neg] at dv
      obtain ⟨d, hd⟩ : ∃ d, d = (subP (-n, 1) x).1 := ⟨_, rfl⟩
      rw [← hd] at h dr dv
      obtain ⟨c1, c2, c3⟩ := cmp_qv dr hs.1
      split at h
      · rename_i hc
        rw [c2, c3] at hc
        cases h
        refine ⟨⟨dr, hs.2⟩, fun q => ?_⟩
        unfold spanHas kq
        rw [if_neg (by decide), ← hn]
        simp only [decide_eq_true_eq]
        grind
      · rename_i hc
        rw [c2, c3] at hc
        cases h
        refine ⟨hs, fun q => ?_⟩
        unfold spanHas kq
        rw [if_neg (by decide), ← hn]
        grind
    · cases h

/-- A clock behind a delay. -/
def dq (v : List (Int × Int)) (q : Rat) (i : Nat) : Rat := if i = 0 then 0 else cq v i + q
/-- The ends of what a bound lets can be held. -/
def endsHeld (n : Nat) (m : Mat) (v : List (Int × Int)) : Prop := ∀ i j, i ≤ n → j ≤ n → m i j ≠ 2147483647 → ∀ k, 0 < k → k ≤ n → (subP (m i j / 2, 1) (clockV v k)).2 = 0 ∧ (subP (-(m i j / 2), 1) (clockV v k)).2 = 0
theorem narrow_held {s : SpanP} {x : Int × Int} {b : Int} {above : Bool} (h1 : (subP (b / 2, 1) x).2 = 0) (h2 : (subP (-(b / 2), 1) x).2 = 0) : narrowP s x b above ≠ none := by
  unfold narrowP
  rw [if_pos (by cases above <;> simp [h1, h2])]
  cases above with
  | true => rw [if_pos rfl]; split <;> exact fun h => by cases h
  | false => rw [if_neg (by decide)]; split <;> exact fun h => by cases h
theorem step_has {n : Nat} {m : Mat} {v : List (Int × Int)} {i j : Nat} {s : SpanP} (hv : rightV v = true) (hl : v.length = n) (hi : i ≤ n) (hj : j ≤ n) (hs : spanOk s) :
    (∀ s', delayStep n m v i j s = some s' → spanOk s' ∧ ∀ q, spanHas s' q ↔ spanHas s q ∧ kq (m i j) (dq v q i - dq v q j)) ∧
    (endsHeld n m v → delayStep n m v i j s = none → ∀ q, ¬ kq (m i j) (dq v q i - dq v q j)) := by
  have hkq := keeps_kq (clock_pos hv (i := i) (by omega)) (clock_pos hv (i := j) (by omega)) (m i j)
  have z := cq_zero v
  by_cases h0 : decide (i = 0) = decide (j = 0)
  · have hd : ∀ q, dq v q i - dq v q j = cq v i - cq v j := fun q => by
      have h0 := decide_eq_decide.1 h0
      unfold dq
      by_cases e : i = 0
      · rw [if_pos e, if_pos (h0.1 e), e, h0.1 e]; grind
      · rw [if_neg e, if_neg (fun h => e (h0.2 h))]; grind
    constructor
    · intro s' h
      unfold delayStep at h
      rw [if_pos h0] at h
      split at h
      · rename_i hk
        cases h
        refine ⟨hs, fun q => ?_⟩
        rw [hd q]
        exact ⟨fun a => ⟨a, hkq.1 hk⟩, fun a => a.1⟩
      · cases h
    · intro _ h q
      unfold delayStep at h
      rw [if_pos h0] at h
      split at h
      · cases h
      · rename_i hk
        rw [hd q]
        exact fun a => hk (hkq.2 a)
  · by_cases hb : m i j = 2147483647
    · constructor
      · intro s' h
        unfold delayStep at h
        rw [if_neg h0, if_pos hb] at h
        cases h
        exact ⟨hs, fun q => ⟨fun a => ⟨a, .inl hb⟩, fun a => a.1⟩⟩
      · intro _ h
        unfold delayStep at h
        rw [if_neg h0, if_pos hb] at h
        cases h
    · have hne : ¬ (i = 0 ↔ j = 0) := fun h => h0 (decide_eq_decide.2 h)
      have hr := (clock_right hv (i := max i j) (by omega)).1
      constructor
      · intro s' h
        unfold delayStep at h
        rw [if_neg h0, if_neg hb] at h
        obtain ⟨a, b⟩ := narrow_has hs hr hb h
        refine ⟨a, fun q => ?_⟩
        rw [b q]
        have e : (if decide (0 < i) = true then qv (clockV v (max i j)) + q else -(qv (clockV v (max i j)) + q)) = dq v q i - dq v q j := by
          unfold dq
          by_cases hi0 : i = 0
          · have hj0 : j ≠ 0 := fun hh => hne ⟨fun _ => hh, fun _ => hi0⟩
            rw [if_neg (by simp [hi0]), if_pos hi0, if_neg hj0, show max i j = j by omega]
            show -(cq v j + q) = 0 - (cq v j + q)
            grind
          · have hj0 : j = 0 := Classical.byContradiction fun hh => hne ⟨fun h => absurd h hi0, fun h => absurd h hh⟩
            rw [if_pos (by simp; omega), if_neg hi0, if_pos hj0, show max i j = i by omega]
            show cq v i + q = cq v i + q - 0
            grind
        rw [e]
      · intro hE h
        unfold delayStep at h
        rw [if_neg h0, if_neg hb] at h
        obtain ⟨a, b⟩ := hE i j hi hj hb (max i j) (by omega) (by omega)
        exact absurd h (narrow_held a b)
theorem from_has {n : Nat} {m : Mat} {v : List (Int × Int)} (hv : rightV v = true) (hl : v.length = n) : ∀ g k s, k + g ≤ (n + 1) * (n + 1) → spanOk s →
    (∀ s', delayFrom n m v g k s = some s' → spanOk s' ∧ ∀ q, spanHas s' q ↔ spanHas s q ∧ ∀ p, k ≤ p → p < k + g → kq (m (p / (n + 1)) (p % (n + 1))) (dq v q (p / (n + 1)) - dq v q (p % (n + 1)))) ∧
    (endsHeld n m v → delayFrom n m v g k s = none → ∀ q, ¬ ∀ p, k ≤ p → p < k + g → kq (m (p / (n + 1)) (p % (n + 1))) (dq v q (p / (n + 1)) - dq v q (p % (n + 1))))
  | 0, k, s, hk, hs => ⟨fun s' h => by
      cases h
      exact ⟨hs, fun q => ⟨fun a => ⟨a, fun p h1 h2 => absurd h2 (by omega)⟩, fun a => a.1⟩⟩, fun _ h => by cases h⟩
  | g + 1, k, s, hk, hs => by
    have h1 : k / (n + 1) < n + 1 := Nat.div_lt_of_lt_mul (by omega)
    have h2 := Nat.mod_lt k (show 0 < n + 1 by omega)
    obtain ⟨a, b⟩ := step_has (m := m) (i := k / (n + 1)) (j := k % (n + 1)) (s := s) hv hl (by omega) (by omega) hs
    unfold delayFrom
    cases e : delayStep n m v (k / (n + 1)) (k % (n + 1)) s with
    | none =>
      rw [Option.bind_none]
      refine ⟨fun s' h => (by cases h), fun hE _ q hall => ?_⟩
      exact b hE e q (hall k (Nat.le_refl _) (by omega))
    | some s1 =>
      rw [Option.bind_some]
      obtain ⟨a1, a2⟩ := a s1 e
      obtain ⟨c, d⟩ := from_has hv hl g (k + 1) s1 (by omega) a1
      refine ⟨fun s' h => ?_, fun hE h q hall => d hE h q fun p hp1 hp2 => hall p (by omega) (by omega)⟩
      obtain ⟨c1, c2⟩ := c s' h
      refine ⟨c1, fun q => ?_⟩
      rw [c2 q, a2 q]
      constructor
      · rintro ⟨⟨x1, x2⟩, x3⟩
        refine ⟨x1, fun p hp1 hp2 => ?_⟩
        by_cases ep : p = k
        · rw [ep]; exact x2
        · exact x3 p (by omega) (by omega)
      · rintro ⟨x1, x2⟩
        exact ⟨⟨x1, x2 k (Nat.le_refl _) (by omega)⟩, fun p hp1 hp2 => x2 p (by omega) (by omega)⟩
/-- A delay is of the span that is told, or none is told. -/
def spanTold (o : Option SpanP) (d : Int × Int) : Bool := match o with
  | none => false
  | some s => (decide (cmpP s.lo d < 0) || (decide (cmpP s.lo d = 0) && s.loIn)) && (s.ever || (decide (cmpP d s.hi < 0) || (decide (cmpP d s.hi = 0) && s.hiIn)))
theorem span_told {s : SpanP} {d : Int × Int} (hs : spanOk s) (hd : rightR d = true) : spanTold (some s) d = true ↔ spanHas s (qv d) := by
  obtain ⟨a1, a2, a3⟩ := cmp_qv hs.1 hd
  unfold spanTold spanHas
  simp only [Bool.and_eq_true, Bool.or_eq_true, decide_eq_true_eq]
  rw [a1, a2]
  rcases hs.2 with he | he
  · rw [he]; simp
  · obtain ⟨b1, b2, b3⟩ := cmp_qv hd he
    rw [b1, b2]
theorem span_end {s : SpanP} (hs : spanOk s) (h : spanEnd s = false) (q : Rat) : ¬ spanHas s q := by
  unfold spanEnd at h
  rw [Bool.or_eq_false_iff] at h
  obtain ⟨h1, h2⟩ := h
  rcases hs.2 with he | he
  · rw [h1] at he; cases he
  · obtain ⟨a1, a2, a3⟩ := cmp_qv hs.1 he
    simp only [Bool.and_eq_false_iff, Bool.or_eq_false_iff, Bool.not_eq_false', decide_eq_true_iff] at h2
    rw [a2, a3] at h2
    unfold spanHas
    rw [h1]
    grind
theorem span_law {n : Nat} {m : Mat} {v v' : List (Int × Int)} {d : Int × Int} (hv : rightV v = true) (hl : v.length = n) (hd : rightR d = true) (hd0 : 0 ≤ d.1) (hv' : rightV v' = true) (hl' : v'.length = n)
    (hw : ∀ i, 0 < i → i ≤ n → cq v' i = cq v i + qv d) (hE : endsHeld n m v) : inP n m v' = spanTold (delaysP n m v) d := by
  have hq : ∀ i, i ≤ n → cq v' i = dq v (qv d) i := fun i hi => by
    unfold dq
    by_cases e : i = 0
    · rw [if_pos e, e, cq_zero]
    · rw [if_neg e]; exact hw i (by omega) hi
  have hin : inP n m v' = true ↔ ∀ i j, i ≤ n → j ≤ n → kq (m i j) (dq v (qv d) i - dq v (qv d) j) := by
    rw [in_iff]
    constructor
    · rintro ⟨_, _, h⟩ i j hi hj
      have := h i j hi hj
      rwa [hq i hi, hq j hj] at this
    · intro h
      refine ⟨hv', hl', fun i j hi hj => ?_⟩
      rw [hq i hi, hq j hj]; exact h i j hi hj
  rw [← cells_all (n := n) (P := fun i j => kq (m i j) (dq v (qv d) i - dq v (qv d) j))] at hin
  unfold delaysP
  by_cases h0 : m 0 0 < 1
  · rw [if_neg (fun h => h.2.2 h0)]
    show inP n m v' = false
    rw [Bool.eq_false_iff]
    intro h
    have := (hin.1 h) 0 (by have := Nat.mul_le_mul (show 1 ≤ n + 1 by omega) (show 1 ≤ n + 1 by omega); omega)
    rw [Nat.zero_div, Nat.zero_mod, show dq v (qv d) 0 - dq v (qv d) 0 = 0 by grind] at this
    rcases this with e | e | e
    · omega
    · have e : ((0 : Int) : Rat) < ((m 0 0 / 2 : Int) : Rat) := e
      have : (0 : Int) < m 0 0 / 2 := by exact_mod_cast e
      omega
    · have e2 : ((0 : Int) : Rat) = ((m 0 0 / 2 : Int) : Rat) := e.2
      have : (0 : Int) = m 0 0 / 2 := by exact_mod_cast e2
      omega
  · rw [if_pos ⟨hv, hl, h0⟩]
    have hs0 : spanOk ⟨(0, 1), (0, 0), true, false, true⟩ := ⟨right_one 0, .inl rfl⟩
    have hz : spanHas ⟨(0, 1), (0, 0), true, false, true⟩ (qv d) := by
      unfold spanHas
      rw [qv_int]
      have := (qv_pos (rq_pos hd)).2 hd0
      have z : ((0 : Int) : Rat) = 0 := rfl
      refine ⟨?_, .inl rfl⟩
      rw [z]
      grind
    obtain ⟨a, b⟩ := from_has (m := m) hv hl ((n + 1) * (n + 1)) 0 ⟨(0, 1), (0, 0), true, false, true⟩ (by omega) hs0
    cases e : delayFrom n m v ((n + 1) * (n + 1)) 0 ⟨(0, 1), (0, 0), true, false, true⟩ with
    | none =>
      rw [Option.bind_none]
      show inP n m v' = false
      rw [Bool.eq_false_iff]
      intro h
      exact b hE e (qv d) fun p _ hp => hin.1 h p (by omega)
    | some s =>
      rw [Option.bind_some]
      obtain ⟨a1, a2⟩ := a s e
      have key : inP n m v' = true ↔ spanHas s (qv d) := by
        rw [hin, a2]
        exact ⟨fun h => ⟨hz, fun p _ hp => h p (by omega)⟩, fun h p hp => h.2 p (Nat.zero_le _) (by omega)⟩
      by_cases he : spanEnd s = true
      · rw [if_pos he, Bool.eq_iff_iff, key, span_told a1 hd]
      · rw [if_neg he]
        show inP n m v' = false
        rw [Bool.eq_false_iff]
        exact fun h => span_end a1 (by simpa using he) _ (key.1 h)

end Go.Proofs.YtmelblnflalanaaGreat

/- The least valuation of a zone that is not empty is in it, on its grid; none of it on this grid is anywhere smaller: plain. -/
namespace Go.Proofs.YtmelblnflalanaaGreat
set_option linter.unusedVariables false
set_option linter.unusedSimpArgs false

theorem zone_solid {n : Nat} {m : Mat} (h : ClosedZ n m) : Solid n (widW m) := by
  refine ⟨h.tri, fun i j hi hj => (h.full.ok.fit.bd i j hi hj).mono (by omega), fun i hi => ?_, h.full.ok.wtop⟩
  unfold widW wid
  rw [h.full.one i hi, if_neg (by decide)]
/-- The places of the least valuation on the grid. -/
def placeU (n : Nat) (m : Mat) (a : Nat) : Int := insR n ((n : Int) + 1) (widW m) (n + 2) a
theorem solU_zero {n : Nat} {m : Mat} (h : Solid n m) : solU n m 0 = 0 := by
  have e : ∀ N, N ≤ n + 1 → cnt (fun k => tightR m k 0) N = 0 := fun N => by
    induction N with
    | zero => intro _; rfl
    | succ N ih =>
      intro hN
      have ht : tightR m N 0 = false := by
        unfold tightR
        refine decide_eq_false ?_
        rintro ⟨a, b, c⟩
        obtain ⟨_, t⟩ := h.step (Nat.zero_le n) (show N ≤ n by omega) (Nat.zero_le n) (h.fin (by omega)) a
        have o := h.one 0 (Nat.zero_le n)
        omega
      unfold cnt
      rw [ih (by omega), ht]; rfl
  unfold solU
  rw [e (n + 1) (Nat.le_refl _), h.one 0 (Nat.zero_le n)]
  simp
theorem place_bd {n : Nat} {m : Mat} (hn : n ≤ 8) (h : ClosedZ n m) : Sol n ((n : Int) + 1) (widW m) (placeU n m) ∧ placeU n m 0 = 0 ∧ ∀ a, a ≤ n → 0 ≤ placeU n m a ∧ placeU n m a ≤ 137438953472 := by
  have hs := zone_solid h
  obtain ⟨h3, h4⟩ := inside_sol (solid_sol hs)
  have h0 : placeU n m 0 = 0 := by
    have a := h4 (n + 2) 0 (Nat.zero_le n)
    rw [solU_zero hs] at a
    have b := h3.1 0 (Nat.zero_le n)
    unfold placeU; omega
  refine ⟨h3, h0, fun a ha => ⟨h3.1 a ha, Int.le_trans (h4 (n + 2) a ha) ?_⟩⟩
  have := solU_le (n := n) (m := widW m) (X := 536870912) (fun j hj => by
    have h4 := h.full.ok.fit.bd 0 j (Nat.zero_le n) hj
    have h5 := hs.top j hj
    unfold Bd at h4
    unfold none62 at h4
    omega) a ha
  have h5 : ((n : Int) + 1) * 536870912 ≤ 9 * 536870912 := Int.mul_le_mul (by omega) (by omega) (by omega) (by omega)
  omega
theorem new_ok {x d : Int} (hx0 : 0 ≤ x) (hx : x ≤ 9223372036854775807) (hd0 : 0 < d) (hd : d ≤ 9223372036854775807) : newP x d = fracP x d ∧ (fracP x d).2 = 0 := by
  refine ⟨by unfold newP; rw [if_neg (by omega)], ?_⟩
  unfold fracP
  have e1 : (decide (x < 0) != decide (d < 0)) = false := by rw [decide_eq_false (by omega), decide_eq_false (by omega)]; rfl
  have b1 := Nat.div_le_self x.natAbs (Nat.gcd x.natAbs d.natAbs)
  have b2 := Nat.div_le_self d.natAbs (Nat.gcd x.natAbs d.natAbs)
  rw [if_pos]
  rw [e1]
  refine ⟨decide_eq_true ?_, by omega⟩
  show _ ≤ ((x.natAbs / Nat.gcd x.natAbs d.natAbs : Nat) : Int) ∧ ((x.natAbs / Nat.gcd x.natAbs d.natAbs : Nat) : Int) ≤ _
  generalize x.natAbs / Nat.gcd x.natAbs d.natAbs = q at *
  omega
/-- A place on the grid as a fraction. -/
theorem grid_val {x : Int} {n : Nat} (hx0 : 0 ≤ x) (hx : x ≤ 9223372036854775807) (hn : n ≤ 8) : rightR (newP x ((n : Int) + 1)).1 = true ∧ 0 ≤ (newP x ((n : Int) + 1)).1.1 ∧ qv (newP x ((n : Int) + 1)).1 = (x : Rat) / (((n : Int) + 1 : Int) : Rat) ∧ ∃ k, (newP x ((n : Int) + 1)).1.2 * k = (n : Int) + 1 := by
  obtain ⟨e, h⟩ := new_ok hx0 hx (show 0 < (n : Int) + 1 by omega) (by omega)
  rw [e]
  have hr := (frac_right (by omega) h).1
  have hv := frac_value (by omega) h
  have hp := rq_pos hr
  refine ⟨hr, ?_, qv_grid hp (by omega) hv.symm, ?_⟩
  · apply Classical.byContradiction
    intro hneg
    have h1 : (fracP x ((n : Int) + 1)).1.1 * ((n : Int) + 1) < 0 := Int.mul_neg_of_neg_of_pos (by omega) (by omega)
    have h2 : 0 ≤ x * (fracP x ((n : Int) + 1)).1.2 := Int.mul_nonneg hx0 (by omega)
    omega
  · have hg : Nat.gcd (fracP x ((n : Int) + 1)).1.2.natAbs (fracP x ((n : Int) + 1)).1.1.natAbs = 1 := by
      rw [Nat.gcd_comm]; exact (of_decide_eq_true hr).2
    have hd : (fracP x ((n : Int) + 1)).1.2.natAbs ∣ (fracP x ((n : Int) + 1)).1.1.natAbs * (n + 1) := by
      refine ⟨x.natAbs, ?_⟩
      have e1 : (((n : Int) + 1).natAbs) = n + 1 := by omega
      have e2 := congrArg Int.natAbs hv
      rw [Int.natAbs_mul, Int.natAbs_mul, e1] at e2
      rw [e2, Nat.mul_comm]
    obtain ⟨k, hk⟩ := Nat.Coprime.dvd_of_dvd_mul_left hg hd
    refine ⟨(k : Int), ?_⟩
    have e3 : ((fracP x ((n : Int) + 1)).1.2.natAbs : Int) = (fracP x ((n : Int) + 1)).1.2 := by omega
    rw [← e3]
    exact_mod_cast hk.symm
/-- A bound on a grid. -/
theorem kq_sat {g b x : Int} (hg : 0 < g) (hb : b ≤ 2147483647) : kq b ((x : Rat) / (g : Rat)) ↔ sat g (wid b) x := by
  have hG := cast_pos hg
  have e0 : (x : Rat) / (g : Rat) * (g : Rat) = (x : Rat) := Rat.div_mul_cancel (by grind)
  obtain ⟨c, hc⟩ : ∃ c, c = b / 2 := ⟨_, rfl⟩
  have l1 : (x : Rat) / (g : Rat) < (c : Rat) ↔ x < c * g := by
    rw [lt_iff_mul hG, e0, ← Rat.intCast_mul]; exact_mod_cast Iff.rfl
  have l2 : (x : Rat) / (g : Rat) = (c : Rat) ↔ x = c * g := by
    constructor
    · intro h; rw [h, ← Rat.intCast_mul] at e0; exact_mod_cast e0.symm
    · intro h; refine eq_of_mul hG (e0.trans ?_); rw [← Rat.intCast_mul, h]
  unfold kq sat
  rw [← hc, l1, l2]
  unfold wid
  by_cases e : b = 2147483647
  · rw [if_pos e]; simp [e]
  · rw [if_neg e, ← hc]
    have : b ≠ none62 := by unfold none62; omega
    have : b % 2 = 0 ∨ b % 2 = 1 := by omega
    omega
/-- What is in a zone, on any grid. -/
theorem in_sat {n : Nat} {m : Mat} {v : List (Int × Int)} {u : Nat → Int} {g : Int} (hg : 0 < g) (hr : RightM n m) (hv : rightV v = true) (hl : v.length = n) (hu : ∀ i, i ≤ n → cq v i = (u i : Rat) / (g : Rat)) : inP n m v = true ↔ satM n g (widW m) u := by
  rw [in_iff]
  have step : ∀ i j, i ≤ n → j ≤ n → (kq (m i j) (cq v i - cq v j) ↔ sat g (widW m i j) (u i - u j)) := fun i j hi hj => by
    have hb : m i j ≤ 2147483647 := by have := hr i j hi hj; unfold rightB at this; have := of_decide_eq_true this; omega
    show _ ↔ sat g (wid (m i j)) (u i - u j)
    rw [← kq_sat hg hb (x := u i - u j), hu i hi, hu j hj]
    have e : (u i : Rat) / (g : Rat) - (u j : Rat) / (g : Rat) = ((u i - u j : Int) : Rat) / (g : Rat) := by
      rw [Rat.intCast_sub, Rat.div_def, Rat.div_def, Rat.div_def]; grind
    rw [e]
  constructor
  · rintro ⟨_, _, h⟩ i j hi hj; exact (step i j hi hj).1 (h i j hi hj)
  · intro h; exact ⟨hv, hl, fun i j hi hj => (step i j hi hj).2 (h i j hi hj)⟩
/-- A valuation on the grid: by places. -/
def gridV (n : Nat) (u : Nat → Int) : List (Int × Int) := (List.range n).map fun i => (newP (u (i + 1)) ((n : Int) + 1)).1
theorem gridV_length (n : Nat) (u : Nat → Int) : (gridV n u).length = n := by simp [gridV]
theorem gridV_getD {n : Nat} {u : Nat → Int} {i : Nat} (hi : i < n) (d : Int × Int) : (gridV n u).getD i d = (newP (u (i + 1)) ((n : Int) + 1)).1 := by
  rw [List.getD_eq_getElem?_getD]
  unfold gridV
  simp [hi]
theorem least_grid (n : Nat) (m : Mat) : leastV n m = gridV n (placeU n m) := rfl
theorem gridV_right {n : Nat} {u : Nat → Int} (hn : n ≤ 8) (hu : ∀ a, a ≤ n → 0 ≤ u a ∧ u a ≤ 9223372036854775807) : rightV (gridV n u) = true := by
  unfold rightV
  rw [gridV_length, decide_eq_true hn, Bool.true_and, List.all_eq_true]
  intro r hr
  unfold gridV at hr
  obtain ⟨i, hi, rfl⟩ := List.mem_map.1 hr
  have hi := List.mem_range.1 hi
  obtain ⟨a, b, _⟩ := grid_val (hu (i + 1) (by omega)).1 (hu (i + 1) (by omega)).2 hn
  rw [a, decide_eq_true b]; rfl
theorem cq_grid {n : Nat} {u : Nat → Int} (hn : n ≤ 8) (h0 : u 0 = 0) (hu : ∀ a, a ≤ n → 0 ≤ u a ∧ u a ≤ 9223372036854775807) {i : Nat} (hi : i ≤ n) : cq (gridV n u) i = (u i : Rat) / (((n : Int) + 1 : Int) : Rat) := by
  by_cases e : i = 0
  · subst e
    rw [cq_zero, h0, Rat.intCast_zero, Rat.div_def, Rat.zero_mul]
  · unfold cq clockV
    rw [if_neg e, gridV_getD (by omega), show i - 1 + 1 = i by omega]
    exact (grid_val (hu i hi).1 (hu i hi).2 hn).2.2.1
theorem grid_in {n : Nat} {m : Mat} {u : Nat → Int} (hn : n ≤ 8) (hr : RightM n m) (h0 : u 0 = 0) (hu : ∀ a, a ≤ n → 0 ≤ u a ∧ u a ≤ 9223372036854775807) : inP n m (gridV n u) = true ↔ satM n ((n : Int) + 1) (widW m) u :=
  in_sat (by omega) hr (gridV_right hn hu) (gridV_length n u) fun i hi => cq_grid hn h0 hu hi
/-- The least valuation is in the zone. -/
theorem least_in {n : Nat} {m : Mat} (hn : n ≤ 8) (h : ClosedZ n m) : inP n m (leastV n m) = true := by
  obtain ⟨h1, h2, h3⟩ := place_bd hn h
  rw [least_grid, grid_in hn h.full.right h2 (fun a ha => ⟨(h3 a ha).1, by have := (h3 a ha).2; omega⟩)]
  exact sol_sat h1
/-- None on the grid is anywhere smaller. -/
theorem least_least {n : Nat} {m : Mat} {x : Nat → Int} (hn : n ≤ 8) (h : ClosedZ n m) (h0 : x 0 = 0) (hx : ∀ a, a ≤ n → 0 ≤ x a ∧ x a ≤ 65535) (hin : inP n m (gridV n x) = true) {i : Nat} (hi : i < n) : ¬ cmpP ((gridV n x).getD i (0, 0)) ((leastV n m).getD i (0, 0)) < 0 := by
  obtain ⟨h1, h2, h3⟩ := place_bd hn h
  have hx' : ∀ a, a ≤ n → 0 ≤ x a ∧ x a ≤ 9223372036854775807 := fun a ha => ⟨(hx a ha).1, by have := (hx a ha).2; omega⟩
  rw [grid_in hn h.full.right h0 hx'] at hin
  have hsol : Sol n ((n : Int) + 1) (widW m) x := ⟨fun j hj => (hx j hj).1, fun i j hi hj hf => by have := le_of_sat (hin i j hi hj) hf; omega⟩
  have hle := (inside_sol hsol).2 (n + 2) (i + 1) (by omega)
  have hle : placeU n m (i + 1) ≤ x (i + 1) := hle
  rw [least_grid, gridV_getD hi, gridV_getD hi]
  obtain ⟨a1, a2, a3, _⟩ := grid_val (hx' (i + 1) (by omega)).1 (hx' (i + 1) (by omega)).2 hn
  obtain ⟨b1, b2, b3, _⟩ := grid_val (h3 (i + 1) (by omega)).1 (show placeU n m (i + 1) ≤ 9223372036854775807 by have := (h3 (i + 1) (by omega)).2; omega) hn
  rw [(cmp_qv a1 b1).1, a3, b3]
  have hG := cast_pos (show (0 : Int) < (n : Int) + 1 by omega)
  rw [lt_iff_mul hG, Rat.div_mul_cancel (by grind), Rat.div_mul_cancel (by grind)]
  intro hh
  have : x (i + 1) < placeU n m (i + 1) := by exact_mod_cast hh
  omega
/-- The grid's number is a multiple of each denominator. -/
theorem least_den {n : Nat} {m : Mat} (hn : n ≤ 8) (h : ClosedZ n m) {i : Nat} (hi : i < n) : 0 < ((leastV n m).getD i (0, 0)).2 ∧ Int.tmod ((n : Int) + 1) ((leastV n m).getD i (0, 0)).2 = 0 := by
  obtain ⟨h1, h2, h3⟩ := place_bd hn h
  rw [least_grid, gridV_getD hi]
  obtain ⟨b1, b2, b3, k, hk⟩ := grid_val (h3 (i + 1) (by omega)).1 (show placeU n m (i + 1) ≤ 9223372036854775807 by have := (h3 (i + 1) (by omega)).2; omega) hn
  refine ⟨rq_pos b1, ?_⟩
  have := Int.mul_tmod_right (newP (placeU n m (i + 1)) ((n : Int) + 1)).1.2 k
  rw [hk] at this
  exact this

end Go.Proofs.YtmelblnflalanaaGreat

/- A valuation when time has passed: plain; the spans law. -/
namespace Go.Proofs.YtmelblnflalanaaGreat
set_option linter.unusedVariables false
set_option linter.unusedSimpArgs false

/-- The first error of the sums from p on; fuel: how many are left. -/
def waitEF (v : List (Int × Int)) (d : Int × Int) : Nat → Nat → Int
  | 0, _ => 0
  | g + 1, p => if (addP (v.getD p (0, 0)) d).2 = 0 then waitEF v d g (p + 1) else (addP (v.getD p (0, 0)) d).2
def waitV (v : List (Int × Int)) (d : Int × Int) : List (Int × Int) := v.map fun r => (addP r d).1
def waitA (v : List (Int × Int)) (d : Int × Int) : List (Int × Int) × Int :=
  if rightV v = true ∧ rightR d = true ∧ 0 ≤ d.1 then (if waitEF v d v.length 0 = 0 then (waitV v d, 0) else ([], waitEF v d v.length 0)) else ([], 7)
theorem waitV_length (v : List (Int × Int)) (d : Int × Int) : (waitV v d).length = v.length := by simp [waitV]
theorem waitV_getD {v : List (Int × Int)} {d : Int × Int} {i : Nat} (hi : i < v.length) (z : Int × Int) : (waitV v d).getD i z = (addP (v.getD i (0, 0)) d).1 := by
  rw [List.getD_eq_getElem?_getD, List.getD_eq_getElem?_getD]
  unfold waitV
  simp [hi]
theorem waitV_take {v : List (Int × Int)} {d : Int × Int} {p : Nat} (hp : p < v.length) : (waitV v d).take (p + 1) = (waitV v d).take p ++ [(addP (v.getD p (0, 0)) d).1] := by
  rw [List.take_add_one, show (waitV v d)[p]? = some ((waitV v d).getD p (0, 0)) by
    rw [List.getD_eq_getElem?_getD, List.getElem?_eq_getElem (by rw [waitV_length]; exact hp)]; rfl, waitV_getD hp]; rfl
theorem wait_each {v : List (Int × Int)} {d : Int × Int} : ∀ g p, waitEF v d g p = 0 → ∀ q, p ≤ q → q < p + g → (addP (v.getD q (0, 0)) d).2 = 0
  | 0, p, _, q, h1, h2 => by omega
  | g + 1, p, h, q, h1, h2 => by
    unfold waitEF at h
    by_cases e : (addP (v.getD p (0, 0)) d).2 = 0
    · rw [if_pos e] at h
      by_cases eq : q = p
      · rw [eq]; exact e
      · exact wait_each g (p + 1) h q (by omega) (by omega)
    · rw [if_neg e] at h; exact absurd h e
/-- What Wait tells, where it tells no error. -/
theorem wait_good {v : List (Int × Int)} {d : Int × Int} (h : (waitA v d).2 = 0) : (waitA v d).1 = waitV v d ∧ rightV v = true ∧ rightR d = true ∧ 0 ≤ d.1 ∧ rightV (waitV v d) = true ∧ ∀ i, 0 < i → i ≤ v.length → cq (waitV v d) i = cq v i + qv d := by
  unfold waitA at h ⊢
  by_cases hc : rightV v = true ∧ rightR d = true ∧ 0 ≤ d.1
  · rw [if_pos hc] at h ⊢
    by_cases he : waitEF v d v.length 0 = 0
    · rw [if_pos he] at h ⊢
      obtain ⟨hv, hd, hd0⟩ := hc
      have hall := wait_each v.length 0 he
      have hlen : v.length ≤ 8 := by
        unfold rightV at hv
        exact of_decide_eq_true (Bool.and_eq_true_iff.1 hv).1
      have each : ∀ q, q < v.length → rightR (addP (v.getD q (0, 0)) d).1 = true ∧ qv (addP (v.getD q (0, 0)) d).1 = qv (v.getD q (0, 0)) + qv d ∧ 0 ≤ (addP (v.getD q (0, 0)) d).1.1 := fun q hq => by
        obtain ⟨r1, r0⟩ := clock_right hv (i := q + 1) (by omega)
        have e : clockV v (q + 1) = v.getD q (0, 0) := by unfold clockV; rw [if_neg (by omega)]; rfl
        rw [e] at r1 r0
        obtain ⟨a, b⟩ := add_qv r1 hd (hall q (Nat.zero_le _) (by omega))
        refine ⟨a, b, (qv_pos (rq_pos a)).1 ?_⟩
        rw [b]
        have p1 := (qv_pos (rq_pos r1)).2 r0
        have p2 := (qv_pos (rq_pos hd)).2 hd0
        grind
      refine ⟨rfl, hv, hd, hd0, ?_, fun i hi0 hi => ?_⟩
      · unfold rightV
        rw [waitV_length, decide_eq_true hlen, Bool.true_and, List.all_eq_true]
        intro r hr
        obtain ⟨q, hq, rfl⟩ := List.getElem_of_mem hr
        rw [waitV_length] at hq
        have e := waitV_getD (d := d) hq (0, 0)
        rw [List.getD_eq_getElem?_getD, List.getElem?_eq_getElem (by rw [waitV_length]; exact hq)] at e
        have e : (waitV v d)[q] = (addP (v.getD q (0, 0)) d).1 := e
        rw [e]
        obtain ⟨a, _, b⟩ := each q hq
        rw [a, decide_eq_true b]; rfl
      · unfold cq clockV
        rw [if_neg (by omega), if_neg (by omega), waitV_getD (by omega)]
        exact (each (i - 1) (by omega)).2.1
    · rw [if_neg he] at h
      exact absurd h he
  · rw [if_neg hc] at h
    exact absurd h (by decide)
theorem frac_fits {X D : Int} (h1 : -9223372036854775808 ≤ X) (h2 : X ≤ 9223372036854775807) (hd0 : 0 < D) (hd : D ≤ 9223372036854775807) : (fracP X D).2 = 0 := by
  unfold fracP
  have b1 := Nat.div_le_self X.natAbs (Nat.gcd X.natAbs D.natAbs)
  have b2 := Nat.div_le_self D.natAbs (Nat.gcd X.natAbs D.natAbs)
  rw [if_pos]
  refine ⟨decide_eq_true ?_, by omega⟩
  rw [show decide (D < 0) = false from decide_eq_false (by omega)]
  generalize X.natAbs / Nat.gcd X.natAbs D.natAbs = q at *
  unfold sgnI
  by_cases hx : X < 0
  · rw [decide_eq_true hx]
    simp only [bne_self_eq_false, Bool.true_bne, Bool.not_false, if_true]
    omega
  · rw [decide_eq_false hx]
    simp only [bne_self_eq_false, Bool.false_eq_true, if_false]
    omega
/-- Ends of spans of small fractions can be held. -/
theorem ends_held {n : Nat} {m : Mat} {v : List (Int × Int)} (hr : RightM n m) (hv : rightV v = true) (hl : v.length = n) (hs : ∀ i, i < n → (v.getD i (0, 0)).2 ≤ 1000 ∧ (v.getD i (0, 0)).1 ≤ 1099511627776) : endsHeld n m v := fun i j hi hj hne k hk0 hk => by
  have hb := rightB_bd (hr i j hi hj) hne
  obtain ⟨r1, r0⟩ := clock_right hv (i := k) (by omega)
  have e : clockV v k = v.getD (k - 1) (0, 0) := by unfold clockV; rw [if_neg (by omega)]
  have hsk := hs (k - 1) (by omega)
  rw [e] at r1 r0 ⊢
  have hp := rq_pos r1
  obtain ⟨x, hx⟩ : ∃ x, x = v.getD (k - 1) (0, 0) := ⟨_, rfl⟩
  rw [← hx] at r1 r0 hsk hp ⊢
  have one : ∀ q : Int, -268435456 ≤ q → q ≤ 268435456 → (subP (q, 1) x).2 = 0 := fun q h1 h2 => by
    have e : subP (q, 1) x = fracP (q * x.2 - x.1 * 1) (1 * x.2) := by unfold subP; rw [if_pos (by rw [right_one, r1]; rfl)]
    rw [e]
    have m1 : q * x.2 ≤ 268435456 * 1000 := by
      rcases (show 0 ≤ q ∨ q ≤ 0 by omega) with h | h
      · exact Int.mul_le_mul (by omega) (by omega) (by omega) (by omega)
      · have := Int.mul_le_mul_of_nonneg_right (a := q) (b := 0) (c := x.2) h (by omega); omega
    have m2 : -(268435456 * 1000) ≤ q * x.2 := by
      have a1 : -268435456 * x.2 ≤ q * x.2 := Int.mul_le_mul_of_nonneg_right h1 (by omega)
      omega
    refine frac_fits (by omega) (by omega) (by omega) (by omega)
  exact ⟨one _ (by omega) (by omega), one _ (by omega) (by omega)⟩
/-- What PointSpans compares. -/
theorem spans_law {n : Nat} {m : Mat} {v : List (Int × Int)} {d : Int × Int} (hr : RightM n m) (hw : (waitA v d).2 = 0) (hl : v.length = n) (hs : ∀ i, i < n → (v.getD i (0, 0)).2 ≤ 1000 ∧ (v.getD i (0, 0)).1 ≤ 1099511627776) : inP n m (waitA v d).1 = spanTold (delaysP n m v) d := by
  obtain ⟨e, hv, hd, hd0, hv', hc⟩ := wait_good hw
  rw [e]
  exact span_law hv hl hd hd0 hv' (by rw [waitV_length]; exact hl) (fun i h1 h2 => hc i h1 (by omega)) (ends_held hr hv hl hs)

end Go.Proofs.YtmelblnflalanaaGreat

/- What a guard says: the program's Limits and the document's. -/
namespace Go.Proofs.YtmelblnflalanaaGreat
open Go Go.RowKit
set_option linter.unusedVariables false
set_option linter.unusedSimpArgs false

/-- The bounds that a guard says, or the error. -/
def guardP (g : Int × Int × Int × Int) : List (Int × Int × Int) × Int :=
  if ¬ (0 ≤ g.1 ∧ g.1 ≤ 8 ∧ 0 ≤ g.2.1 ∧ g.2.1 ≤ 8) then ([], 12)
  else if ¬ (1 ≤ g.2.2.1 ∧ g.2.2.1 ≤ 5) then ([], 7)
  else if ¬ (-1048576 ≤ g.2.2.2 ∧ g.2.2.2 ≤ 1048576) then ([], 13)
  else if g.2.2.1 = 1 then ([(g.1, g.2.1, 2 * g.2.2.2)], 0)
  else if g.2.2.1 = 2 then ([(g.1, g.2.1, 2 * g.2.2.2 + 1)], 0)
  else if g.2.2.1 = 4 then ([(g.2.1, g.1, -2 * g.2.2.2 + 1)], 0)
  else if g.2.2.1 = 5 then ([(g.2.1, g.1, -2 * g.2.2.2)], 0)
  else ([(g.1, g.2.1, 2 * g.2.2.2 + 1), (g.2.1, g.1, -2 * g.2.2.2 + 1)], 0)
/-- A row of limits, and an error. -/
def MakesLm (w : World) (r : List (Int × Int × Int) × Int) (e : Ending) (w' : World) : Prop :=
  Below w.heap.size w w' ∧ ∃ A cap, e = .returned (.tuple #[.slice A r.1.length cap, .int .i64 r.2]) ∧ Lims w' A r.1
theorem limsA_one (w : World) (s : Nat) (e : TypeId) (a b c : Int) (hs : s = w.heap.size) : Lims (w.alloc (.cells #[.int .i64 a, .int .i64 b, .int .i32 c] e (0, 0))) (some ⟨s, 0, none⟩) [(a, b, c)] := by
  subst hs
  have h1 := heap_alloc_new w (.cells #[.int .i64 a, .int .i64 b, .int .i32 c] e (0, 0))
  intro j hj
  have e0 : j = 0 := by simp at hj; omega
  subst e0
  refine ⟨w.heap.size, 0, rfl, ?_, ?_, ?_⟩ <;> (unfold World.cell?; rw [h1]; rfl)
theorem limsA_two (w : World) (s : Nat) (e : TypeId) (a b c a' b' c' : Int) (hs : s = w.heap.size) : Lims (w.alloc (.cells #[.int .i64 a, .int .i64 b, .int .i32 c, .int .i64 a', .int .i64 b', .int .i32 c'] e (0, 0))) (some ⟨s, 0, none⟩) [(a, b, c), (a', b', c')] := by
  subst hs
  have h1 := heap_alloc_new w (.cells #[.int .i64 a, .int .i64 b, .int .i32 c, .int .i64 a', .int .i64 b', .int .i32 c'] e (0, 0))
  intro j hj
  rcases (show j = 0 ∨ j = 1 by simp at hj; omega) with e0 | e0
  · subst e0
    refine ⟨w.heap.size, 0, rfl, ?_, ?_, ?_⟩ <;> (unfold World.cell?; rw [h1]; rfl)
  · subst e0
    refine ⟨w.heap.size, 0, rfl, ?_, ?_, ?_⟩ <;> (unfold World.cell?; rw [h1]; rfl)
theorem belowA {w wr : World} (h : Below w.heap.size w wr) (o : Obj) : Below w.heap.size w (wr.alloc o) := h.alloc h.size o
theorem lims_none (w : World) : Lims w none [] := fun j hj => by simp at hj

set_option maxRecDepth 100000 in
set_option maxHeartbeats 2000000 in
theorem glim_any (c o k n : Int) (w : World) (hk : 0 ≤ k ∧ k ≤ 255) : Calls Tryz.prog 27 #[.agg #[.int .i64 c, .int .i64 o, .int .u8 k, .int .i64 n]] w (MakesLm w (guardP (c, o, k, n))) := by
  by_cases c0 : c < 0
  · have hz : guardP (c, o, k, n) = ([], 12) := by
      unfold guardP
      rw [if_pos (by simp only; omega)]
    rw [hz]
    clear hz
    have d0 : decide (c < 0) = true := decide_eq_true c0
    clear c0
    go_enter Tryz.func27, Tryz.ntmps27
    go_wp2
    go_ret2
    exact ⟨belowA (Below.refl _ _) _, none, 0, rfl, lims_none _⟩
  · have d0 : decide (c < 0) = false := decide_eq_false c0
    by_cases c1 : 8 < c
    · have hz : guardP (c, o, k, n) = ([], 12) := by
        unfold guardP
        rw [if_pos (by simp only; omega)]
      rw [hz]
      clear hz
      have d1 : decide (8 < c) = true := decide_eq_true c1
      clear c0 c1
      go_enter Tryz.func27, Tryz.ntmps27
      go_wp2
      go_ret2
      exact ⟨belowA (Below.refl _ _) _, none, 0, rfl, lims_none _⟩
    · have d1 : decide (8 < c) = false := decide_eq_false c1
      by_cases o0 : o < 0
      · have hz : guardP (c, o, k, n) = ([], 12) := by
          unfold guardP
          rw [if_pos (by simp only; omega)]
        rw [hz]
        clear hz
        have d2 : decide (o < 0) = true := decide_eq_true o0
        clear c0 c1 o0
        go_enter Tryz.func27, Tryz.ntmps27
        go_wp2
        go_ret2
        exact ⟨belowA (Below.refl _ _) _, none, 0, rfl, lims_none _⟩
      · have d2 : decide (o < 0) = false := decide_eq_false o0
        by_cases o1 : 8 < o
        · have hz : guardP (c, o, k, n) = ([], 12) := by
            unfold guardP
            rw [if_pos (by simp only; omega)]
          rw [hz]
          clear hz
          have d3 : decide (8 < o) = true := decide_eq_true o1
          clear c0 c1 o0 o1
          go_enter Tryz.func27, Tryz.ntmps27
          go_wp2
          go_ret2
          exact ⟨belowA (Below.refl _ _) _, none, 0, rfl, lims_none _⟩
        · have d3 : decide (8 < o) = false := decide_eq_false o1
          by_cases k0 : k < 1
          · have hz : guardP (c, o, k, n) = ([], 7) := by
              unfold guardP
              rw [if_neg (by simp only; omega)]; rw [if_pos (by simp only; omega)]
            rw [hz]
            clear hz
            have d4 : decide (k < 1) = true := decide_eq_true k0
            clear c0 c1 o0 o1 k0
            go_enter Tryz.func27, Tryz.ntmps27
            go_wp2
            go_ret2
            exact ⟨belowA (Below.refl _ _) _, none, 0, rfl, lims_none _⟩
          · have d4 : decide (k < 1) = false := decide_eq_false k0
            by_cases k1 : 5 < k
            · have hz : guardP (c, o, k, n) = ([], 7) := by
                unfold guardP
                rw [if_neg (by simp only; omega)]; rw [if_pos (by simp only; omega)]
              rw [hz]
              clear hz
              have d5 : decide (5 < k) = true := decide_eq_true k1
              clear c0 c1 o0 o1 k0 k1
              go_enter Tryz.func27, Tryz.ntmps27
              go_wp2
              go_ret2
              exact ⟨belowA (Below.refl _ _) _, none, 0, rfl, lims_none _⟩
            · have d5 : decide (5 < k) = false := decide_eq_false k1
              by_cases n0 : n < -1048576
              · have hz : guardP (c, o, k, n) = ([], 13) := by
                  unfold guardP
                  rw [if_neg (by simp only; omega)]; rw [if_neg (by simp only; omega)]; rw [if_pos (by simp only; omega)]
                rw [hz]
                clear hz
                have d6 : decide (n < -1048576) = true := decide_eq_true n0
                clear c0 c1 o0 o1 k0 k1 n0
                go_enter Tryz.func27, Tryz.ntmps27
                go_wp2
                go_ret2
                exact ⟨belowA (Below.refl _ _) _, none, 0, rfl, lims_none _⟩
              · have d6 : decide (n < -1048576) = false := decide_eq_false n0
                by_cases n1 : 1048576 < n
                · have hz : guardP (c, o, k, n) = ([], 13) := by
                    unfold guardP
                    rw [if_neg (by simp only; omega)]; rw [if_neg (by simp only; omega)]; rw [if_pos (by simp only; omega)]
                  rw [hz]
                  clear hz
                  have d7 : decide (1048576 < n) = true := decide_eq_true n1
                  clear c0 c1 o0 o1 k0 k1 n0 n1
                  go_enter Tryz.func27, Tryz.ntmps27
                  go_wp2
                  go_ret2
                  exact ⟨belowA (Below.refl _ _) _, none, 0, rfl, lims_none _⟩
                · have d7 : decide (1048576 < n) = false := decide_eq_false n1
                  have g1 : IntKind.i64.wrap (2 * n) = 2 * n := IntWalk.i64_in _ (by omega)
                  have g2 : IntKind.i64.wrap (2 * n + 1) = 2 * n + 1 := IntWalk.i64_in _ (by omega)
                  have g3 : IntKind.i64.wrap (-2 * n) = -2 * n := IntWalk.i64_in _ (by omega)
                  have g4 : IntKind.i64.wrap (-2 * n + 1) = -2 * n + 1 := IntWalk.i64_in _ (by omega)
                  have g5 : IntKind.i32.wrap (2 * n + 1) = 2 * n + 1 := by rw [IntKind.wrap_i32]; omega
                  have g6 : IntKind.i32.wrap (-2 * n + 1) = -2 * n + 1 := by rw [IntKind.wrap_i32]; omega
                  have g7 : IntKind.i32.wrap (2 * n + 1 - 1) = 2 * n + 1 - 1 := by rw [IntKind.wrap_i32]; omega
                  have g8 : IntKind.i32.wrap (-2 * n + 1 - 1) = -2 * n + 1 - 1 := by rw [IntKind.wrap_i32]; omega
                  have g9 : wrap32 (2 * n) = 2 * n := by unfold wrap32; omega
                  have g10 : wrap32 (-2 * n) = -2 * n := by unfold wrap32; omega
                  rcases (show k = 1 ∨ k = 2 ∨ k = 3 ∨ k = 4 ∨ k = 5 by omega) with rfl | rfl | rfl | rfl | rfl
                  · have hz : guardP (c, o, 1, n) = ([(c, o, 2 * n)], 0) := by
                      unfold guardP
                      rw [if_neg (by simp only; omega), if_neg (by simp), if_neg (by simp only; omega), if_pos rfl]
                    rw [hz]
                    clear hz hk c0 c1 o0 o1 k0 k1 n0 n1 d4 d5
                    go_enter Tryz.func27, Tryz.ntmps27
                    go_wp2
                    go_ret2
                    exact ⟨belowA (belowA (belowA (belowA (Below.refl _ _) _) _) _) _, _, _, rfl, by exact limsA_one _ _ _ _ _ _ (by first | rfl | simp)⟩
                  · have hz : guardP (c, o, 2, n) = ([(c, o, 2 * n + 1)], 0) := by
                      unfold guardP
                      rw [if_neg (by simp only; omega), if_neg (by simp), if_neg (by simp only; omega), if_neg (by simp), if_pos rfl]
                    rw [hz]
                    clear hz hk c0 c1 o0 o1 k0 k1 n0 n1 d4 d5
                    go_enter Tryz.func27, Tryz.ntmps27
                    go_wp2
                    go_ret2
                    exact ⟨belowA (belowA (belowA (belowA (Below.refl _ _) _) _) _) _, _, _, rfl, by exact limsA_one _ _ _ _ _ _ (by first | rfl | simp)⟩
                  · have hz : guardP (c, o, 3, n) = ([(c, o, 2 * n + 1), (o, c, -2 * n + 1)], 0) := by
                      unfold guardP
                      rw [if_neg (by simp only; omega), if_neg (by simp), if_neg (by simp only; omega), if_neg (by simp), if_neg (by simp), if_neg (by simp), if_neg (by simp)]
                    rw [hz]
                    clear hz hk c0 c1 o0 o1 k0 k1 n0 n1 d4 d5
                    go_enter Tryz.func27, Tryz.ntmps27
                    go_wp2
                    go_ret2
                    exact ⟨belowA (belowA (belowA (belowA (Below.refl _ _) _) _) _) _, _, _, rfl, by exact limsA_two _ _ _ _ _ _ _ _ _ (by first | rfl | simp)⟩
                  · have hz : guardP (c, o, 4, n) = ([(o, c, -2 * n + 1)], 0) := by
                      unfold guardP
                      rw [if_neg (by simp only; omega), if_neg (by simp), if_neg (by simp only; omega), if_neg (by simp), if_neg (by simp), if_pos rfl]
                    rw [hz]
                    clear hz hk c0 c1 o0 o1 k0 k1 n0 n1 d4 d5
                    go_enter Tryz.func27, Tryz.ntmps27
                    go_wp2
                    go_ret2
                    exact ⟨belowA (belowA (belowA (belowA (Below.refl _ _) _) _) _) _, _, _, rfl, by exact limsA_one _ _ _ _ _ _ (by first | rfl | simp)⟩
                  · have hz : guardP (c, o, 5, n) = ([(o, c, -2 * n)], 0) := by
                      unfold guardP
                      rw [if_neg (by simp only; omega), if_neg (by simp), if_neg (by simp only; omega), if_neg (by simp), if_neg (by simp), if_neg (by simp), if_pos rfl]
                    rw [hz]
                    clear hz hk c0 c1 o0 o1 k0 k1 n0 n1 d4 d5
                    go_enter Tryz.func27, Tryz.ntmps27
                    go_wp2
                    go_ret2
                    exact ⟨belowA (belowA (belowA (belowA (Below.refl _ _) _) _) _) _, _, _, rfl, by exact limsA_one _ _ _ _ _ _ (by first | rfl | simp)⟩

set_option maxRecDepth 100000 in
set_option maxHeartbeats 2000000 in
theorem glim4_any (c o k n : Int) (w : World) (hk : 0 ≤ k ∧ k ≤ 255) : Calls Tryz.prog 30 #[.agg #[.int .i64 c, .int .i64 o, .int .u8 k, .int .i64 n]] w (MakesLm w (guardP (c, o, k, n))) := by
  by_cases c0 : c < 0
  · have hz : guardP (c, o, k, n) = ([], 12) := by
      unfold guardP
      rw [if_pos (by simp only; omega)]
    rw [hz]
    clear hz
    have d0 : decide (c < 0) = true := decide_eq_true c0
    clear c0
    go_enter Tryz.func30, Tryz.ntmps30
    go_wp2
    go_ret2
    exact ⟨belowA (Below.refl _ _) _, none, 0, rfl, lims_none _⟩
  · have d0 : decide (c < 0) = false := decide_eq_false c0
    by_cases c1 : 8 < c
    · have hz : guardP (c, o, k, n) = ([], 12) := by
        unfold guardP
        rw [if_pos (by simp only; omega)]
      rw [hz]
      clear hz
      have d1 : decide (8 < c) = true := decide_eq_true c1
      clear c0 c1
      go_enter Tryz.func30, Tryz.ntmps30
      go_wp2
      go_ret2
      exact ⟨belowA (Below.refl _ _) _, none, 0, rfl, lims_none _⟩
    · have d1 : decide (8 < c) = false := decide_eq_false c1
      by_cases o0 : o < 0
      · have hz : guardP (c, o, k, n) = ([], 12) := by
          unfold guardP
          rw [if_pos (by simp only; omega)]
        rw [hz]
        clear hz
        have d2 : decide (o < 0) = true := decide_eq_true o0
        clear c0 c1 o0
        go_enter Tryz.func30, Tryz.ntmps30
        go_wp2
        go_ret2
        exact ⟨belowA (Below.refl _ _) _, none, 0, rfl, lims_none _⟩
      · have d2 : decide (o < 0) = false := decide_eq_false o0
        by_cases o1 : 8 < o
        · have hz : guardP (c, o, k, n) = ([], 12) := by
            unfold guardP
            rw [if_pos (by simp only; omega)]
          rw [hz]
          clear hz
          have d3 : decide (8 < o) = true := decide_eq_true o1
          clear c0 c1 o0 o1
          go_enter Tryz.func30, Tryz.ntmps30
          go_wp2
          go_ret2
          exact ⟨belowA (Below.refl _ _) _, none, 0, rfl, lims_none _⟩
        · have d3 : decide (8 < o) = false := decide_eq_false o1
          by_cases k0 : k < 1
          · have hz : guardP (c, o, k, n) = ([], 7) := by
              unfold guardP
              rw [if_neg (by simp only; omega)]; rw [if_pos (by simp only; omega)]
            rw [hz]
            clear hz
            have d4 : decide (k < 1) = true := decide_eq_true k0
            clear c0 c1 o0 o1 k0
            go_enter Tryz.func30, Tryz.ntmps30
            go_wp2
            go_ret2
            exact ⟨belowA (Below.refl _ _) _, none, 0, rfl, lims_none _⟩
          · have d4 : decide (k < 1) = false := decide_eq_false k0
            by_cases k1 : 5 < k
            · have hz : guardP (c, o, k, n) = ([], 7) := by
                unfold guardP
                rw [if_neg (by simp only; omega)]; rw [if_pos (by simp only; omega)]
              rw [hz]
              clear hz
              have d5 : decide (5 < k) = true := decide_eq_true k1
              clear c0 c1 o0 o1 k0 k1
              go_enter Tryz.func30, Tryz.ntmps30
              go_wp2
              go_ret2
              exact ⟨belowA (Below.refl _ _) _, none, 0, rfl, lims_none _⟩
            · have d5 : decide (5 < k) = false := decide_eq_false k1
              by_cases n0 : n < -1048576
              · have hz : guardP (c, o, k, n) = ([], 13) := by
                  unfold guardP
                  rw [if_neg (by simp only; omega)]; rw [if_neg (by simp only; omega)]; rw [if_pos (by simp only; omega)]
                rw [hz]
                clear hz
                have d6 : decide (n < -1048576) = true := decide_eq_true n0
                clear c0 c1 o0 o1 k0 k1 n0
                go_enter Tryz.func30, Tryz.ntmps30
                go_wp2
                go_ret2
                exact ⟨belowA (Below.refl _ _) _, none, 0, rfl, lims_none _⟩
              · have d6 : decide (n < -1048576) = false := decide_eq_false n0
                by_cases n1 : 1048576 < n
                · have hz : guardP (c, o, k, n) = ([], 13) := by
                    unfold guardP
                    rw [if_neg (by simp only; omega)]; rw [if_neg (by simp only; omega)]; rw [if_pos (by simp only; omega)]
                  rw [hz]
                  clear hz
                  have d7 : decide (1048576 < n) = true := decide_eq_true n1
                  clear c0 c1 o0 o1 k0 k1 n0 n1
                  go_enter Tryz.func30, Tryz.ntmps30
                  go_wp2
                  go_ret2
                  exact ⟨belowA (Below.refl _ _) _, none, 0, rfl, lims_none _⟩
                · have d7 : decide (1048576 < n) = false := decide_eq_false n1
                  have g1 : IntKind.i64.wrap (2 * n) = 2 * n := IntWalk.i64_in _ (by omega)
                  have g2 : IntKind.i64.wrap (2 * n + 1) = 2 * n + 1 := IntWalk.i64_in _ (by omega)
                  have g3 : IntKind.i64.wrap (-2 * n) = -2 * n := IntWalk.i64_in _ (by omega)
                  have g4 : IntKind.i64.wrap (-2 * n + 1) = -2 * n + 1 := IntWalk.i64_in _ (by omega)
                  have g5 : IntKind.i32.wrap (2 * n + 1) = 2 * n + 1 := by rw [IntKind.wrap_i32]; omega
                  have g6 : IntKind.i32.wrap (-2 * n + 1) = -2 * n + 1 := by rw [IntKind.wrap_i32]; omega
                  have g7 : IntKind.i32.wrap (2 * n + 1 - 1) = 2 * n + 1 - 1 := by rw [IntKind.wrap_i32]; omega
                  have g8 : IntKind.i32.wrap (-2 * n + 1 - 1) = -2 * n + 1 - 1 := by rw [IntKind.wrap_i32]; omega
                  have g9 : wrap32 (2 * n) = 2 * n := by unfold wrap32; omega
                  have g10 : wrap32 (-2 * n) = -2 * n := by unfold wrap32; omega
                  rcases (show k = 1 ∨ k = 2 ∨ k = 3 ∨ k = 4 ∨ k = 5 by omega) with rfl | rfl | rfl | rfl | rfl
                  · have hz : guardP (c, o, 1, n) = ([(c, o, 2 * n)], 0) := by
                      unfold guardP
                      rw [if_neg (by simp only; omega), if_neg (by simp), if_neg (by simp only; omega), if_pos rfl]
                    rw [hz]
                    clear hz hk c0 c1 o0 o1 k0 k1 n0 n1 d4 d5
                    go_enter Tryz.func30, Tryz.ntmps30
                    go_wp2
                    go_ret2
                    exact ⟨belowA (belowA (belowA (belowA (Below.refl _ _) _) _) _) _, _, _, rfl, by exact limsA_one _ _ _ _ _ _ (by first | rfl | simp)⟩
                  · have hz : guardP (c, o, 2, n) = ([(c, o, 2 * n + 1)], 0) := by
                      unfold guardP
                      rw [if_neg (by simp only; omega), if_neg (by simp), if_neg (by simp only; omega), if_neg (by simp), if_pos rfl]
                    rw [hz]
                    clear hz hk c0 c1 o0 o1 k0 k1 n0 n1 d4 d5
                    go_enter Tryz.func30, Tryz.ntmps30
                    go_wp2
                    go_ret2
                    exact ⟨belowA (belowA (belowA (belowA (Below.refl _ _) _) _) _) _, _, _, rfl, by exact limsA_one _ _ _ _ _ _ (by first | rfl | simp)⟩
                  · have hz : guardP (c, o, 3, n) = ([(c, o, 2 * n + 1), (o, c, -2 * n + 1)], 0) := by
                      unfold guardP
                      rw [if_neg (by simp only; omega), if_neg (by simp), if_neg (by simp only; omega), if_neg (by simp), if_neg (by simp), if_neg (by simp), if_neg (by simp)]
                    rw [hz]
                    clear hz hk c0 c1 o0 o1 k0 k1 n0 n1 d4 d5
                    go_enter Tryz.func30, Tryz.ntmps30
                    go_wp2
                    go_ret2
                    exact ⟨belowA (belowA (belowA (belowA (Below.refl _ _) _) _) _) _, _, _, rfl, by exact limsA_two _ _ _ _ _ _ _ _ _ (by first | rfl | simp)⟩
                  · have hz : guardP (c, o, 4, n) = ([(o, c, -2 * n + 1)], 0) := by
                      unfold guardP
                      rw [if_neg (by simp only; omega), if_neg (by simp), if_neg (by simp only; omega), if_neg (by simp), if_neg (by simp), if_pos rfl]
                    rw [hz]
                    clear hz hk c0 c1 o0 o1 k0 k1 n0 n1 d4 d5
                    go_enter Tryz.func30, Tryz.ntmps30
                    go_wp2
                    go_ret2
                    exact ⟨belowA (belowA (belowA (belowA (Below.refl _ _) _) _) _) _, _, _, rfl, by exact limsA_one _ _ _ _ _ _ (by first | rfl | simp)⟩
                  · have hz : guardP (c, o, 5, n) = ([(o, c, -2 * n)], 0) := by
                      unfold guardP
                      rw [if_neg (by simp only; omega), if_neg (by simp), if_neg (by simp only; omega), if_neg (by simp), if_neg (by simp), if_neg (by simp), if_pos rfl]
                    rw [hz]
                    clear hz hk c0 c1 o0 o1 k0 k1 n0 n1 d4 d5
                    go_enter Tryz.func30, Tryz.ntmps30
                    go_wp2
                    go_ret2
                    exact ⟨belowA (belowA (belowA (belowA (Below.refl _ _) _) _) _) _, _, _, rfl, by exact limsA_one _ _ _ _ _ _ (by first | rfl | simp)⟩

end Go.Proofs.YtmelblnflalanaaGreat

/- Rows of guards: what they say together. -/
namespace Go.Proofs.YtmelblnflalanaaGreat
set_option linter.unusedVariables false
set_option linter.unusedSimpArgs false

/-- The first error of guards; 0: none. -/
def gsE : List (Int × Int × Int × Int) → Int
  | [] => 0
  | g :: l => if (guardP g).2 = 0 then gsE l else (guardP g).2
/-- The limits of the first p guards. -/
def gsL (l : List (Int × Int × Int × Int)) : Nat → List (Int × Int × Int)
  | 0 => []
  | p + 1 => gsL l p ++ (guardP (l.getD p (0, 0, 0, 0))).1
theorem gsE_none : ∀ l : List (Int × Int × Int × Int), (∀ q, q < l.length → (guardP (l.getD q (0, 0, 0, 0))).2 = 0) → gsE l = 0
  | [], _ => rfl
  | g :: l, h => by
    have h0 := h 0 (by simp)
    unfold gsE
    rw [if_pos (by simpa using h0)]
    exact gsE_none l fun q hq => by have := h (q + 1) (by simpa using hq); simpa using this
theorem gsE_at : ∀ (l : List (Int × Int × Int × Int)) (p : Nat), p < l.length → (∀ q, q < p → (guardP (l.getD q (0, 0, 0, 0))).2 = 0) → (guardP (l.getD p (0, 0, 0, 0))).2 ≠ 0 → gsE l = (guardP (l.getD p (0, 0, 0, 0))).2
  | [], p, hp, _, _ => by simp at hp
  | g :: l, 0, _, _, hn => by
    have hn' : ¬ (guardP g).2 = 0 := by simpa using hn
    unfold gsE
    rw [if_neg hn']; simp
  | g :: l, p + 1, hp, h, hn => by
    have h0 := h 0 (by omega)
    unfold gsE
    rw [if_pos (by simpa using h0)]
    have := gsE_at l p (by simpa using hp) (fun q hq => by have := h (q + 1) (by omega); simpa using this) (by simpa using hn)
    rw [this]; simp
theorem guardP_len (g : Int × Int × Int × Int) : (guardP g).1.length ≤ 2 ∧ ((guardP g).2 = 0 → 1 ≤ (guardP g).1.length) := by
  unfold guardP
  split
  · simp
  · split
    · simp
    · split
      · simp
      · split
        · simp
        · split
          · simp
          · split
            · simp
            · split <;> simp
theorem gsL_len (l : List (Int × Int × Int × Int)) : ∀ p, (gsL l p).length ≤ 2 * p
  | 0 => by simp [gsL]
  | p + 1 => by
    have h1 := gsL_len l p
    have h2 := (guardP_len (l.getD p (0, 0, 0, 0))).1
    rw [gsL, List.length_append]; omega
theorem guardP_bits (g : Int × Int × Int × Int) : ∀ x ∈ (guardP g).1, -2147483648 ≤ x.2.2 ∧ x.2.2 ≤ 2147483647 := by
  intro x hx
  unfold guardP at hx
  split at hx
  · simp at hx
  · split at hx
    · simp at hx
    · split at hx
      · simp at hx
      · rename_i _ _ hn
        have hn' : -1048576 ≤ g.2.2.2 ∧ g.2.2.2 ≤ 1048576 := by
          by_cases h : -1048576 ≤ g.2.2.2 ∧ g.2.2.2 ≤ 1048576
          · exact h
          · exact absurd h hn
        split at hx
        · simp only [List.mem_singleton] at hx; subst hx; simp only; omega
        · split at hx
          · simp only [List.mem_singleton] at hx; subst hx; simp only; omega
          · split at hx
            · simp only [List.mem_singleton] at hx; subst hx; simp only; omega
            · split at hx
              · simp only [List.mem_singleton] at hx; subst hx; simp only; omega
              · simp only [List.mem_cons, List.mem_nil_iff, or_false] at hx
                rcases hx with rfl | rfl <;> (simp only; omega)
theorem gsL_bits (l : List (Int × Int × Int × Int)) : ∀ p, ∀ x ∈ gsL l p, -2147483648 ≤ x.2.2 ∧ x.2.2 ≤ 2147483647
  | 0, x, h => by simp [gsL] at h
  | p + 1, x, h => by
    rw [gsL, List.mem_append] at h
    rcases h with h | h
    · exact gsL_bits l p x h
    · exact guardP_bits _ x h
theorem gsL_bits' (l : List (Int × Int × Int × Int)) (p : Nat) : ∀ q, q < (gsL l p).length → -2147483648 ≤ ((gsL l p).getD q (0, 0, 0)).2.2 ∧ ((gsL l p).getD q (0, 0, 0)).2.2 ≤ 2147483647 := fun q hq => by
  refine gsL_bits l p _ ?_
  rw [List.getD_eq_getElem?_getD, List.getElem?_eq_getElem hq]
  exact List.getElem_mem hq

end Go.Proofs.YtmelblnflalanaaGreat
