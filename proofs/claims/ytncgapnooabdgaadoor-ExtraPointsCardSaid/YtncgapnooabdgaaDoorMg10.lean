/- Texts of ours, laid together: Mfm, Eq, Ev, Kd, Row4. -/
import Derived.Deep.DeepCutAuto
import Derived.Deep.CutBlock
import Derived.OpenShut
import Derived.Test.YtncgapnooabdgaaDoorMg9
/- Each zone that is not empty has a valuation on the grid of its clocks and one; how it is found; what is not forbidden is there. -/
namespace Go.Proofs.YtncgapnooabdgaaDoor
set_option linter.unusedVariables false
set_option linter.unusedSimpArgs false

/-! ### counting -/
def cnt (P : Nat → Bool) : Nat → Int
  | 0 => 0
  | k + 1 => cnt P k + (if P k then 1 else 0)
theorem cnt_le {P Q : Nat → Bool} : ∀ N, (∀ k, k < N → P k = true → Q k = true) → cnt P N ≤ cnt Q N
  | 0, _ => Int.le_refl _
  | N + 1, h => by
    have ih := cnt_le N fun k hk => h k (by omega)
    have hN := h N (by omega)
    unfold cnt
    cases hp : P N
    · cases Q N <;> simp <;> omega
    · rw [hN hp]; simp; omega
theorem cnt_lt {P Q : Nat → Bool} : ∀ N k0, k0 < N → (∀ k, k < N → P k = true → Q k = true) → P k0 = false → Q k0 = true → cnt P N + 1 ≤ cnt Q N
  | 0, k0, h0, _, _, _ => by omega
  | N + 1, k0, h0, h, hp, hq => by
    unfold cnt
    by_cases e : k0 = N
    · subst e
      have := cnt_le k0 fun k hk => h k (by omega)
      rw [hp, hq]; simp; omega
    · have ih := cnt_lt N k0 (by omega) (fun k hk => h k (by omega)) hp hq
      have hN := h N (by omega)
      cases hpN : P N
      · cases Q N <;> simp <;> omega
      · rw [hN hpN]; simp; omega
theorem cnt_bd (P : Nat → Bool) : ∀ N, 0 ≤ cnt P N ∧ cnt P N ≤ N
  | 0 => by simp [cnt]
  | N + 1 => by
    have ih := cnt_bd P N
    unfold cnt
    split <;> omega
theorem cnt_miss (P : Nat → Bool) (N k0 : Nat) (h0 : k0 < N) (h : P k0 = false) : cnt P N + 1 ≤ N := by
  have h1 := cnt_lt (P := P) (Q := fun _ => true) N k0 h0 (fun _ _ _ => rfl) h rfl
  have h2 := (cnt_bd (fun _ => true) N).2
  omega

/-! ### a valuation of a closed matrix -/
/-- What a matrix must be to have a valuation: closed, and no clock below 0. -/
structure Solid (n : Nat) (m : Mat) : Prop where
  tri : Tri n m (n + 1)
  bd : ∀ i j, i ≤ n → j ≤ n → FB (m i j)
  one : ∀ i, i ≤ n → m i i = 1
  top : ∀ j, j ≤ n → m 0 j ≤ 1
theorem Solid.fin {n : Nat} {m : Mat} (h : Solid n m) {j : Nat} (hj : j ≤ n) : m 0 j ≠ none62 := fun e => by
  have := h.top j hj
  rw [e] at this
  unfold none62 at this
  omega
theorem Solid.step {n : Nat} {m : Mat} (h : Solid n m) {i k j : Nat} (hi : i ≤ n) (hk : k ≤ n) (hj : j ≤ n) (h1 : m i k ≠ none62) (h2 : m k j ≠ none62) :
    m i j ≠ none62 ∧ m i j ≤ (m i k - m i k % 2) + (m k j - m k j % 2) + min (m i k % 2) (m k j % 2) := by
  have t := h.tri k (by omega) i j hi hj
  rw [wsum_min h1 h2] at t
  refine ⟨fun e => ?_, t⟩
  have f1 := (h.bd i k hi hk).fin h1
  have f2 := (h.bd k j hk hj).fin h2
  rw [e] at t
  unfold none62 at t
  omega
/-- A way that is as short as it can be, and less than reached. -/
def tightR (m : Mat) (k j : Nat) : Bool := decide (m k j ≠ none62 ∧ m 0 j / 2 = m 0 k / 2 + m k j / 2 ∧ m k j % 2 = 0)
/-- The valuation. -/
def solU (n : Nat) (m : Mat) (j : Nat) : Int := ((n : Int) + 1) * (-(m 0 j / 2)) + cnt (fun k => tightR m k j) (n + 1)

theorem tight_trans {n : Nat} {m : Mat} (h : Solid n m) {k i j : Nat} (hk : k ≤ n) (hi : i ≤ n) (hj : j ≤ n) (h1 : tightR m k i = true) (h2 : m i j ≠ none62) (h3 : m 0 j / 2 = m 0 i / 2 + m i j / 2) : tightR m k j = true := by
  unfold tightR at h1
  obtain ⟨a1, a2, a3⟩ := of_decide_eq_true h1
  obtain ⟨b1, b2⟩ := h.step hk hi hj a1 h2
  have b3 := (h.step (Nat.zero_le n) hk hj (h.fin hk) b1).2
  refine decide_eq_true ⟨b1, ?_, ?_⟩ <;> omega
theorem solU_sat {n : Nat} {m : Mat} (h : Solid n m) : ∀ i j, i ≤ n → j ≤ n → m i j ≠ none62 → solU n m i - (m i j / 2 * ((n : Int) + 1) - (1 - m i j % 2)) ≤ solU n m j := fun i j hi hj hf => by
  have t := (h.step (Nat.zero_le n) hi hj (h.fin hi) hf).2
  have hp : -(m 0 j / 2) ≥ -(m 0 i / 2) - m i j / 2 := by omega
  have hself : tightR m i i = false := by
    unfold tightR
    rw [h.one i hi]
    refine decide_eq_false fun hh => ?_
    have := hh.2.2
    omega
  have hqi := cnt_miss (fun k => tightR m k i) (n + 1) i (by omega) hself
  have hqj := (cnt_bd (fun k => tightR m k j) (n + 1)).1
  unfold solU
  obtain ⟨a, ha⟩ : ∃ a, a = m 0 i / 2 := ⟨_, rfl⟩
  obtain ⟨b, hb⟩ : ∃ b, b = m 0 j / 2 := ⟨_, rfl⟩
  obtain ⟨x, hx⟩ : ∃ x, x = m i j / 2 := ⟨_, rfl⟩
  obtain ⟨r, hr⟩ : ∃ r, r = m i j % 2 := ⟨_, rfl⟩
  have hr2 : 0 ≤ r ∧ r ≤ 1 := by omega
  rw [← ha, ← hb, ← hx, ← hr]
  rw [← ha, ← hb, ← hx] at hp
  by_cases e : b = a + x
  · have hq : cnt (fun k => tightR m k i) (n + 1) + (1 - r) ≤ cnt (fun k => tightR m k j) (n + 1) := by
      have himp : ∀ k, k < n + 1 → (fun k => tightR m k i) k = true → (fun k => tightR m k j) k = true := fun k hk h1 => tight_trans h (by omega) hi hj h1 hf (by omega)
      by_cases hr0 : r = 0
      · have := cnt_lt (P := fun k => tightR m k i) (Q := fun k => tightR m k j) (n + 1) i (by omega) himp hself (decide_eq_true ⟨hf, by omega, by omega⟩)
        omega
      · have := cnt_le (P := fun k => tightR m k i) (Q := fun k => tightR m k j) (n + 1) himp
        omega
    have e2 : ((n : Int) + 1) * -b = ((n : Int) + 1) * -a - x * ((n : Int) + 1) := by
      rw [e, Int.neg_add, Int.mul_add, Int.mul_neg, Int.mul_neg, Int.mul_comm x]; omega
    omega
  · have e1 : -b ≥ -a - x + 1 := by omega
    have e2 : ((n : Int) + 1) * -b ≥ ((n : Int) + 1) * (-a - x + 1) := Int.mul_le_mul_of_nonneg_left e1 (by omega)
    have e3 : ((n : Int) + 1) * (-a - x + 1) = ((n : Int) + 1) * -a - x * ((n : Int) + 1) + ((n : Int) + 1) := by
      rw [Int.mul_add, Int.mul_sub, Int.mul_comm x]; omega
    omega
theorem solU_pos {n : Nat} {m : Mat} (h : Solid n m) : ∀ j, j ≤ n → 0 ≤ solU n m j := fun j hj => by
  have h1 := h.top j hj
  have h2 := (cnt_bd (fun k => tightR m k j) (n + 1)).1
  have h3 : 0 ≤ ((n : Int) + 1) * (-(m 0 j / 2)) := Int.mul_nonneg (by omega) (by omega)
  unfold solU
  omega
theorem solU_le {n : Nat} {m : Mat} {X : Int} (hX : ∀ j, j ≤ n → -X ≤ m 0 j / 2) : ∀ j, j ≤ n → solU n m j ≤ ((n : Int) + 1) * X + ((n : Int) + 1) := fun j hj => by
  have h1 := hX j hj
  have h2 := (cnt_bd (fun k => tightR m k j) (n + 1)).2
  have h3 : ((n : Int) + 1) * (-(m 0 j / 2)) ≤ ((n : Int) + 1) * X := Int.mul_le_mul_of_nonneg_left (by omega) (by omega)
  unfold solU
  omega
theorem sat_of_le {g b x : Int} (h : b ≠ none62 → x ≤ b / 2 * g - (1 - b % 2)) : sat g b x := by
  by_cases e : b = none62
  · exact .inl e
  · have := h e
    exact .inr (by omega)
theorem le_of_sat {g b x : Int} (h : sat g b x) (hb : b ≠ none62) : x ≤ b / 2 * g - (1 - b % 2) := by
  rcases h with h | h
  · exact absurd h hb
  · omega
theorem solid_sat {n : Nat} {m : Mat} (h : Solid n m) : satM n ((n : Int) + 1) m (solU n m) := fun i j hi hj => sat_of_le fun hf => by
  have := solU_sat h i j hi hj hf
  omega

/-! ### how the least one is found -/
/-- A valuation that keeps all bounds, none below 0. -/
def Sol (n : Nat) (g : Int) (m : Mat) (u : Nat → Int) : Prop := (∀ j, j ≤ n → 0 ≤ u j) ∧ ∀ i j, i ≤ n → j ≤ n → m i j ≠ none62 → u i - (m i j / 2 * g - (1 - m i j % 2)) ≤ u j
/-- One bound is looked at. -/
def insS (g : Int) (m : Mat) (v : Nat → Int) (i j : Nat) : Nat → Int :=
  if m i j ≠ none62 ∧ v j < v i - (m i j / 2 * g - (1 - m i j % 2)) then fun a => if a = j then v i - (m i j / 2 * g - (1 - m i j % 2)) else v a else v
def insJ (g : Int) (m : Mat) (v : Nat → Int) (i : Nat) : Nat → Nat → Int
  | 0 => v
  | j + 1 => insS g m (insJ g m v i j) i j
def insI (n : Nat) (g : Int) (m : Mat) (v : Nat → Int) : Nat → Nat → Int
  | 0 => v
  | i + 1 => insJ g m (insI n g m v i) i (n + 1)
def insR (n : Nat) (g : Int) (m : Mat) : Nat → Nat → Int
  | 0 => fun _ => 0
  | r + 1 => insI n g m (insR n g m r) (n + 1)
theorem insS_ge (g : Int) (m : Mat) (v : Nat → Int) (i j a : Nat) : v a ≤ insS g m v i j a := by
  unfold insS
  split
  · rename_i h
    show _ ≤ if a = j then _ else _
    split
    · rename_i e; subst e; omega
    · exact Int.le_refl _
  · exact Int.le_refl _
theorem insJ_ge (g : Int) (m : Mat) (v : Nat → Int) (i a : Nat) : ∀ j d, insJ g m v i j a ≤ insJ g m v i (j + d) a
  | _, 0 => Int.le_refl _
  | j, d + 1 => Int.le_trans (insJ_ge g m v i a j d) (insS_ge g m _ i (j + d) a)
theorem insI_ge (n : Nat) (g : Int) (m : Mat) (v : Nat → Int) (a : Nat) : ∀ i d, insI n g m v i a ≤ insI n g m v (i + d) a
  | _, 0 => Int.le_refl _
  | i, d + 1 => Int.le_trans (insI_ge n g m v a i d) (by
    have := insJ_ge g m (insI n g m v (i + d)) (i + d) a 0 (n + 1)
    rw [Nat.zero_add] at this
    exact this)
theorem insS_le {n : Nat} {g : Int} {m : Mat} {u v : Nat → Int} (hu : Sol n g m u) (hv : ∀ a, a ≤ n → v a ≤ u a) {i j : Nat} (hi : i ≤ n) (hj : j ≤ n) : ∀ a, a ≤ n → insS g m v i j a ≤ u a := fun a ha => by
  unfold insS
  split
  · rename_i h
    show (if a = j then _ else _) ≤ _
    split
    · rename_i e
      subst e
      have := hu.2 i a hi ha h.1
      have := hv i hi
      omega
    · exact hv a ha
  · exact hv a ha
theorem insJ_le {n : Nat} {g : Int} {m : Mat} {u v : Nat → Int} (hu : Sol n g m u) (hv : ∀ a, a ≤ n → v a ≤ u a) {i : Nat} (hi : i ≤ n) : ∀ j, j ≤ n + 1 → ∀ a, a ≤ n → insJ g m v i j a ≤ u a
  | 0, _ => hv
  | j + 1, h => insS_le hu (insJ_le hu hv hi j (by omega)) hi (by omega)
theorem insI_le {n : Nat} {g : Int} {m : Mat} {u v : Nat → Int} (hu : Sol n g m u) (hv : ∀ a, a ≤ n → v a ≤ u a) : ∀ i, i ≤ n + 1 → ∀ a, a ≤ n → insI n g m v i a ≤ u a
  | 0, _ => hv
  | i + 1, h => insJ_le hu (insI_le hu hv i (by omega)) (by omega) (n + 1) (Nat.le_refl _)
theorem insR_le {n : Nat} {g : Int} {m : Mat} {u : Nat → Int} (hu : Sol n g m u) : ∀ r, ∀ a, a ≤ n → insR n g m r a ≤ u a
  | 0 => fun a ha => hu.1 a ha
  | r + 1 => insI_le hu (insR_le hu r) (n + 1) (Nat.le_refl _)
theorem insR_pos (n : Nat) (g : Int) (m : Mat) : ∀ r a, 0 ≤ insR n g m r a
  | 0, _ => Int.le_refl _
  | r + 1, a => Int.le_trans (insR_pos n g m r a) (by
    have := insI_ge n g m (insR n g m r) a 0 (n + 1)
    rw [Nat.zero_add] at this
    exact this)
/-- Behind a round each bound was looked at. -/
theorem round_ge (n : Nat) (g : Int) (m : Mat) (v : Nat → Int) {i j : Nat} (hi : i ≤ n) (hj : j ≤ n) (hf : m i j ≠ none62) : v i - (m i j / 2 * g - (1 - m i j % 2)) ≤ insI n g m v (n + 1) j := by
  have h1 := insI_ge n g m v j (i + 1) (n - i)
  rw [show i + 1 + (n - i) = n + 1 by omega] at h1
  refine Int.le_trans ?_ h1
  show _ ≤ insJ g m (insI n g m v i) i (n + 1) j
  have h2 := insJ_ge g m (insI n g m v i) i j (j + 1) (n - j)
  rw [show j + 1 + (n - j) = n + 1 by omega] at h2
  refine Int.le_trans ?_ h2
  show _ ≤ insS g m (insJ g m (insI n g m v i) i j) i j j
  have h3 : v i ≤ insJ g m (insI n g m v i) i j i := by
    have a1 := insI_ge n g m v i 0 i
    have a2 := insJ_ge g m (insI n g m v i) i i 0 j
    rw [Nat.zero_add] at a1 a2
    exact Int.le_trans a1 a2
  generalize insJ g m (insI n g m v i) i j = x at h3
  unfold insS
  split
  · simp only [if_true]; omega
  · rename_i h
    have : ¬ x j < x i - (m i j / 2 * g - (1 - m i j % 2)) := fun hh => h ⟨hf, hh⟩
    omega

/-- The sum of a valuation. -/
def sumU (u : Nat → Int) : Nat → Int
  | 0 => 0
  | k + 1 => sumU u k + u k
theorem sumU_le {u v : Nat → Int} : ∀ N, (∀ a, a < N → u a ≤ v a) → sumU u N ≤ sumU v N
  | 0, _ => Int.le_refl _
  | N + 1, h => by
    have := sumU_le N fun a ha => h a (by omega)
    have := h N (by omega)
    unfold sumU; omega
theorem sumU_lt {u v : Nat → Int} : ∀ N k0, k0 < N → (∀ a, a < N → u a ≤ v a) → u k0 < v k0 → sumU u N < sumU v N
  | 0, k0, h0, _, _ => by omega
  | N + 1, k0, h0, h, hl => by
    unfold sumU
    by_cases e : k0 = N
    · subst e
      have := sumU_le k0 fun a ha => h a (by omega)
      omega
    · have := sumU_lt N k0 (by omega) (fun a ha => h a (by omega)) hl
      have := h N (by omega)
      omega
theorem sumU_pos {u : Nat → Int} : ∀ N, (∀ a, a < N → 0 ≤ u a) → 0 ≤ sumU u N
  | 0, _ => Int.le_refl _
  | N + 1, h => by
    have := sumU_pos N fun a ha => h a (by omega)
    have := h N (by omega)
    unfold sumU; omega
/-- There is one whose sum is the least. -/
theorem least_sol {n : Nat} {g : Int} {m : Mat} : ∀ (s : Nat) (u : Nat → Int), Sol n g m u → sumU u (n + 1) ≤ s → ∃ u', Sol n g m u' ∧ ∀ u'', Sol n g m u'' → sumU u' (n + 1) ≤ sumU u'' (n + 1)
  | 0, u, hu, hs => ⟨u, hu, fun u'' hu'' => by
    have := sumU_pos (n + 1) fun a ha => hu''.1 a (by omega)
    omega⟩
  | s + 1, u, hu, hs => by
    by_cases h : ∀ u'', Sol n g m u'' → sumU u (n + 1) ≤ sumU u'' (n + 1)
    · exact ⟨u, hu, h⟩
    · have : ∃ u'', Sol n g m u'' ∧ sumU u'' (n + 1) < sumU u (n + 1) := by
        refine Classical.byContradiction fun hn => h fun u'' hu'' => ?_
        exact Int.not_lt.1 fun hl => hn ⟨u'', hu'', hl⟩
      obtain ⟨u'', hu'', hl⟩ := this
      exact least_sol s u'' hu'' (by omega)

/-- So many places are as in u. -/
def same (n : Nat) (v u : Nat → Int) : Int := cnt (fun a => decide (v a = u a)) (n + 1)
theorem round_more {n : Nat} {g : Int} {m : Mat} {u v : Nat → Int} (hu : Sol n g m u) (hl : ∀ u'', Sol n g m u'' → sumU u (n + 1) ≤ sumU u'' (n + 1)) (hv0 : ∀ a, a ≤ n → 0 ≤ v a) (hv : ∀ a, a ≤ n → v a ≤ u a)
    (hne : ∃ a, a ≤ n ∧ v a ≠ u a) : same n v u + 1 ≤ same n (insI n g m v (n + 1)) u := by
  have hge : ∀ a, v a ≤ insI n g m v (n + 1) a := fun a => by
    have := insI_ge n g m v a 0 (n + 1)
    rw [Nat.zero_add] at this
    exact this
  have hle := insI_le hu hv (n + 1) (Nat.le_refl _)
  have hkeep : ∀ a, a ≤ n → v a = u a → insI n g m v (n + 1) a = u a := fun a ha e => by
    have := hge a
    have := hle a ha
    omega
  by_cases hex : ∃ a, a ≤ n ∧ v a ≠ u a ∧ insI n g m v (n + 1) a = u a
  · obtain ⟨a, ha, h1, h2⟩ := hex
    exact cnt_lt (n + 1) a (by omega) (fun k hk h => decide_eq_true (hkeep k (by omega) (of_decide_eq_true h))) (decide_eq_false h1) (decide_eq_true h2)
  · exfalso
    have hno : ∀ a, a ≤ n → v a ≠ u a → insI n g m v (n + 1) a < u a := fun a ha h1 => by
      have h2 := hle a ha
      have h3 : insI n g m v (n + 1) a ≠ u a := fun e => hex ⟨a, ha, h1, e⟩
      omega
    obtain ⟨a0, ha0, hne0⟩ := hne
    have hsol : Sol n g m (fun a => if v a = u a then u a else u a - 1) := by
      refine ⟨fun a ha => ?_, fun i j hi hj hf => ?_⟩
      · show 0 ≤ if v a = u a then u a else u a - 1
        split
        · exact hu.1 a ha
        · have := hv a ha
          have := hv0 a ha
          omega
      · show (if v i = u i then u i else u i - 1) - _ ≤ if v j = u j then u j else u j - 1
        have t := hu.2 i j hi hj hf
        by_cases h1 : v i = u i
        · rw [if_pos h1]
          by_cases h2 : v j = u j
          · rw [if_pos h2]; exact t
          · rw [if_neg h2]
            have r := round_ge n g m v hi hj hf
            have := hno j hj h2
            rw [h1] at r
            omega
        · rw [if_neg h1]
          split <;> omega
    have h1 := hl _ hsol
    have h2 := sumU_lt (u := fun a => if v a = u a then u a else u a - 1) (v := u) (n + 1) a0 (by omega) (fun a _ => by
      show (if v a = u a then u a else u a - 1) ≤ u a
      split <;> omega) (by
      show (if v a0 = u a0 then u a0 else u a0 - 1) < u a0
      rw [if_neg hne0]; omega)
    omega
theorem rounds_same {n : Nat} {g : Int} {m : Mat} {u : Nat → Int} (hu : Sol n g m u) (hl : ∀ u'', Sol n g m u'' → sumU u (n + 1) ≤ sumU u'' (n + 1)) : ∀ r : Nat, (r : Int) ≤ same n (insR n g m r) u ∨ ∀ a, a ≤ n → insR n g m r a = u a
  | 0 => .inl (by have := (cnt_bd (fun a => decide (insR n g m 0 a = u a)) (n + 1)).1; exact this)
  | r + 1 => by
    by_cases hall : ∀ a, a ≤ n → insR n g m r a = u a
    · right
      intro a ha
      have h1 := insR_le hu (r + 1) a ha
      have h2 := insI_ge n g m (insR n g m r) a 0 (n + 1)
      rw [Nat.zero_add] at h2
      have h3 : insR n g m r a ≤ insR n g m (r + 1) a := h2
      have := hall a ha
      omega
    · left
      rcases rounds_same hu hl r with ih | ih
      · have hne : ∃ a, a ≤ n ∧ insR n g m r a ≠ u a := by
          refine Classical.byContradiction fun hn => hall fun a ha => Classical.byContradiction fun h => hn ⟨a, ha, h⟩
        have := round_more hu hl (fun a _ => insR_pos n g m r a) (insR_le hu r) hne
        show ((r + 1 : Nat) : Int) ≤ same n (insI n g m (insR n g m r) (n + 1)) u
        omega
      · exact absurd ih hall
/-- What is found is a valuation, and the least of sums; no more than any. -/
theorem inside_sol {n : Nat} {g : Int} {m : Mat} {u0 : Nat → Int} (h : Sol n g m u0) : Sol n g m (insR n g m (n + 2)) ∧ (∀ r a, a ≤ n → insR n g m r a ≤ u0 a) := by
  refine ⟨?_, fun r => insR_le h r⟩
  obtain ⟨u, hu, hl⟩ := least_sol (sumU u0 (n + 1)).toNat u0 h (by omega)
  have hall : ∀ a, a ≤ n → insR n g m (n + 2) a = u a := by
    rcases rounds_same hu hl (n + 2) with hr | hr
    · exfalso
      have := (cnt_bd (fun a => decide (insR n g m (n + 2) a = u a)) (n + 1)).2
      have hr' : ((n + 2 : Nat) : Int) ≤ cnt (fun a => decide (insR n g m (n + 2) a = u a)) (n + 1) := hr
      omega
    · exact hr
  refine ⟨fun j hj => by rw [hall j hj]; exact hu.1 j hj, fun i j hi hj hf => ?_⟩
  rw [hall i hi, hall j hj]
  exact hu.2 i j hi hj hf
theorem sol_sat {n : Nat} {g : Int} {m : Mat} {u : Nat → Int} (h : Sol n g m u) : satM n g m u := fun i j hi hj => sat_of_le fun hf => by
  have := h.2 i j hi hj hf
  omega
theorem solid_sol {n : Nat} {m : Mat} (h : Solid n m) : Sol n ((n : Int) + 1) m (solU n m) := ⟨solU_pos h, solU_sat h⟩

/-! ### one bound more -/
/-- Closed, with one bound made stricter. -/
def tighter (m : Mat) (j i : Nat) (o : Int) : Mat := fun a b => min (m a b) (wsum (wsum (m a j) o) (m i b))
theorem tighter_solid {n : Nat} {m : Mat} (h : Closed n m m) (h0 : ∀ j, j ≤ n → m 0 j ≤ 1) {i j : Nat} {o : Int} (hi : i ≤ n) (hj : j ≤ n) (ho : Bd 1125899906842624 o) (hone : 1 ≤ wsum o (m i j)) : Solid n (tighter m j i o) := by
  have f := h.bd
  have F : ∀ a b, a ≤ n → b ≤ n → FB (m a b) := fun a b ha hb => half_fb (f a b ha hb)
  have fo : FB o := half_fb ho
  have f2 : ∀ a, a ≤ n → FB (wsum (m a j) o) := fun a ha => sum_fb (f a j ha hj) ho
  have f3 : ∀ a b, a ≤ n → b ≤ n → FB (wsum (wsum (m a j) o) (m i b)) := fun a b ha hb => (((f a j ha hj).sum ho).sum (f i b hi hb)).mono (by omega)
  have fs : ∀ a b c d, a ≤ n → b ≤ n → c ≤ n → d ≤ n → FB (wsum (m a b) (m c d)) := fun a b c d ha hb hc hd => sum_fb (f a b ha hb) (f c d hc hd)
  have tr : ∀ a k b, a ≤ n → k ≤ n → b ≤ n → m a b ≤ wsum (m a k) (m k b) := fun a k b ha hk hb => h.tri k (by omega) a b ha hb
  refine ⟨fun k hk a b ha hb => ?_, fun a b ha hb => ?_, fun a ha => ?_, fun b hb => ?_⟩
  · have hk : k ≤ n := by omega
    show min (m a b) (wsum (wsum (m a j) o) (m i b)) ≤ wsum (min (m a k) (wsum (wsum (m a j) o) (m i k))) (min (m k b) (wsum (wsum (m k j) o) (m i b)))
    have c1 := tr a k b ha hk hb
    have c2 : wsum (wsum (m a j) o) (m i b) ≤ wsum (wsum (wsum (m a j) o) (m i k)) (m k b) := by
      rw [wsum_assoc (f2 a ha) (F i k hi hk) (F k b hk hb)]
      exact wsum_le (f2 a ha) (f2 a ha) (F i b hi hb) (fs i k k b hi hk hk hb) (Int.le_refl _) (tr i k b hi hk hb)
    have c3 : wsum (wsum (m a j) o) (m i b) ≤ wsum (m a k) (wsum (wsum (m k j) o) (m i b)) := by
      rw [← wsum_assoc (F a k ha hk) (f2 k hk) (F i b hi hb), ← wsum_assoc (F a k ha hk) (F k j hk hj) fo]
      refine wsum_le (f2 a ha) ((((f a k ha hk).sum (f k j hk hj)).sum ho).mono (by omega)) (F i b hi hb) (F i b hi hb) ?_ (Int.le_refl _)
      exact wsum_le (F a j ha hj) (fs a k k j ha hk hk hj) fo fo (tr a k j ha hk hj) (Int.le_refl _)
    have c4 : wsum (wsum (m a j) o) (m i b) ≤ wsum (wsum (wsum (m a j) o) (m i k)) (wsum (wsum (m k j) o) (m i b)) := by
      rw [← wsum_assoc (f3 a k ha hk) (f2 k hk) (F i b hi hb)]
      refine wsum_le (f2 a ha) (((((f a j ha hj).sum ho).sum (f i k hi hk)).sum ((f k j hk hj).sum ho)).mono (by omega)) (F i b hi hb) (F i b hi hb) ?_ (Int.le_refl _)
      have e1 : wsum (wsum (wsum (m a j) o) (m i k)) (wsum (m k j) o) = wsum (wsum (m a j) o) (wsum (wsum (m i k) (m k j)) o) := by
        rw [wsum_assoc (f2 a ha) (F i k hi hk) (f2 k hk), wsum_assoc (F i k hi hk) (F k j hk hj) fo]
      rw [e1]
      have e2 : 1 ≤ wsum (wsum (m i k) (m k j)) o := by
        refine Int.le_trans hone ?_
        rw [wsum_comm o]
        exact wsum_le (F i j hi hj) (fs i k k j hi hk hk hj) fo fo (tr i k j hi hk hj) (Int.le_refl _)
      have := wsum_le (a := wsum (m a j) o) (a' := wsum (m a j) o) (b := 1) (b' := wsum (wsum (m i k) (m k j)) o) (f2 a ha) (f2 a ha) (.inr (by omega)) ((((f i k hi hk).sum (f k j hk hj)).sum ho).mono (by omega)) (Int.le_refl _) e2
      rwa [wsum_one_right] at this
    have m1 : min (m a k) (wsum (wsum (m a j) o) (m i k)) = m a k ∨ min (m a k) (wsum (wsum (m a j) o) (m i k)) = wsum (wsum (m a j) o) (m i k) := by omega
    have m2 : min (m k b) (wsum (wsum (m k j) o) (m i b)) = m k b ∨ min (m k b) (wsum (wsum (m k j) o) (m i b)) = wsum (wsum (m k j) o) (m i b) := by omega
    rcases m1 with m1 | m1 <;> rcases m2 with m2 | m2 <;> rw [m1, m2]
    · omega
    · omega
    · omega
    · omega
  · exact (F a b ha hb).min (f3 a b ha hb)
  · show min (m a a) (wsum (wsum (m a j) o) (m i a)) = 1
    have e : 1 ≤ wsum (wsum (m a j) o) (m i a) := by
      refine Int.le_trans hone ?_
      rw [wsum_comm (m a j) o, wsum_assoc fo (F a j ha hj) (F i a hi ha), wsum_comm (m a j)]
      exact wsum_le fo fo (F i j hi hj) (fs i a a j hi ha ha hj) (Int.le_refl _) (tr i a j hi ha hj)
    rw [h.one a ha]
    omega
  · have := h0 b hb
    show min (m 0 b) _ ≤ 1
    omega
theorem tighter_le (m : Mat) (j i : Nat) (o : Int) (a b : Nat) : tighter m j i o a b ≤ m a b := by
  unfold tighter; omega
theorem tighter_at {n : Nat} {m : Mat} (h : Closed n m m) {i j : Nat} (hi : i ≤ n) (hj : j ≤ n) (o : Int) : tighter m j i o j i ≤ o := by
  unfold tighter
  rw [h.one j hj, h.one i hi, wsum_one_left, wsum_one_right]
  omega
/-- The opposite of a bound that is stricter than a cell lets the cell be. -/
theorem not_one {b c : Int} (hb : Bd 1125899906842624 b) (hbn : b ≠ none62) (hc : FB c) (h : b < c) : 1 ≤ wsum (1 - b) c := by
  have f := (half_fb hb).fin hbn
  by_cases e : c = none62
  · rw [e, wsum_none_right]; decide
  · rw [wsum_min (by unfold none62; omega) e]
    omega

end Go.Proofs.YtncgapnooabdgaaDoor

/- Guards of one clock cannot tell a wider zone: plain. -/
namespace Go.Proofs.YtncgapnooabdgaaDoor
set_option linter.unusedVariables false
set_option linter.unusedSimpArgs false

/-- Small cells. -/
def Small (n : Nat) (V : Int) (m : Mat) : Prop := ∀ i j, i ≤ n → j ≤ n → Bd V (m i j)
theorem closed_self {n : Nat} {m : Mat} {V : Int} (ht : Tri n m (n + 1)) (hs : Small n V m) (hV : V ≤ 1125899906842624) (h1 : ∀ i, i ≤ n → m i i = 1) : Closed n m m :=
  ⟨ht, fun i j hi hj => (hs i j hi hj).mono hV, h1, fun _ _ => Int.le_refl _⟩
theorem closedZ_small {n : Nat} {m : Mat} (h : ClosedZ n m) : Small n 536870913 (widW m) := fun i j hi hj => by
  rcases wid_cases (h.full.right i j hi hj) with ⟨_, e⟩ | ⟨_, e, a, b⟩
  · exact .inl e
  · right
    show -536870913 ≤ wid (m i j) ∧ wid (m i j) ≤ 536870913
    rw [e]; omega
theorem closedZ_self {n : Nat} {m : Mat} (h : ClosedZ n m) : Closed n (widW m) (widW m) := closed_self h.tri (closedZ_small h) (by omega) fun i hi => h.wone hi
theorem tighter_small {n : Nat} {m : Mat} {i j : Nat} {o V : Int} (hs : Small n V m) (ho : Bd V o) (hV : 0 ≤ V) (hi : i ≤ n) (hj : j ≤ n) : Small n (3 * V + 2) (tighter m j i o) := fun a b ha hb => by
  have h1 := hs a b ha hb
  have h2 := ((hs a j ha hj).sum ho).sum (hs i b hi hb)
  exact (h1.mono (by omega)).min (h2.mono (by omega))
/-- A valuation of a closed zone that keeps two bounds more of one clock. -/
theorem one_clock {n : Nat} {m : Mat} {i : Nat} {L U : Int} (hn : n ≤ 8) (h : ClosedZ n m) (hi : i ≤ n) (hL : Bd 536870913 L) (hU : Bd 536870913 U) :
    (∃ v : Nat → Int, satM n ((n : Int) + 1) (widW m) v ∧ sat ((n : Int) + 1) L (v 0 - v i) ∧ sat ((n : Int) + 1) U (v i - v 0)) ↔ (1 ≤ wsum L (widW m i 0) ∧ 1 ≤ wsum U (widW m 0 i) ∧ 1 ≤ wsum U L) := by
  have hg : 1 ≤ (n : Int) + 1 := by omega
  constructor
  · rintro ⟨v, hs, h1, h2⟩
    refine ⟨?_, ?_, ?_⟩
    · have := sat_sum h1 (hs i 0 hi (Nat.zero_le _))
      rw [show v 0 - v i + (v i - v 0) = 0 by omega] at this
      exact sat_zero hg this
    · have := sat_sum h2 (hs 0 i (Nat.zero_le _) hi)
      rw [show v i - v 0 + (v 0 - v i) = 0 by omega] at this
      exact sat_zero hg this
    · have := sat_sum h2 h1
      rw [show v i - v 0 + (v 0 - v i) = 0 by omega] at this
      exact sat_zero hg this
  · rintro ⟨a1, a2, a3⟩
    have hc := closedZ_self h
    have hsm := closedZ_small h
    have ht : ∀ j, j ≤ n → widW m 0 j ≤ 1 := fun j hj => h.wtop hj
    have s1 := tighter_solid hc ht hi (Nat.zero_le n) (hL.mono (by omega)) a1
    have hsm1 := tighter_small hsm hL (by omega) hi (Nat.zero_le n)
    have hc1 : Closed n (tighter (widW m) 0 i L) (tighter (widW m) 0 i L) := closed_self s1.tri hsm1 (by omega) s1.one
    have e0 : tighter (widW m) 0 i L 0 i = min (widW m 0 i) L := by
      unfold tighter
      rw [h.wone (Nat.zero_le _), h.wone hi, wsum_one_left, wsum_one_right]
    have a4 : 1 ≤ wsum U (tighter (widW m) 0 i L 0 i) := by
      rw [e0]
      rcases (show min (widW m 0 i) L = widW m 0 i ∨ min (widW m 0 i) L = L by omega) with e | e <;> rw [e] <;> assumption
    have s2 := tighter_solid hc1 s1.top (Nat.zero_le n) hi (hU.mono (by omega)) a4
    have hv := solid_sat s2
    have hle : ∀ p q, tighter (tighter (widW m) 0 i L) i 0 U p q ≤ widW m p q := fun p q => Int.le_trans (tighter_le _ _ _ _ _ _) (tighter_le _ _ _ _ _ _)
    refine ⟨_, fun p q hp hq => sat_mono hg (h.fb hp hq) (hle p q) (hv p q hp hq), ?_, ?_⟩
    · refine sat_mono hg (half_fb (hL.mono (by omega))) ?_ (hv 0 i (Nat.zero_le _) hi)
      refine Int.le_trans (tighter_le _ _ _ _ _ _) ?_
      rw [e0]; omega
    · exact sat_mono hg (half_fb (hU.mono (by omega))) (tighter_at hc1 (Nat.zero_le n) hi U) (hv i 0 hi (Nat.zero_le _))
/-- What the widened zone's cells of one clock say of bounds up to its constant. -/
theorem widened_tells {n : Nat} {m a : Mat} {lo : List Int} {i : Nat} {L U : Int} (hn : n ≤ 8) (h : ClosedZ n m) (ha : ClosedZ n a) (hl : rightE n lo = 0) (hi1 : 1 ≤ i) (hi : i ≤ n) (hM : 0 ≤ lo.getD (i - 1) 0)
    (hge : ∀ p q, p ≤ n → q ≤ n → m p q ≤ a p q) (hle : ∀ p q, p ≤ n → q ≤ n → a p q ≤ offM (widP lo lo) (baseM n m lo lo) p q)
    (hL : L ≠ none62 → -2 * lo.getD (i - 1) 0 ≤ L ∧ L ≤ 1) (hU : U ≠ none62 → 0 ≤ U ∧ U ≤ 2 * lo.getD (i - 1) 0 + 1) :
    (1 ≤ wsum L (widW m i 0) ↔ 1 ≤ wsum L (widW a i 0)) ∧ (1 ≤ wsum U (widW m 0 i) ↔ 1 ≤ wsum U (widW a 0 i)) := by
  obtain ⟨l0, c0⟩ := rightE_zero hl
  have hM2 := (atP_rng c0 i).2
  have hat : atP lo i = lo.getD (i - 1) 0 := by unfold atP; rw [if_neg (by omega)]; omega
  rw [hat] at hM2
  have hbc := base_cell (lo := lo) (up := lo) hn (by omega) h
  have hni : goneB (freeC lo lo lo.length) i = false := by
    rw [Bool.eq_false_iff]; intro hh
    have := (freeC_mem _).1 hh
    omega
  have hn0 : goneB (freeC lo lo lo.length) 0 = false := by
    rw [Bool.eq_false_iff]; intro hh
    have := (freeC_mem _).1 hh
    omega
  have b1 : baseM n m lo lo i 0 = m i 0 := by
    rw [hbc i 0 hi (Nat.zero_le _)]
    unfold offM goneF
    rw [if_neg (by omega), hni, if_neg (by simp), hn0, if_neg (by simp)]
  have b2 : baseM n m lo lo 0 i = m 0 i := by
    rw [hbc 0 i (Nat.zero_le _) hi]
    unfold offM goneF
    rw [if_neg (by omega), hn0, if_neg (by simp), hni, if_neg (by simp)]
  have w1 := hle i 0 hi (Nat.zero_le _)
  have w2 := hle 0 i (Nat.zero_le _) hi
  unfold offM at w1 w2
  rw [if_neg (by omega), b1] at w1
  rw [if_neg (by omega), b2] at w2
  unfold widP at w1 w2
  rw [hat] at w1
  rw [if_neg (fun hh => hh.1 rfl), if_pos rfl, hat] at w2
  rw [show atP lo 0 = 0 by unfold atP; rw [if_pos rfl]] at w1
  have rm := h.full.right
  have ra := ha.full.right
  have c1 := h.col0 hi
  have g1 := (wid_le (rm i 0 hi (Nat.zero_le _)) (ra i 0 hi (Nat.zero_le _))).2 (hge i 0 hi (Nat.zero_le _))
  have g2 := (wid_le (rm 0 i (Nat.zero_le _) hi) (ra 0 i (Nat.zero_le _) hi)).2 (hge 0 i (Nat.zero_le _) hi)
  have t2 := h.full.top i hi
  have ta := ha.full.top i hi
  have x1 := wid_cases (rm i 0 hi (Nat.zero_le _))
  have y1 := wid_cases (ra i 0 hi (Nat.zero_le _))
  have x2 := wid_cases (rm 0 i (Nat.zero_le _) hi)
  have y2 := wid_cases (ra 0 i (Nat.zero_le _) hi)
  unfold widW at *
  generalize m i 0 = p at *
  generalize a i 0 = p' at *
  generalize m 0 i = r at *
  generalize a 0 i = r' at *
  generalize lo.getD (i - 1) 0 = M at *
  constructor
  · by_cases eL : L = none62
    · rw [eL, wsum_none_left, wsum_none_left]
    · obtain ⟨l1, l2⟩ := hL eL
      by_cases e1 : wid p = none62
      · have e2 : wid p' = none62 := by unfold none62 at *; omega
        rw [e1, e2]
      · by_cases e2 : wid p' = none62
        · rw [e2, wsum_none_right, wsum_min eL e1]
          constructor
          · intro _; decide
          · intro _
            have : 2 * M + 1 < p := by
              by_cases hh : i ≠ 0 ∧ 2 * M + 1 < p
              · exact hh.2
              · rw [if_neg hh, if_neg (by omega)] at w1
                unfold none62 at *
                omega
            omega
        · rw [wsum_min eL e1, wsum_min eL e2]
          by_cases hh : i ≠ 0 ∧ 2 * M + 1 < p
          · omega
          · rw [if_neg hh, if_neg (by omega)] at w1
            unfold none62 at *
            omega
  · by_cases eU : U = none62
    · rw [eU, wsum_none_left, wsum_none_left]
    · obtain ⟨u1, u2⟩ := hU eU
      have e1 : wid r ≠ none62 := by unfold none62 at *; omega
      have e2 : wid r' ≠ none62 := by unfold none62 at *; omega
      rw [wsum_min eU e1, wsum_min eU e2]
      unfold none62 at *
      omega

/-! ### meeting the zone of limits -/
theorem closed_some {n : Nat} {M : Mat} (hn : n ≤ 8) (hf : Fit n 1073741824 M) (h0 : ∀ j, j ≤ n → M 0 j ≤ 1) : (closed n M).isSome = true ↔ ∃ v, satM n ((n : Int) + 1) M v := by
  have hg : 1 ≤ (n : Int) + 1 := by omega
  cases hc : closed n M with
  | none =>
    refine ⟨fun h => (by cases h), fun ⟨v, hv⟩ => ?_⟩
    have := closed_sat hn hg v hf
    rw [hc] at this
    exact absurd hv this
  | some C =>
    refine ⟨fun _ => ?_, fun _ => rfl⟩
    have hcl := closed_closed hn hf hc
    have hs : Solid n C := ⟨hcl.tri, fun i j hi hj => half_fb (hcl.bd i j hi hj), hcl.one, fun j hj => Int.le_trans (hcl.le 0 j) (h0 j hj)⟩
    have := closed_sat hn hg (solU n C) hf
    rw [hc] at this
    exact ⟨_, this.2 (solid_sat hs)⟩
/-- What two zones have in common. -/
theorem meet_sat {n : Nat} {m y : Mat} (hn : n ≤ 8) (h : ClosedZ n m) (hy : RightM n y) : meets1 n m y = true ↔ ∃ v, satM n ((n : Int) + 1) (widW m) v ∧ satM n ((n : Int) + 1) (widW y) v := by
  have hg : 1 ≤ (n : Int) + 1 := by omega
  have hmr : RightM n (minM m y) := fun i j hi hj => by
    have a := h.full.right i j hi hj
    have b := hy i j hi hj
    show rightB (min (min 2147483647 (m i j)) (y i j)) = true
    exact right_min (right_min (by decide) a) b
  have hall : ∀ q, q < (n + 1) * (n + 1) → rightB ((flat n (minM m y)).getD q 0) = true := fun q hq => by
    rw [flat_getD _ _ _ hq]
    have h1 : q / (n + 1) < n + 1 := Nat.div_lt_of_lt_mul hq
    have h2 := Nat.mod_lt q (show 0 < n + 1 by omega)
    exact hmr _ _ (by omega) (by omega)
  have hcell : ∀ i j, i ≤ n → j ≤ n → meetM n m y ((n + 1) * (n + 1)) i j = if i = j ∨ i = 0 then min 1 (min (widW m i j) (widW y i j)) else min (widW m i j) (widW y i j) := fun i j hi hj => by
    have a := right_hi (h.full.right i j hi hj)
    have b := right_hi (hy i j hi hj)
    have e : wid (minM m y i j) = min (widW m i j) (widW y i j) := by
      show wid (min (min 2147483647 (m i j)) (y i j)) = min (wid (m i j)) (wid (y i j))
      rw [wid_min (by omega) b.2, show min 2147483647 (m i j) = m i j by omega]
    unfold meetM
    rw [keepUp_cell n _ i j hi hj hall _ (Nat.le_refl _), if_pos (at_lt (by omega) (by omega)), flat_at _ (by omega) (by omega), e]
  have hsat : ∀ v, satM n ((n : Int) + 1) (meetM n m y ((n + 1) * (n + 1))) v ↔ satM n ((n : Int) + 1) (widW m) v ∧ satM n ((n : Int) + 1) (widW y) v := fun v => by
    constructor
    · intro hs
      have hboth : ∀ i j, i ≤ n → j ≤ n → sat ((n : Int) + 1) (min (widW m i j) (widW y i j)) (v i - v j) := fun i j hi hj => by
        have := hs i j hi hj
        rw [hcell i j hi hj] at this
        split at this
        · refine sat_mono hg (Bd.min (h.fb hi hj) (right_fb (hy i j hi hj))) ?_ this
          omega
        · exact this
      exact ⟨fun i j hi hj => ((sat_min hg (h.fb hi hj) (right_fb (hy i j hi hj))).1 (hboth i j hi hj)).1, fun i j hi hj => ((sat_min hg (h.fb hi hj) (right_fb (hy i j hi hj))).1 (hboth i j hi hj)).2⟩
    · intro ⟨h1, h2⟩ i j hi hj
      have hb := (sat_min hg (h.fb hi hj) (right_fb (hy i j hi hj))).2 ⟨h1 i j hi hj, h2 i j hi hj⟩
      rw [hcell i j hi hj]
      split
      · rename_i e
        refine (sat_min hg (.inr (by omega)) (Bd.min (h.fb hi hj) (right_fb (hy i j hi hj)))).2 ⟨?_, hb⟩
        have hx := h1 i j hi hj
        rcases e with e | e
        · subst e; rw [Int.sub_self]; exact sat_one (by omega)
        · subst e
          have ht : FB 1 := .inr (by omega)
          exact sat_mono hg ht (h.wtop hj) hx
      · exact hb
  unfold meets1
  rw [closed_some hn (meetM_fit hmr _ (Nat.le_refl _)) (fun j hj => by rw [hcell 0 j (Nat.zero_le _) hj, if_pos (.inr rfl)]; omega)]
  exact ⟨fun ⟨v, hv⟩ => ⟨v, (hsat v).1 hv⟩, fun ⟨v, hv⟩ => ⟨v, (hsat v).2 hv⟩⟩
/-- What the zone of limits keeps. -/
theorem lim_sat {n : Nat} {l : List (Int × Int × Int)} {y : Mat} {v : Nat → Int} (hn : n ≤ 8) (h : l.all (limOk n) = true) (hy : limP n l = (some y, 0)) (hv : satM n ((n : Int) + 1) (openM n) v) :
    RightM n y ∧ (satM n ((n : Int) + 1) (widW y) v ↔ satM n ((n : Int) + 1) (limUp n l l.length) v) := by
  have hg : 1 ≤ (n : Int) + 1 := by omega
  have hfit := limUp_fit n l l.length fun q hq => (all_getD l _ (0, 0, 0)).1 h q hq
  unfold limP at hy
  rw [if_pos (by omega)] at hy
  simp only [Int.toNat_natCast] at hy
  rw [if_pos h] at hy
  have hs := closed_sat hn hg v hfit
  rcases zoneP_is hn hfit (by rw [hy]) with ⟨h0, hc⟩ | ⟨C, hc, ha, hz, hcl⟩
  · subst h0
    rw [hc] at hs
    refine ⟨right_zero n, ⟨fun hh => ?_, fun hh => absurd hh hs⟩⟩
    exfalso
    have := hh 0 0 (Nat.zero_le _) (Nat.zero_le _)
    rw [Int.sub_self] at this
    have e : widW (fun _ _ => 0) 0 0 = 0 := by decide
    rw [e] at this
    have := sat_zero hg this
    omega
  · rw [hc] at hs
    subst hz
    refine ⟨narM_right ha, Iff.trans ?_ hs.symm⟩
    have e : ∀ i j, i ≤ n → j ≤ n → widW (narM n C) i j = C i j := fun i j hi hj => by
      unfold widW narM
      rw [if_pos ⟨hi, hj⟩]
      exact wid_nar (ha i hi j hj)
    constructor
    · intro hh i j hi hj
      rw [← e i j hi hj]; exact hh i j hi hj
    · intro hh i j hi hj
      rw [e i j hi hj]; exact hh i j hi hj

end Go.Proofs.YtncgapnooabdgaaDoor

/- Guards of one clock cannot tell a wider zone: the plain law. -/
namespace Go.Proofs.YtncgapnooabdgaaDoor
set_option linter.unusedVariables false
set_option linter.unusedSimpArgs false

theorem keep_sat {n : Nat} {g : Int} {m : Mat} {i j : Nat} {b : Int} {v : Nat → Int} (hg : 1 ≤ g) (hf : Fit n 1073741824 m) (hi : i ≤ n) (hj : j ≤ n) (hb : rightB b = true) :
    satM n g (keepM m i j b) v ↔ satM n g m v ∧ sat g (wid b) (v i - v j) := by
  rcases wid_cases hb with ⟨h1, e⟩ | ⟨h1, e, h2, h3⟩
  · unfold keepM
    rw [if_pos h1, e]
    exact ⟨fun h => ⟨h, .inl rfl⟩, fun h => h.1⟩
  · unfold keepM
    rw [if_neg h1, e]
    have fm : FB (m i j) := half_fb ((hf.bd i j hi hj).mono (by omega))
    have fb : FB b := by rw [← e]; exact right_fb hb
    constructor
    · intro h
      have h4 := h i j hi hj
      have e1 : upd m i j (min (m i j) b) i j = min (m i j) b := by unfold upd; rw [if_pos ⟨rfl, rfl⟩]
      rw [e1] at h4
      obtain ⟨h5, h6⟩ := (sat_min hg fm fb).1 h4
      refine ⟨fun p q hp hq => ?_, h6⟩
      by_cases hpq : p = i ∧ q = j
      · obtain ⟨rfl, rfl⟩ := hpq
        exact h5
      · have h7 := h p q hp hq
        have e2 : upd m i j (min (m i j) b) p q = m p q := by unfold upd; rw [if_neg hpq]
        rw [e2] at h7
        exact h7
    · intro ⟨h5, h6⟩ p q hp hq
      by_cases hpq : p = i ∧ q = j
      · obtain ⟨rfl, rfl⟩ := hpq
        have e1 : upd m p q (min (m p q) b) p q = min (m p q) b := by unfold upd; rw [if_pos ⟨rfl, rfl⟩]
        rw [e1]
        exact (sat_min hg fm fb).2 ⟨h5 p q hp hq, h6⟩
      · have e2 : upd m i j (min (m i j) b) p q = m p q := by unfold upd; rw [if_neg hpq]
        rw [e2]
        exact h5 p q hp hq
/-- A valuation of a closed zone is one of the open matrix. -/
theorem closed_open {n : Nat} {m : Mat} {v : Nat → Int} (h : ClosedZ n m) (hv : satM n ((n : Int) + 1) (widW m) v) : satM n ((n : Int) + 1) (openM n) v := fun i j hi hj => by
  unfold openM
  rw [if_pos ⟨hi, hj⟩]
  split
  · rename_i e
    rcases e with e | e
    · subst e; rw [Int.sub_self]; exact sat_one (by omega)
    · subst e
      exact sat_mono (by omega) (.inr (by omega)) (h.wtop hj) (hv 0 j hi hj)
  · exact .inl rfl
/-- What the zone of a lower and an upper bound of one clock meets. -/
theorem one_meets {n : Nat} {m : Mat} {i : Nat} {l : List (Int × Int × Int)} {L U : Int} (hn : n ≤ 8) (h : ClosedZ n m) (hi : i ≤ n) (hL : Bd 536870913 L) (hU : Bd 536870913 U) (hok : l.all (limOk n) = true)
    (hs : ∀ v : Nat → Int, satM n ((n : Int) + 1) (openM n) v → (satM n ((n : Int) + 1) (limUp n l l.length) v ↔ sat ((n : Int) + 1) L (v 0 - v i) ∧ sat ((n : Int) + 1) U (v i - v 0))) :
    meetsP (some (n, m)) ((limP n l).1.map fun y => (n, y)) = ((limP n l).1.isSome && decide (1 ≤ wsum L (widW m i 0) ∧ 1 ≤ wsum U (widW m 0 i) ∧ 1 ≤ wsum U L)) := by
  cases hy : limP n l with
  | mk y e =>
    cases y with
    | none => rfl
    | some y =>
      have he : e = 0 := by
        unfold limP at hy
        rw [if_pos (by omega)] at hy
        simp only [Int.toNat_natCast] at hy
        rw [if_pos hok] at hy
        unfold zoneP at hy
        split at hy
        · exact (congrArg Prod.snd hy).symm
        · split at hy
          · exact (congrArg Prod.snd hy).symm
          · exact absurd (congrArg Prod.fst hy) (by simp)
      subst he
      have hyr : RightM n y := by
        have hz := hy
        unfold limP at hz
        rw [if_pos (by omega)] at hz
        simp only [Int.toNat_natCast] at hz
        rw [if_pos hok] at hz
        have hfit := limUp_fit n l l.length fun q hq => (all_getD l _ (0, 0, 0)).1 hok q hq
        rcases zoneP_is hn hfit (by rw [hz]) with ⟨h0, hc⟩ | ⟨C, hc, ha, hz, hcl⟩
        · subst h0; exact right_zero n
        · subst hz; exact narM_right ha
      show (decide (n = n) && meets1 n m y) = (true && _)
      rw [decide_eq_true rfl, Bool.true_and, Bool.true_and, Bool.eq_iff_iff, decide_eq_true_iff, meet_sat hn h hyr, ← one_clock hn h hi hL hU]
      constructor
      · rintro ⟨v, h1, h2⟩
        have ho := closed_open h h1
        exact ⟨v, h1, (hs v ho).1 ((lim_sat hn hok hy ho).2.1 h2)⟩
      · rintro ⟨v, h1, h2⟩
        have ho := closed_open h h1
        exact ⟨v, h1, (lim_sat hn hok hy ho).2.2 ((hs v ho).2 h2)⟩
/-- The bounds that the law holds against a clock. -/
def GdL (n i : Nat) (M : Int) (bl bh : Int) (l : List (Int × Int × Int)) : Prop := l = [(0, (i : Int), bl)] ∨ l = [((i : Int), 0, bh)] ∨ l = [(0, (i : Int), bl), ((i : Int), 0, bh)]
theorem guards_law5 {n : Nat} {m : Mat} {lo : List Int} {i : Nat} {bl bh : Int} (hn : n ≤ 8) (h : m = (fun _ _ => 0) ∨ ClosedZ n m) (h0 : rightE n lo = 0) (hi1 : 1 ≤ i) (hi : i ≤ n) (hM : 0 ≤ lo.getD (i - 1) 0)
    (hl0 : -2 * lo.getD (i - 1) 0 ≤ bl) (hl1 : bl ≤ 1) (hh0 : 0 ≤ bh) (hh1 : bh ≤ 2 * lo.getD (i - 1) 0 + 1) :
    ∃ a, luP n m lo lo = (some a, 0) ∧ (a = (fun _ _ => 0) ∨ ClosedZ n a) ∧ ∀ l, GdL n i (lo.getD (i - 1) 0) bl bh l →
      meetsP (some (n, m)) ((limP n l).1.map fun y => (n, y)) = meetsP (some (n, a)) ((limP n l).1.map fun y => (n, y)) := by
  rcases h with rfl | h
  · exact ⟨_, lu_zero hn h0 h0, .inl rfl, fun l hl => rfl⟩
  · obtain ⟨l0, c0⟩ := rightE_zero h0
    obtain ⟨a, ha, hac, hle, hmax⟩ := lu_full hn h h0 h0
    have hbc := base_cell (lo := lo) (up := lo) hn (by omega) h
    have hge : ∀ p q, p ≤ n → q ≤ n → m p q ≤ a p q := hmax m h fun p q hp hq => by
      have h1 := gone_ge (l := freeC lo lo lo.length) h p q hp hq
      rw [← hbc p q hp hq] at h1
      exact Int.le_trans h1 ((wide_ok c0 c0 (base_closed hn (by omega) h)).2.1 p q hp hq)
    refine ⟨a, ha, .inr hac, fun l hl => ?_⟩
    have hMh : lo.getD (i - 1) 0 ≤ 1048576 := (of_decide_eq_true ((all_getD lo _ 0).1 c0 (i - 1) (by omega))).2
    have hg : (1 : Int) ≤ (n : Int) + 1 := by omega
    have rl : rightB bl = true := decide_eq_true (by omega)
    have rh : rightB bh = true := decide_eq_true (by omega)
    have wl : wid bl = bl := by unfold wid; rw [if_neg (by omega)]
    have wh : wid bh = bh := by unfold wid; rw [if_neg (by omega)]
    have ol : limOk n (0, (i : Int), bl) = true := by
      unfold limOk; rw [Bool.and_eq_true]; exact ⟨decide_eq_true (by simp; omega), rl⟩
    have oh : limOk n ((i : Int), 0, bh) = true := by
      unfold limOk; rw [Bool.and_eq_true]; exact ⟨decide_eq_true (by simp; omega), rh⟩
    have nl : bl ≠ none62 := by unfold none62; omega
    have nh : bh ≠ none62 := by unfold none62; omega
    have bdl : Bd 536870913 bl := .inr (by omega)
    have bdh : Bd 536870913 bh := .inr (by omega)
    have bdn : Bd 536870913 none62 := .inl rfl
    have hsl : ∀ v : Nat → Int, satM n ((n : Int) + 1) (openM n) v → (satM n ((n : Int) + 1) (keepM (openM n) 0 i bl) v ↔ sat ((n : Int) + 1) bl (v 0 - v i)) := fun v hv => by
      rw [keep_sat hg (openM_fit n) (Nat.zero_le _) hi rl, wl]
      exact ⟨fun x => x.2, fun x => ⟨hv, x⟩⟩
    rcases hl with rfl | rfl | rfl
    · have key : ∀ v : Nat → Int, satM n ((n : Int) + 1) (openM n) v → (satM n ((n : Int) + 1) (limUp n [(0, (i : Int), bl)] 1) v ↔ sat ((n : Int) + 1) bl (v 0 - v i) ∧ sat ((n : Int) + 1) none62 (v i - v 0)) := fun v hv => by
        show satM n ((n : Int) + 1) (keepM (openM n) (0 : Int).toNat ((i : Int)).toNat bl) v ↔ _
        rw [Int.toNat_natCast, Int.toNat_zero, hsl v hv]
        exact ⟨fun x => ⟨x, .inl rfl⟩, fun x => x.1⟩
      have hok : [(0, (i : Int), bl)].all (limOk n) = true := by simp [ol]
      rw [one_meets hn h hi bdl bdn hok key, one_meets hn hac hi bdl bdn hok key]
      obtain ⟨t1, t2⟩ := widened_tells (L := bl) (U := none62) hn h hac h0 hi1 hi hM hge hle (fun _ => ⟨hl0, hl1⟩) (fun hh => absurd rfl hh)
      simp only [t1, t2]
    · have key : ∀ v : Nat → Int, satM n ((n : Int) + 1) (openM n) v → (satM n ((n : Int) + 1) (limUp n [((i : Int), 0, bh)] 1) v ↔ sat ((n : Int) + 1) none62 (v 0 - v i) ∧ sat ((n : Int) + 1) bh (v i - v 0)) := fun v hv => by
        show satM n ((n : Int) + 1) (keepM (openM n) ((i : Int)).toNat (0 : Int).toNat bh) v ↔ _
        rw [Int.toNat_natCast, Int.toNat_zero, keep_sat hg (openM_fit n) hi (Nat.zero_le _) rh, wh]
        exact ⟨fun x => ⟨.inl rfl, x.2⟩, fun x => ⟨hv, x.2⟩⟩
      have hok : [((i : Int), 0, bh)].all (limOk n) = true := by simp [oh]
      rw [one_meets hn h hi bdn bdh hok key, one_meets hn hac hi bdn bdh hok key]
      obtain ⟨t1, t2⟩ := widened_tells (L := none62) (U := bh) hn h hac h0 hi1 hi hM hge hle (fun hh => absurd rfl hh) (fun _ => ⟨hh0, hh1⟩)
      simp only [t1, t2]
    · have key : ∀ v : Nat → Int, satM n ((n : Int) + 1) (openM n) v → (satM n ((n : Int) + 1) (limUp n [(0, (i : Int), bl), ((i : Int), 0, bh)] 2) v ↔ sat ((n : Int) + 1) bl (v 0 - v i) ∧ sat ((n : Int) + 1) bh (v i - v 0)) := fun v hv => by
        show satM n ((n : Int) + 1) (keepM (keepM (openM n) (0 : Int).toNat ((i : Int)).toNat bl) ((i : Int)).toNat (0 : Int).toNat bh) v ↔ _
        rw [Int.toNat_natCast, Int.toNat_zero, keep_sat hg (keepM_fit (openM_fit n) 0 i rl) hi (Nat.zero_le _) rh, wh, hsl v hv]
      have hok : [(0, (i : Int), bl), ((i : Int), 0, bh)].all (limOk n) = true := by simp [ol, oh]
      rw [one_meets hn h hi bdl bdh hok key, one_meets hn hac hi bdl bdh hok key]
      obtain ⟨t1, t2⟩ := widened_tells (L := bl) (U := bh) hn h hac h0 hi1 hi hM hge hle (fun _ => ⟨hl0, hl1⟩) (fun _ => ⟨hh0, hh1⟩)
      simp only [t1, t2]

end Go.Proofs.YtncgapnooabdgaaDoor

/- What ExtraGuards tells. -/
namespace Go.Proofs.YtncgapnooabdgaaDoor
open Go Go.RowKit
set_option linter.unusedVariables false
set_option linter.unusedSimpArgs false

set_option maxRecDepth 100000 in
set_option maxHeartbeats 2000000 in
theorem guarded_any (v : Value) (n : Nat) (m : Mat) (A : Option Addr) (c : Nat) (l : List (Int × Int × Int)) (w : World) (h : ZoneV 88 w v (some (n, m))) (hI : Lims w A l) (hmax : l.length ≤ 4611686018427387904)
    (hk : ∀ q, q < l.length → -2147483648 ≤ (l.getD q (0, 0, 0)).2.2 ∧ (l.getD q (0, 0, 0)).2.2 ≤ 2147483647) :
    Calls Tryd.prog 32 #[v, .slice A l.length c] w fun e w' => (∃ q : Bool, e = .returned (.tuple #[.bool (meetsP (some (n, m)) ((limP n l).1.map fun y => (n, y))), .bool q])) ∧ Below w.heap.size w w' := by
  have HV := Lib.hid h
  have HL := Lib.hid (limits_any n A c l w hI hmax hk)
  have HD := Lib.hid (odim_any v (some (n, m)) w h)
  clear h hI hk
  go_enter Tryd.func32, Tryd.ntmps32
  go_wp2_with fail
  refine HD.out.mono ?_
  rintro e w1 ⟨rfl, rfl⟩
  go_wp2_with fail
  refine HL.out.mono ?_
  rintro e w2 ⟨hb, y, rfl, hy⟩
  have HY := Lib.hid (show ZoneV 88 w2 y ((limP n l).1.map fun y => (n, y)) from hy)
  have HV2 := Lib.hid (HV.out.below hb)
  have HB := Lib.hid hb
  obtain ⟨er, her⟩ : ∃ er, er = (limP n l).2 := ⟨_, rfl⟩
  rw [← her]
  clear hb hy HL HD HV her
  go_wp2_with fail
  refine (meets_any _ _ _ _ _ HV2.out HY.out).mono ?_
  rintro e w3 ⟨rfl, hb⟩
  have HB3 := Lib.hid (HB.out.trans (hb.mono HB.out.size))
  clear hb
  go_wp2
  go_ret2
  exact ⟨⟨_, rfl⟩, HB3.out⟩

/-- Two limits in blocks of the call's own. -/
structure LmR (w0 : World) (i bl bh : Int) (wr : World) : Prop where
  below : Below w0.heap.size w0 wr
  lo : wr.heap[w0.heap.size]? = some (.cells #[.int .i64 0, .int .i64 i, .int .i32 bl] 46)
  hi : wr.heap[w0.heap.size + 1]? = some (.cells #[.int .i64 i, .int .i64 0, .int .i32 bh] 46)
theorem LmR.setL {w0 wr : World} {i bl bh : Int} (h : LmR w0 i bl bh wr) (x : Int) : LmR w0 i x bh (wr.setCell ⟨w0.heap.size, 2, none⟩ (.int .i32 x)) :=
  ⟨h.below.setCell (p := ⟨w0.heap.size, 2, none⟩) (Nat.le_refl _) _, by simp only [World.setCell, Array.getElem?_modify, if_true, h.lo, Option.map_some]; rfl,
    by simp only [World.setCell, Array.getElem?_modify]; rw [if_neg (by omega)]; exact h.hi⟩
theorem LmR.setH {w0 wr : World} {i bl bh : Int} (h : LmR w0 i bl bh wr) (x : Int) : LmR w0 i bl x (wr.setCell ⟨w0.heap.size + 1, 2, none⟩ (.int .i32 x)) :=
  ⟨h.below.setCell (p := ⟨w0.heap.size + 1, 2, none⟩) (Nat.le_succ _) _, by simp only [World.setCell, Array.getElem?_modify]; rw [if_neg (by omega)]; exact h.lo,
    by simp only [World.setCell, Array.getElem?_modify, if_true, h.hi, Option.map_some]; rfl⟩
theorem LmR.cells {w0 wr : World} {i bl bh : Int} (h : LmR w0 i bl bh wr) :
    wr.cell? ⟨w0.heap.size, 2, none⟩ = some (.int .i32 bl) ∧ wr.cell? ⟨w0.heap.size + 1, 2, none⟩ = some (.int .i32 bh) ∧ wr.frozen? ⟨w0.heap.size, 2, none⟩ = false ∧ wr.frozen? ⟨w0.heap.size + 1, 2, none⟩ = false := by
  refine ⟨?_, ?_, ?_, ?_⟩
  · unfold World.cell?; rw [h.lo]; rfl
  · unfold World.cell?; rw [h.hi]; rfl
  · unfold World.frozen?; rw [h.lo]; rfl
  · unfold World.frozen?; rw [h.hi]; rfl
def zlim : Array Value := #[.int .i64 0, .int .i64 0, .int .i32 0]
theorem heap_lt5 {w : World} {g : Nat} {o : Obj} (h : w.heap[g]? = some o) : g < w.heap.size := by
  by_cases c : g < w.heap.size
  · exact c
  · rw [Array.getElem?_eq_none (by omega)] at h; cases h
theorem stable_heap5 (g : Nat) (o : Obj) : Stable fun w => w.heap[g]? = some o := fun w _ h hb => (hb.block g (heap_lt5 h)).trans h
theorem limz_two (w : World) : ((w.alloc (.cells #[.int .i64 0, .int .i64 0, .int .i32 0] 46)).alloc (.cells #[.int .i64 0, .int .i64 0, .int .i32 0] 46)).heap[w.heap.size]? = some (.cells #[.int .i64 0, .int .i64 0, .int .i32 0] 46) ∧
    ((w.alloc (.cells #[.int .i64 0, .int .i64 0, .int .i32 0] 46)).alloc (.cells #[.int .i64 0, .int .i64 0, .int .i32 0] 46)).heap[w.heap.size + 1]? = some (.cells #[.int .i64 0, .int .i64 0, .int .i32 0] 46) := by
  constructor
  · rw [heap_alloc_old _ _ (by simp)]; exact heap_alloc_new _ _
  · have h := heap_alloc_new (w.alloc (.cells #[.int .i64 0, .int .i64 0, .int .i32 0] 46)) (.cells #[.int .i64 0, .int .i64 0, .int .i32 0] 46)
    rw [show (w.alloc (.cells #[.int .i64 0, .int .i64 0, .int .i32 0] 46)).heap.size = w.heap.size + 1 by simp] at h
    exact h
theorem limz_three {w wr : World} (c : Array Value) (h : wr.heap[w.heap.size + 1]? = some (.cells #[.int .i64 0, .int .i64 0, .int .i32 0] 46)) :
    (wr.setRow w.heap.size c).heap[w.heap.size + 1]? = some (.cells #[.int .i64 0, .int .i64 0, .int .i32 0] 46) := by rw [setRow_other _ _ _ _ (by omega)]; exact h
theorem LmR.made (w : World) (i bl bh : Int) : LmR w i bl bh ((((w.alloc (.cells #[.int .i64 0, .int .i64 0, .int .i32 0] 46)).alloc (.cells #[.int .i64 0, .int .i64 0, .int .i32 0] 46)).setRow w.heap.size #[.int .i64 0, .int .i64 i, .int .i32 bl]).setRow (w.heap.size + 1) #[.int .i64 i, .int .i64 0, .int .i32 bh]) := by
  have h := limz_two w
  refine ⟨below_setRow (below_setRow (((Below.refl _ _).alloc (Nat.le_refl _) _).alloc (by simp) _) (Nat.le_refl _) _) (Nat.le_succ _) _, ?_, ?_⟩
  · rw [setRow_other _ _ _ _ (by omega)]
    exact setRow_heap _ _ _ _ _ _ h.1
  · exact setRow_heap _ _ _ _ _ _ (limz_three _ h.2)
theorem lims_newg (w : World) (e : TypeId) (a b c : Int) : Lims (w.alloc (.cells #[.int .i64 a, .int .i64 b, .int .i32 c] e (0, 0))) (some ⟨w.heap.size, 0, none⟩) [(a, b, c)] := by
  have h1 := heap_alloc_new w (.cells #[.int .i64 a, .int .i64 b, .int .i32 c] e (0, 0))
  intro j hj
  have e0 : j = 0 := by simp at hj; omega
  subst e0
  refine ⟨w.heap.size, 0, rfl, ?_, ?_, ?_⟩ <;> (unfold World.cell?; rw [h1]; rfl)

/-- A zone that LU widens without a code. -/
theorem max_right2 {z : Option (Nat × Mat)} {lo : List Int} (he : (luA z lo lo).2 = 0) (hk : ∀ k m, z = some (k, m) → GoneK k m) : ∃ k m, z = some (k, m) ∧ (m = (fun _ _ => 0) ∨ ClosedZ k m) ∧ rightE k lo = 0 := by
  match z, he, hk with
  | none, he, _ => exact absurd (show (1 : Int) = 0 from he) (by decide)
  | some (k, m), he, hk =>
    refine ⟨k, m, rfl, hk k m rfl, ?_⟩
    by_cases h : rightE k lo = 0
    · exact h
    · have he : (luP k m lo lo).2 = 0 := he
      unfold luP at he
      rw [if_pos h] at he
      exact absurd he h

theorem umod_is (x : Int) (k : Nat) (hk : 0 < k) : ∃ r : Nat, (IntKind.u64.wrap x).tmod (k : Int) = (r : Int) ∧ r < k := by
  have h0 : 0 ≤ IntKind.u64.wrap x := by rw [IntKind.wrap_u64]; omega
  have h1 : 0 ≤ (IntKind.u64.wrap x).tmod (k : Int) := by rw [Int.tmod_eq_emod_of_nonneg h0]; exact Int.emod_nonneg _ (by omega)
  have h2 : (IntKind.u64.wrap x).tmod (k : Int) < k := by rw [Int.tmod_eq_emod_of_nonneg h0]; exact Int.emod_lt_of_pos _ (by omega)
  exact ⟨((IntKind.u64.wrap x).tmod (k : Int)).toNat, by omega, by omega⟩

set_option maxRecDepth 100000 in
set_option maxHeartbeats 16000000 in
theorem guards5_any (n : Int) (A : Option Addr) (c : Nat) (cells : List Int) (A0 : Option Addr) (c0 : Nat) (l0 : List Int) (ck lo up : Int) (rb : Bool) (w : World) (hI : Ints w .i32 A cells) (hmax : cells.length ≤ 4611686018427387904)
    (hk : ∀ q, q < cells.length → -2147483648 ≤ cells.getD q 0 ∧ cells.getD q 0 ≤ 2147483647) (h0 : Ints w .i64 A0 l0) (hm0 : l0.length ≤ 17592186043904)
    (hc : -9223372036854775808 ≤ ck ∧ ck ≤ 9223372036854775807) (hlo : -9223372036854775808 ≤ lo ∧ lo ≤ 9223372036854775807) (hup : -9223372036854775808 ≤ up ∧ up ≤ 9223372036854775807) (ht : Tab w) :
    Calls Tryd.prog 8 #[.int .i64 n, .slice A cells.length c, .agg #[.slice A0 l0.length c0, .int .i64 ck, .int .i64 lo, .int .i64 up, .bool rb]] w fun e w' => e = .returned (.bool true) ∧ Below w.heap.size w w' := by
  have HK := Lib.hid hk
  obtain ⟨o, ho⟩ : ∃ o : Obj, o = .cells #[.slice A0 l0.length c0, .int .i64 ck, .int .i64 lo, .int .i64 up, .bool rb] 63 := ⟨_, rfl⟩
  obtain ⟨wb, hwb⟩ : ∃ wb, wb = w.alloc o := ⟨_, rfl⟩
  have hbw : Below w.heap.size w wb := by rw [hwb]; exact (Below.refl _ _).alloc (Nat.le_refl _) _
  have hpc : wb.cell? ⟨w.heap.size, 0, none⟩ = some (.slice A0 l0.length c0) ∧ wb.cell? ⟨w.heap.size, 1, none⟩ = some (.int .i64 ck) ∧ wb.cell? ⟨w.heap.size, 2, none⟩ = some (.int .i64 lo) ∧ wb.cell? ⟨w.heap.size, 3, none⟩ = some (.int .i64 up) ∧ wb.cell? ⟨w.heap.size, 4, none⟩ = some (.bool rb) := by
    have h := heap_alloc_new w o
    rw [← hwb, ho] at h
    refine ⟨?_, ?_, ?_, ?_, ?_⟩ <;> (unfold World.cell?; rw [h]; rfl)
  obtain ⟨bx, hbx⟩ : ∃ bx, bx = w.heap.size := ⟨_, rfl⟩
  rw [← hbx] at hpc
  have HG0 := Lib.hid (((((((((Bag.start hbw).add (hI.below hbw) (stable_ints _ _ _)).add (ht.below hbw) stable_tab5).add (h0.below hbw) (stable_ints _ _ _)).add hpc.1 (stable_cellv _ _)).add hpc.2.1 (stable_cellv _ _)).add hpc.2.2.1 (stable_cellv _ _)).add hpc.2.2.2.1 (stable_cellv _ _)).add hpc.2.2.2.2 (stable_cellv _ _))
  rw [ho] at hwb
  have HWB := Lib.hid hwb
  have HBX := Lib.hid hbx
  have HKD := Lib.hid (kind5 n cells)
  have HNK := Lib.hid (fun k m (e : zOf n cells = some (k, m)) => zone_kinds e)
  have HBO := Lib.hid (fun W hI => both05_any n A c cells W hI hmax HK.out)
  unfold Both5Ends at HBO
  obtain ⟨z, hz⟩ : ∃ z, z = zOf n cells := ⟨_, rfl⟩
  rw [← hz] at HBO HKD HNK
  have HMX := Lib.hid (fun v B d W (h : ZoneV 88 W v z) (hi : Ints W .i64 B l0) => max_any v z B d l0 W h HKD.out hi (by omega))
  clear hI hk h0 ht hbw hpc hz hwb hbx ho
  by_cases he : (luA z l0 l0).2 = 0
  · obtain ⟨k, m, hzk, hc, hr⟩ := max_right2 he HKD.out
    obtain ⟨⟨hn0, hn8, hkn⟩, _⟩ := HNK.out k m hzk
    have hk8 : k ≤ 8 := by omega
    obtain rfl : n = (k : Int) := by omega
    obtain ⟨hll, hcst⟩ := rightE_zero hr
    have HE0 := Lib.hid he
    have HZK := Lib.hid hzk
    have HLL := Lib.hid hll
    have HCST := Lib.hid hcst
    have HCL := Lib.hid (And.intro hc hr)
    clear he hzk hc hr hn0 hn8 hkn hcst hll HNK
    by_cases hk1 : k = 0
    · have d1 : decide ((k : Int) < 1) = true := decide_eq_true (by omega)
      clear hk1
      go_enter Tryd.func8, Tryd.ntmps8
      go_wp2_with fail
      rw [← HWB.out, ← HBX.out]
      refine (HBO.out _ (HG0.out.at 7 rfl)).mono ?_
      rintro e w1 ⟨hb, v, v', rfl, hv, hv'⟩
      have HG1 := Lib.hid ((HG0.out.step hb).add hv (stable_zone _ _ _))
      have cx := HG1.out.at 5 rfl
      clear hb hv hv' HG0
      go_wp2_with fail
      refine (HMX.out _ _ _ _ (HG1.out.at 0 rfl) (HG1.out.at 6 rfl)).mono ?_
      rintro e w2 ⟨hb, va, rfl, hva⟩
      rw [HE0.out]
      have HG2 := Lib.hid (HG1.out.step hb)
      clear hb hva cx HG1
      go_wp2_with fail
      refine (live05_any _ (HG2.out.at 7 rfl)).mono ?_
      rintro e w8 ⟨rfl, hb⟩
      have HB5 := Lib.hid (HG2.out.step hb)
      clear hb
      go_wp2
      go_ret
      exact ⟨rfl, HB5.out.below⟩
    · have d1 : decide ((k : Int) < 1) = false := decide_eq_false (by omega)
      have d8 : decide (8 < (k : Int)) = false := decide_eq_false (by omega)
      have hl0i : ((l0.length : Int) != (k : Int)) = false := by rw [HLL.out]; simp
      have gk : IntKind.u64.wrap (k : Int) = (k : Int) := by rw [IntKind.wrap_u64]; omega
      obtain ⟨a, haE⟩ : ∃ a, luA z l0 l0 = (some a, 0) := by
        rw [HZK.out]
        rcases HCL.out.1 with rfl | h
        · exact ⟨_, lu_zero hk8 HCL.out.2 HCL.out.2⟩
        · obtain ⟨a, ha, _⟩ := lu_full hk8 h HCL.out.2 HCL.out.2
          exact ⟨a, ha⟩
      have HLA := Lib.hid haE
      have hdz : dimN z = k := by rw [HZK.out]; rfl
      rw [HLA.out, hdz, HZK.out] at HMX
      rw [HZK.out] at HBO
      clear haE hdz HE0 HKD
      go_enter Tryd.func8, Tryd.ntmps8
      go_wp2_with fail
      rw [← HWB.out, ← HBX.out]
      refine (HBO.out _ (HG0.out.at 7 rfl)).mono ?_
      rintro e w1 ⟨hb, v, v', rfl, hv, hv'⟩
      have HG1 := Lib.hid ((HG0.out.step hb).add hv (stable_zone _ _ _))
      have cx := HG1.out.at 5 rfl
      clear hb hv hv' HG0
      go_wp2_with fail
      refine (HMX.out _ _ _ _ (HG1.out.at 0 rfl) (HG1.out.at 6 rfl)).mono ?_
      rintro e w2 ⟨hb, va, rfl, hva⟩
      have HG2 := Lib.hid ((HG1.out.step hb).add (show ZoneV 88 w2 va (some (k, a)) from hva) (stable_zone _ _ _))
      clear hb hva cx HG1
      have cx := HG2.out.at 6 rfl
      have ck1 := HG2.out.at 5 rfl
      obtain ⟨r, hr, hrk⟩ := umod_is ck k (by omega)
      have gr : IntKind.i64.wrap (r : Int) = (r : Int) := IntWalk.i64_in _ (by omega)
      have gr1 : IntKind.i64.wrap (1 + (r : Int)) = 1 + (r : Int) := IntWalk.i64_in _ (by omega)
      have gr2 : IntKind.i64.wrap (1 + (r : Int) - 1) = (r : Int) := by rw [show (1 : Int) + r - 1 = r by omega]; exact IntWalk.i64_in _ (by omega)
      have gl : (r : Int) < (l0.length : Int) := by rw [HLL.out]; omega
      have gz : 0 ≤ (r : Int) := by omega
      obtain ⟨b1, o1, rfl, cc1⟩ := (HG2.out.at 7 rfl : Ints _ .i64 A0 l0) r (by rw [HLL.out]; exact hrk)
      obtain ⟨hM0, hM1⟩ := of_decide_eq_true ((all_getD l0 _ 0).1 HCST.out r (by rw [HLL.out]; exact hrk))
      have HGL := Lib.hid (fun bl bh => guards_law5 (n := k) (m := m) (lo := l0) (i := 1 + r) (bl := bl) (bh := bh) hk8 HCL.out.1 HCL.out.2 (by omega) (by omega))
      rw [show 1 + r - 1 = r by omega] at HGL
      obtain ⟨M, hM⟩ : ∃ M, M = l0.getD r 0 := ⟨_, rfl⟩
      rw [← hM] at cc1 hM0 hM1 HGL
      clear hM
      by_cases hneg : M < 0
      · have e1 : decide (M < 0) = true := decide_eq_true hneg
        clear hneg
        go_wp2_with fail
        refine (live05_any _ (HG2.out.at 8 rfl)).mono ?_
        rintro e w8 ⟨rfl, hb⟩
        have HB5 := Lib.hid (HG2.out.step hb)
        clear hb
        go_wp2
        go_ret
        exact ⟨rfl, HB5.out.below⟩
      · have e1 : decide (M < 0) = false := decide_eq_false hneg
        obtain ⟨Mn, rfl⟩ : ∃ Mn : Nat, M = Mn := ⟨M.toNat, by omega⟩
        obtain ⟨q1, hq1, hq1k⟩ := umod_is lo (Mn + 1) (by omega)
        obtain ⟨q2, hq2, hq2k⟩ := umod_is up (Mn + 1) (by omega)
        rw [show ((Mn + 1 : Nat) : Int) = (Mn : Int) + 1 by omega] at hq1 hq2
        have gM : IntKind.u64.wrap ((Mn : Int) + 1) = (Mn : Int) + 1 := by rw [IntKind.wrap_u64]; omega
        have gM2 : IntKind.i64.wrap ((Mn : Int) + 1) = (Mn : Int) + 1 := IntWalk.i64_in _ (by omega)
        have gq1 : IntKind.i64.wrap (q1 : Int) = (q1 : Int) := IntWalk.i64_in _ (by omega)
        have gq2 : IntKind.i64.wrap (q2 : Int) = (q2 : Int) := IntWalk.i64_in _ (by omega)
        have gq3 : IntKind.i64.wrap (-2 * (q1 : Int)) = -2 * (q1 : Int) := IntWalk.i64_in _ (by omega)
        have gq4 : IntKind.i64.wrap (2 * (q2 : Int)) = 2 * (q2 : Int) := IntWalk.i64_in _ (by omega)
        have gq5 : IntKind.i32.wrap (-2 * (q1 : Int)) = -2 * (q1 : Int) := IntWalk.i32_in _ (by omega)
        have gq6 : IntKind.i32.wrap (2 * (q2 : Int)) = 2 * (q2 : Int) := IntWalk.i32_in _ (by omega)
        have gq7 : IntKind.i32.wrap (-2 * (q1 : Int) + 1) = -2 * (q1 : Int) + 1 := IntWalk.i32_in _ (by omega)
        have gq8 : IntKind.i32.wrap (2 * (q2 : Int) + 1) = 2 * (q2 : Int) + 1 := IntWalk.i32_in _ (by omega)
        have cl2 := HG2.out.at 4 rfl
        have cl3 := HG2.out.at 3 rfl
        have cl4 := HG2.out.at 2 rfl
        clear hneg
        go_upto_region 11 with fail
        have HGN := Lib.hid (fun n => HG2.out.step (belowN (Below.refl _ _) n))
        go_quiet (fail)
        have HG3 := Lib.hid (HGN.out nq)
        clear HGN
        generalize w2.drewN nq = w3 at *
        have HZ2 := Lib.hid (limz_two w3)
        go_upto_region 13 with (first | (refine wpList_store_row rfl 46 _ _ rfl w3.heap.size _ rfl rfl 46 _ HZ2.out.1 (by kernel_rfl) rfl (by kernel_rfl) ?_) | (refine wpList_store_row rfl 46 _ _ rfl (w3.heap.size + 1) _ rfl rfl 46 _ (limz_three _ HZ2.out.2) (by kernel_rfl) rfl (by kernel_rfl) ?_))
        have HLM := Lib.hid (LmR.made w3 (1 + (r : Int)) (-2 * (q1 : Int)) (2 * (q2 : Int)))
        generalize (((w3.alloc (.cells #[.int .i64 0, .int .i64 0, .int .i32 0] 46)).alloc (.cells #[.int .i64 0, .int .i64 0, .int .i32 0] 46)).setRow w3.heap.size #[.int .i64 0, .int .i64 (1 + (r : Int)), .int .i32 (-2 * (q1 : Int))]).setRow (w3.heap.size + 1) #[.int .i64 (1 + (r : Int)), .int .i64 0, .int .i32 (2 * (q2 : Int))] = w4 at *
        have cl5 := (HG3.out.step HLM.out.below).at 2 rfl
        obtain ⟨bl, hbl⟩ : ∃ bl : Int, bl = -2 * (q1 : Int) + if rb = true then 1 else 0 := ⟨_, rfl⟩
        obtain ⟨bh, hbh⟩ : ∃ bh : Int, bh = 2 * (q2 : Int) + if rb = true then 1 else 0 := ⟨_, rfl⟩
        have HBL := Lib.hid hbl
        have HBH := Lib.hid hbh
        clear hbl hbh HZ2 cl2 cl3 cl4 cx ck1 cc1
        go_upto_if 102 with fail
        go_cut [102] (fun s102 wx => Hid (LmR w3 (1 + (r : Int)) bl bh wx))
        case first =>
          cases rb with
          | true =>
            have HL1 := Lib.hid (HLM.out.setL (-2 * (q1 : Int) + 1))
            have HL2 := Lib.hid (HL1.out.setH (2 * (q2 : Int) + 1))
            have HL3 := Lib.hid (show LmR w3 (1 + (r : Int)) bl bh _ by rw [HBL.out, HBH.out, if_pos rfl]; exact HL2.out)
            obtain ⟨x1, x2, x3, x4⟩ := HLM.out.cells
            obtain ⟨y1, y2, y3, y4⟩ := HL1.out.cells
            clear HL2
            go_wp2_with fail
            go_meet
            exact HL3
          | false =>
            have HL3 := Lib.hid (show LmR w3 (1 + (r : Int)) bl bh w4 by rw [HBL.out, HBH.out, if_neg (by decide), Int.add_zero, Int.add_zero]; exact HLM.out)
            go_wp2_with fail
            go_meet
            exact HL3
        case rest =>
          have HL := Lib.hid hcut.out
          clear hcut
          have hbl0 : -2 * (Mn : Int) ≤ bl := by rw [HBL.out]; split <;> omega
          have hbl1 : bl ≤ 1 := by rw [HBL.out]; split <;> omega
          have hbh0 : 0 ≤ bh := by rw [HBH.out]; split <;> omega
          have hbh1 : bh ≤ 2 * (Mn : Int) + 1 := by rw [HBH.out]; split <;> omega
          obtain ⟨a', ha', _, hG⟩ := HGL.out bl bh (by omega) hbl0 hbl1 hbh0 hbh1
          obtain rfl : a' = a := by
            have h := HLA.out
            rw [HZK.out] at h
            have h : luP k m l0 l0 = (some a, 0) := h
            rw [ha'] at h
            exact Option.some.inj (congrArg Prod.fst h)
          unfold GdL at hG
          rw [show ((1 + r : Nat) : Int) = 1 + (r : Int) by omega] at hG
          have HQ1 := Lib.hid (hG _ (.inl rfl))
          have HQ2 := Lib.hid (hG _ (.inr (.inl rfl)))
          have HQ3 := Lib.hid (hG _ (.inr (.inr rfl)))
          have HGD := Lib.hid (fun (v : Value) (m : Mat) (A : Option Addr) (c : Nat) (l : List (Int × Int × Int)) (W : World) (h : ZoneV 88 W v (some (k, m))) (hI : Lims W A l) (hl : l = [(0, 1 + (r : Int), bl)] ∨ l = [(1 + (r : Int), 0, bh)] ∨ l = [(0, 1 + (r : Int), bl), (1 + (r : Int), 0, bh)]) =>
            guarded_any v k m A c l W h hI (by rcases hl with rfl | rfl | rfl <;> simp) (fun q hq => by
              rcases hl with rfl | rfl | rfl
              · obtain rfl : q = 0 := by simp at hq; omega
                show -2147483648 ≤ bl ∧ bl ≤ 2147483647
                omega
              · obtain rfl : q = 0 := by simp at hq; omega
                show -2147483648 ≤ bh ∧ bh ≤ 2147483647
                omega
              · rcases (show q = 0 ∨ q = 1 by simp at hq; omega) with rfl | rfl
                · show -2147483648 ≤ bl ∧ bl ≤ 2147483647
                  omega
                · show -2147483648 ≤ bh ∧ bh ≤ 2147483647
                  omega))
          obtain ⟨P1, hP1⟩ : ∃ P1, P1 = meetsP (some (k, m)) ((limP k [(0, 1 + (r : Int), bl)]).1.map fun y => (k, y)) := ⟨_, rfl⟩
          obtain ⟨P2, hP2⟩ : ∃ P2, P2 = meetsP (some (k, m)) ((limP k [(1 + (r : Int), 0, bh)]).1.map fun y => (k, y)) := ⟨_, rfl⟩
          obtain ⟨P3, hP3⟩ : ∃ P3, P3 = meetsP (some (k, m)) ((limP k [(0, 1 + (r : Int), bl), (1 + (r : Int), 0, bh)]).1.map fun y => (k, y)) := ⟨_, rfl⟩
          rw [← hP1] at HQ1
          rw [← hP2] at HQ2
          rw [← hP3] at HQ3
          have HP1 := Lib.hid hP1
          have HP2 := Lib.hid hP2
          have HP3 := Lib.hid hP3
          have HG4 := Lib.hid (((HG3.out.step HL.out.below).add HL.out.lo (stable_heap5 _ _)).add HL.out.hi (stable_heap5 _ _))
          clear hG ha' hP1 hP2 hP3 HL HLM HGL HG3 HBL HBH cl5 hbl0 hbl1 hbh0 hbh1 HG2 HMX HBO
          go_wp2_with (refine wpList_load_row rfl 46 _ rfl w3.heap.size rfl 46 _ (0, 0) _ (HG4.out.at 1 rfl) Tryd.underlying46 rfl (by kernel_rfl) ?_)
          have HA4 := Lib.hid (HG4.out.step ((Below.refl wc.heap.size wc).alloc (Nat.le_refl _) (.cells #[.int .i64 0, .int .i64 (1 + (r : Int)), .int .i32 bl] 46)))
          have HN4 := Lib.hid (lims_newg wc 46 0 (1 + (r : Int)) bl)
          generalize wc.alloc (.cells #[.int .i64 0, .int .i64 (1 + (r : Int)), .int .i32 bl] 46) = y4 at *
          refine (HGD.out _ _ _ _ [(0, 1 + (r : Int), bl)] _ (HA4.out.at 3 rfl) HN4.out (.inl rfl)).mono ?_
          rintro e z5 ⟨⟨f4, rfl⟩, hb⟩
          rw [← HP1.out]
          have HG5 := Lib.hid (HA4.out.step hb)
          clear hb HA4 HN4 HG4
          go_wp2_with (refine wpList_load_row rfl 46 _ rfl w3.heap.size rfl 46 _ (0, 0) _ (HG5.out.at 1 rfl) Tryd.underlying46 rfl (by kernel_rfl) ?_)
          have HA5 := Lib.hid (HG5.out.step ((Below.refl z5.heap.size z5).alloc (Nat.le_refl _) (.cells #[.int .i64 0, .int .i64 (1 + (r : Int)), .int .i32 bl] 46)))
          have HN5 := Lib.hid (lims_newg z5 46 0 (1 + (r : Int)) bl)
          generalize z5.alloc (.cells #[.int .i64 0, .int .i64 (1 + (r : Int)), .int .i32 bl] 46) = y5 at *
          refine (HGD.out _ _ _ _ [(0, 1 + (r : Int), bl)] _ (HA5.out.at 2 rfl) HN5.out (.inl rfl)).mono ?_
          rintro e z6 ⟨⟨f5, rfl⟩, hb⟩
          rw [← HQ1.out]
          have HG6 := Lib.hid (HA5.out.step hb)
          clear hb HA5 HN5 HG5
          go_wp2_with (refine wpList_load_row rfl 46 _ rfl (w3.heap.size + 1) rfl 46 _ (0, 0) _ (HG6.out.at 0 rfl) Tryd.underlying46 rfl (by kernel_rfl) ?_)
          have HA6 := Lib.hid (HG6.out.step ((Below.refl z6.heap.size z6).alloc (Nat.le_refl _) (.cells #[.int .i64 (1 + (r : Int)), .int .i64 0, .int .i32 bh] 46)))
          have HN6 := Lib.hid (lims_newg z6 46 (1 + (r : Int)) 0 bh)
          generalize z6.alloc (.cells #[.int .i64 (1 + (r : Int)), .int .i64 0, .int .i32 bh] 46) = y6 at *
          refine (HGD.out _ _ _ _ [(1 + (r : Int), 0, bh)] _ (HA6.out.at 3 rfl) HN6.out (.inr (.inl rfl))).mono ?_
          rintro e z7 ⟨⟨f6, rfl⟩, hb⟩
          rw [← HP2.out]
          have HG7 := Lib.hid (HA6.out.step hb)
          clear hb HA6 HN6 HG6
          go_wp2_with (refine wpList_load_row rfl 46 _ rfl (w3.heap.size + 1) rfl 46 _ (0, 0) _ (HG7.out.at 0 rfl) Tryd.underlying46 rfl (by kernel_rfl) ?_)
          have HA7 := Lib.hid (HG7.out.step ((Below.refl z7.heap.size z7).alloc (Nat.le_refl _) (.cells #[.int .i64 (1 + (r : Int)), .int .i64 0, .int .i32 bh] 46)))
          have HN7 := Lib.hid (lims_newg z7 46 (1 + (r : Int)) 0 bh)
          generalize z7.alloc (.cells #[.int .i64 (1 + (r : Int)), .int .i64 0, .int .i32 bh] 46) = y7 at *
          refine (HGD.out _ _ _ _ [(1 + (r : Int), 0, bh)] _ (HA7.out.at 2 rfl) HN7.out (.inr (.inl rfl))).mono ?_
          rintro e z8 ⟨⟨f7, rfl⟩, hb⟩
          rw [← HQ2.out]
          have HG8 := Lib.hid (HA7.out.step hb)
          clear hb HA7 HN7 HG7
          go_wp2_with (first | (refine wpList_load_row rfl 46 _ rfl w3.heap.size rfl 46 _ (0, 0) _ (HG8.out.at 1 rfl) Tryd.underlying46 rfl (by kernel_rfl) ?_) | (refine wpList_load_row rfl 46 _ rfl (w3.heap.size + 1) rfl 46 _ (0, 0) _ (HG8.out.at 0 rfl) Tryd.underlying46 rfl (by kernel_rfl) ?_))
          have HA8 := Lib.hid (HG8.out.step ((Below.refl z8.heap.size z8).alloc (Nat.le_refl _) (.cells #[.int .i64 0, .int .i64 (1 + (r : Int)), .int .i32 bl, .int .i64 (1 + (r : Int)), .int .i64 0, .int .i32 bh] 46)))
          have HN8 := Lib.hid (lims_new2 z8 46 0 (1 + (r : Int)) bl (1 + (r : Int)) 0 bh)
          generalize z8.alloc (.cells #[.int .i64 0, .int .i64 (1 + (r : Int)), .int .i32 bl, .int .i64 (1 + (r : Int)), .int .i64 0, .int .i32 bh] 46) = y8 at *
          refine (HGD.out _ _ _ _ [(0, 1 + (r : Int), bl), (1 + (r : Int), 0, bh)] _ (HA8.out.at 3 rfl) HN8.out (.inr (.inr rfl))).mono ?_
          rintro e z9 ⟨⟨f8, rfl⟩, hb⟩
          rw [← HP3.out]
          have HG9 := Lib.hid (HA8.out.step hb)
          clear hb HA8 HN8 HG8
          go_wp2_with (first | (refine wpList_load_row rfl 46 _ rfl w3.heap.size rfl 46 _ (0, 0) _ (HG9.out.at 1 rfl) Tryd.underlying46 rfl (by kernel_rfl) ?_) | (refine wpList_load_row rfl 46 _ rfl (w3.heap.size + 1) rfl 46 _ (0, 0) _ (HG9.out.at 0 rfl) Tryd.underlying46 rfl (by kernel_rfl) ?_))
          have HA9 := Lib.hid (HG9.out.step ((Below.refl z9.heap.size z9).alloc (Nat.le_refl _) (.cells #[.int .i64 0, .int .i64 (1 + (r : Int)), .int .i32 bl, .int .i64 (1 + (r : Int)), .int .i64 0, .int .i32 bh] 46)))
          have HN9 := Lib.hid (lims_new2 z9 46 0 (1 + (r : Int)) bl (1 + (r : Int)) 0 bh)
          generalize z9.alloc (.cells #[.int .i64 0, .int .i64 (1 + (r : Int)), .int .i32 bl, .int .i64 (1 + (r : Int)), .int .i64 0, .int .i32 bh] 46) = y9 at *
          refine (HGD.out _ _ _ _ [(0, 1 + (r : Int), bl), (1 + (r : Int), 0, bh)] _ (HA9.out.at 2 rfl) HN9.out (.inr (.inr rfl))).mono ?_
          rintro e z10 ⟨⟨f9, rfl⟩, hb⟩
          rw [← HQ3.out]
          have HG10 := Lib.hid (HA9.out.step hb)
          clear hb HA9 HN9 HG9
          have e1 : (P1 == P1) = true := by simp
          have e2 : (P2 == P2) = true := by simp
          have e3 : (P3 == P3) = true := by simp
          go_wp2_with fail
          refine (live05_any _ (HG10.out.at 10 rfl)).mono ?_
          rintro e z11 ⟨rfl, hb⟩
          have HB5 := Lib.hid (HG10.out.step hb)
          clear hb
          go_wp2
          go_ret
          exact ⟨by simp, HB5.out.below⟩
  · have hne : ((luA z l0 l0).2 != 0) = true := by simpa using he
    obtain ⟨er, her⟩ : ∃ er, er = (luA z l0 l0).2 := ⟨_, rfl⟩
    rw [← her] at hne he
    have HER := Lib.hid her
    clear her
    go_enter Tryd.func8, Tryd.ntmps8
    go_wp2_with fail
    rw [← HWB.out, ← HBX.out]
    refine (HBO.out _ (HG0.out.at 7 rfl)).mono ?_
    rintro e w1 ⟨hb, v, v', rfl, hv, hv'⟩
    have HG1 := Lib.hid ((HG0.out.step hb).add hv (stable_zone _ _ _))
    have cx := HG1.out.at 5 rfl
    clear hb hv hv' HG0
    go_wp2_with fail
    refine (HMX.out _ _ _ _ (HG1.out.at 0 rfl) (HG1.out.at 6 rfl)).mono ?_
    rintro e w2 ⟨hb, va, rfl, hva⟩
    rw [← HER.out]
    have HG2 := Lib.hid (HG1.out.step hb)
    clear hb hva cx HG1
    go_wp2_with fail
    refine (live05_any _ (HG2.out.at 7 rfl)).mono ?_
    rintro e w8 ⟨rfl, hb⟩
    have HB5 := Lib.hid (HG2.out.step hb)
    clear hb
    go_wp2
    go_ret
    exact ⟨rfl, HB5.out.below⟩

end Go.Proofs.YtncgapnooabdgaaDoor

/- How rows of three numbers come in; texts. -/
namespace Go.Proofs.YtncgapnooabdgaaDoor
open Go Go.ChangeShapes Go.WideShapes Go.ChangeAt Go.RowKit
set_option linter.unusedVariables false
set_option linter.unusedSimpArgs false

section
variable {H : Type} {enc : TypeId × Value → H} {P : Program} {W W' : World}
/-- Three numbers that came in. -/
theorem came_triple {t e : TypeId} {k : IntKind} {v : Value} {d : DataW H} {ps : List MemPlace} {r : Reach} {base : Nat} (ht : P.underlying t = some (.array 3 e)) (he : P.underlying e = some (.int k)) (hc : P.cellsOf e = 1) (hct : P.cellsOf t = 3)
    (hval : Value.okWide P W r base t v) (h : DataW.Trod enc P W 0 (fun _ => true) true t v d ps) :
    ∃ x y z, v = .agg #[.int k x, .int k y, .int k z] ∧ (Lit.int k x).wf = true ∧ (Lit.int k y).wf = true ∧ (Lit.int k z).wf = true := by
  obtain ⟨cs, rfl, hsz, _⟩ : ∃ cs, v = .agg cs ∧ cs.size = P.cellsOf t ∧ Row.okWide P W r base t cs := by
    simpa [Value.okWide, ht] using hval
  rw [hct] at hsz
  obtain ⟨l⟩ := cs
  match l, hsz with
  | [a, b, c], _ =>
    obtain ⟨fuel, hf⟩ := h
    obtain ⟨xs, m, _, hx, hlen, hn, hel⟩ := DataW.trod_array ht hf
    have h0 := hel 0 (by omega)
    have h1 := hel 1 (by omega)
    have h2 := hel 2 (by omega)
    simp [Value.cells, hc] at h0 h1 h2
    rw [List.getElem?_eq_getElem (by omega)] at h0 h1 h2
    obtain ⟨x, e0, _, w0⟩ := DataW.trod_int he h0
    obtain ⟨y, e1, _, w1⟩ := DataW.trod_int he h1
    obtain ⟨z, e2, _, w2⟩ := DataW.trod_int he h2
    simp at e0 e1 e2
    subst e0 e1 e2
    exact ⟨x, y, z, rfl, w0, w1, w2⟩
theorem came_i64 {n : Int} (h : (Lit.int .i64 n).wf = true) : -9223372036854775808 ≤ n ∧ n ≤ 9223372036854775807 := by
  exact bounds_i64 h
end

end Go.Proofs.YtncgapnooabdgaaDoor
