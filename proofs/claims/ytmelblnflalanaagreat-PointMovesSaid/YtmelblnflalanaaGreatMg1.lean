/- Texts of ours, laid together: Mat, Mem, Row, Row9, Row4, Va. -/
import Derived.WalkKit
import Derived.WalkSpells
import Derived.WalkLawsBesides
import Derived.Test.YtmelblnflalanaaGreatRows
import Derived.ProofKit
import Derived.OpenShut
import Derived.Carry
import Derived.Lib.SmallJoins
import Derived.SizedLaws
import Derived.Test.YtmelblnflalanaaGreatProg
/- Matrices of bounds in wide cells, and how they are closed: plain numbers, no program. -/
namespace Go.Proofs.YtmelblnflalanaaGreat
set_option linter.unusedVariables false

/-- A matrix of cells. -/
abbrev Mat := Nat → Nat → Int

/-- No bound, in wide cells. -/
def none62 : Int := 4611686018427387904

/-- The sum of two wide bounds. -/
def wsum (a b : Int) : Int := if a = none62 ∨ b = none62 then none62 else (a - a % 2) + (b - b % 2) + (a % 2) * (b % 2)

/-- No bound, or a number of at most this size. -/
def Bd (X a : Int) : Prop := a = none62 ∨ (-X ≤ a ∧ a ≤ X)

theorem two_cases (a b : Int) : (a % 2) * (b % 2) = 0 ∧ (a % 2 = 0 ∨ b % 2 = 0) ∨ (a % 2) * (b % 2) = 1 ∧ a % 2 = 1 ∧ b % 2 = 1 := by
  have ha : a % 2 = 0 ∨ a % 2 = 1 := by omega
  have hb : b % 2 = 0 ∨ b % 2 = 1 := by omega
  rcases ha with ha | ha <;> rcases hb with hb | hb <;> simp [ha, hb]

theorem wsum_fin {a b : Int} (ha : a ≠ none62) (hb : b ≠ none62) : a + b - 1 ≤ wsum a b ∧ wsum a b ≤ a + b := by
  unfold wsum
  rw [if_neg (by simp [ha, hb])]
  rcases two_cases a b with ⟨h, h1⟩ | ⟨h, h1, h2⟩ <;> rw [h] <;> omega

theorem wsum_one_left (b : Int) : wsum 1 b = b := by
  unfold wsum none62
  by_cases h : b = 4611686018427387904
  · simp [h]
  · rw [if_neg (by omega)]; omega
theorem wsum_one_right (a : Int) : wsum a 1 = a := by
  unfold wsum none62
  by_cases h : a = 4611686018427387904
  · simp [h]
  · rw [if_neg (by omega)]; omega

theorem Bd.mono {X Y a : Int} (h : Bd X a) (hXY : X ≤ Y) : Bd Y a := by
  rcases h with h | h
  · exact .inl h
  · exact .inr (by omega)
theorem Bd.sum {X Y a b : Int} (ha : Bd X a) (hb : Bd Y b) : Bd (X + Y + 1) (wsum a b) := by
  by_cases h1 : a = none62
  · left; simp [wsum, h1]
  · by_cases h2 : b = none62
    · left; simp [wsum, h2]
    · right
      have := wsum_fin h1 h2
      rcases ha with ha | ha
      · exact absurd ha h1
      · rcases hb with hb | hb
        · exact absurd hb h2
        · omega
theorem Bd.min {X a b : Int} (ha : Bd X a) (hb : Bd X b) : Bd X (min a b) := by
  rw [Int.min_def]; split
  · exact ha
  · exact hb
theorem Bd.le {X a : Int} (h : Bd X a) (hX : X ≤ none62) : -X ≤ a ∧ a ≤ none62 ∨ a = none62 := by
  rcases h with h | h
  · exact .inr h
  · left; omega

/-- One cell made another. -/
def upd (m : Mat) (i j : Nat) (v : Int) : Mat := fun a b => if a = i ∧ b = j then v else m a b
theorem upd_upd (m : Mat) (i j : Nat) (v v' : Int) : upd (upd m i j v) i j v' = upd m i j v' := by
  funext a b; simp only [upd]; split <;> rfl

/-- The round for clock k: all ways by k. -/
def fw (k n : Nat) (m : Mat) : Mat := fun i j => if i ≤ n ∧ j ≤ n then min (m i j) (wsum (m i k) (m k j)) else m i j

/-- f in the rows ahead of i and, of row i, ahead of j; elsewhere m. -/
def mix (f m : Mat) (n i j : Nat) : Mat := fun a c => if (a < i ∧ c ≤ n) ∨ (a = i ∧ c < j) then f a c else m a c

theorem mix_start (f m : Mat) (n : Nat) : mix f m n 0 0 = m := by
  funext a c; simp only [mix]; rw [if_neg (by omega)]
theorem mix_step (f m : Mat) (n i j : Nat) (hj : j ≤ n) : upd (mix f m n i j) i j (f i j) = mix f m n i (j + 1) := by
  funext a c
  simp only [upd, mix]
  by_cases h : a = i ∧ c = j
  · obtain ⟨rfl, rfl⟩ := h
    rw [if_pos ⟨rfl, rfl⟩, if_pos (by omega)]
  · rw [if_neg h]
    by_cases h2 : (a < i ∧ c ≤ n) ∨ (a = i ∧ c < j)
    · rw [if_pos h2, if_pos (by omega)]
    · rw [if_neg h2, if_neg (by omega)]
theorem mix_row (f m : Mat) (n i : Nat) : mix f m n i (n + 1) = mix f m n (i + 1) 0 := by
  funext a c
  simp only [mix]
  by_cases h2 : (a < i ∧ c ≤ n) ∨ (a = i ∧ c < n + 1)
  · rw [if_pos h2, if_pos (by omega)]
  · rw [if_neg h2, if_neg (by omega)]
theorem mix_done (k n : Nat) (m : Mat) : mix (fw k n m) m n (n + 1) 0 = fw k n m := by
  funext a c
  simp only [mix]
  by_cases h2 : (a < n + 1 ∧ c ≤ n) ∨ (a = n + 1 ∧ c < 0)
  · rw [if_pos h2]
  · rw [if_neg h2]
    unfold fw
    rw [if_neg (by omega)]

theorem fw_col {k n : Nat} {m : Mat} (hk : m k k = 1) (i : Nat) : fw k n m i k = m i k := by
  unfold fw; split
  · rw [hk, wsum_one_right, Int.min_self]
  · rfl
theorem fw_row {k n : Nat} {m : Mat} (hk : m k k = 1) (j : Nat) : fw k n m k j = m k j := by
  unfold fw; split
  · rw [hk, wsum_one_left, Int.min_self]
  · rfl
theorem mix_col {k n : Nat} {m : Mat} (hk : m k k = 1) (i j a : Nat) : mix (fw k n m) m n i j a k = m a k := by
  unfold mix; split
  · exact fw_col hk a
  · rfl
theorem mix_krow {k n : Nat} {m : Mat} (hk : m k k = 1) (i j c : Nat) : mix (fw k n m) m n i j k c = m k c := by
  unfold mix; split
  · exact fw_row hk c
  · rfl
theorem mix_here (f m : Mat) (n i j : Nat) : mix f m n i j i j = m i j := by
  unfold mix; rw [if_neg (by omega)]
/-- What the machine stores is the round's own cell. -/
theorem mix_cell {k n : Nat} {m : Mat} (hk : m k k = 1) {i j : Nat} (hi : i ≤ n) (hj : j ≤ n) :
    min (mix (fw k n m) m n i j i j) (wsum (mix (fw k n m) m n i j i k) (mix (fw k n m) m n i j k j)) = fw k n m i j := by
  rw [mix_here, mix_col hk, mix_krow hk]
  unfold fw; rw [if_pos ⟨hi, hj⟩]

/-- The closed form, round by round; none: a cell of a clock against itself fell below 1. -/
def closeP (n : Nat) : Nat → Nat → Mat → Option Mat
  | 0, _, m => some m
  | s + 1, k, m => if (∀ i, i ≤ n → 1 ≤ fw k n m i i) then closeP n s (k + 1) (fw k n m) else none
/-- The closed form. -/
def closed (n : Nat) (m : Mat) : Option Mat := closeP n (n + 1) 0 m

/-- What a matrix must be for a round to run within the machine's numbers. -/
structure Fit (n : Nat) (X : Int) (m : Mat) : Prop where
  bd : ∀ i j, i ≤ n → j ≤ n → Bd X (m i j)
  diag : ∀ i, i ≤ n → m i i ≤ 1

theorem Fit.fwd {n : Nat} {X : Int} {m : Mat} (h : Fit n X m) {k : Nat} (hk : k ≤ n) (hX : 0 ≤ X) : Fit n (2 * X + 1) (fw k n m) := by
  refine ⟨fun i j hi hj => ?_, fun i hi => ?_⟩
  · unfold fw; rw [if_pos ⟨hi, hj⟩]
    have h1 := (h.bd i j hi hj).mono (Y := 2 * X + 1) (by omega)
    have h2 := (h.bd i k hi hk).sum (h.bd k j hk hj)
    exact h1.min (h2.mono (by omega))
  · have := h.diag i hi
    unfold fw; rw [if_pos ⟨hi, hi⟩]
    rw [Int.min_def]; split <;> omega
theorem Fit.mixd {n : Nat} {X : Int} {m : Mat} (h : Fit n X m) {k : Nat} (hk : k ≤ n) (hX : 0 ≤ X) (i j : Nat) : Fit n (2 * X + 1) (mix (fw k n m) m n i j) := by
  have h1 := h.fwd hk hX
  refine ⟨fun a c ha hc => ?_, fun a ha => ?_⟩
  · simp only [mix]; split
    · exact h1.bd a c ha hc
    · exact (h.bd a c ha hc).mono (by omega)
  · simp only [mix]; split
    · exact h1.diag a ha
    · exact h.diag a ha

/-- What the machine's matrix is in the round k, at row i, ahead of column j, where m was the matrix at the round's head. -/
def InnerOk (n : Nat) (X : Int) (m : Mat) (k i j : Nat) (cur : Mat) : Prop :=
  (m k k = 1 ∧ cur = mix (fw k n m) m n i j) ∨
  (k = 0 ∧ i = 0 ∧ m 0 0 < 1 ∧ cur 0 0 < 1 ∧ Bd (2 * X + 1) (cur 0 0) ∧ (∀ c, c ≤ n → Bd (4 * X + 4) (cur 0 c)) ∧ (∀ c, j ≤ c → 1 ≤ j → cur 0 c = m 0 c) ∧ (j = 0 → cur = m))

theorem InnerOk.start {n : Nat} {X : Int} {m : Mat} {k : Nat} (hk : m k k = 1) : InnerOk n X m k 0 0 m := .inl ⟨hk, (mix_start _ _ _).symm⟩
theorem InnerOk.start0 {n : Nat} {X : Int} {m : Mat} (hf : Fit n X m) (hX : 0 ≤ X) (h : m 0 0 < 1) : InnerOk n X m 0 0 0 m :=
  .inr ⟨rfl, rfl, h, h, (hf.bd 0 0 (by omega) (by omega)).mono (by omega), fun c hc => (hf.bd 0 c (by omega) hc).mono (by omega), fun c _ h => absurd h (by omega), fun _ => rfl⟩

theorem InnerOk.bounds {n : Nat} {X : Int} {m : Mat} (hf : Fit n X m) (hX : 0 ≤ X) {k i j : Nat} {cur : Mat} (h : InnerOk n X m k i j cur) (hk : k ≤ n) (hi : i ≤ n) (hj : j ≤ n) :
    Bd (4 * X + 4) (cur i j) ∧ Bd (4 * X + 4) (cur i k) ∧ Bd (4 * X + 4) (cur k j) := by
  rcases h with ⟨h1, rfl⟩ | ⟨rfl, rfl, h0, h1, h2, h3, h4, h5⟩
  · have := hf.mixd hk hX i j
    exact ⟨(this.bd i j hi hj).mono (by omega), (this.bd i k hi hk).mono (by omega), (this.bd k j hk hj).mono (by omega)⟩
  · exact ⟨h3 j hj, h3 0 (by omega), h3 j hj⟩

theorem InnerOk.step {n : Nat} {X : Int} {m : Mat} (hf : Fit n X m) (hX : 0 ≤ X) {k i j : Nat} {cur : Mat} (h : InnerOk n X m k i j cur) (hk : k ≤ n) (hi : i ≤ n) (hj : j ≤ n) :
    InnerOk n X m k i (j + 1) (upd cur i j (min (cur i j) (wsum (cur i k) (cur k j)))) := by
  rcases h with ⟨h1, rfl⟩ | ⟨rfl, rfl, h0, h1, h2, h3, h4, h5⟩
  · refine .inl ⟨h1, ?_⟩
    rw [mix_cell h1 hi hj, mix_step _ _ _ _ _ hj]
  · refine .inr ⟨rfl, rfl, h0, ?_⟩
    by_cases hj0 : j = 0
    · subst hj0
      obtain rfl := h5 rfl
      have hm := hf.bd 0 0 (by omega) (by omega)
      have hnew : Bd (2 * X + 1) (min (cur 0 0) (wsum (cur 0 0) (cur 0 0))) := (hm.mono (by omega)).min ((hm.sum hm).mono (by omega))
      refine ⟨?_, ?_, ?_, ?_, by omega⟩
      · simp only [upd, and_self, if_true]; rw [Int.min_def]; split <;> omega
      · simp only [upd, and_self, if_true]; exact hnew
      · intro c hc
        simp only [upd]; split
        · exact hnew.mono (by omega)
        · exact h3 c hc
      · intro c hc _
        simp only [upd]; rw [if_neg (by omega)]
    · have e := h4 j (by omega) (by omega)
      have hm := hf.bd 0 j (by omega) hj
      refine ⟨?_, ?_, ?_, ?_, by omega⟩
      · simp only [upd]; rw [if_neg (by omega)]; exact h1
      · simp only [upd]; rw [if_neg (by omega)]; exact h2
      · intro c hc
        simp only [upd]; split
        · rw [e]; exact (hm.mono (by omega)).min ((h2.sum hm).mono (by omega))
        · exact h3 c hc
      · intro c hc _
        simp only [upd]; rw [if_neg (by omega)]; exact h4 c (by omega) (by omega)

/-- Behind a row: the round goes on, or the matrix has no valuation. -/
theorem InnerOk.row {n : Nat} {X : Int} {m : Mat} {k i : Nat} {cur : Mat} (h : InnerOk n X m k i (n + 1) cur) (hi : i ≤ n) :
    (cur i i < 1 → fw k n m i i < 1) ∧ (1 ≤ cur i i → m k k = 1 ∧ 1 ≤ fw k n m i i ∧ InnerOk n X m k (i + 1) 0 cur) := by
  rcases h with ⟨h1, rfl⟩ | ⟨rfl, rfl, h0, h1, h2, h3, h4, h5⟩
  · have e : mix (fw k n m) m n i (n + 1) i i = fw k n m i i := by
      unfold mix; rw [if_pos (show (i < i ∧ i ≤ n) ∨ (i = i ∧ i < n + 1) from by omega)]
    rw [e]
    exact ⟨id, fun h => ⟨h1, h, .inl ⟨h1, mix_row _ _ _ _⟩⟩⟩
  · refine ⟨fun _ => ?_, fun h => absurd h (by omega)⟩
    unfold fw; rw [if_pos (show 0 ≤ n ∧ 0 ≤ n from by omega), Int.min_def]; split <;> omega

theorem one_le_pow2 : ∀ k : Nat, (1 : Int) ≤ 4 ^ k
  | 0 => by simp
  | k + 1 => by have := one_le_pow2 k; rw [Int.pow_succ]; omega
theorem pow2_step (k : Nat) : 2 * (1073741824 * 4 ^ k) + 1 ≤ (1073741824 : Int) * 4 ^ (k + 1) := by
  have := one_le_pow2 k
  rw [Int.pow_succ]
  generalize (4 : Int) ^ k = p at this ⊢
  omega
theorem pow2_le {k : Nat} (h : k ≤ 9) : (4 : Int) ^ k ≤ 262144 := by
  match k, h with
  | 0, _ | 1, _ | 2, _ | 3, _ | 4, _ | 5, _ | 6, _ | 7, _ | 8, _ | 9, _ => decide

/-- What holds at a round's head. -/
structure RoundOk (n : Nat) (m0 : Mat) (k : Nat) (m : Mat) : Prop where
  fit : Fit n (1073741824 * 4 ^ k) m
  one : k = 0 ∨ ∀ i, i ≤ n → m i i = 1
  same : closeP n (n + 1 - k) k m = closed n m0
  le : k ≤ n + 1

theorem RoundOk.start {n : Nat} {m : Mat} (h : Fit n 1073741824 m) : RoundOk n m 0 m := ⟨by simpa using h, .inl rfl, rfl, by omega⟩

theorem RoundOk.inner {n : Nat} {m0 m : Mat} {k : Nat} (h : RoundOk n m0 k m) (hk : k ≤ n) : InnerOk n (1073741824 * 4 ^ k) m k 0 0 m := by
  have hX : (0 : Int) ≤ 1073741824 * 4 ^ k := by have := one_le_pow2 k; omega
  rcases h.one with rfl | h1
  · by_cases h0 : m 0 0 < 1
    · exact .start0 h.fit hX h0
    · exact .start (by have := h.fit.diag 0 (by omega); omega)
  · exact .start (h1 k hk)

theorem RoundOk.next {n : Nat} {m0 m cur : Mat} {k : Nat} (h : RoundOk n m0 k m) (hk : k ≤ n) (hi : InnerOk n (1073741824 * 4 ^ k) m k (n + 1) 0 cur) (hd : ∀ i, i ≤ n → 1 ≤ fw k n m i i) :
    RoundOk n m0 (k + 1) cur := by
  rcases hi with ⟨h1, rfl⟩ | ⟨_, h2, _⟩
  · rw [mix_done]
    refine ⟨?_, .inr fun i hi => ?_, ?_, by omega⟩
    · have := h.fit.fwd hk (by have := one_le_pow2 k; omega)
      exact ⟨fun i j hi hj => (this.bd i j hi hj).mono (pow2_step k), this.diag⟩
    · have a := hd i hi
      have b := (h.fit.fwd hk (by have := one_le_pow2 k; omega)).diag i hi
      exact Int.le_antisymm b a
    · rw [← h.same]
      have e : n + 1 - k = (n - k) + 1 := by omega
      have e2 : n + 1 - (k + 1) = n - k := by omega
      rw [e, e2]
      simp only [closeP]
      rw [if_pos hd]
  · omega

theorem RoundOk.fail {n : Nat} {m0 m : Mat} {k i : Nat} (h : RoundOk n m0 k m) (hk : k ≤ n) (hi : i ≤ n) (hd : fw k n m i i < 1) : closed n m0 = none := by
  rw [← h.same]
  have e : n + 1 - k = (n - k) + 1 := by omega
  rw [e]
  simp only [closeP]
  rw [if_neg (fun hall => by have := hall i hi; omega)]

theorem RoundOk.done {n : Nat} {m0 m : Mat} (h : RoundOk n m0 (n + 1) m) : closed n m0 = some m := by
  rw [← h.same]
  have e : n + 1 - (n + 1) = 0 := by omega
  rw [e]
  rfl

/-- The rows ahead of i, and of row i what is ahead of j. -/
def filled (f : Mat) (i j : Nat) : Mat := fun a c => if a < i ∨ (a = i ∧ c < j) then f a c else 0
theorem upd_filled (f : Mat) (i j : Nat) : upd (filled f i j) i j (f i j) = filled f i (j + 1) := by
  funext a b
  simp only [upd, filled]
  by_cases h : a = i ∧ b = j
  · obtain ⟨rfl, rfl⟩ := h; simp
  · rw [if_neg h]
    by_cases h1 : a < i ∨ a = i ∧ b < j
    · rw [if_pos h1, if_pos (by omega)]
    · rw [if_neg h1, if_neg (by omega)]
theorem filled_zero (f : Mat) : filled f 0 0 = fun _ _ => 0 := by funext a c; simp [filled]
/-- Nothing but noughts outside of n + 1 rows and columns. -/
def Inside (n : Nat) (f : Mat) : Prop := ∀ a c, n < a ∨ n < c → f a c = 0
theorem filled_row {f : Mat} {n : Nat} (hf : Inside n f) (i : Nat) : filled f (i + 1) 0 = filled f i (n + 1) := by
  funext a b
  simp only [filled]
  by_cases h1 : a < i ∨ a = i ∧ b < n + 1
  · rw [if_pos h1, if_pos (by omega)]
  · rw [if_neg h1]
    by_cases h2 : a < i + 1 ∨ a = i + 1 ∧ b < 0
    · rw [if_pos h2, hf a b (by omega)]
    · rw [if_neg h2]
theorem filled_done {f : Mat} {n : Nat} (hf : Inside n f) : filled f (n + 1) 0 = f := by
  funext a b
  simp only [filled]
  by_cases h1 : a < n + 1 ∨ a = n + 1 ∧ b < 0
  · rw [if_pos h1]
  · rw [if_neg h1, hf a b (by omega)]

/-- A wide bound, narrow. -/
def nar (x : Int) : Int := if x = none62 then 2147483647 else x
/-- May a wide bound be made narrow? -/
def inR (x : Int) : Prop := x = none62 ∨ (-536870912 ≤ x ∧ x ≤ 536870913)
instance (x : Int) : Decidable (inR x) := by unfold inR; infer_instance
def narM (n : Nat) (m : Mat) : Mat := fun i j => if i ≤ n ∧ j ≤ n then nar (m i j) else 0
theorem narM_inside (n : Nat) (m : Mat) : Inside n (narM n m) := fun a c h => by unfold narM; rw [if_neg (by omega)]
def allR (n : Nat) (m : Mat) : Prop := ∀ i, i ≤ n → ∀ j, j ≤ n → inR (m i j)
instance (n : Nat) (m : Mat) : Decidable (allR n m) := by unfold allR; infer_instance
/-- The zone of wide cells, or the number of the error. -/
def zoneP (n : Nat) (m : Mat) : Option Mat × Int :=
  match closed n m with
  | none => (some (fun _ _ => 0), 0)
  | some m' => if allR n m' then (some (narM n m'), 0) else (none, 10)

/-- All cells without a bound, but for what holds of all valuations. -/
def openM (n : Nat) : Mat := fun i j => if i ≤ n ∧ j ≤ n then (if i = j ∨ i = 0 then 1 else none62) else 0
theorem openM_inside (n : Nat) : Inside n (openM n) := fun a c h => by unfold openM; rw [if_neg (by omega)]
theorem openM_fit (n : Nat) : Fit n 1073741824 (openM n) := by
  refine ⟨fun i j hi hj => ?_, fun i hi => ?_⟩
  · unfold openM; rw [if_pos ⟨hi, hj⟩]; split
    · exact .inr (by omega)
    · exact .inl rfl
  · unfold openM; rw [if_pos ⟨hi, hi⟩]; simp
/-- A cell as strict as a bound, at least. -/
def keepM (m : Mat) (i j : Nat) (b : Int) : Mat := if b = 2147483647 then m else upd m i j (min (m i j) b)
/-- Is a bound right? -/
def rightB (b : Int) : Bool := decide (b = 2147483647 ∨ (-536870912 ≤ b ∧ b ≤ 536870913))
theorem rightB_bd {b : Int} (h : rightB b = true) (hb : b ≠ 2147483647) : -536870912 ≤ b ∧ b ≤ 536870913 := by
  unfold rightB at h; have := of_decide_eq_true h; omega
theorem keepM_fit {n : Nat} {m : Mat} (h : Fit n 1073741824 m) (i j : Nat) {b : Int} (hb : rightB b = true) : Fit n 1073741824 (keepM m i j b) := by
  unfold keepM
  by_cases e : b = 2147483647
  · rw [if_pos e]; exact h
  · rw [if_neg e]
    have hr := rightB_bd hb e
    refine ⟨fun a c ha hc => ?_, fun a ha => ?_⟩
    · simp only [upd]; split
      · rename_i h2; obtain ⟨rfl, rfl⟩ := h2
        exact (h.bd a c ha hc).min (.inr (by omega))
      · exact h.bd a c ha hc
    · have := h.diag a ha
      simp only [upd]; split
      · rename_i h2; obtain ⟨rfl, rfl⟩ := h2
        rw [Int.min_def]; split <;> omega
      · exact this
/-- The first p cells of a row are kept. -/
def keepUp (n : Nat) (cells : List Int) : Nat → Mat
  | 0 => openM n
  | p + 1 => keepM (keepUp n cells p) (p / (n + 1)) (p % (n + 1)) (cells.getD p 0)
theorem keepUp_fit (n : Nat) (cells : List Int) : ∀ p, (∀ q, q < p → rightB (cells.getD q 0) = true) → Fit n 1073741824 (keepUp n cells p)
  | 0, _ => openM_fit n
  | p + 1, h => keepM_fit (keepUp_fit n cells p fun q hq => h q (by omega)) _ _ (h p (by omega))
/-- The first p limits are kept. -/
def limUp (n : Nat) (l : List (Int × Int × Int)) : Nat → Mat
  | 0 => openM n
  | p + 1 => keepM (limUp n l p) (l.getD p (0, 0, 0)).1.toNat (l.getD p (0, 0, 0)).2.1.toNat (l.getD p (0, 0, 0)).2.2
/-- May a limit of n clocks be? -/
def limOk (n : Nat) (x : Int × Int × Int) : Bool := decide (0 ≤ x.1 ∧ x.1 ≤ n ∧ 0 ≤ x.2.1 ∧ x.2.1 ≤ n) && rightB x.2.2
theorem limUp_fit (n : Nat) (l : List (Int × Int × Int)) : ∀ p, (∀ q, q < p → limOk n (l.getD q (0, 0, 0)) = true) → Fit n 1073741824 (limUp n l p)
  | 0, _ => openM_fit n
  | p + 1, h => keepM_fit (limUp_fit n l p fun q hq => h q (by omega)) _ _ (by have := h p (by omega); simp only [limOk, Bool.and_eq_true] at this; exact this.2)

/-- All cells are right bounds. -/
def RightM (n : Nat) (m : Mat) : Prop := ∀ i j, i ≤ n → j ≤ n → rightB (m i j) = true
theorem right_zero (n : Nat) : RightM n (fun _ _ => 0) := fun _ _ _ _ => by show rightB 0 = true; decide
theorem narM_right {n : Nat} {m : Mat} (h : allR n m) : RightM n (narM n m) := fun i j hi hj => by
  unfold narM nar rightB
  rw [if_pos ⟨hi, hj⟩, decide_eq_true_iff]
  have := h i hi j hj
  unfold inR at this
  split <;> omega

/-- The same, where no row ends a round early. -/
def BadAt (n : Nat) (X : Int) (m : Mat) (i j : Nat) (cur : Mat) : Prop :=
  cur 0 0 < 1 ∧ Bd (2 * X + 1) (cur 0 0) ∧ (∀ c, c ≤ n → Bd (4 * X + 4) (cur 0 c)) ∧ (∀ a c, a ≤ n → c ≤ n → Bd (16 * X + 16) (cur a c)) ∧
  (∀ a c, a ≤ n → c ≤ n → (i < a ∨ (a = i ∧ j ≤ c)) → cur a c = m a c) ∧ (1 ≤ i → 1 ≤ j → Bd (3 * X + 2) (cur i 0))
def RefOk (n : Nat) (X : Int) (m : Mat) (k i j : Nat) (cur : Mat) : Prop :=
  (m k k = 1 ∧ cur = mix (fw k n m) m n i j) ∨ (k = 0 ∧ m 0 0 < 1 ∧ BadAt n X m i j cur)
theorem RefOk.bounds {n : Nat} {X : Int} {m : Mat} (hf : Fit n X m) (hX : 0 ≤ X) {k i j : Nat} {cur : Mat} (h : RefOk n X m k i j cur) (hk : k ≤ n) {a c : Nat} (ha : a ≤ n) (hc : c ≤ n) :
    Bd (16 * X + 16) (cur a c) := by
  rcases h with ⟨h1, rfl⟩ | ⟨_, _, hb⟩
  · exact ((hf.mixd hk hX i j).bd a c ha hc).mono (by omega)
  · exact hb.2.2.2.1 a c ha hc
theorem BadAt.step {n : Nat} {X : Int} {m : Mat} (hf : Fit n X m) (hX : 0 ≤ X) {i j : Nat} {cur : Mat} (h : BadAt n X m i j cur) (hi : i ≤ n) (hj : j ≤ n) :
    BadAt n X m i (j + 1) (upd cur i j (min (cur i j) (wsum (cur i 0) (cur 0 j)))) := by
  obtain ⟨h1, h2, h3, h4, h5, h6⟩ := h
  have e := h5 i j hi hj (.inr ⟨rfl, Nat.le_refl _⟩)
  have hm := hf.bd i j hi hj
  have hnew : Bd (16 * X + 16) (min (cur i j) (wsum (cur i 0) (cur 0 j))) ∧ (i = 0 → Bd (4 * X + 4) (min (cur i j) (wsum (cur i 0) (cur 0 j)))) ∧
      (i = 0 → j = 0 → Bd (2 * X + 1) (min (cur i j) (wsum (cur i 0) (cur 0 j))) ∧ min (cur i j) (wsum (cur i 0) (cur 0 j)) < 1) ∧
      (j = 0 → Bd (3 * X + 2) (min (cur i j) (wsum (cur i 0) (cur 0 j)))) := by
    rw [e]
    by_cases hi0 : i = 0
    · subst hi0
      by_cases hj0 : j = 0
      · subst hj0
        have := (hm.mono (show X ≤ 2 * X + 1 by omega)).min ((hm.sum hm).mono (show X + X + 1 ≤ 2 * X + 1 by omega))
        rw [e] at h1 ⊢
        refine ⟨this.mono (by omega), fun _ => this.mono (by omega), fun _ _ => ⟨this, ?_⟩, fun _ => this.mono (by omega)⟩
        rw [Int.min_def]; split <;> omega
      · have e2 := h5 0 j (by omega) hj (.inr ⟨rfl, Nat.le_refl _⟩)
        have := (hm.mono (show X ≤ 3 * X + 2 by omega)).min (((h2.sum hm)).mono (show 2 * X + 1 + X + 1 ≤ 3 * X + 2 by omega))
        rw [e2]
        exact ⟨this.mono (by omega), fun _ => this.mono (by omega), fun _ h => absurd h hj0, fun h => absurd h hj0⟩
    · by_cases hj0 : j = 0
      · subst hj0
        have := (hm.mono (show X ≤ 3 * X + 2 by omega)).min (((hm.sum h2)).mono (show X + (2 * X + 1) + 1 ≤ 3 * X + 2 by omega))
        rw [e]
        exact ⟨this.mono (by omega), fun h => absurd h hi0, fun h => absurd h hi0, fun _ => this⟩
      · have h7 := h6 (by omega) (by omega)
        have := (hm.mono (show X ≤ 7 * X + 7 by omega)).min ((h7.sum (h3 j hj)).mono (show 3 * X + 2 + (4 * X + 4) + 1 ≤ 7 * X + 7 by omega))
        exact ⟨this.mono (by omega), fun h => absurd h hi0, fun h => absurd h hi0, fun h => absurd h hj0⟩
  obtain ⟨n1, n2, n3, n4⟩ := hnew
  generalize min (cur i j) (wsum (cur i 0) (cur 0 j)) = v at *
  refine ⟨?_, ?_, ?_, ?_, ?_, ?_⟩
  · simp only [upd]; split
    · rename_i h; exact (n3 h.1.symm h.2.symm).2
    · exact h1
  · simp only [upd]; split
    · rename_i h; exact (n3 h.1.symm h.2.symm).1
    · exact h2
  · intro c hc
    simp only [upd]; split
    · rename_i h; exact n2 h.1.symm
    · exact h3 c hc
  · intro a c ha hc
    simp only [upd]; split
    · exact n1
    · exact h4 a c ha hc
  · intro a c ha hc hac
    simp only [upd]; rw [if_neg (by omega)]
    exact h5 a c ha hc (by omega)
  · intro hi1 _
    by_cases hj0 : j = 0
    · unfold upd; rw [if_pos ⟨rfl, hj0.symm⟩]; exact n4 hj0
    · unfold upd; rw [if_neg (fun h => hj0 h.2.symm)]; exact h6 hi1 (by omega)
theorem RefOk.step {n : Nat} {X : Int} {m : Mat} (hf : Fit n X m) (hX : 0 ≤ X) {k i j : Nat} {cur : Mat} (h : RefOk n X m k i j cur) (hk : k ≤ n) (hi : i ≤ n) (hj : j ≤ n) :
    RefOk n X m k i (j + 1) (upd cur i j (min (cur i j) (wsum (cur i k) (cur k j)))) := by
  rcases h with ⟨h1, rfl⟩ | ⟨rfl, h0, hb⟩
  · exact .inl ⟨h1, by rw [mix_cell h1 hi hj, mix_step _ _ _ _ _ hj]⟩
  · exact .inr ⟨rfl, h0, hb.step hf hX hi hj⟩
theorem RefOk.row {n : Nat} {X : Int} {m : Mat} {k i : Nat} {cur : Mat} (h : RefOk n X m k i (n + 1) cur) : RefOk n X m k (i + 1) 0 cur := by
  rcases h with ⟨h1, rfl⟩ | ⟨rfl, h0, h1, h2, h3, h4, h5, h6⟩
  · exact .inl ⟨h1, mix_row _ _ _ _⟩
  · exact .inr ⟨rfl, h0, h1, h2, h3, h4, fun a c ha hc hac => h5 a c ha hc (by omega), fun _ h => by omega⟩
theorem RoundOk.ref {n : Nat} {m0 m : Mat} {k : Nat} (h : RoundOk n m0 k m) (hk : k ≤ n) : RefOk n (1073741824 * 4 ^ k) m k 0 0 m := by
  have hX : (0 : Int) ≤ 1073741824 * 4 ^ k := by have := one_le_pow2 k; omega
  have hone : m k k = 1 → RefOk n (1073741824 * 4 ^ k) m k 0 0 m := fun h1 => .inl ⟨h1, (mix_start _ _ _).symm⟩
  rcases h.one with rfl | h1
  · by_cases h0 : m 0 0 < 1
    · refine .inr ⟨rfl, h0, h0, (h.fit.bd 0 0 (by omega) (by omega)).mono (by omega), fun c hc => (h.fit.bd 0 c (by omega) hc).mono (by omega), fun a c ha hc => (h.fit.bd a c ha hc).mono (by omega), fun _ _ _ _ _ => rfl, fun h => by omega⟩
    · exact hone (by have := h.fit.diag 0 (by omega); omega)
  · exact hone (h1 k hk)
/-- Behind the round: a cell of a clock against itself below 1 tells that there is no valuation. -/
theorem RefOk.fail {n : Nat} {m0 m cur : Mat} {k i : Nat} (hr : RoundOk n m0 k m) (hk : k ≤ n) (h : RefOk n (1073741824 * 4 ^ k) m k (n + 1) 0 cur) (hi : i ≤ n) (hd : cur i i < 1) : closed n m0 = none := by
  rcases h with ⟨h1, rfl⟩ | ⟨rfl, h0, _⟩
  · rw [mix_done] at hd; exact hr.fail hk hi hd
  · refine hr.fail hk (Nat.zero_le _) ?_
    unfold fw; rw [if_pos (show 0 ≤ n ∧ 0 ≤ n from by omega), Int.min_def]; split <;> omega
theorem RefOk.next {n : Nat} {m0 m cur : Mat} {k : Nat} (hr : RoundOk n m0 k m) (hk : k ≤ n) (h : RefOk n (1073741824 * 4 ^ k) m k (n + 1) 0 cur) (hd : ∀ i, i ≤ n → 1 ≤ cur i i) : RoundOk n m0 (k + 1) cur := by
  rcases h with ⟨h1, rfl⟩ | ⟨rfl, h0, hb⟩
  · refine hr.next hk (.inl ⟨h1, rfl⟩) ?_
    rw [mix_done] at hd; exact hd
  · have := hd 0 (by omega); have := hb.1; omega

/-- A narrow bound, wide. -/
def wid (b : Int) : Int := if b = 2147483647 then none62 else b
/-- The first p bounds, wide. -/
def widUp (l : List Int) : Nat → List Int
  | 0 => []
  | p + 1 => widUp l p ++ [wid (l.getD p 0)]
theorem widUp_length (l : List Int) : ∀ p, (widUp l p).length = p
  | 0 => rfl
  | p + 1 => by simp [widUp, widUp_length l p]
theorem widUp_getD (l : List Int) : ∀ p q, q < p → (widUp l p).getD q 0 = wid (l.getD q 0)
  | 0, q, h => by omega
  | p + 1, q, h => by
    rw [List.getD_eq_getElem?_getD]
    by_cases e : q = p
    · subst e
      rw [show widUp l (q + 1) = widUp l q ++ [wid (l.getD q 0)] from rfl, List.getElem?_append_right (by rw [widUp_length]; omega), widUp_length]
      simp
    · rw [show widUp l (p + 1) = widUp l p ++ [wid (l.getD p 0)] from rfl, List.getElem?_append_left (by rw [widUp_length]; omega), ← List.getD_eq_getElem?_getD]
      exact widUp_getD l p q (by omega)

/-- What Of answers. -/
def ofP (n : Int) (cells : List Int) : Option Mat × Int :=
  if 0 ≤ n ∧ n ≤ 8 then
    if (cells.length : Int) = (n + 1) * (n + 1) then
      if cells.all rightB then zoneP n.toNat (keepUp n.toNat cells cells.length) else (none, 7)
    else (none, 6)
  else (none, 12)
/-- What Limits answers. -/
def limP (n : Int) (l : List (Int × Int × Int)) : Option Mat × Int :=
  if 0 ≤ n ∧ n ≤ 8 then
    if l.all (limOk n.toNat) then zoneP n.toNat (limUp n.toNat l l.length) else (none, 7)
  else (none, 12)
theorem all_getD {α : Type} (l : List α) (f : α → Bool) (d : α) : l.all f = true ↔ ∀ q, q < l.length → f (l.getD q d) = true := by
  rw [List.all_eq_true]
  constructor
  · intro h q hq
    rw [List.getD_eq_getElem?_getD, List.getElem?_eq_getElem hq]
    exact h _ (List.getElem_mem hq)
  · intro h x hx
    obtain ⟨q, hq, rfl⟩ := List.getElem_of_mem hx
    have := h q hq
    rw [List.getD_eq_getElem?_getD, List.getElem?_eq_getElem hq] at this
    exact this

/-! ### all cells, row by row -/
def rowsL (n : Nat) (m : Mat) : Nat → List Int
  | 0 => []
  | i + 1 => rowsL n m i ++ (List.range (n + 1)).map (fun c => m i c)
/-- All cells. -/
def flat (n : Nat) (m : Mat) : List Int := rowsL n m (n + 1)
theorem rowsL_length (n : Nat) (m : Mat) : ∀ i, (rowsL n m i).length = i * (n + 1)
  | 0 => by simp [rowsL]
  | i + 1 => by simp [rowsL, rowsL_length n m i, Nat.add_mul]
theorem flat_length (n : Nat) (m : Mat) : (flat n m).length = (n + 1) * (n + 1) := rowsL_length n m _
theorem rowsL_getD (n : Nat) (m : Mat) : ∀ i p, p < i * (n + 1) → (rowsL n m i).getD p 0 = m (p / (n + 1)) (p % (n + 1))
  | 0, p, h => by simp at h
  | i + 1, p, h => by
    rw [List.getD_eq_getElem?_getD]
    by_cases hp : p < i * (n + 1)
    · rw [show rowsL n m (i + 1) = rowsL n m i ++ (List.range (n + 1)).map (fun c => m i c) from rfl, List.getElem?_append_left (by rw [rowsL_length]; exact hp), ← List.getD_eq_getElem?_getD]
      exact rowsL_getD n m i p hp
    · rw [Nat.add_mul, Nat.one_mul] at h
      have e1 : p / (n + 1) = i := by
        apply Nat.div_eq_of_lt_le
        · omega
        · rw [Nat.add_mul]; omega
      have e2 : p % (n + 1) = p - i * (n + 1) := by
        rw [Nat.mod_def, e1, Nat.mul_comm]
      rw [show rowsL n m (i + 1) = rowsL n m i ++ (List.range (n + 1)).map (fun c => m i c) from rfl, List.getElem?_append_right (by rw [rowsL_length]; omega), rowsL_length, e1, e2]
      simp [show p - i * (n + 1) < n + 1 by omega]
theorem flat_getD (n : Nat) (m : Mat) (p : Nat) (h : p < (n + 1) * (n + 1)) : (flat n m).getD p 0 = m (p / (n + 1)) (p % (n + 1)) := rowsL_getD n m _ p h

theorem at_row {n i j : Nat} (hj : j < n + 1) : (i * (n + 1) + j) / (n + 1) = i ∧ (i * (n + 1) + j) % (n + 1) = j := by
  constructor
  · rw [Nat.mul_comm, Nat.mul_add_div (by omega), Nat.div_eq_of_lt hj, Nat.add_zero]
  · rw [Nat.mul_comm, Nat.mul_add_mod, Nat.mod_eq_of_lt hj]
theorem at_lt {n i j : Nat} (hi : i < n + 1) (hj : j < n + 1) : i * (n + 1) + j < (n + 1) * (n + 1) := by
  have : i * (n + 1) ≤ n * (n + 1) := Nat.mul_le_mul_right _ (by omega)
  rw [Nat.add_mul, Nat.one_mul]; omega
theorem flat_at {n i j : Nat} (m : Mat) (hi : i < n + 1) (hj : j < n + 1) : (flat n m).getD (i * (n + 1) + j) 0 = m i j := by
  rw [flat_getD _ _ _ (at_lt hi hj), (at_row hj).1, (at_row hj).2]
theorem list_ext0 {l k : List Int} (hl : l.length = k.length) (h : ∀ p, p < l.length → l.getD p 0 = k.getD p 0) : l = k := by
  apply List.ext_getElem hl
  intro p h1 h2
  have := h p h1
  simpa [List.getD_eq_getElem?_getD, List.getElem?_eq_getElem h1, List.getElem?_eq_getElem h2] using this
theorem flat_upd {n i j : Nat} (m : Mat) (hi : i < n + 1) (hj : j < n + 1) (v : Int) : (flat n m).set (i * (n + 1) + j) v = flat n (upd m i j v) := by
  apply list_ext0 (by simp [flat_length])
  intro p hp
  simp only [List.length_set, flat_length] at hp
  rw [flat_getD _ _ _ hp, List.getD_eq_getElem?_getD, List.getElem?_set]
  by_cases e : i * (n + 1) + j = p
  · rw [if_pos e, if_pos (by rw [flat_length]; omega)]
    subst e
    simp [upd, (at_row (i := i) hj).1, (at_row (i := i) hj).2]
  · rw [if_neg e, ← List.getD_eq_getElem?_getD, flat_getD _ _ _ hp]
    have : ¬ (p / (n + 1) = i ∧ p % (n + 1) = j) := fun h => e (by rw [← h.1, ← h.2, Nat.mul_comm]; exact Nat.div_add_mod _ _)
    simp [upd, this]
theorem flat_congr {n : Nat} {m o : Mat} (h : ∀ i j, i ≤ n → j ≤ n → m i j = o i j) : flat n m = flat n o := by
  apply list_ext0 (by simp [flat_length])
  intro p hp
  rw [flat_length] at hp
  rw [flat_getD _ _ _ hp, flat_getD _ _ _ hp]
  have h1 : p / (n + 1) < n + 1 := Nat.div_lt_of_lt_mul hp
  have h2 := Nat.mod_lt p (show 0 < n + 1 by omega)
  exact h _ _ (by omega) (by omega)

/-- The diagonal and the first row made at most 1, as far as clock i. -/
def clUp (m : Mat) (i : Nat) : Mat := fun a c => if (a = c ∧ a < i) ∨ (a = 0 ∧ c < i) then min (m a c) 1 else m a c
theorem clUp_zero (m : Mat) : clUp m 0 = m := by funext a c; simp [clUp]
theorem clUp_at (m : Mat) (i : Nat) : clUp m i i i = m i i := by unfold clUp; rw [if_neg (by omega)]
theorem clUp_top (m : Mat) (i : Nat) : clUp m i 0 i = m 0 i := by unfold clUp; rw [if_neg (by omega)]
theorem clUp_step (m : Mat) (i : Nat) : upd (upd (clUp m i) i i (min (clUp m i i i) 1)) 0 i (min (upd (clUp m i) i i (min (clUp m i i i) 1) 0 i) 1) = clUp m (i + 1) := by
  rw [clUp_at]
  funext a c
  by_cases hc : c = i
  · subst hc
    by_cases ha : a = 0
    · subst ha
      by_cases h0 : c = 0
      · subst h0
        simp [upd, clUp]
      · have h0' : ¬ 0 = c := fun h => h0 h.symm
        simp [upd, clUp, h0']
    · by_cases hac : a = c
      · subst hac
        simp [upd, clUp, ha]
      · have : ¬ (a = c ∧ a < c + 1) := fun h => hac h.1
        simp [upd, clUp, ha, hac]
  · have h1 : ¬ (a = 0 ∧ c = i) := fun h => hc h.2
    have h2 : ¬ (a = i ∧ c = i) := fun h => hc h.2
    show (if a = 0 ∧ c = i then _ else (if a = i ∧ c = i then _ else clUp m i a c)) = _
    rw [if_neg h1, if_neg h2]
    unfold clUp
    by_cases h3 : (a = c ∧ a < i) ∨ (a = 0 ∧ c < i)
    · rw [if_pos h3, if_pos (by omega)]
    · rw [if_neg h3, if_neg (by omega)]
theorem clUp_fit {n : Nat} {m : Mat} (h : ∀ i j, i ≤ n → j ≤ n → Bd 1073741824 (m i j)) : Fit n 1073741824 (clUp m (n + 1)) := by
  refine ⟨fun i j hi hj => ?_, fun i hi => ?_⟩
  · unfold clUp; split
    · exact (h i j hi hj).min (.inr (by omega))
    · exact h i j hi hj
  · unfold clUp; rw [if_pos (by omega), Int.min_def]; split <;> omega
/-- The first p wide bounds, narrow. -/
def narUp (l : List Int) : Nat → List Int
  | 0 => []
  | p + 1 => narUp l p ++ [nar (l.getD p 0)]
theorem narUp_length (l : List Int) : ∀ p, (narUp l p).length = p
  | 0 => rfl
  | p + 1 => by simp [narUp, narUp_length l p]
theorem narUp_getD (l : List Int) : ∀ p q, q < p → (narUp l p).getD q 0 = nar (l.getD q 0)
  | 0, q, h => by omega
  | p + 1, q, h => by
    rw [List.getD_eq_getElem?_getD]
    by_cases e : q = p
    · subst e
      rw [show narUp l (q + 1) = narUp l q ++ [nar (l.getD q 0)] from rfl, List.getElem?_append_right (by rw [narUp_length]; omega), narUp_length]
      simp
    · rw [show narUp l (p + 1) = narUp l p ++ [nar (l.getD p 0)] from rfl, List.getElem?_append_left (by rw [narUp_length]; omega), ← List.getD_eq_getElem?_getD]
      exact narUp_getD l p q (by omega)
theorem narUp_flat (n : Nat) (m : Mat) : narUp (flat n m) ((n + 1) * (n + 1)) = flat n (narM n m) := by
  apply list_ext0 (by rw [narUp_length, flat_length])
  intro p hp
  rw [narUp_length] at hp
  have h1 : p / (n + 1) < n + 1 := Nat.div_lt_of_lt_mul hp
  have h2 := Nat.mod_lt p (show 0 < n + 1 by omega)
  rw [narUp_getD _ _ _ hp, flat_getD _ _ _ hp, flat_getD _ _ _ hp]
  unfold narM; rw [if_pos (by omega)]
theorem allR_flat {n : Nat} {m : Mat} (h : ∀ p, p < (n + 1) * (n + 1) → inR ((flat n m).getD p 0)) : allR n m := fun i hi j hj => by
  have := h (i * (n + 1) + j) (at_lt (by omega) (by omega))
  rwa [flat_at m (by omega) (by omega)] at this
theorem allR_at {n : Nat} {m : Mat} (h : allR n m) {p : Nat} (hp : p < (n + 1) * (n + 1)) : inR ((flat n m).getD p 0) := by
  have h1 : p / (n + 1) < n + 1 := Nat.div_lt_of_lt_mul hp
  have h2 := Nat.mod_lt p (show 0 < n + 1 by omega)
  rw [flat_getD _ _ _ hp]
  exact h _ (by omega) _ (by omega)

end Go.Proofs.YtmelblnflalanaaGreat

/- Words for matrices that lie in memory: a block that holds a number and 81 cells. -/
namespace Go.Proofs.YtmelblnflalanaaGreat
open Go.RowKit

/-- The cells of a block: the number of clocks, then nine rows of nine. -/
def matCells (k : IntKind) (n : Nat) (m : Mat) : Array Value :=
  (Value.int .i64 n :: (List.range 81).map fun p => Value.int k (m (p / 9) (p % 9))).toArray

/-- Block b holds a matrix. -/
def MatAt (w : World) (b : Nat) (T : TypeId) (k : IntKind) (n : Nat) (m : Mat) : Prop :=
  w.heap[b]? = some (.cells (matCells k n m) T (0, 0))

theorem matCells_size (k : IntKind) (n : Nat) (m : Mat) : (matCells k n m).size = 82 := by simp [matCells]

theorem matCells_head (k : IntKind) (n : Nat) (m : Mat) : (matCells k n m)[0]? = some (.int .i64 n) := by simp [matCells]

theorem matCells_get (k : IntKind) (n : Nat) (m : Mat) (p : Nat) (hp : p < 81) : (matCells k n m)[p + 1]? = some (.int k (m (p / 9) (p % 9))) := by
  simp [matCells, hp]

theorem matCells_set (k : IntKind) (n : Nat) (m : Mat) (i j : Nat) (hi : i < 9) (hj : j < 9) (v : Int) :
    (matCells k n m).setIfInBounds (1 + i * 9 + j) (.int k v) = matCells k n (upd m i j v) := by
  apply Array.ext_getElem?
  intro q
  rw [Array.getElem?_setIfInBounds]
  match q with
  | 0 => rw [if_neg (by omega), matCells_head, matCells_head]
  | p + 1 =>
    by_cases hp : p < 81
    · rw [matCells_get _ _ _ _ hp, matCells_get _ _ _ _ hp]
      by_cases e : 1 + i * 9 + j = p + 1
      · rw [if_pos e, if_pos (by rw [matCells_size]; omega)]
        have h1 : p / 9 = i := by omega
        have h2 : p % 9 = j := by omega
        simp [upd, h1, h2]
      · rw [if_neg e]
        have : ¬ (p / 9 = i ∧ p % 9 = j) := by omega
        simp [upd, this]
    · rw [if_neg (by omega), Array.getElem?_eq_none (by rw [matCells_size]; omega), Array.getElem?_eq_none (by rw [matCells_size]; omega)]

section
variable {w : World} {b : Nat} {T : TypeId} {k : IntKind} {n : Nat} {m : Mat}
theorem MatAt.lt (h : MatAt w b T k n m) : b < w.heap.size := (Array.getElem?_eq_some_iff.1 h).1
theorem MatAt.head (h : MatAt w b T k n m) : w.cell? ⟨b, 0, none⟩ = some (.int .i64 n) := by
  unfold MatAt at h
  simp [World.cell?, h, matCells_head]
theorem MatAt.cell (h : MatAt w b T k n m) (i j : Nat) (hi : i < 9) (hj : j < 9) : w.cell? ⟨b, 1 + i * 9 + j, none⟩ = some (.int k (m i j)) := by
  unfold MatAt at h
  have e : 1 + i * 9 + j = (i * 9 + j) + 1 := by omega
  have h1 : (i * 9 + j) / 9 = i := by omega
  have h2 : (i * 9 + j) % 9 = j := by omega
  simp [World.cell?, h, e, matCells_get _ _ _ _ (show i * 9 + j < 81 by omega), h1, h2]
theorem MatAt.frozen (h : MatAt w b T k n m) (o : Nat) : w.frozen? ⟨b, o, none⟩ = false := by
  unfold MatAt at h
  simp [World.frozen?, h]
theorem MatAt.set (h : MatAt w b T k n m) (i j : Nat) (hi : i < 9) (hj : j < 9) (v : Int) : MatAt (w.setCell ⟨b, 1 + i * 9 + j, none⟩ (.int k v)) b T k n (upd m i j v) := by
  unfold MatAt at h ⊢
  simp only [World.setCell, Array.getElem?_modify, if_true, h, Option.map_some]
  simp [matCells_set, hi, hj]
theorem MatAt.below {B : Nat} {w' : World} (h : MatAt w b T k n m) (hb : Below B w w') (hB : b < B) : MatAt w' b T k n m := (hb.block b hB).trans h
theorem MatAt.later {w' : World} (h : MatAt w b T k n m) (hb : Below w.heap.size w w') : MatAt w' b T k n m := h.below hb h.lt
theorem MatAt.drew (h : MatAt w b T k n m) : MatAt w.drew b T k n m := h
theorem MatAt.drewN (h : MatAt w b T k n m) (q : Nat) : MatAt (w.drewN q) b T k n m := h
theorem MatAt.alloc (h : MatAt w b T k n m) (o : Obj) : MatAt (w.alloc o) b T k n m := h.later ((Below.refl _ _).alloc (Nat.le_refl _) o)
end

/-- What was there is as it was, but for block b. -/
def Only (b : Nat) (w w' : World) : Prop := w.grownBy w' (some b)
theorem Only.refl (b : Nat) (w : World) : Only b w w := ⟨rfl, rfl, rfl, Nat.le_refl _, fun _ _ _ => rfl⟩
theorem Only.trans {b : Nat} {w w1 w2 : World} (h : Only b w w1) (k : Only b w1 w2) : Only b w w2 :=
  ⟨k.os.trans h.os, k.tape.trans h.tape, k.output.trans h.output, Nat.le_trans h.size k.size, fun i hi hne => (k.block i (Nat.lt_of_lt_of_le hi h.size) hne).trans (h.block i hi hne)⟩
theorem Only.setCell {b : Nat} {w w' : World} (h : Only b w w') (o : Nat) (v : Value) : Only b w (w'.setCell ⟨b, o, none⟩ v) :=
  h.trans ⟨rfl, rfl, rfl, by simp [World.setCell], fun k _ hk => Below.heap_setCell _ _ _ _ (fun e => hk (by rw [e]))⟩
theorem Only.drew {b : Nat} {w w' : World} (h : Only b w w') : Only b w w'.drew := ⟨h.os, h.tape, h.output, h.size, h.block⟩
theorem Only.drewN {b : Nat} {w w' : World} (h : Only b w w') (q : Nat) : Only b w (w'.drewN q) := ⟨h.os, h.tape, h.output, h.size, h.block⟩
theorem Only.alloc {b : Nat} {w w' : World} (h : Only b w w') (o : Obj) : Only b w (w'.alloc o) := h.trans (World.grownBy_alloc _ _ _)
theorem Only.andThen {b c : Nat} {w w1 w2 : World} (h : Only b w w1) (k : Only c w1 w2) (hc : w.heap.size ≤ c) : Only b w w2 :=
  ⟨k.os.trans h.os, k.tape.trans h.tape, k.output.trans h.output, Nat.le_trans h.size k.size, fun i hi hne => (k.block i (Nat.lt_of_lt_of_le hi h.size) (by simp; omega)).trans (h.block i hi hne)⟩
theorem Only.below {b B : Nat} {w w' : World} (h : Only b w w') (hb : B ≤ b) (hB : B ≤ w.heap.size) : Below B w w' :=
  ⟨h.os, h.tape, h.output, h.size, fun k hk => h.block k (by omega) (by simp; omega)⟩
theorem belowN {B : Nat} {w w' : World} (h : Below B w w') (q : Nat) : Below B w (w'.drewN q) := ⟨h.os, h.tape, h.output, h.size, h.block⟩
theorem MatAt.only {w w' : World} {b c : Nat} {T : TypeId} {k : IntKind} {n : Nat} {m : Mat} (h : MatAt w c T k n m) (ho : Only b w w') (hne : c ≠ b) : MatAt w' c T k n m :=
  (ho.block c h.lt (by simp [hne])).trans h

/-- A zone, or nil. -/
def ZoneV (T : TypeId) (w : World) (v : Value) : Option (Nat × Mat) → Prop
  | none => v = .pointer none
  | some (n, m) => ∃ b, v = .pointer (some ⟨b, 0, none⟩) ∧ n ≤ 8 ∧ RightM n m ∧ MatAt w b T .i32 n m
theorem ZoneV.below {T : TypeId} {w w' : World} {v : Value} {z : Option (Nat × Mat)} (h : ZoneV T w v z) (hb : Below w.heap.size w w') : ZoneV T w' v z := by
  match z, h with
  | none, h => exact h
  | some (n, m), ⟨b, h1, hn, hr, h2⟩ => exact ⟨b, h1, hn, hr, h2.later hb⟩

/-- One part laid over all cells. -/
theorem foldl_set (l : List Value) : ∀ (o : Nat) (z : Array Value), o + l.length = z.size →
    ((l.zipIdx o).foldl (fun cs (c : Value × Nat) => cs.setIfInBounds (0 + c.2) c.1) z).toList = z.toList.take o ++ l := by
  induction l with
  | nil => intro o z h; simp at h; subst h; simp [← Array.length_toList]
  | cons x l ih =>
    intro o z h
    simp only [List.length_cons] at h
    simp only [List.zipIdx_cons, List.foldl_cons]
    rw [ih (o + 1) _ (by simp; omega)]
    simp only [Nat.zero_add, Array.toList_setIfInBounds]
    rw [List.take_set, List.take_add_one, List.set_append_right _ _ (by simp; omega)]
    have e : z.toList[o]? = some z[o] := by simp
    simp [e, Nat.min_eq_left (show o ≤ z.size by omega)]
theorem fill_whole (c z : Array Value) (h : c.size = z.size) : Instr.fill (fun i => (#[(0, z.size)] : Array (Nat × Nat))[i]?) z [(0, .agg c)] = some c := by
  have e : (Value.agg c).cells = c := rfl
  have hf := foldl_set c.toList 0 z (by simpa using h)
  simp only [Instr.fill, List.getElem?_toArray, List.getElem?_cons_zero, e]
  rw [if_neg (by simp [h])]
  congr 1
  rw [← Array.toList_inj, ← Array.foldl_toList, Array.toList_zipIdx]
  simpa using hf
theorem lay_whole (c z : Array Value) (h : c.size = z.size) : Array.foldl (fun (cs : Array Value) (x : Value × Nat) => cs.setIfInBounds x.snd x.fst) z c.zipIdx 0 c.size = c := by
  have hf := foldl_set c.toList 0 z (by simpa using h)
  have e : c.size = c.zipIdx.size := by simp
  rw [e, ← Array.toList_inj, ← Array.foldl_toList, Array.toList_zipIdx]
  simpa using hf
theorem build_whole {P : Program} (t : TypeId) (z c : Array Value) (fs : Array Field) (w : World) (hz : (zeroValue t).run P w = .ok (.agg z) w) (hu : P.underlying t = some (.struct fs))
    (hp : (fs.mapM fun (f : Field) => (do pure (f.offset, ← sizeOf f.type) : Sem (Nat × Nat))).run P w = .ok #[(0, z.size)] w) (hc : c.size = z.size) : (Instr.build t #[(0, .agg c)]).run P w = .ok (.agg c) w := by
  have e : (Value.agg z).cells = z := rfl
  have hf := fill_whole c z hc
  simp only [Instr.build, Sem.run_bind, hz, e, run_underlying hu, Result.andThen_ok, hp, hf, Sem.run_pure]

/-- A slice of numbers that can be read. -/
def Ints (w : World) (k : IntKind) (A : Option Addr) (xs : List Int) : Prop :=
  ∀ j, j < xs.length → ∃ b off, A = some ⟨b, off, none⟩ ∧ w.cell? ⟨b, off + j, none⟩ = some (.int k (xs.getD j 0))
theorem Ints.below {w w' : World} {k : IntKind} {A : Option Addr} {xs : List Int} (h : Ints w k A xs) (hb : Below w.heap.size w w') : Ints w' k A xs := fun j hj => by
  obtain ⟨b, off, e, hc⟩ := h j hj
  exact ⟨b, off, e, (hb.cell (p := ⟨b, off + j, none⟩) (World.block_lt_of_cell? w _ hc)).trans hc⟩
/-- A slice of bounds of differences that can be read: three cells each. -/
def Lims (w : World) (A : Option Addr) (xs : List (Int × Int × Int)) : Prop :=
  ∀ j, j < xs.length → ∃ b off, A = some ⟨b, off, none⟩ ∧ w.cell? ⟨b, off + j * 3, none⟩ = some (.int .i64 (xs.getD j (0, 0, 0)).1) ∧
    w.cell? ⟨b, off + j * 3 + 1, none⟩ = some (.int .i64 (xs.getD j (0, 0, 0)).2.1) ∧ w.cell? ⟨b, off + j * 3 + 2, none⟩ = some (.int .i32 (xs.getD j (0, 0, 0)).2.2)
theorem Lims.below {w w' : World} {A : Option Addr} {xs : List (Int × Int × Int)} (h : Lims w A xs) (hb : Below w.heap.size w w') : Lims w' A xs := fun j hj => by
  obtain ⟨b, off, e, h1, h2, h3⟩ := h j hj
  exact ⟨b, off, e, (hb.cell (p := ⟨b, _, none⟩) (World.block_lt_of_cell? w _ h1)).trans h1, (hb.cell (p := ⟨b, _, none⟩) (World.block_lt_of_cell? w _ h2)).trans h2, (hb.cell (p := ⟨b, _, none⟩) (World.block_lt_of_cell? w _ h3)).trans h3⟩
theorem idx_div (p n : Nat) : (p : Int) / ((n : Int) + 1) = ((p / (n + 1) : Nat) : Int) := by simp
theorem idx_mod (p n : Nat) : (p : Int) % ((n : Int) + 1) = ((p % (n + 1) : Nat) : Int) := by simp

theorem wrap_tdiv (p n : Nat) (hp : p ≤ 1000000) : IntKind.i64.wrap ((p : Int).tdiv ((n : Int) + 1)) = ((p / (n + 1) : Nat) : Int) := by
  have e : (p : Int).tdiv ((n : Int) + 1) = ((p / (n + 1) : Nat) : Int) := by
    rw [Int.tdiv_eq_ediv_of_nonneg (by omega), idx_div]
  rw [e, IntKind.wrap_i64]
  have : p / (n + 1) ≤ p := Nat.div_le_self _ _
  generalize p / (n + 1) = q at this ⊢
  omega
theorem wrap_tmod (p n : Nat) (hp : p ≤ 1000000) : IntKind.i64.wrap ((p : Int).tmod ((n : Int) + 1)) = ((p % (n + 1) : Nat) : Int) := by
  have e : (p : Int).tmod ((n : Int) + 1) = ((p % (n + 1) : Nat) : Int) := by
    rw [Int.tmod_eq_emod_of_nonneg (by omega), idx_mod]
  rw [e, IntKind.wrap_i64]
  have : p % (n + 1) ≤ p := Nat.mod_le _ _
  generalize p % (n + 1) = q at this ⊢
  omega

def vals (k : IntKind) (xs : List Int) : List Value := xs.map fun x => .int k x
/-- A row of numbers of the call's own. -/
def OwnI (w : World) (base : Nat) (e : TypeId) (k : IntKind) (v : Value) (xs : List Int) : Prop := w.ownsRow base e 1 v xs.length (vals k xs)
/-- Block g begins with these numbers. -/
def RowAt (w : World) (g : Nat) (e : TypeId) (k : IntKind) (xs : List Int) : Prop :=
  ∃ cur : Array Value, w.heap[g]? = some (.cells cur e (0, 0)) ∧ cur.toList.take xs.length = vals k xs
section
variable {w : World} {g : Nat} {e : TypeId} {k : IntKind} {xs : List Int}
theorem RowAt.lt (h : RowAt w g e k xs) : g < w.heap.size := by obtain ⟨cur, h1, _⟩ := h; exact (Array.getElem?_eq_some_iff.1 h1).1
theorem RowAt.cell (h : RowAt w g e k xs) (p : Nat) (hp : p < xs.length) : w.cell? ⟨g, p, none⟩ = some (.int k (xs.getD p 0)) := by
  obtain ⟨cur, h1, h2⟩ := h
  have e1 : cur.toList[p]? = (vals k xs)[p]? := by rw [← h2, List.getElem?_take, if_pos hp]
  have e2 : (vals k xs)[p]? = some (.int k (xs.getD p 0)) := by
    simp [vals, List.getElem?_eq_getElem hp, List.getD_eq_getElem?_getD]
  rw [World.cell?, h1]
  simp only [Option.isSome_none, Bool.false_eq_true, if_false]
  rw [← Array.getElem?_toList, e1, e2]
theorem RowAt.frozen (h : RowAt w g e k xs) (o : Nat) : w.frozen? ⟨g, o, none⟩ = false := by
  obtain ⟨cur, h1, _⟩ := h
  simp [World.frozen?, h1]
theorem RowAt.set (h : RowAt w g e k xs) (p : Nat) (v : Int) : RowAt (w.setCell ⟨g, p, none⟩ (.int k v)) g e k (xs.set p v) := by
  obtain ⟨cur, h1, h2⟩ := h
  refine ⟨cur.setIfInBounds p (.int k v), ?_, ?_⟩
  · simp only [World.setCell, Array.getElem?_modify, if_true, h1, Option.map_some]
    simp
  · rw [Array.toList_setIfInBounds, List.length_set, List.take_set, h2]
    simp [vals, List.map_set]
theorem RowAt.below {B : Nat} {w' : World} (h : RowAt w g e k xs) (hb : Below B w w') (hB : g < B) : RowAt w' g e k xs := by
  obtain ⟨cur, h1, h2⟩ := h
  exact ⟨cur, (hb.block g hB).trans h1, h2⟩
theorem RowAt.later {w' : World} (h : RowAt w g e k xs) (hb : Below w.heap.size w w') : RowAt w' g e k xs := h.below hb h.lt
theorem RowAt.only {w' : World} {c : Nat} (h : RowAt w g e k xs) (ho : Only c w w') (hne : g ≠ c) : RowAt w' g e k xs := by
  have hlt := h.lt
  obtain ⟨cur, h1, h2⟩ := h
  exact ⟨cur, (ho.block g hlt (by simp [hne])).trans h1, h2⟩
theorem RowAt.drewN (h : RowAt w g e k xs) (q : Nat) : RowAt (w.drewN q) g e k xs := h
theorem RowAt.drew (h : RowAt w g e k xs) : RowAt w.drew g e k xs := h
theorem RowAt.ints (h : RowAt w g e k xs) : Ints w k (some ⟨g, 0, none⟩) xs := fun j hj => ⟨g, 0, rfl, by rw [Nat.zero_add]; exact h.cell j hj⟩
end
theorem row_vals {w : World} {g : Nat} {e : TypeId} {k : IntKind} {xs : List Int} (h : RowAt w g e k xs) : ∀ j u, (vals k xs)[j]? = some u → w.cell? ((⟨g, 0, none⟩ : Addr).add j) = some u := by
  intro j u hu
  have ha : (⟨g, 0, none⟩ : Addr).add j = ⟨g, j, none⟩ := by unfold Addr.add; split <;> simp_all
  rw [ha]
  by_cases hj : j < xs.length
  · rw [h.cell j hj, ← hu]
    simp [vals, List.getElem?_eq_getElem hj, List.getD_eq_getElem?_getD]
  · simp [vals, hj] at hu

/-- A row of the call's own that is not empty. -/
theorem OwnI.row {w : World} {base : Nat} {e : TypeId} {k : IntKind} {v : Value} {xs : List Int} (h : OwnI w base e k v xs) (hne : 0 < xs.length) :
    ∃ g cap, v = .slice (some ⟨g, 0, none⟩) xs.length cap ∧ base ≤ g ∧ RowAt w g e k xs := by
  rcases h.2 with ⟨_, h0⟩ | ⟨g, cap, cur, hv, hg, hh, _, _, _, ht⟩
  · omega
  · exact ⟨g, cap, hv, hg, cur, hh, by simpa using ht⟩
theorem OwnI.later {w w' : World} {base : Nat} {e : TypeId} {k : IntKind} {v : Value} {xs : List Int} (h : OwnI w base e k v xs) (hb : Below w.heap.size w w') : OwnI w' base e k v xs := by
  have hg : w.grownBy w' none := ⟨hb.os, hb.tape, hb.output, hb.size, fun i hi _ => hb.block i hi⟩
  exact World.ownsRow.kept h hg (by cases v.ownBlock <;> simp)
/-- Any row of the call's own is a slice that can be read. -/
theorem OwnI.slice {w : World} {base : Nat} {e : TypeId} {k : IntKind} {v : Value} {xs : List Int} (h : OwnI w base e k v xs) : ∃ A cap, v = .slice A xs.length cap ∧ Ints w k A xs := by
  by_cases hne : 0 < xs.length
  · obtain ⟨g, cap, hv, _, hr⟩ := h.row hne
    exact ⟨_, cap, hv, hr.ints⟩
  · have e0 : xs = [] := List.eq_nil_of_length_eq_zero (by omega)
    subst e0
    rcases h.2 with ⟨hv, _⟩ | ⟨g, cap, cur, hv, _⟩
    · exact ⟨none, 0, hv, fun j hj => by simp at hj⟩
    · exact ⟨_, cap, hv, fun j hj => by simp at hj⟩

theorem min_ints (ats : Array TypeId) (ty : TypeId) (k k' : IntKind) (x y : Int) : Builtin.min_ ats ty #[.int k x, .int k' y] = pure (.int k (min x y)) := by
  simp only [Builtin.min_, List.foldlM_cons, List.foldlM_nil, Builtin.min2]
  by_cases h : y < x
  · simp [h, Int.min_def, show ¬ x ≤ y by omega]
  · simp [h, Int.min_def, show x ≤ y by omega]
theorem max_ints (ats : Array TypeId) (ty : TypeId) (k k' : IntKind) (x y : Int) : Builtin.max_ ats ty #[.int k x, .int k' y] = pure (.int k (max x y)) := by
  simp only [Builtin.max_, List.foldlM_cons, List.foldlM_nil, Builtin.max2]
  by_cases h : x < y
  · simp [h, Int.max_def, show x ≤ y by omega]
  · by_cases e : x = y
    · simp [e]
    · simp [h, Int.max_def, show ¬ x ≤ y by omega]

end Go.Proofs.YtmelblnflalanaaGreat

/- How a law's call ends: it tells true, and what came in reads as before. -/
namespace Go.Proofs.YtmelblnflalanaaGreat
open Go Go.ChangeShapes Go.WideShapes Go.ChangeAt Go.RowKit
set_option linter.unusedVariables false
set_option linter.unusedSimpArgs false

section
variable {H : Type} {enc : TypeId × Value → H} {P : Program} {W W' : World}
/-- All that came in reads as before, where below the old heap's size nothing has turned. -/
theorem stays_all (hl : laidOutB P = true) {sp : Nat → Bool} : ∀ {ts : List TypeId} {vs : List Value} {ds : List (DataW H)} {ps : List MemPlace},
    (∀ t ∈ ts, P.readableRec t = true ∧ t < P.types.size) → DataW.TrodAll enc P W 0 (fun _ => true) true ts vs ds ps → (∀ p ∈ ps, W.sameAt W' p) → (∀ p ∈ ps, sp p.block = true) →
    DataW.TrodAll enc P W' 0 sp true ts vs ds ps
  | [], [], [], _, _, h, _, _ => h
  | t :: _, _ :: _, _ :: _, _, ht, ⟨p, q, h1, h2, e⟩, hk, hs =>
    ⟨p, q, WideElems.Trod_stays hl (ht t (List.mem_cons.2 (.inl rfl))).1 (ht t (List.mem_cons.2 (.inl rfl))).2 h1 (fun x hx => hk x (by rw [e]; exact List.mem_append_left _ hx)) (fun x hx => hs x (by rw [e]; exact List.mem_append_left _ hx)),
      stays_all hl (fun t ht' => ht t (List.mem_cons.2 (.inr ht'))) h2 (fun x hx => hk x (by rw [e]; exact List.mem_append_right _ hx)) (fun x hx => hs x (by rw [e]; exact List.mem_append_right _ hx)), e⟩

/-- The post of a law's row, out of true and Below. -/
theorem law_post {f : Func} {s : ChangeSpec} {args : Array Value} {ds gs : List (DataW H)} {before : List MemPlace} {tb : TypeId} {apart fresh handsOn again : Bool}
    (hl : laidOutB P = true) (hr : ∀ t ∈ f.params.toList, P.readableRec t = true ∧ t < P.types.size) (hv : s.vars = [])
    (hres : f.resultTypes = #[tb]) (hb : P.underlying tb = some .bool) (hfn : s.fn H (ds ++ gs) = { results := [.lit (.bool true)], args := ds })
    (hW : DataW.Whole enc P f.params.toList s.vars apart W args.toList ds gs before) (hbel : Below W.heap.size W W') :
    s.post enc P f apart fresh handsOn again W args (.bool true) W' := by
  have hlt := hW.lt
  have hW' := hW
  obtain ⟨p, q, hA, hV, rfl, hz, hn⟩ := hW'
  rw [hv] at hV
  obtain ⟨rfl, rfl⟩ := trodVars_none hV
  simp only [List.append_nil] at hW hlt hz hn hfn
  have hargs : ∀ sp : Nat → Bool, (∀ x ∈ p, sp x.block = true) → DataW.TrodAll enc P W' 0 sp true f.params.toList args.toList ds p :=
    fun sp hs => stays_all hl hr hA (fun x hx => hbel.same (hlt x hx)) hs
  have hone : ∀ (b : Nat) (sp : Nat → Bool) (hd : Bool), DataW.TrodAll enc P W' b sp hd f.resultTypes.toList ((Value.bool true).resultList f.resultTypes.size) [.lit (.bool true)] [] := by
    intro b sp hd
    rw [hres]
    exact trodAll_mk1 (shut_bool hb true)
  have hvars : ∀ sp : Nat → Bool, DataW.TrodVars enc P W' sp s.vars ([] : List (DataW H)) [] := by
    intro sp
    rw [hv]
    rfl
  refine ⟨ds, [], p, [], p, [], hW, ?_, ?_, ?_, hbel.frame _, fun _ => ⟨ok_one hres rfl (okWide_bool_mk hb true), ?_⟩⟩
  · simp only [List.append_nil, hfn]; exact hone _ _ _
  · simp only [List.append_nil, hfn]; exact hargs _ (fun x hx => by simpa using hlt x hx)
  · simp only [List.append_nil, hfn]; exact hvars _
  · refine ⟨[.lit (.bool true)] ++ ds, [], [] ++ p, ⟨[] ++ p, [], trodAll_append (hargs _ (fun _ _ => rfl)) (hone _ _ _), hvars _, by simp, ?_, ?_⟩, ?_⟩
    · intro b off hp
      have hp' : MemPlace.cell b off ∈ p := by simpa using hp
      rw [hbel.frozen (p := ⟨b, off, none⟩) (hlt _ hp')]
      exact hz b off hp'
    · intro ha
      simpa using hn ha
    · intro x hx _
      simpa using hx

/-- A slice of numbers that came in. -/
theorem came_row {t e : TypeId} {k : IntKind} {v : Value} {d : DataW H} {ps : List MemPlace} {r : Reach} {base : Nat} (ht : P.underlying t = some (.slice e)) (he : P.underlying e = some (.int k)) (hc : P.cellsOf e = 1)
    (hval : Value.okWide P W r base t v) (h : DataW.Trod enc P W 0 (fun _ => true) true t v d ps) :
    ∃ A c xs, v = .slice A xs.length c ∧ Ints W k A xs ∧ (∀ n ∈ xs, (Lit.int k n).wf = true) ∧ (xs = [] ∨ ∃ el sp, d = .slice el sp ∧ el.length = xs.length) := by
  obtain ⟨a0, len, cap, rfl⟩ := okWide_slice ht hval
  obtain ⟨fuel, hf⟩ := h
  rcases open_ints ht he hc hf with ⟨hcs, hx⟩ | ⟨a, len', cap', zs, hcs, _, hle, hmax, hall, hx, hcell, hwf⟩
  · simp [Value.cells] at hcs
    obtain ⟨rfl, rfl, rfl⟩ := hcs
    exact ⟨none, 0, [], rfl, fun j hj => by simp at hj, by simp, .inl rfl⟩
  · simp [Value.cells] at hcs
    obtain ⟨rfl, rfl, rfl⟩ := hcs
    have hz : zs.length = cap := by simpa using hall
    simp only [Prod.mk.injEq] at hx
    refine ⟨some a, cap, zs.take len, by rw [List.length_take]; congr 1; omega, ?_, fun n hn => hwf n (List.mem_of_mem_take hn), .inr ⟨_, _, hx.1, by simp [lits]⟩⟩
    intro j hj
    rw [List.length_take] at hj
    obtain ⟨b, off, rfl, hcell'⟩ := ints_at hcell (by omega)
    refine ⟨b, off, rfl, ?_⟩
    rw [hcell' j (by omega)]
    congr 2
    simp [List.getD_eq_getElem?_getD, List.getElem?_take, show j < len by omega]
/-- Its length is within what the machine can hold. -/
theorem came_short {ts : List TypeId} {ds : List (DataW H)} {j : Nat} {t e : TypeId} {d : DataW H} {xs : List Int} {m : Nat} (hsz : (DataW.weightsEach P ts ds).all (· ≤ reachBytes) = true) (ht : ts[j]? = some t) (hd : ds[j]? = some d)
    (hu : P.underlying t = some (.slice e)) (hm : P.bytesOf e = m) (hm1 : 1 ≤ m) (h : xs = [] ∨ ∃ el sp, d = .slice el sp ∧ el.length = xs.length) : xs.length * m ≤ 140737488351232 := by
  rcases h with rfl | ⟨el, sp, rfl, he⟩
  · simp
  · have h1 := sized_slice hsz ht hd hu
    rw [hm] at h1
    have h2 : el.length * m ≤ (el.length + sp.length) * m := Nat.mul_le_mul_right _ (by omega)
    rw [← he]
    exact Nat.le_trans h2 h1
/-- The bounds of 32 bits. -/
theorem came_i32 {xs : List Int} (h : ∀ n ∈ xs, (Lit.int .i32 n).wf = true) : ∀ q, q < xs.length → -2147483648 ≤ xs.getD q 0 ∧ xs.getD q 0 ≤ 2147483647 := by
  intro q hq
  have h1 := h (xs.getD q 0) (by rw [List.getD_eq_getElem?_getD, List.getElem?_eq_getElem hq]; exact List.getElem_mem hq)
  exact bounds_i32 h1
/-- A pair of numbers that came in. -/
theorem came_pair {t e : TypeId} {k : IntKind} {v : Value} {d : DataW H} {ps : List MemPlace} {r : Reach} {base : Nat} (ht : P.underlying t = some (.array 2 e)) (he : P.underlying e = some (.int k)) (hc : P.cellsOf e = 1) (hct : P.cellsOf t = 2)
    (hval : Value.okWide P W r base t v) (h : DataW.Trod enc P W 0 (fun _ => true) true t v d ps) :
    ∃ x y, v = .agg #[.int k x, .int k y] ∧ (Lit.int k x).wf = true ∧ (Lit.int k y).wf = true := by
  obtain ⟨cs, rfl, hsz, _⟩ : ∃ cs, v = .agg cs ∧ cs.size = P.cellsOf t ∧ Row.okWide P W r base t cs := by
    simpa [Value.okWide, ht] using hval
  rw [hct] at hsz
  obtain ⟨l⟩ := cs
  match l, hsz with
  | [a, b], _ =>
    obtain ⟨fuel, hf⟩ := h
    obtain ⟨xs, m, _, hx, hlen, hn, hel⟩ := DataW.trod_array ht hf
    have h0 := hel 0 (by omega)
    have h1 := hel 1 (by omega)
    simp [Value.cells, hc] at h0 h1
    rw [List.getElem?_eq_getElem (by omega)] at h0 h1
    obtain ⟨x, e0, _, w0⟩ := DataW.trod_int he h0
    obtain ⟨y, e1, _, w1⟩ := DataW.trod_int he h1
    simp at e0 e1
    subst e0 e1
    exact ⟨x, y, rfl, w0, w1⟩
end

end Go.Proofs.YtmelblnflalanaaGreat

/- How arrays of rows of numbers, and structs of rows and numbers, come in. -/
namespace Go.Proofs.YtmelblnflalanaaGreat
open Go Go.ChangeShapes Go.WideShapes Go.ChangeAt Go.RowKit Go.Deep
set_option linter.unusedVariables false
set_option linter.unusedSimpArgs false

/-- What a row's datum says of its length. -/
def RowD {H : Type} (d : DataW H) (xs : List Int) : Prop := xs = [] ∨ ∃ el sp, d = .slice el sp ∧ el.length = xs.length
section
variable {H : Type} {enc : TypeId × Value → H} {P : Program} {W W' : World}
theorem row_opened {t e : TypeId} {k : IntKind} {v : Value} {fuel : Nat} {x : DataW H × List MemPlace} (ht : P.underlying t = some (.slice e)) (he : P.underlying e = some (.int k)) (hc : P.cellsOf e = 1)
    (h : DataW.trod enc P W 0 (fun _ => true) true fuel t [v] = some x) :
    ∃ A c xs, v = .slice A xs.length c ∧ Ints W k A xs ∧ (∀ n ∈ xs, (Lit.int k n).wf = true) ∧ RowD x.1 xs := by
  rcases open_ints ht he hc h with ⟨hcs, _⟩ | ⟨a, len, cap, zs, hcs, _, hle, hmax, hall, hx, hcell, hwf⟩
  · simp only [List.cons.injEq, and_true] at hcs
    subst hcs
    exact ⟨none, 0, [], rfl, fun j hj => by simp at hj, by simp, .inl rfl⟩
  · simp only [List.cons.injEq, and_true] at hcs
    subst hcs
    have hz : zs.length = cap := by simpa using hall
    have hlen : (zs.take len).length = len := by rw [List.length_take]; omega
    refine ⟨some a, cap, zs.take len, by rw [hlen], ?_, fun n hn => hwf n (List.mem_of_mem_take hn), .inr ⟨_, _, by rw [hx], by simp [lits]⟩⟩
    intro j hj
    rw [hlen] at hj
    obtain ⟨b, off, rfl, hcell'⟩ := ints_at hcell (by omega)
    refine ⟨b, off, rfl, ?_⟩
    rw [hcell' j (by omega)]
    congr 2
    simp [List.getD_eq_getElem?_getD, List.getElem?_take, hj]
theorem came_rows2 {t e f : TypeId} {k : IntKind} {v : Value} {d : DataW H} {ps : List MemPlace} {r : Reach} {base : Nat} (ht : P.underlying t = some (.array 2 e)) (he : P.underlying e = some (.slice f)) (hf : P.underlying f = some (.int k)) (hc : P.cellsOf e = 1) (hcf : P.cellsOf f = 1) (hct : P.cellsOf t = 2)
    (hval : Value.okWide P W r base t v) (h : DataW.Trod enc P W 0 (fun _ => true) true t v d ps) :
    ∃ A0 c0 l0 A1 c1 l1 d0 d1, v = .agg #[.slice A0 l0.length c0, .slice A1 l1.length c1] ∧ Ints W k A0 l0 ∧ Ints W k A1 l1 ∧ (∀ n ∈ l0, (Lit.int k n).wf = true) ∧ (∀ n ∈ l1, (Lit.int k n).wf = true) ∧ d = .agg [d0, d1] ∧ RowD d0 l0 ∧ RowD d1 l1 := by
  obtain ⟨cs, rfl, hsz, _⟩ : ∃ cs, v = .agg cs ∧ cs.size = P.cellsOf t ∧ Row.okWide P W r base t cs := by
    simpa [Value.okWide, ht] using hval
  rw [hct] at hsz
  obtain ⟨l⟩ := cs
  match l, hsz with
  | [a, b], _ =>
    obtain ⟨fuel, hfu⟩ := h
    obtain ⟨xs, m, _, hx, hlen, hn, hel⟩ := DataW.trod_array ht hfu
    have h0 := hel 0 (by omega)
    have h1 := hel 1 (by omega)
    simp [Value.cells, hc] at h0 h1
    rw [List.getElem?_eq_getElem (by omega)] at h0 h1
    obtain ⟨A0, c0, l0, e0, i0, w0, r0⟩ := row_opened he hf hcf h0
    obtain ⟨A1, c1, l1, e1, i1, w1, r1⟩ := row_opened he hf hcf h1
    subst e0 e1
    match xs, hn with
    | [y0, y1], _ =>
      simp only [Prod.mk.injEq] at hx
      exact ⟨A0, c0, l0, A1, c1, l1, y0.1, y1.1, rfl, i0, i1, w0, w1, hx.1, r0, r1⟩
theorem came_rows3 {t e f : TypeId} {k : IntKind} {v : Value} {d : DataW H} {ps : List MemPlace} {r : Reach} {base : Nat} (ht : P.underlying t = some (.array 3 e)) (he : P.underlying e = some (.slice f)) (hf : P.underlying f = some (.int k)) (hc : P.cellsOf e = 1) (hcf : P.cellsOf f = 1) (hct : P.cellsOf t = 3)
    (hval : Value.okWide P W r base t v) (h : DataW.Trod enc P W 0 (fun _ => true) true t v d ps) :
    ∃ A0 c0 l0 A1 c1 l1 A2 c2 l2 d0 d1 d2, v = .agg #[.slice A0 l0.length c0, .slice A1 l1.length c1, .slice A2 l2.length c2] ∧ Ints W k A0 l0 ∧ Ints W k A1 l1 ∧ Ints W k A2 l2 ∧ (∀ n ∈ l0, (Lit.int k n).wf = true) ∧ (∀ n ∈ l1, (Lit.int k n).wf = true) ∧ (∀ n ∈ l2, (Lit.int k n).wf = true) ∧ d = .agg [d0, d1, d2] ∧ RowD d0 l0 ∧ RowD d1 l1 ∧ RowD d2 l2 := by
  obtain ⟨cs, rfl, hsz, _⟩ : ∃ cs, v = .agg cs ∧ cs.size = P.cellsOf t ∧ Row.okWide P W r base t cs := by
    simpa [Value.okWide, ht] using hval
  rw [hct] at hsz
  obtain ⟨l⟩ := cs
  match l, hsz with
  | [a, b, c], _ =>
    obtain ⟨fuel, hfu⟩ := h
    obtain ⟨xs, m, _, hx, hlen, hn, hel⟩ := DataW.trod_array ht hfu
    have h0 := hel 0 (by omega)
    have h1 := hel 1 (by omega)
    have h2 := hel 2 (by omega)
    simp [Value.cells, hc] at h0 h1 h2
    rw [List.getElem?_eq_getElem (by omega)] at h0 h1 h2
    obtain ⟨A0, c0, l0, e0, i0, w0, r0⟩ := row_opened he hf hcf h0
    obtain ⟨A1, c1, l1, e1, i1, w1, r1⟩ := row_opened he hf hcf h1
    obtain ⟨A2, c2, l2, e2, i2, w2, r2⟩ := row_opened he hf hcf h2
    subst e0 e1 e2
    match xs, hn with
    | [y0, y1, y2], _ =>
      simp only [Prod.mk.injEq] at hx
      exact ⟨A0, c0, l0, A1, c1, l1, A2, c2, l2, y0.1, y1.1, y2.1, rfl, i0, i1, i2, w0, w1, w2, hx.1, r0, r1, r2⟩
theorem mem_all {e : TypeId} {d : DataW H} : ∀ {ds : List (DataW H)}, d ∈ ds → ∀ n ∈ DataW.weights P e d, n ∈ DataW.weightsAll P e ds
  | d' :: ds, h, n, hn => by
    simp only [DataW.weightsAll, List.mem_append]
    rcases List.mem_cons.1 h with rfl | h
    · exact .inl hn
    · exact .inr (mem_all h n hn)
theorem rowD_weight {e f : TypeId} {d : DataW H} {xs : List Int} {m : Nat} (he : P.underlying e = some (.slice f)) (hm : P.bytesOf f = m) (h : RowD d xs) {S : List Nat} (hS : ∀ n ∈ DataW.weights P e d, n ∈ S) (hs : S.all (· ≤ reachBytes) = true) : xs.length * m ≤ 140737488351232 := by
  rcases h with rfl | ⟨el, sp, rfl, hl⟩
  · simp
  · have h1 := List.all_eq_true.1 hs _ (hS ((el.length + sp.length) * P.bytesOf f) (by simp [DataW.weights, he]))
    rw [hm] at h1
    have h3 : el.length * m ≤ (el.length + sp.length) * m := Nat.mul_le_mul_right _ (by omega)
    rw [← hl]
    have h4 : (el.length + sp.length) * m ≤ 140737488351232 := of_decide_eq_true (p := (el.length + sp.length) * m ≤ 140737488351232) h1
    omega
theorem came_shortA {ts : List TypeId} {ds dd : List (DataW H)} {j q : Nat} {t e f : TypeId} {d : DataW H} {xs : List Int} {m : Nat} (hsz : (DataW.weightsEach P ts ds).all (· ≤ reachBytes) = true) (ht : ts[j]? = some t) (hd : ds[j]? = some (.agg dd))
    (hu : P.underlying t = some (.array q e)) (he : P.underlying e = some (.slice f)) (hm : P.bytesOf f = m) (hmem : d ∈ dd) (h : RowD d xs) : xs.length * m ≤ 140737488351232 :=
  rowD_weight he hm h (S := DataW.weightsEach P ts ds) (fun n hn => DataW.weights_mem_each ht hd _ (by simpa [DataW.weights, hu] using mem_all hmem n hn)) hsz

/-! ### structs of one-cell fields, by value -/
theorem open_fields {t : TypeId} {fs : Array Field} {v : Value} {d : DataW H} {ps : List MemPlace} {r : Reach} {base : Nat} (hs : P.underlying t = some (.struct fs)) (hone : oneCellFields P fs = true) (hC : P.cellsOf t = fs.size)
    (hval : Value.okWide P W r base t v) (h : DataW.Trod enc P W 0 (fun _ => true) true t v d ps) :
    ∃ (l : List Value) (ys : List (DataW H × List MemPlace)) (n : Nat), v = .agg l.toArray ∧ l.length = fs.size ∧ d = .agg (ys.map (·.1)) ∧ ys.length = fs.size ∧
      ∀ (j : Nat) (f : Field), fs[j]? = some f → ∃ c y, l[j]? = some c ∧ ys[j]? = some y ∧ DataW.trod enc P W 0 (fun _ => true) true n f.type [c] = some y := by
  obtain ⟨cs, rfl, hsz⟩ := okWide_struct hs hval
  obtain ⟨l⟩ := cs
  obtain ⟨fuel, hf⟩ := h
  obtain ⟨ys, n, _, hx, _, hlen, hg⟩ := DataW.trod_struct hs hf
  simp only [Prod.mk.injEq] at hx
  have hll : l.length = fs.size := hsz.trans hC
  refine ⟨l, ys, n, rfl, hll, hx.1, hlen, fun j f hj => ?_⟩
  have hjl : j < fs.size := (Array.getElem?_eq_some_iff.1 hj).1
  obtain ⟨o, k⟩ := hone_of hone j f hj
  have h1 := hg j f hj
  rw [o, k] at h1
  have e1 : (((Value.agg l.toArray).cells.toList).drop j).take 1 = [l[j]'(by omega)] := by
    show (l.drop j).take 1 = _
    rw [List.drop_eq_getElem_cons (by omega)]
    rfl
  refine ⟨l[j]'(by omega), ys[j]'(by omega), List.getElem?_eq_getElem _, List.getElem?_eq_getElem _, ?_⟩
  rw [← List.getElem?_eq_getElem (show j < ys.length by omega), ← h1, ← e1]
theorem came_shortF {ts : List TypeId} {ds : List (DataW H)} {ys : List (DataW H × List MemPlace)} {j q : Nat} {t : TypeId} {fs : Array Field} {g : Field} {f : TypeId} {y : DataW H × List MemPlace} {xs : List Int} {m : Nat} (hsz : (DataW.weightsEach P ts ds).all (· ≤ reachBytes) = true) (ht : ts[j]? = some t) (hd : ds[j]? = some (.agg (ys.map (·.1))))
    (hu : P.underlying t = some (.struct fs)) (hg : fs[q]? = some g) (hy : ys[q]? = some y) (he : P.underlying g.type = some (.slice f)) (hm : P.bytesOf f = m) (h : RowD y.1 xs) : xs.length * m ≤ 140737488351232 :=
  rowD_weight he hm h (S := DataW.weightsEach P ts ds) (fun n hn => DataW.weights_mem_each ht hd _ (by
    have := DataW.weights_mem_each (P := P) (ts := fs.toList.map (·.type)) (ds := ys.map (·.1)) (j := q) (t := g.type) (d := y.1) (by simp [hg]) (by simp [hy]) n hn
    simpa [DataW.weights, hu] using this)) hsz
end

end Go.Proofs.YtmelblnflalanaaGreat

/- How rows of three numbers come in; texts. -/
namespace Go.Proofs.YtmelblnflalanaaGreat
open Go Go.ChangeShapes Go.WideShapes Go.ChangeAt Go.RowKit
set_option linter.unusedVariables false
set_option linter.unusedSimpArgs false

section
variable {H : Type} {enc : TypeId × Value → H} {P : Program} {W W' : World}
/-- Three numbers that came in. -/
theorem came_triple {t e : TypeId} {k : IntKind} {v : Value} {d : DataW H} {ps : List MemPlace} {r : Reach} {base : Nat} (ht : P.underlying t = some (.array 3 e)) (he : P.underlying e = some (.int k)) (hc : P.cellsOf e = 1) (hct : P.cellsOf t = 3)
    (hval : Value.okWide P W r base t v) (h : DataW.Trod enc P W 0 (fun _ => true) true t v d ps) :
    ∃ x y z, v = .agg #[.int k x, .int k y, .int k z] ∧ (Lit.int k x).wf = true ∧ (Lit.int k y).wf = true ∧ (Lit.int k z).wf = true := by
  obtain ⟨cs, rfl, hsz, _⟩ : ∃ cs, v = .agg cs ∧ cs.size = P.cellsOf t ∧ Row.okWide P W r base t cs := by
    simpa [Value.okWide, ht] using hval
  rw [hct] at hsz
  obtain ⟨l⟩ := cs
  match l, hsz with
  | [a, b, c], _ =>
    obtain ⟨fuel, hf⟩ := h
    obtain ⟨xs, m, _, hx, hlen, hn, hel⟩ := DataW.trod_array ht hf
    have h0 := hel 0 (by omega)
    have h1 := hel 1 (by omega)
    have h2 := hel 2 (by omega)
    simp [Value.cells, hc] at h0 h1 h2
    rw [List.getElem?_eq_getElem (by omega)] at h0 h1 h2
    obtain ⟨x, e0, _, w0⟩ := DataW.trod_int he h0
    obtain ⟨y, e1, _, w1⟩ := DataW.trod_int he h1
    obtain ⟨z, e2, _, w2⟩ := DataW.trod_int he h2
    simp at e0 e1 e2
    subst e0 e1 e2
    exact ⟨x, y, z, rfl, w0, w1, w2⟩
theorem came_i64 {n : Int} (h : (Lit.int .i64 n).wf = true) : -9223372036854775808 ≤ n ∧ n ≤ 9223372036854775807 := by
  exact bounds_i64 h
end

end Go.Proofs.YtmelblnflalanaaGreat

/- Numbers of 128 bits in two words, and fractions: plain. -/
namespace Go.Proofs.YtmelblnflalanaaGreat
open Go Go.RowKit
set_option linter.unusedVariables false
set_option linter.unusedSimpArgs false

/-! ### words -/
theorem bv64 (x : Nat) (h : x < 18446744073709551616) : (BitVec.ofInt 64 (x : Int)).toNat = x := by
  rw [BitVec.toNat_ofInt]
  omega
theorem or_u64 (x y : Nat) (hx : x < 18446744073709551616) (hy : y < 18446744073709551616) : bits .or .u64 (x : Int) (y : Int) = ((x ||| y : Nat) : Int) := by
  show IntKind.u64.wrap (((BitVec.ofInt 64 (x : Int) ||| BitVec.ofInt 64 (y : Int)).toNat : Nat) : Int) = _
  rw [BitVec.toNat_or, bv64 x hx, bv64 y hy, IntKind.wrap_u64]
  have := Nat.or_lt_two_pow (n := 64) hx hy
  omega
theorem and_one_u64 (x : Nat) (hx : x < 18446744073709551616) : bits .and .u64 (x : Int) 1 = ((x % 2 : Nat) : Int) := by
  show IntKind.u64.wrap (((BitVec.ofInt 64 (x : Int) &&& BitVec.ofInt 64 ((1 : Nat) : Int)).toNat : Nat) : Int) = _
  rw [BitVec.toNat_and, bv64 x hx, bv64 1 (by omega), IntKind.wrap_u64, Nat.and_one_is_mod]
  omega
theorem or_low (a b i : Nat) (h : b < 2 ^ i) : (2 ^ i * a) ||| b = 2 ^ i * a + b := (Nat.two_pow_add_eq_or_of_lt h a).symm
theorem or_even (a c : Nat) (h : c < 2) : (2 * a) ||| c = 2 * a + c := by
  have := or_low a c 1 (by omega)
  simpa using this
/-- Twice a word and the next bit. -/
theorem or_bit (a c : Nat) (ha : a < 9223372036854775808) (hc : c < 2) : bits .or .u64 ((2 * a : Nat) : Int) (c : Int) = ((2 * a + c : Nat) : Int) := by
  rw [or_u64 _ _ (by omega) (by omega), or_even a c hc]
def hiN (n : Nat) : Int := ((n / 18446744073709551616 : Nat) : Int)
def loN (n : Nat) : Int := ((n % 18446744073709551616 : Nat) : Int)
theorem hi_range {n : Nat} (h : n < 340282366920938463463374607431768211456) : 0 ≤ hiN n ∧ hiN n ≤ 18446744073709551615 := by unfold hiN; omega
theorem lo_range (n : Nat) : 0 ≤ loN n ∧ loN n ≤ 18446744073709551615 := by unfold loN; omega
theorem hi_lo (n : Nat) : (n : Int) = hiN n * 18446744073709551616 + loN n := by unfold hiN loN; omega
theorem hilo_eq {n m : Nat} : (hiN n = hiN m ∧ loN n = loN m) ↔ n = m := ⟨fun ⟨h, h'⟩ => by have := hi_lo n; have := hi_lo m; omega, fun h => by subst h; exact ⟨rfl, rfl⟩⟩
theorem hilo_zero {n : Nat} : (hiN n = 0 ∧ loN n = 0) ↔ n = 0 := ⟨fun ⟨h, h'⟩ => by have := hi_lo n; omega, fun h => by subst h; exact ⟨rfl, rfl⟩⟩
theorem hi_zero : hiN 0 = 0 := rfl
theorem lo_zero : loN 0 = 0 := rfl
theorem small_hi {n : Nat} (h : n < 18446744073709551616) : hiN n = 0 := by unfold hiN; omega
theorem small_lo {n : Nat} (h : n < 18446744073709551616) : loN n = (n : Int) := by unfold loN; omega

/-! ### sums and differences of two words -/
def borN (x y : Int) : Int := if x < y then 1 else 0
theorem bor_range (x y : Int) : 0 ≤ borN x y ∧ borN x y ≤ 1 := by unfold borN; split <;> omega
theorem plus_lo (s t : Nat) : (loN s + loN t) % 18446744073709551616 = loN (s + t) := by unfold loN; omega
theorem plus_hi (s t : Nat) (h : s + t < 340282366920938463463374607431768211456) : (hiN s + hiN t + (loN s + loN t) / 18446744073709551616) % 18446744073709551616 = hiN (s + t) := by unfold hiN loN; omega
theorem less_lo (s t : Nat) (h : t ≤ s) : (loN s - loN t) % 18446744073709551616 = loN (s - t) := by unfold loN; omega
theorem less_hi (s t : Nat) (h : t ≤ s) (hs : s < 340282366920938463463374607431768211456) : (hiN s - hiN t - borN (loN s) (loN t)) % 18446744073709551616 = hiN (s - t) := by unfold hiN loN borN; split <;> omega
/-- Which of two numbers is greater. -/
def cmpN (s t : Nat) : Int := if s < t then -1 else if s = t then 0 else 1
def cmpW (x y : Int) : Int := if x < y then -1 else if y < x then 1 else 0
theorem cmpN_is (s t : Nat) : cmpN s t = if cmpW (hiN s) (hiN t) = 0 then cmpW (loN s) (loN t) else cmpW (hiN s) (hiN t) := by
  have h1 := hi_lo s
  have h2 := hi_lo t
  have h3 := lo_range s
  have h4 := lo_range t
  unfold cmpN cmpW
  generalize hiN s = a at *
  generalize hiN t = b at *
  generalize loN s = c at *
  generalize loN t = d at *
  by_cases e1 : a < b
  · rw [if_pos (by omega), if_pos e1, if_neg (by decide)]
  · by_cases e2 : b < a
    · rw [if_neg (by omega), if_neg (by omega), if_neg e1, if_pos e2, if_neg (by decide)]
    · rw [if_neg e1, if_neg e2, if_pos rfl]
      by_cases e3 : c < d
      · rw [if_pos (by omega), if_pos e3]
      · by_cases e4 : d < c
        · rw [if_neg (by omega), if_neg (by omega), if_neg e3, if_pos e4]
        · rw [if_neg (by omega), if_pos (by omega), if_neg e3, if_neg e4]
/-! ### one step of the division -/
theorem shl_lo (r : Nat) : (loN r * 2) % 18446744073709551616 = loN (2 * r) := by unfold loN; omega
theorem shl_hi (r : Nat) (h : r < 170141183460469231731687303715884105728) : bits .or .u64 (hiN r * 2) (loN r / 9223372036854775808) = hiN (2 * r) := by
  have e1 : hiN r * 2 = ((2 * (r / 18446744073709551616) : Nat) : Int) := by unfold hiN; omega
  have e2 : loN r / 9223372036854775808 = ((r % 18446744073709551616 / 9223372036854775808 : Nat) : Int) := by unfold loN; omega
  rw [e1, e2, or_bit _ _ (by omega) (by omega)]
  unfold hiN
  omega
theorem low_bit (r c : Nat) (hc : c < 2) : bits .or .u64 (loN (2 * r)) (c : Int) = loN (2 * r + c) ∧ hiN (2 * r) = hiN (2 * r + c) := by
  have e1 : loN (2 * r) = ((2 * (r % 9223372036854775808) : Nat) : Int) := by unfold loN; omega
  rw [e1, or_bit _ _ (by omega) hc]
  unfold loN hiN
  omega
theorem pow_split (i : Nat) (h : 64 ≤ i) : (2 : Nat) ^ i = 18446744073709551616 * 2 ^ (i - 64) := by
  rw [show (18446744073709551616 : Nat) = 2 ^ 64 by decide, ← Nat.pow_add, show 64 + (i - 64) = i by omega]
theorem pow_small (i : Nat) (h : i < 64) : (2 : Nat) ^ i ≤ 9223372036854775808 := by
  have := Nat.pow_le_pow_right (n := 2) (by omega) (show i ≤ 63 by omega)
  simpa using this
/-- The quotient's bit i, in the upper word. -/
theorem set_hi (Q i : Nat) (hi : 64 ≤ i) (hi2 : i < 128) (hq : Q * 2 ^ (i + 1) + 2 ^ i < 340282366920938463463374607431768211456) :
    bits .or .u64 (hiN (Q * 2 ^ (i + 1))) ((2 ^ (i - 64) : Nat) : Int) = hiN (Q * 2 ^ (i + 1) + 2 ^ i) ∧ loN (Q * 2 ^ (i + 1)) = loN (Q * 2 ^ (i + 1) + 2 ^ i) := by
  have e1 : Q * 2 ^ (i + 1) = 18446744073709551616 * (2 ^ (i - 64 + 1) * Q) := by
    rw [pow_split (i + 1) (by omega), show i + 1 - 64 = i - 64 + 1 by omega, Nat.mul_comm Q, Nat.mul_assoc]
  have e2 := pow_split i hi
  have e3 := pow_small (i - 64) (by omega)
  have e4 : (2 : Nat) ^ (i - 64) < 2 ^ (i - 64 + 1) := Nat.pow_lt_pow_right (by omega) (by omega)
  have h_or := or_low Q (2 ^ (i - 64)) (i - 64 + 1) e4
  rw [e1, e2] at hq ⊢
  generalize 2 ^ (i - 64 + 1) * Q = X at hq h_or ⊢
  generalize 2 ^ (i - 64) = Y at hq h_or e3 ⊢
  have hx : hiN (18446744073709551616 * X) = (X : Int) := by unfold hiN; omega
  rw [hx, or_u64 X Y (by omega) (by omega), h_or]
  unfold hiN loN
  omega
/-- The quotient's bit i, in the lower word. -/
theorem set_lo (Q i : Nat) (hi : i < 64) :
    bits .or .u64 (loN (Q * 2 ^ (i + 1))) ((2 ^ i : Nat) : Int) = loN (Q * 2 ^ (i + 1) + 2 ^ i) ∧ hiN (Q * 2 ^ (i + 1)) = hiN (Q * 2 ^ (i + 1) + 2 ^ i) := by
  have e0 : (18446744073709551616 : Nat) = 2 ^ (i + 1) * 2 ^ (63 - i) := by
    rw [← Nat.pow_add, show i + 1 + (63 - i) = 64 by omega]
  have e1 : Q * 2 ^ (i + 1) % 18446744073709551616 = 2 ^ (i + 1) * (Q % 2 ^ (63 - i)) := by
    rw [e0, Nat.mul_comm Q, Nat.mul_mod_mul_left]
  have e3 := pow_small i hi
  have e4 : (2 : Nat) ^ (i + 1) = 2 ^ i + 2 ^ i := by rw [Nat.pow_succ]; omega
  have h_or := or_low (Q % 2 ^ (63 - i)) (2 ^ i) (i + 1) (Nat.pow_lt_pow_right (by omega) (by omega))
  have h5 : Q % 2 ^ (63 - i) + 1 ≤ 2 ^ (63 - i) := Nat.mod_lt _ (Nat.pow_pos (by omega))
  have h6 : 2 ^ (i + 1) * (Q % 2 ^ (63 - i)) + 2 ^ (i + 1) ≤ 18446744073709551616 := by
    have := Nat.mul_le_mul_left (2 ^ (i + 1)) h5
    rw [← e0, Nat.mul_add, Nat.mul_one] at this
    exact this
  rw [← e1] at h_or h6
  have h6 : Q * 2 ^ (i + 1) % 18446744073709551616 + (2 ^ i + 2 ^ i) ≤ 18446744073709551616 := Nat.le_trans (Nat.le_of_eq (by rw [← e4])) h6
  generalize Q * 2 ^ (i + 1) = q at h_or h6 ⊢
  have hp : 0 < (2 : Nat) ^ i := Nat.pow_pos (by omega)
  generalize (2 : Nat) ^ i = Y at h_or h6 e3 hp ⊢
  have hl : loN q = ((q % 18446744073709551616 : Nat) : Int) := rfl
  rw [hl, or_u64 _ Y (by omega) (by omega), h_or]
  unfold hiN loN
  omega

/-! ### division by shifting -/
/-- Bit i of a number. -/
def bitN (s i : Nat) : Nat := s / 2 ^ i % 2
/-- What is held above bit i: how often the divisor goes into it, and what is left. -/
theorem div_step (s t i : Nat) (ht : 0 < t) : s / 2 ^ i = 2 * (s / 2 ^ (i + 1)) + bitN s i := by
  unfold bitN
  rw [Nat.pow_succ, ← Nat.div_div_eq_div_mul]
  omega
theorem rem_step (s t i : Nat) (ht : 0 < t) :
    let r := 2 * (s / 2 ^ (i + 1) % t) + bitN s i
    (r < t → s / 2 ^ i % t = r ∧ s / 2 ^ i / t = 2 * (s / 2 ^ (i + 1) / t)) ∧ (¬ r < t → s / 2 ^ i % t = r - t ∧ s / 2 ^ i / t = 2 * (s / 2 ^ (i + 1) / t) + 1) := by
  intro r
  have hb : bitN s i < 2 := Nat.mod_lt _ (by omega)
  have h1 := Nat.div_add_mod (s / 2 ^ (i + 1)) t
  have h2 := Nat.mod_lt (s / 2 ^ (i + 1)) ht
  have h0 := div_step s t i ht
  have e : s / 2 ^ i = t * (2 * (s / 2 ^ (i + 1) / t)) + r := by
    rw [h0]
    show _ = _ + (2 * (s / 2 ^ (i + 1) % t) + bitN s i)
    rw [Nat.mul_left_comm t 2]
    omega
  constructor
  · intro hr
    rw [e]
    exact ⟨by rw [Nat.mul_add_mod, Nat.mod_eq_of_lt hr], by rw [Nat.mul_add_div ht, Nat.div_eq_of_lt hr, Nat.add_zero]⟩
  · intro hr
    have e2 : s / 2 ^ i = t * (2 * (s / 2 ^ (i + 1) / t) + 1) + (r - t) := by rw [e, Nat.mul_add]; omega
    have hr2 : r - t < t := by
      show 2 * (s / 2 ^ (i + 1) % t) + bitN s i - t < t
      omega
    rw [e2]
    exact ⟨by rw [Nat.mul_add_mod, Nat.mod_eq_of_lt hr2], by rw [Nat.mul_add_div ht, Nat.div_eq_of_lt hr2, Nat.add_zero]⟩
theorem bit_high (s i : Nat) (hi : 64 ≤ i) : bitN s i = s / 18446744073709551616 / 2 ^ (i - 64) % 2 := by
  unfold bitN
  rw [Nat.div_div_eq_div_mul, show (18446744073709551616 : Nat) = 2 ^ 64 by decide, ← Nat.pow_add, show 64 + (i - 64) = i by omega]
theorem bit_low (s i : Nat) (hi : i < 64) : bitN s i = s % 18446744073709551616 / 2 ^ i % 2 := by
  unfold bitN
  have e : (18446744073709551616 : Nat) = 2 ^ i * (2 * 2 ^ (63 - i)) := by
    rw [show 2 * 2 ^ (63 - i) = 2 ^ (64 - i) by rw [show 64 - i = (63 - i) + 1 by omega, Nat.pow_succ]; omega, ← Nat.pow_add, show i + (64 - i) = 64 by omega]
  rw [e, Nat.mod_mul_right_div_self, Nat.mod_mul_right_mod]

/-! ### fractions -/
def fitsI (x : Int) : Bool := decide (-9223372036854775808 ≤ x ∧ x ≤ 9223372036854775807)
/-- The whole number of a sign and a size. -/
def sgnI (neg : Bool) (n : Nat) : Int := if neg then -(n : Int) else n
/-- The fraction of two numbers in lowest terms, or the error. -/
def fracP (X D : Int) : (Int × Int) × Int :=
  if fitsI (sgnI (decide (X < 0) != decide (D < 0)) (X.natAbs / Nat.gcd X.natAbs D.natAbs)) = true ∧ D.natAbs / Nat.gcd X.natAbs D.natAbs ≤ 9223372036854775807 then
    ((sgnI (decide (X < 0) != decide (D < 0)) (X.natAbs / Nat.gcd X.natAbs D.natAbs), ((D.natAbs / Nat.gcd X.natAbs D.natAbs : Nat) : Int)), 0)
  else ((0, 0), 20)
def newP (n d : Int) : (Int × Int) × Int := if d = 0 then ((0, 0), 21) else fracP n d
/-- A fraction in lowest terms. -/
def rightR (r : Int × Int) : Bool := decide (0 < r.2 ∧ Nat.gcd r.1.natAbs r.2.natAbs = 1)
def addP (a b : Int × Int) : (Int × Int) × Int := if rightR a && rightR b then fracP (a.1 * b.2 + b.1 * a.2) (a.2 * b.2) else ((0, 0), 7)
def subP (a b : Int × Int) : (Int × Int) × Int := if rightR a && rightR b then fracP (a.1 * b.2 - b.1 * a.2) (a.2 * b.2) else ((0, 0), 7)
def mulP (a b : Int × Int) : (Int × Int) × Int := if rightR a && rightR b then fracP (a.1 * b.1) (a.2 * b.2) else ((0, 0), 7)
def divP (a b : Int × Int) : (Int × Int) × Int := if rightR a && rightR b then (if b.1 = 0 then ((0, 0), 21) else fracP (a.1 * b.2) (a.2 * b.1)) else ((0, 0), 7)
def cmpQI (x : Int) : Int := if x < 0 then -1 else if x = 0 then 0 else 1
def cmpP (a b : Int × Int) : Int := if rightR a && rightR b then cmpQI (a.1 * b.2 - b.1 * a.2) else 0
theorem right_frac {r : Int × Int} (h : rightR r = true) (hn : fitsI r.1 = true) (hd : r.2 ≤ 9223372036854775807) : fracP r.1 r.2 = (r, 0) := by
  obtain ⟨h0, h1⟩ := of_decide_eq_true h
  have e : sgnI (decide (r.1 < 0) != decide (r.2 < 0)) (r.1.natAbs / 1) = r.1 := by
    rw [Nat.div_one, show decide (r.2 < 0) = false from decide_eq_false (by omega)]
    unfold sgnI
    by_cases h : r.1 < 0
    · simp [h]; omega
    · simp [h]; omega
  have e2 : ((r.2.natAbs / 1 : Nat) : Int) = r.2 := by rw [Nat.div_one]; omega
  unfold fracP
  rw [h1, e, e2, if_pos ⟨hn, by omega⟩]
/-- What fracP tells is right. -/
theorem frac_right {X D : Int} (hD : D ≠ 0) (h : (fracP X D).2 = 0) : rightR (fracP X D).1 = true ∧ fitsI (fracP X D).1.1 = true ∧ (fracP X D).1.2 ≤ 9223372036854775807 := by
  unfold fracP at h ⊢
  by_cases hc : fitsI (sgnI (decide (X < 0) != decide (D < 0)) (X.natAbs / Nat.gcd X.natAbs D.natAbs)) = true ∧ D.natAbs / Nat.gcd X.natAbs D.natAbs ≤ 9223372036854775807
  · rw [if_pos hc]
    have hg : 0 < Nat.gcd X.natAbs D.natAbs := Nat.gcd_pos_of_pos_right _ (by omega)
    have hd : 0 < D.natAbs / Nat.gcd X.natAbs D.natAbs := Nat.div_pos (Nat.le_of_dvd (by omega) (Nat.gcd_dvd_right _ _)) hg
    refine ⟨decide_eq_true ⟨by show 0 < ((D.natAbs / Nat.gcd X.natAbs D.natAbs : Nat) : Int); omega, ?_⟩, hc.1, by show ((D.natAbs / Nat.gcd X.natAbs D.natAbs : Nat) : Int) ≤ _; omega⟩
    have e : (sgnI (decide (X < 0) != decide (D < 0)) (X.natAbs / Nat.gcd X.natAbs D.natAbs)).natAbs = X.natAbs / Nat.gcd X.natAbs D.natAbs := by
      unfold sgnI
      split
      · rw [Int.natAbs_neg, Int.natAbs_natCast]
      · rw [Int.natAbs_natCast]
    show Nat.gcd (sgnI (decide (X < 0) != decide (D < 0)) (X.natAbs / Nat.gcd X.natAbs D.natAbs)).natAbs (((D.natAbs / Nat.gcd X.natAbs D.natAbs : Nat) : Int)).natAbs = 1
    rw [e, Int.natAbs_natCast]
    rw [Nat.gcd_div (Nat.gcd_dvd_left _ _) (Nat.gcd_dvd_right _ _)]
    exact Nat.div_self hg
  · rw [if_neg hc] at h
    exact absurd h (by decide)
/-- The same fraction: by cross products. -/
theorem gcd_one_dvd {a b : Nat} (h : Nat.gcd a b = 1) (c : Nat) (hd : b ∣ a * c) : b ∣ c := (Nat.Coprime.dvd_of_dvd_mul_left (Nat.Coprime.symm h) hd)

end Go.Proofs.YtmelblnflalanaaGreat
