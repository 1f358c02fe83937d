/- Texts of ours, laid together: Mat, Mem, Zv, Bit, Da, Oa, De, Dy, Db. -/
import Derived.WalkKit
import Derived.WalkSpells
import Derived.WalkLawsBesides
import Derived.Test.YtncgapnooabdgaaDoorProg
import Derived.KernelRfl
import Derived.Lib.Hide
import Derived.Deep.LoopGhost
import Derived.Deep.QuietTactic
import Derived.BigQuiet
import Derived.BigRegion
import Derived.StillTailTactics
import Derived.Deep.RegionWith
/- Matrices of bounds in wide cells, and how they are closed: plain numbers, no program. -/
namespace Go.Proofs.YtncgapnooabdgaaDoor
set_option linter.unusedVariables false

/-- A matrix of cells. -/
abbrev Mat := Nat → Nat → Int

/-- No bound, in wide cells. -/
def none62 : Int := 4611686018427387904

/-- The sum of two wide bounds. -/
def wsum (a b : Int) : Int := if a = none62 ∨ b = none62 then none62 else (a - a % 2) + (b - b % 2) + (a % 2) * (b % 2)

/-- No bound, or a number of at most this size. -/
def Bd (X a : Int) : Prop := a = none62 ∨ (-X ≤ a ∧ a ≤ X)

theorem two_cases (a b : Int) : (a % 2) * (b % 2) = 0 ∧ (a % 2 = 0 ∨ b % 2 = 0) ∨ (a % 2) * (b % 2) = 1 ∧ a % 2 = 1 ∧ b % 2 = 1 := by
  have ha : a % 2 = 0 ∨ a % 2 = 1 := by omega
  have hb : b % 2 = 0 ∨ b % 2 = 1 := by omega
  rcases ha with ha | ha <;> rcases hb with hb | hb <;> simp [ha, hb]

theorem wsum_fin {a b : Int} (ha : a ≠ none62) (hb : b ≠ none62) : a + b - 1 ≤ wsum a b ∧ wsum a b ≤ a + b := by
  unfold wsum
  rw [if_neg (by simp [ha, hb])]
  rcases two_cases a b with ⟨h, h1⟩ | ⟨h, h1, h2⟩ <;> rw [h] <;> omega

theorem wsum_one_left (b : Int) : wsum 1 b = b := by
  unfold wsum none62
  by_cases h : b = 4611686018427387904
  · simp [h]
  · rw [if_neg (by omega)]; omega
theorem wsum_one_right (a : Int) : wsum a 1 = a := by
  unfold wsum none62
  by_cases h : a = 4611686018427387904
  · simp [h]
  · rw [if_neg (by omega)]; omega

theorem Bd.mono {X Y a : Int} (h : Bd X a) (hXY : X ≤ Y) : Bd Y a := by
  rcases h with h | h
  · exact .inl h
  · exact .inr (by omega)
theorem Bd.sum {X Y a b : Int} (ha : Bd X a) (hb : Bd Y b) : Bd (X + Y + 1) (wsum a b) := by
  by_cases h1 : a = none62
  · left; simp [wsum, h1]
  · by_cases h2 : b = none62
    · left; simp [wsum, h2]
    · right
      have := wsum_fin h1 h2
      rcases ha with ha | ha
      · exact absurd ha h1
      · rcases hb with hb | hb
        · exact absurd hb h2
        · omega
theorem Bd.min {X a b : Int} (ha : Bd X a) (hb : Bd X b) : Bd X (min a b) := by
  rw [Int.min_def]; split
  · exact ha
  · exact hb
theorem Bd.le {X a : Int} (h : Bd X a) (hX : X ≤ none62) : -X ≤ a ∧ a ≤ none62 ∨ a = none62 := by
  rcases h with h | h
  · exact .inr h
  · left; omega

/-- One cell made another. -/
def upd (m : Mat) (i j : Nat) (v : Int) : Mat := fun a b => if a = i ∧ b = j then v else m a b
theorem upd_upd (m : Mat) (i j : Nat) (v v' : Int) : upd (upd m i j v) i j v' = upd m i j v' := by
  funext a b; simp only [upd]; split <;> rfl

/-- The round for clock k: all ways by k. -/
def fw (k n : Nat) (m : Mat) : Mat := fun i j => if i ≤ n ∧ j ≤ n then min (m i j) (wsum (m i k) (m k j)) else m i j

/-- f in the rows ahead of i and, of row i, ahead of j; elsewhere m. -/
def mix (f m : Mat) (n i j : Nat) : Mat := fun a c => if (a < i ∧ c ≤ n) ∨ (a = i ∧ c < j) then f a c else m a c

theorem mix_start (f m : Mat) (n : Nat) : mix f m n 0 0 = m := by
  funext a c; simp only [mix]; rw [if_neg (by omega)]
theorem mix_step (f m : Mat) (n i j : Nat) (hj : j ≤ n) : upd (mix f m n i j) i j (f i j) = mix f m n i (j + 1) := by
  funext a c
  simp only [upd, mix]
  by_cases h : a = i ∧ c = j
  · obtain ⟨rfl, rfl⟩ := h
    rw [if_pos ⟨rfl, rfl⟩, if_pos (by omega)]
  · rw [if_neg h]
    by_cases h2 : (a < i ∧ c ≤ n) ∨ (a = i ∧ c < j)
    · rw [if_pos h2, if_pos (by omega)]
    · rw [if_neg h2, if_neg (by omega)]
theorem mix_row (f m : Mat) (n i : Nat) : mix f m n i (n + 1) = mix f m n (i + 1) 0 := by
  funext a c
  simp only [mix]
  by_cases h2 : (a < i ∧ c ≤ n) ∨ (a = i ∧ c < n + 1)
  · rw [if_pos h2, if_pos (by omega)]
  · rw [if_neg h2, if_neg (by omega)]
theorem mix_done (k n : Nat) (m : Mat) : mix (fw k n m) m n (n + 1) 0 = fw k n m := by
  funext a c
  simp only [mix]
  by_cases h2 : (a < n + 1 ∧ c ≤ n) ∨ (a = n + 1 ∧ c < 0)
  · rw [if_pos h2]
  · rw [if_neg h2]
    unfold fw
    rw [if_neg (by omega)]

theorem fw_col {k n : Nat} {m : Mat} (hk : m k k = 1) (i : Nat) : fw k n m i k = m i k := by
  unfold fw; split
  · rw [hk, wsum_one_right, Int.min_self]
  · rfl
theorem fw_row {k n : Nat} {m : Mat} (hk : m k k = 1) (j : Nat) : fw k n m k j = m k j := by
  unfold fw; split
  · rw [hk, wsum_one_left, Int.min_self]
  · rfl
theorem mix_col {k n : Nat} {m : Mat} (hk : m k k = 1) (i j a : Nat) : mix (fw k n m) m n i j a k = m a k := by
  unfold mix; split
  · exact fw_col hk a
  · rfl
theorem mix_krow {k n : Nat} {m : Mat} (hk : m k k = 1) (i j c : Nat) : mix (fw k n m) m n i j k c = m k c := by
  unfold mix; split
  · exact fw_row hk c
  · rfl
theorem mix_here (f m : Mat) (n i j : Nat) : mix f m n i j i j = m i j := by
  unfold mix; rw [if_neg (by omega)]
/-- What the machine stores is the round's own cell. -/
theorem mix_cell {k n : Nat} {m : Mat} (hk : m k k = 1) {i j : Nat} (hi : i ≤ n) (hj : j ≤ n) :
    min (mix (fw k n m) m n i j i j) (wsum (mix (fw k n m) m n i j i k) (mix (fw k n m) m n i j k j)) = fw k n m i j := by
  rw [mix_here, mix_col hk, mix_krow hk]
  unfold fw; rw [if_pos ⟨hi, hj⟩]

/-- The closed form, round by round; none: a cell of a clock against itself fell below 1. -/
def closeP (n : Nat) : Nat → Nat → Mat → Option Mat
  | 0, _, m => some m
  | s + 1, k, m => if (∀ i, i ≤ n → 1 ≤ fw k n m i i) then closeP n s (k + 1) (fw k n m) else none
/-- The closed form. -/
def closed (n : Nat) (m : Mat) : Option Mat := closeP n (n + 1) 0 m

/-- What a matrix must be for a round to run within the machine's numbers. -/
structure Fit (n : Nat) (X : Int) (m : Mat) : Prop where
  bd : ∀ i j, i ≤ n → j ≤ n → Bd X (m i j)
  diag : ∀ i, i ≤ n → m i i ≤ 1

theorem Fit.fwd {n : Nat} {X : Int} {m : Mat} (h : Fit n X m) {k : Nat} (hk : k ≤ n) (hX : 0 ≤ X) : Fit n (2 * X + 1) (fw k n m) := by
  refine ⟨fun i j hi hj => ?_, fun i hi => ?_⟩
  · unfold fw; rw [if_pos ⟨hi, hj⟩]
    have h1 := (h.bd i j hi hj).mono (Y := 2 * X + 1) (by omega)
    have h2 := (h.bd i k hi hk).sum (h.bd k j hk hj)
    exact h1.min (h2.mono (by omega))
  · have := h.diag i hi
    unfold fw; rw [if_pos ⟨hi, hi⟩]
    rw [Int.min_def]; split <;> omega
theorem Fit.mixd {n : Nat} {X : Int} {m : Mat} (h : Fit n X m) {k : Nat} (hk : k ≤ n) (hX : 0 ≤ X) (i j : Nat) : Fit n (2 * X + 1) (mix (fw k n m) m n i j) := by
  have h1 := h.fwd hk hX
  refine ⟨fun a c ha hc => ?_, fun a ha => ?_⟩
  · simp only [mix]; split
    · exact h1.bd a c ha hc
    · exact (h.bd a c ha hc).mono (by omega)
  · simp only [mix]; split
    · exact h1.diag a ha
    · exact h.diag a ha

/-- What the machine's matrix is in the round k, at row i, ahead of column j, where m was the matrix at the round's head. -/
def InnerOk (n : Nat) (X : Int) (m : Mat) (k i j : Nat) (cur : Mat) : Prop :=
  (m k k = 1 ∧ cur = mix (fw k n m) m n i j) ∨
  (k = 0 ∧ i = 0 ∧ m 0 0 < 1 ∧ cur 0 0 < 1 ∧ Bd (2 * X + 1) (cur 0 0) ∧ (∀ c, c ≤ n → Bd (4 * X + 4) (cur 0 c)) ∧ (∀ c, j ≤ c → 1 ≤ j → cur 0 c = m 0 c) ∧ (j = 0 → cur = m))

theorem InnerOk.start {n : Nat} {X : Int} {m : Mat} {k : Nat} (hk : m k k = 1) : InnerOk n X m k 0 0 m := .inl ⟨hk, (mix_start _ _ _).symm⟩
theorem InnerOk.start0 {n : Nat} {X : Int} {m : Mat} (hf : Fit n X m) (hX : 0 ≤ X) (h : m 0 0 < 1) : InnerOk n X m 0 0 0 m :=
  .inr ⟨rfl, rfl, h, h, (hf.bd 0 0 (by omega) (by omega)).mono (by omega), fun c hc => (hf.bd 0 c (by omega) hc).mono (by omega), fun c _ h => absurd h (by omega), fun _ => rfl⟩

theorem InnerOk.bounds {n : Nat} {X : Int} {m : Mat} (hf : Fit n X m) (hX : 0 ≤ X) {k i j : Nat} {cur : Mat} (h : InnerOk n X m k i j cur) (hk : k ≤ n) (hi : i ≤ n) (hj : j ≤ n) :
    Bd (4 * X + 4) (cur i j) ∧ Bd (4 * X + 4) (cur i k) ∧ Bd (4 * X + 4) (cur k j) := by
  rcases h with ⟨h1, rfl⟩ | ⟨rfl, rfl, h0, h1, h2, h3, h4, h5⟩
  · have := hf.mixd hk hX i j
    exact ⟨(this.bd i j hi hj).mono (by omega), (this.bd i k hi hk).mono (by omega), (this.bd k j hk hj).mono (by omega)⟩
  · exact ⟨h3 j hj, h3 0 (by omega), h3 j hj⟩

theorem InnerOk.step {n : Nat} {X : Int} {m : Mat} (hf : Fit n X m) (hX : 0 ≤ X) {k i j : Nat} {cur : Mat} (h : InnerOk n X m k i j cur) (hk : k ≤ n) (hi : i ≤ n) (hj : j ≤ n) :
    InnerOk n X m k i (j + 1) (upd cur i j (min (cur i j) (wsum (cur i k) (cur k j)))) := by
  rcases h with ⟨h1, rfl⟩ | ⟨rfl, rfl, h0, h1, h2, h3, h4, h5⟩
  · refine .inl ⟨h1, ?_⟩
    rw [mix_cell h1 hi hj, mix_step _ _ _ _ _ hj]
  · refine .inr ⟨rfl, rfl, h0, ?_⟩
    by_cases hj0 : j = 0
    · subst hj0
      obtain rfl := h5 rfl
      have hm := hf.bd 0 0 (by omega) (by omega)
      have hnew : Bd (2 * X + 1) (min (cur 0 0) (wsum (cur 0 0) (cur 0 0))) := (hm.mono (by omega)).min ((hm.sum hm).mono (by omega))
      refine ⟨?_, ?_, ?_, ?_, by omega⟩
      · simp only [upd, and_self, if_true]; rw [Int.min_def]; split <;> omega
      · simp only [upd, and_self, if_true]; exact hnew
      · intro c hc
        simp only [upd]; split
        · exact hnew.mono (by omega)
        · exact h3 c hc
      · intro c hc _
        simp only [upd]; rw [if_neg (by omega)]
    · have e := h4 j (by omega) (by omega)
      have hm := hf.bd 0 j (by omega) hj
      refine ⟨?_, ?_, ?_, ?_, by omega⟩
      · simp only [upd]; rw [if_neg (by omega)]; exact h1
      · simp only [upd]; rw [if_neg (by omega)]; exact h2
      · intro c hc
        simp only [upd]; split
        · rw [e]; exact (hm.mono (by omega)).min ((h2.sum hm).mono (by omega))
        · exact h3 c hc
      · intro c hc _
        simp only [upd]; rw [if_neg (by omega)]; exact h4 c (by omega) (by omega)

/-- Behind a row: the round goes on, or the matrix has no valuation. -/
theorem InnerOk.row {n : Nat} {X : Int} {m : Mat} {k i : Nat} {cur : Mat} (h : InnerOk n X m k i (n + 1) cur) (hi : i ≤ n) :
    (cur i i < 1 → fw k n m i i < 1) ∧ (1 ≤ cur i i → m k k = 1 ∧ 1 ≤ fw k n m i i ∧ InnerOk n X m k (i + 1) 0 cur) := by
  rcases h with ⟨h1, rfl⟩ | ⟨rfl, rfl, h0, h1, h2, h3, h4, h5⟩
  · have e : mix (fw k n m) m n i (n + 1) i i = fw k n m i i := by
      unfold mix; rw [if_pos (show (i < i ∧ i ≤ n) ∨ (i = i ∧ i < n + 1) from by omega)]
    rw [e]
    exact ⟨id, fun h => ⟨h1, h, .inl ⟨h1, mix_row _ _ _ _⟩⟩⟩
  · refine ⟨fun _ => ?_, fun h => absurd h (by omega)⟩
    unfold fw; rw [if_pos (show 0 ≤ n ∧ 0 ≤ n from by omega), Int.min_def]; split <;> omega

theorem one_le_pow2 : ∀ k : Nat, (1 : Int) ≤ 4 ^ k
  | 0 => by simp
  | k + 1 => by have := one_le_pow2 k; rw [Int.pow_succ]; omega
theorem pow2_step (k : Nat) : 2 * (1073741824 * 4 ^ k) + 1 ≤ (1073741824 : Int) * 4 ^ (k + 1) := by
  have := one_le_pow2 k
  rw [Int.pow_succ]
  generalize (4 : Int) ^ k = p at this ⊢
  omega
theorem pow2_le {k : Nat} (h : k ≤ 9) : (4 : Int) ^ k ≤ 262144 := by
  match k, h with
  | 0, _ | 1, _ | 2, _ | 3, _ | 4, _ | 5, _ | 6, _ | 7, _ | 8, _ | 9, _ => decide

/-- What holds at a round's head. -/
structure RoundOk (n : Nat) (m0 : Mat) (k : Nat) (m : Mat) : Prop where
  fit : Fit n (1073741824 * 4 ^ k) m
  one : k = 0 ∨ ∀ i, i ≤ n → m i i = 1
  same : closeP n (n + 1 - k) k m = closed n m0
  le : k ≤ n + 1

theorem RoundOk.start {n : Nat} {m : Mat} (h : Fit n 1073741824 m) : RoundOk n m 0 m := ⟨by simpa using h, .inl rfl, rfl, by omega⟩

theorem RoundOk.inner {n : Nat} {m0 m : Mat} {k : Nat} (h : RoundOk n m0 k m) (hk : k ≤ n) : InnerOk n (1073741824 * 4 ^ k) m k 0 0 m := by
  have hX : (0 : Int) ≤ 1073741824 * 4 ^ k := by have := one_le_pow2 k; omega
  rcases h.one with rfl | h1
  · by_cases h0 : m 0 0 < 1
    · exact .start0 h.fit hX h0
    · exact .start (by have := h.fit.diag 0 (by omega); omega)
  · exact .start (h1 k hk)

theorem RoundOk.next {n : Nat} {m0 m cur : Mat} {k : Nat} (h : RoundOk n m0 k m) (hk : k ≤ n) (hi : InnerOk n (1073741824 * 4 ^ k) m k (n + 1) 0 cur) (hd : ∀ i, i ≤ n → 1 ≤ fw k n m i i) :
    RoundOk n m0 (k + 1) cur := by
  rcases hi with ⟨h1, rfl⟩ | ⟨_, h2, _⟩
  · rw [mix_done]
    refine ⟨?_, .inr fun i hi => ?_, ?_, by omega⟩
    · have := h.fit.fwd hk (by have := one_le_pow2 k; omega)
      exact ⟨fun i j hi hj => (this.bd i j hi hj).mono (pow2_step k), this.diag⟩
    · have a := hd i hi
      have b := (h.fit.fwd hk (by have := one_le_pow2 k; omega)).diag i hi
      exact Int.le_antisymm b a
    · rw [← h.same]
      have e : n + 1 - k = (n - k) + 1 := by omega
      have e2 : n + 1 - (k + 1) = n - k := by omega
      rw [e, e2]
      simp only [closeP]
      rw [if_pos hd]
  · omega

theorem RoundOk.fail {n : Nat} {m0 m : Mat} {k i : Nat} (h : RoundOk n m0 k m) (hk : k ≤ n) (hi : i ≤ n) (hd : fw k n m i i < 1) : closed n m0 = none := by
  rw [← h.same]
  have e : n + 1 - k = (n - k) + 1 := by omega
  rw [e]
  simp only [closeP]
  rw [if_neg (fun hall => by have := hall i hi; omega)]

theorem RoundOk.done {n : Nat} {m0 m : Mat} (h : RoundOk n m0 (n + 1) m) : closed n m0 = some m := by
  rw [← h.same]
  have e : n + 1 - (n + 1) = 0 := by omega
  rw [e]
  rfl

/-- The rows ahead of i, and of row i what is ahead of j. -/
def filled (f : Mat) (i j : Nat) : Mat := fun a c => if a < i ∨ (a = i ∧ c < j) then f a c else 0
theorem upd_filled (f : Mat) (i j : Nat) : upd (filled f i j) i j (f i j) = filled f i (j + 1) := by
  funext a b
  simp only [upd, filled]
  by_cases h : a = i ∧ b = j
  · obtain ⟨rfl, rfl⟩ := h; simp
  · rw [if_neg h]
    by_cases h1 : a < i ∨ a = i ∧ b < j
    · rw [if_pos h1, if_pos (by omega)]
    · rw [if_neg h1, if_neg (by omega)]
theorem filled_zero (f : Mat) : filled f 0 0 = fun _ _ => 0 := by funext a c; simp [filled]
/-- Nothing but noughts outside of n + 1 rows and columns. -/
def Inside (n : Nat) (f : Mat) : Prop := ∀ a c, n < a ∨ n < c → f a c = 0
theorem filled_row {f : Mat} {n : Nat} (hf : Inside n f) (i : Nat) : filled f (i + 1) 0 = filled f i (n + 1) := by
  funext a b
  simp only [filled]
  by_cases h1 : a < i ∨ a = i ∧ b < n + 1
  · rw [if_pos h1, if_pos (by omega)]
  · rw [if_neg h1]
    by_cases h2 : a < i + 1 ∨ a = i + 1 ∧ b < 0
    · rw [if_pos h2, hf a b (by omega)]
    · rw [if_neg h2]
theorem filled_done {f : Mat} {n : Nat} (hf : Inside n f) : filled f (n + 1) 0 = f := by
  funext a b
  simp only [filled]
  by_cases h1 : a < n + 1 ∨ a = n + 1 ∧ b < 0
  · rw [if_pos h1]
  · rw [if_neg h1, hf a b (by omega)]

/-- A wide bound, narrow. -/
def nar (x : Int) : Int := if x = none62 then 2147483647 else x
/-- May a wide bound be made narrow? -/
def inR (x : Int) : Prop := x = none62 ∨ (-536870912 ≤ x ∧ x ≤ 536870913)
instance (x : Int) : Decidable (inR x) := by unfold inR; infer_instance
def narM (n : Nat) (m : Mat) : Mat := fun i j => if i ≤ n ∧ j ≤ n then nar (m i j) else 0
theorem narM_inside (n : Nat) (m : Mat) : Inside n (narM n m) := fun a c h => by unfold narM; rw [if_neg (by omega)]
def allR (n : Nat) (m : Mat) : Prop := ∀ i, i ≤ n → ∀ j, j ≤ n → inR (m i j)
instance (n : Nat) (m : Mat) : Decidable (allR n m) := by unfold allR; infer_instance
/-- The zone of wide cells, or the number of the error. -/
def zoneP (n : Nat) (m : Mat) : Option Mat × Int :=
  match closed n m with
  | none => (some (fun _ _ => 0), 0)
  | some m' => if allR n m' then (some (narM n m'), 0) else (none, 10)

/-- All cells without a bound, but for what holds of all valuations. -/
def openM (n : Nat) : Mat := fun i j => if i ≤ n ∧ j ≤ n then (if i = j ∨ i = 0 then 1 else none62) else 0
theorem openM_inside (n : Nat) : Inside n (openM n) := fun a c h => by unfold openM; rw [if_neg (by omega)]
theorem openM_fit (n : Nat) : Fit n 1073741824 (openM n) := by
  refine ⟨fun i j hi hj => ?_, fun i hi => ?_⟩
  · unfold openM; rw [if_pos ⟨hi, hj⟩]; split
    · exact .inr (by omega)
    · exact .inl rfl
  · unfold openM; rw [if_pos ⟨hi, hi⟩]; simp
/-- A cell as strict as a bound, at least. -/
def keepM (m : Mat) (i j : Nat) (b : Int) : Mat := if b = 2147483647 then m else upd m i j (min (m i j) b)
/-- Is a bound right? -/
def rightB (b : Int) : Bool := decide (b = 2147483647 ∨ (-536870912 ≤ b ∧ b ≤ 536870913))
theorem rightB_bd {b : Int} (h : rightB b = true) (hb : b ≠ 2147483647) : -536870912 ≤ b ∧ b ≤ 536870913 := by
  unfold rightB at h; have := of_decide_eq_true h; omega
theorem keepM_fit {n : Nat} {m : Mat} (h : Fit n 1073741824 m) (i j : Nat) {b : Int} (hb : rightB b = true) : Fit n 1073741824 (keepM m i j b) := by
  unfold keepM
  by_cases e : b = 2147483647
  · rw [if_pos e]; exact h
  · rw [if_neg e]
    have hr := rightB_bd hb e
    refine ⟨fun a c ha hc => ?_, fun a ha => ?_⟩
    · simp only [upd]; split
      · rename_i h2; obtain ⟨rfl, rfl⟩ := h2
        exact (h.bd a c ha hc).min (.inr (by omega))
      · exact h.bd a c ha hc
    · have := h.diag a ha
      simp only [upd]; split
      · rename_i h2; obtain ⟨rfl, rfl⟩ := h2
        rw [Int.min_def]; split <;> omega
      · exact this
/-- The first p cells of a row are kept. -/
def keepUp (n : Nat) (cells : List Int) : Nat → Mat
  | 0 => openM n
  | p + 1 => keepM (keepUp n cells p) (p / (n + 1)) (p % (n + 1)) (cells.getD p 0)
theorem keepUp_fit (n : Nat) (cells : List Int) : ∀ p, (∀ q, q < p → rightB (cells.getD q 0) = true) → Fit n 1073741824 (keepUp n cells p)
  | 0, _ => openM_fit n
  | p + 1, h => keepM_fit (keepUp_fit n cells p fun q hq => h q (by omega)) _ _ (h p (by omega))
/-- The first p limits are kept. -/
def limUp (n : Nat) (l : List (Int × Int × Int)) : Nat → Mat
  | 0 => openM n
  | p + 1 => keepM (limUp n l p) (l.getD p (0, 0, 0)).1.toNat (l.getD p (0, 0, 0)).2.1.toNat (l.getD p (0, 0, 0)).2.2
/-- May a limit of n clocks be? -/
def limOk (n : Nat) (x : Int × Int × Int) : Bool := decide (0 ≤ x.1 ∧ x.1 ≤ n ∧ 0 ≤ x.2.1 ∧ x.2.1 ≤ n) && rightB x.2.2
theorem limUp_fit (n : Nat) (l : List (Int × Int × Int)) : ∀ p, (∀ q, q < p → limOk n (l.getD q (0, 0, 0)) = true) → Fit n 1073741824 (limUp n l p)
  | 0, _ => openM_fit n
  | p + 1, h => keepM_fit (limUp_fit n l p fun q hq => h q (by omega)) _ _ (by have := h p (by omega); simp only [limOk, Bool.and_eq_true] at this; exact this.2)

/-- All cells are right bounds. -/
def RightM (n : Nat) (m : Mat) : Prop := ∀ i j, i ≤ n → j ≤ n → rightB (m i j) = true
theorem right_zero (n : Nat) : RightM n (fun _ _ => 0) := fun _ _ _ _ => by show rightB 0 = true; decide
theorem narM_right {n : Nat} {m : Mat} (h : allR n m) : RightM n (narM n m) := fun i j hi hj => by
  unfold narM nar rightB
  rw [if_pos ⟨hi, hj⟩, decide_eq_true_iff]
  have := h i hi j hj
  unfold inR at this
  split <;> omega

/-- The same, where no row ends a round early. -/
def BadAt (n : Nat) (X : Int) (m : Mat) (i j : Nat) (cur : Mat) : Prop :=
  cur 0 0 < 1 ∧ Bd (2 * X + 1) (cur 0 0) ∧ (∀ c, c ≤ n → Bd (4 * X + 4) (cur 0 c)) ∧ (∀ a c, a ≤ n → c ≤ n → Bd (16 * X + 16) (cur a c)) ∧
  (∀ a c, a ≤ n → c ≤ n → (i < a ∨ (a = i ∧ j ≤ c)) → cur a c = m a c) ∧ (1 ≤ i → 1 ≤ j → Bd (3 * X + 2) (cur i 0))
def RefOk (n : Nat) (X : Int) (m : Mat) (k i j : Nat) (cur : Mat) : Prop :=
  (m k k = 1 ∧ cur = mix (fw k n m) m n i j) ∨ (k = 0 ∧ m 0 0 < 1 ∧ BadAt n X m i j cur)
theorem RefOk.bounds {n : Nat} {X : Int} {m : Mat} (hf : Fit n X m) (hX : 0 ≤ X) {k i j : Nat} {cur : Mat} (h : RefOk n X m k i j cur) (hk : k ≤ n) {a c : Nat} (ha : a ≤ n) (hc : c ≤ n) :
    Bd (16 * X + 16) (cur a c) := by
  rcases h with ⟨h1, rfl⟩ | ⟨_, _, hb⟩
  · exact ((hf.mixd hk hX i j).bd a c ha hc).mono (by omega)
  · exact hb.2.2.2.1 a c ha hc
theorem BadAt.step {n : Nat} {X : Int} {m : Mat} (hf : Fit n X m) (hX : 0 ≤ X) {i j : Nat} {cur : Mat} (h : BadAt n X m i j cur) (hi : i ≤ n) (hj : j ≤ n) :
    BadAt n X m i (j + 1) (upd cur i j (min (cur i j) (wsum (cur i 0) (cur 0 j)))) := by
  obtain ⟨h1, h2, h3, h4, h5, h6⟩ := h
  have e := h5 i j hi hj (.inr ⟨rfl, Nat.le_refl _⟩)
  have hm := hf.bd i j hi hj
  have hnew : Bd (16 * X + 16) (min (cur i j) (wsum (cur i 0) (cur 0 j))) ∧ (i = 0 → Bd (4 * X + 4) (min (cur i j) (wsum (cur i 0) (cur 0 j)))) ∧
      (i = 0 → j = 0 → Bd (2 * X + 1) (min (cur i j) (wsum (cur i 0) (cur 0 j))) ∧ min (cur i j) (wsum (cur i 0) (cur 0 j)) < 1) ∧
      (j = 0 → Bd (3 * X + 2) (min (cur i j) (wsum (cur i 0) (cur 0 j)))) := by
    rw [e]
    by_cases hi0 : i = 0
    · subst hi0
      by_cases hj0 : j = 0
      · subst hj0
        have := (hm.mono (show X ≤ 2 * X + 1 by omega)).min ((hm.sum hm).mono (show X + X + 1 ≤ 2 * X + 1 by omega))
        rw [e] at h1 ⊢
        refine ⟨this.mono (by omega), fun _ => this.mono (by omega), fun _ _ => ⟨this, ?_⟩, fun _ => this.mono (by omega)⟩
        rw [Int.min_def]; split <;> omega
      · have e2 := h5 0 j (by omega) hj (.inr ⟨rfl, Nat.le_refl _⟩)
        have := (hm.mono (show X ≤ 3 * X + 2 by omega)).min (((h2.sum hm)).mono (show 2 * X + 1 + X + 1 ≤ 3 * X + 2 by omega))
        rw [e2]
        exact ⟨this.mono (by omega), fun _ => this.mono (by omega), fun _ h => absurd h hj0, fun h => absurd h hj0⟩
    · by_cases hj0 : j = 0
      · subst hj0
        have := (hm.mono (show X ≤ 3 * X + 2 by omega)).min (((hm.sum h2)).mono (show X + (2 * X + 1) + 1 ≤ 3 * X + 2 by omega))
        rw [e]
        exact ⟨this.mono (by omega), fun h => absurd h hi0, fun h => absurd h hi0, fun _ => this⟩
      · have h7 := h6 (by omega) (by omega)
        have := (hm.mono (show X ≤ 7 * X + 7 by omega)).min ((h7.sum (h3 j hj)).mono (show 3 * X + 2 + (4 * X + 4) + 1 ≤ 7 * X + 7 by omega))
        exact ⟨this.mono (by omega), fun h => absurd h hi0, fun h => absurd h hi0, fun h => absurd h hj0⟩
  obtain ⟨n1, n2, n3, n4⟩ := hnew
  generalize min (cur i j) (wsum (cur i 0) (cur 0 j)) = v at *
  refine ⟨?_, ?_, ?_, ?_, ?_, ?_⟩
  · simp only [upd]; split
    · rename_i h; exact (n3 h.1.symm h.2.symm).2
    · exact h1
  · simp only [upd]; split
    · rename_i h; exact (n3 h.1.symm h.2.symm).1
    · exact h2
  · intro c hc
    simp only [upd]; split
    · rename_i h; exact n2 h.1.symm
    · exact h3 c hc
  · intro a c ha hc
    simp only [upd]; split
    · exact n1
    · exact h4 a c ha hc
  · intro a c ha hc hac
    simp only [upd]; rw [if_neg (by omega)]
    exact h5 a c ha hc (by omega)
  · intro hi1 _
    by_cases hj0 : j = 0
    · unfold upd; rw [if_pos ⟨rfl, hj0.symm⟩]; exact n4 hj0
    · unfold upd; rw [if_neg (fun h => hj0 h.2.symm)]; exact h6 hi1 (by omega)
theorem RefOk.step {n : Nat} {X : Int} {m : Mat} (hf : Fit n X m) (hX : 0 ≤ X) {k i j : Nat} {cur : Mat} (h : RefOk n X m k i j cur) (hk : k ≤ n) (hi : i ≤ n) (hj : j ≤ n) :
    RefOk n X m k i (j + 1) (upd cur i j (min (cur i j) (wsum (cur i k) (cur k j)))) := by
  rcases h with ⟨h1, rfl⟩ | ⟨rfl, h0, hb⟩
  · exact .inl ⟨h1, by rw [mix_cell h1 hi hj, mix_step _ _ _ _ _ hj]⟩
  · exact .inr ⟨rfl, h0, hb.step hf hX hi hj⟩
theorem RefOk.row {n : Nat} {X : Int} {m : Mat} {k i : Nat} {cur : Mat} (h : RefOk n X m k i (n + 1) cur) : RefOk n X m k (i + 1) 0 cur := by
  rcases h with ⟨h1, rfl⟩ | ⟨rfl, h0, h1, h2, h3, h4, h5, h6⟩
  · exact .inl ⟨h1, mix_row _ _ _ _⟩
  · exact .inr ⟨rfl, h0, h1, h2, h3, h4, fun a c ha hc hac => h5 a c ha hc (by omega), fun _ h => by omega⟩
theorem RoundOk.ref {n : Nat} {m0 m : Mat} {k : Nat} (h : RoundOk n m0 k m) (hk : k ≤ n) : RefOk n (1073741824 * 4 ^ k) m k 0 0 m := by
  have hX : (0 : Int) ≤ 1073741824 * 4 ^ k := by have := one_le_pow2 k; omega
  have hone : m k k = 1 → RefOk n (1073741824 * 4 ^ k) m k 0 0 m := fun h1 => .inl ⟨h1, (mix_start _ _ _).symm⟩
  rcases h.one with rfl | h1
  · by_cases h0 : m 0 0 < 1
    · refine .inr ⟨rfl, h0, h0, (h.fit.bd 0 0 (by omega) (by omega)).mono (by omega), fun c hc => (h.fit.bd 0 c (by omega) hc).mono (by omega), fun a c ha hc => (h.fit.bd a c ha hc).mono (by omega), fun _ _ _ _ _ => rfl, fun h => by omega⟩
    · exact hone (by have := h.fit.diag 0 (by omega); omega)
  · exact hone (h1 k hk)
/-- Behind the round: a cell of a clock against itself below 1 tells that there is no valuation. -/
theorem RefOk.fail {n : Nat} {m0 m cur : Mat} {k i : Nat} (hr : RoundOk n m0 k m) (hk : k ≤ n) (h : RefOk n (1073741824 * 4 ^ k) m k (n + 1) 0 cur) (hi : i ≤ n) (hd : cur i i < 1) : closed n m0 = none := by
  rcases h with ⟨h1, rfl⟩ | ⟨rfl, h0, _⟩
  · rw [mix_done] at hd; exact hr.fail hk hi hd
  · refine hr.fail hk (Nat.zero_le _) ?_
    unfold fw; rw [if_pos (show 0 ≤ n ∧ 0 ≤ n from by omega), Int.min_def]; split <;> omega
theorem RefOk.next {n : Nat} {m0 m cur : Mat} {k : Nat} (hr : RoundOk n m0 k m) (hk : k ≤ n) (h : RefOk n (1073741824 * 4 ^ k) m k (n + 1) 0 cur) (hd : ∀ i, i ≤ n → 1 ≤ cur i i) : RoundOk n m0 (k + 1) cur := by
  rcases h with ⟨h1, rfl⟩ | ⟨rfl, h0, hb⟩
  · refine hr.next hk (.inl ⟨h1, rfl⟩) ?_
    rw [mix_done] at hd; exact hd
  · have := hd 0 (by omega); have := hb.1; omega

/-- A narrow bound, wide. -/
def wid (b : Int) : Int := if b = 2147483647 then none62 else b
/-- The first p bounds, wide. -/
def widUp (l : List Int) : Nat → List Int
  | 0 => []
  | p + 1 => widUp l p ++ [wid (l.getD p 0)]
theorem widUp_length (l : List Int) : ∀ p, (widUp l p).length = p
  | 0 => rfl
  | p + 1 => by simp [widUp, widUp_length l p]
theorem widUp_getD (l : List Int) : ∀ p q, q < p → (widUp l p).getD q 0 = wid (l.getD q 0)
  | 0, q, h => by omega
  | p + 1, q, h => by
    rw [List.getD_eq_getElem?_getD]
    by_cases e : q = p
    · subst e
      rw [show widUp l (q + 1) = widUp l q ++ [wid (l.getD q 0)] from rfl, List.getElem?_append_right (by rw [widUp_length]; omega), widUp_length]
      simp
    · rw [show widUp l (p + 1) = widUp l p ++ [wid (l.getD p 0)] from rfl, List.getElem?_append_left (by rw [widUp_length]; omega), ← List.getD_eq_getElem?_getD]
      exact widUp_getD l p q (by omega)

/-- What Of answers. -/
def ofP (n : Int) (cells : List Int) : Option Mat × Int :=
  if 0 ≤ n ∧ n ≤ 8 then
    if (cells.length : Int) = (n + 1) * (n + 1) then
      if cells.all rightB then zoneP n.toNat (keepUp n.toNat cells cells.length) else (none, 7)
    else (none, 6)
  else (none, 12)
/-- What Limits answers. -/
def limP (n : Int) (l : List (Int × Int × Int)) : Option Mat × Int :=
  if 0 ≤ n ∧ n ≤ 8 then
    if l.all (limOk n.toNat) then zoneP n.toNat (limUp n.toNat l l.length) else (none, 7)
  else (none, 12)
theorem all_getD {α : Type} (l : List α) (f : α → Bool) (d : α) : l.all f = true ↔ ∀ q, q < l.length → f (l.getD q d) = true := by
  rw [List.all_eq_true]
  constructor
  · intro h q hq
    rw [List.getD_eq_getElem?_getD, List.getElem?_eq_getElem hq]
    exact h _ (List.getElem_mem hq)
  · intro h x hx
    obtain ⟨q, hq, rfl⟩ := List.getElem_of_mem hx
    have := h q hq
    rw [List.getD_eq_getElem?_getD, List.getElem?_eq_getElem hq] at this
    exact this

/-! ### all cells, row by row -/
def rowsL (n : Nat) (m : Mat) : Nat → List Int
  | 0 => []
  | i + 1 => rowsL n m i ++ (List.range (n + 1)).map (fun c => m i c)
/-- All cells. -/
def flat (n : Nat) (m : Mat) : List Int := rowsL n m (n + 1)
theorem rowsL_length (n : Nat) (m : Mat) : ∀ i, (rowsL n m i).length = i * (n + 1)
  | 0 => by simp [rowsL]
  | i + 1 => by simp [rowsL, rowsL_length n m i, Nat.add_mul]
theorem flat_length (n : Nat) (m : Mat) : (flat n m).length = (n + 1) * (n + 1) := rowsL_length n m _
theorem rowsL_getD (n : Nat) (m : Mat) : ∀ i p, p < i * (n + 1) → (rowsL n m i).getD p 0 = m (p / (n + 1)) (p % (n + 1))
  | 0, p, h => by simp at h
  | i + 1, p, h => by
    rw [List.getD_eq_getElem?_getD]
    by_cases hp : p < i * (n + 1)
    · rw [show rowsL n m (i + 1) = rowsL n m i ++ (List.range (n + 1)).map (fun c => m i c) from rfl, List.getElem?_append_left (by rw [rowsL_length]; exact hp), ← List.getD_eq_getElem?_getD]
      exact rowsL_getD n m i p hp
    · rw [Nat.add_mul, Nat.one_mul] at h
      have e1 : p / (n + 1) = i := by
        apply Nat.div_eq_of_lt_le
        · omega
        · rw [Nat.add_mul]; omega
      have e2 : p % (n + 1) = p - i * (n + 1) := by
        rw [Nat.mod_def, e1, Nat.mul_comm]
      rw [show rowsL n m (i + 1) = rowsL n m i ++ (List.range (n + 1)).map (fun c => m i c) from rfl, List.getElem?_append_right (by rw [rowsL_length]; omega), rowsL_length, e1, e2]
      simp [show p - i * (n + 1) < n + 1 by omega]
theorem flat_getD (n : Nat) (m : Mat) (p : Nat) (h : p < (n + 1) * (n + 1)) : (flat n m).getD p 0 = m (p / (n + 1)) (p % (n + 1)) := rowsL_getD n m _ p h

theorem at_row {n i j : Nat} (hj : j < n + 1) : (i * (n + 1) + j) / (n + 1) = i ∧ (i * (n + 1) + j) % (n + 1) = j := by
  constructor
  · rw [Nat.mul_comm, Nat.mul_add_div (by omega), Nat.div_eq_of_lt hj, Nat.add_zero]
  · rw [Nat.mul_comm, Nat.mul_add_mod, Nat.mod_eq_of_lt hj]
theorem at_lt {n i j : Nat} (hi : i < n + 1) (hj : j < n + 1) : i * (n + 1) + j < (n + 1) * (n + 1) := by
  have : i * (n + 1) ≤ n * (n + 1) := Nat.mul_le_mul_right _ (by omega)
  rw [Nat.add_mul, Nat.one_mul]; omega
theorem flat_at {n i j : Nat} (m : Mat) (hi : i < n + 1) (hj : j < n + 1) : (flat n m).getD (i * (n + 1) + j) 0 = m i j := by
  rw [flat_getD _ _ _ (at_lt hi hj), (at_row hj).1, (at_row hj).2]
theorem list_ext0 {l k : List Int} (hl : l.length = k.length) (h : ∀ p, p < l.length → l.getD p 0 = k.getD p 0) : l = k := by
  apply List.ext_getElem hl
  intro p h1 h2
  have := h p h1
  simpa [List.getD_eq_getElem?_getD, List.getElem?_eq_getElem h1, List.getElem?_eq_getElem h2] using this
theorem flat_upd {n i j : Nat} (m : Mat) (hi : i < n + 1) (hj : j < n + 1) (v : Int) : (flat n m).set (i * (n + 1) + j) v = flat n (upd m i j v) := by
  apply list_ext0 (by simp [flat_length])
  intro p hp
  simp only [List.length_set, flat_length] at hp
  rw [flat_getD _ _ _ hp, List.getD_eq_getElem?_getD, List.getElem?_set]
  by_cases e : i * (n + 1) + j = p
  · rw [if_pos e, if_pos (by rw [flat_length]; omega)]
    subst e
    simp [upd, (at_row (i := i) hj).1, (at_row (i := i) hj).2]
  · rw [if_neg e, ← List.getD_eq_getElem?_getD, flat_getD _ _ _ hp]
    have : ¬ (p / (n + 1) = i ∧ p % (n + 1) = j) := fun h => e (by rw [← h.1, ← h.2, Nat.mul_comm]; exact Nat.div_add_mod _ _)
    simp [upd, this]
theorem flat_congr {n : Nat} {m o : Mat} (h : ∀ i j, i ≤ n → j ≤ n → m i j = o i j) : flat n m = flat n o := by
  apply list_ext0 (by simp [flat_length])
  intro p hp
  rw [flat_length] at hp
  rw [flat_getD _ _ _ hp, flat_getD _ _ _ hp]
  have h1 : p / (n + 1) < n + 1 := Nat.div_lt_of_lt_mul hp
  have h2 := Nat.mod_lt p (show 0 < n + 1 by omega)
  exact h _ _ (by omega) (by omega)

/-- The diagonal and the first row made at most 1, as far as clock i. -/
def clUp (m : Mat) (i : Nat) : Mat := fun a c => if (a = c ∧ a < i) ∨ (a = 0 ∧ c < i) then min (m a c) 1 else m a c
theorem clUp_zero (m : Mat) : clUp m 0 = m := by funext a c; simp [clUp]
theorem clUp_at (m : Mat) (i : Nat) : clUp m i i i = m i i := by unfold clUp; rw [if_neg (by omega)]
theorem clUp_top (m : Mat) (i : Nat) : clUp m i 0 i = m 0 i := by unfold clUp; rw [if_neg (by omega)]
theorem clUp_step (m : Mat) (i : Nat) : upd (upd (clUp m i) i i (min (clUp m i i i) 1)) 0 i (min (upd (clUp m i) i i (min (clUp m i i i) 1) 0 i) 1) = clUp m (i + 1) := by
  rw [clUp_at]
  funext a c
  by_cases hc : c = i
  · subst hc
    by_cases ha : a = 0
    · subst ha
      by_cases h0 : c = 0
      · subst h0
        simp [upd, clUp]
      · have h0' : ¬ 0 = c := fun h => h0 h.symm
        simp [upd, clUp, h0']
    · by_cases hac : a = c
      · subst hac
        simp [upd, clUp, ha]
      · have : ¬ (a = c ∧ a < c + 1) := fun h => hac h.1
        simp [upd, clUp, ha, hac]
  · have h1 : ¬ (a = 0 ∧ c = i) := fun h => hc h.2
    have h2 : ¬ (a = i ∧ c = i) := fun h => hc h.2
    show (if a = 0 ∧ c = i then _ else (if a = i ∧ c = i then _ else clUp m i a c)) = _
    rw [if_neg h1, if_neg h2]
    unfold clUp
    by_cases h3 : (a = c ∧ a < i) ∨ (a = 0 ∧ c < i)
    · rw [if_pos h3, if_pos (by omega)]
    · rw [if_neg h3, if_neg (by omega)]
theorem clUp_fit {n : Nat} {m : Mat} (h : ∀ i j, i ≤ n → j ≤ n → Bd 1073741824 (m i j)) : Fit n 1073741824 (clUp m (n + 1)) := by
  refine ⟨fun i j hi hj => ?_, fun i hi => ?_⟩
  · unfold clUp; split
    · exact (h i j hi hj).min (.inr (by omega))
    · exact h i j hi hj
  · unfold clUp; rw [if_pos (by omega), Int.min_def]; split <;> omega
/-- The first p wide bounds, narrow. -/
def narUp (l : List Int) : Nat → List Int
  | 0 => []
  | p + 1 => narUp l p ++ [nar (l.getD p 0)]
theorem narUp_length (l : List Int) : ∀ p, (narUp l p).length = p
  | 0 => rfl
  | p + 1 => by simp [narUp, narUp_length l p]
theorem narUp_getD (l : List Int) : ∀ p q, q < p → (narUp l p).getD q 0 = nar (l.getD q 0)
  | 0, q, h => by omega
  | p + 1, q, h => by
    rw [List.getD_eq_getElem?_getD]
    by_cases e : q = p
    · subst e
      rw [show narUp l (q + 1) = narUp l q ++ [nar (l.getD q 0)] from rfl, List.getElem?_append_right (by rw [narUp_length]; omega), narUp_length]
      simp
    · rw [show narUp l (p + 1) = narUp l p ++ [nar (l.getD p 0)] from rfl, List.getElem?_append_left (by rw [narUp_length]; omega), ← List.getD_eq_getElem?_getD]
      exact narUp_getD l p q (by omega)
theorem narUp_flat (n : Nat) (m : Mat) : narUp (flat n m) ((n + 1) * (n + 1)) = flat n (narM n m) := by
  apply list_ext0 (by rw [narUp_length, flat_length])
  intro p hp
  rw [narUp_length] at hp
  have h1 : p / (n + 1) < n + 1 := Nat.div_lt_of_lt_mul hp
  have h2 := Nat.mod_lt p (show 0 < n + 1 by omega)
  rw [narUp_getD _ _ _ hp, flat_getD _ _ _ hp, flat_getD _ _ _ hp]
  unfold narM; rw [if_pos (by omega)]
theorem allR_flat {n : Nat} {m : Mat} (h : ∀ p, p < (n + 1) * (n + 1) → inR ((flat n m).getD p 0)) : allR n m := fun i hi j hj => by
  have := h (i * (n + 1) + j) (at_lt (by omega) (by omega))
  rwa [flat_at m (by omega) (by omega)] at this
theorem allR_at {n : Nat} {m : Mat} (h : allR n m) {p : Nat} (hp : p < (n + 1) * (n + 1)) : inR ((flat n m).getD p 0) := by
  have h1 : p / (n + 1) < n + 1 := Nat.div_lt_of_lt_mul hp
  have h2 := Nat.mod_lt p (show 0 < n + 1 by omega)
  rw [flat_getD _ _ _ hp]
  exact h _ (by omega) _ (by omega)

end Go.Proofs.YtncgapnooabdgaaDoor

/- Words for matrices that lie in memory: a block that holds a number and 81 cells. -/
namespace Go.Proofs.YtncgapnooabdgaaDoor
open Go.RowKit

/-- The cells of a block: the number of clocks, then nine rows of nine. -/
def matCells (k : IntKind) (n : Nat) (m : Mat) : Array Value :=
  (Value.int .i64 n :: (List.range 81).map fun p => Value.int k (m (p / 9) (p % 9))).toArray

/-- Block b holds a matrix. -/
def MatAt (w : World) (b : Nat) (T : TypeId) (k : IntKind) (n : Nat) (m : Mat) : Prop :=
  w.heap[b]? = some (.cells (matCells k n m) T (0, 0))

theorem matCells_size (k : IntKind) (n : Nat) (m : Mat) : (matCells k n m).size = 82 := by simp [matCells]

theorem matCells_head (k : IntKind) (n : Nat) (m : Mat) : (matCells k n m)[0]? = some (.int .i64 n) := by simp [matCells]

theorem matCells_get (k : IntKind) (n : Nat) (m : Mat) (p : Nat) (hp : p < 81) : (matCells k n m)[p + 1]? = some (.int k (m (p / 9) (p % 9))) := by
  simp [matCells, hp]

theorem matCells_set (k : IntKind) (n : Nat) (m : Mat) (i j : Nat) (hi : i < 9) (hj : j < 9) (v : Int) :
    (matCells k n m).setIfInBounds (1 + i * 9 + j) (.int k v) = matCells k n (upd m i j v) := by
  apply Array.ext_getElem?
  intro q
  rw [Array.getElem?_setIfInBounds]
  match q with
  | 0 => rw [if_neg (by omega), matCells_head, matCells_head]
  | p + 1 =>
    by_cases hp : p < 81
    · rw [matCells_get _ _ _ _ hp, matCells_get _ _ _ _ hp]
      by_cases e : 1 + i * 9 + j = p + 1
      · rw [if_pos e, if_pos (by rw [matCells_size]; omega)]
        have h1 : p / 9 = i := by omega
        have h2 : p % 9 = j := by omega
        simp [upd, h1, h2]
      · rw [if_neg e]
        have : ¬ (p / 9 = i ∧ p % 9 = j) := by omega
        simp [upd, this]
    · rw [if_neg (by omega), Array.getElem?_eq_none (by rw [matCells_size]; omega), Array.getElem?_eq_none (by rw [matCells_size]; omega)]

section
variable {w : World} {b : Nat} {T : TypeId} {k : IntKind} {n : Nat} {m : Mat}
theorem MatAt.lt (h : MatAt w b T k n m) : b < w.heap.size := (Array.getElem?_eq_some_iff.1 h).1
theorem MatAt.head (h : MatAt w b T k n m) : w.cell? ⟨b, 0, none⟩ = some (.int .i64 n) := by
  unfold MatAt at h
  simp [World.cell?, h, matCells_head]
theorem MatAt.cell (h : MatAt w b T k n m) (i j : Nat) (hi : i < 9) (hj : j < 9) : w.cell? ⟨b, 1 + i * 9 + j, none⟩ = some (.int k (m i j)) := by
  unfold MatAt at h
  have e : 1 + i * 9 + j = (i * 9 + j) + 1 := by omega
  have h1 : (i * 9 + j) / 9 = i := by omega
  have h2 : (i * 9 + j) % 9 = j := by omega
  simp [World.cell?, h, e, matCells_get _ _ _ _ (show i * 9 + j < 81 by omega), h1, h2]
theorem MatAt.frozen (h : MatAt w b T k n m) (o : Nat) : w.frozen? ⟨b, o, none⟩ = false := by
  unfold MatAt at h
  simp [World.frozen?, h]
theorem MatAt.set (h : MatAt w b T k n m) (i j : Nat) (hi : i < 9) (hj : j < 9) (v : Int) : MatAt (w.setCell ⟨b, 1 + i * 9 + j, none⟩ (.int k v)) b T k n (upd m i j v) := by
  unfold MatAt at h ⊢
  simp only [World.setCell, Array.getElem?_modify, if_true, h, Option.map_some]
  simp [matCells_set, hi, hj]
theorem MatAt.below {B : Nat} {w' : World} (h : MatAt w b T k n m) (hb : Below B w w') (hB : b < B) : MatAt w' b T k n m := (hb.block b hB).trans h
theorem MatAt.later {w' : World} (h : MatAt w b T k n m) (hb : Below w.heap.size w w') : MatAt w' b T k n m := h.below hb h.lt
theorem MatAt.drew (h : MatAt w b T k n m) : MatAt w.drew b T k n m := h
theorem MatAt.drewN (h : MatAt w b T k n m) (q : Nat) : MatAt (w.drewN q) b T k n m := h
theorem MatAt.alloc (h : MatAt w b T k n m) (o : Obj) : MatAt (w.alloc o) b T k n m := h.later ((Below.refl _ _).alloc (Nat.le_refl _) o)
end

/-- What was there is as it was, but for block b. -/
def Only (b : Nat) (w w' : World) : Prop := w.grownBy w' (some b)
theorem Only.refl (b : Nat) (w : World) : Only b w w := ⟨rfl, rfl, rfl, Nat.le_refl _, fun _ _ _ => rfl⟩
theorem Only.trans {b : Nat} {w w1 w2 : World} (h : Only b w w1) (k : Only b w1 w2) : Only b w w2 :=
  ⟨k.os.trans h.os, k.tape.trans h.tape, k.output.trans h.output, Nat.le_trans h.size k.size, fun i hi hne => (k.block i (Nat.lt_of_lt_of_le hi h.size) hne).trans (h.block i hi hne)⟩
theorem Only.setCell {b : Nat} {w w' : World} (h : Only b w w') (o : Nat) (v : Value) : Only b w (w'.setCell ⟨b, o, none⟩ v) :=
  h.trans ⟨rfl, rfl, rfl, by simp [World.setCell], fun k _ hk => Below.heap_setCell _ _ _ _ (fun e => hk (by rw [e]))⟩
theorem Only.drew {b : Nat} {w w' : World} (h : Only b w w') : Only b w w'.drew := ⟨h.os, h.tape, h.output, h.size, h.block⟩
theorem Only.drewN {b : Nat} {w w' : World} (h : Only b w w') (q : Nat) : Only b w (w'.drewN q) := ⟨h.os, h.tape, h.output, h.size, h.block⟩
theorem Only.alloc {b : Nat} {w w' : World} (h : Only b w w') (o : Obj) : Only b w (w'.alloc o) := h.trans (World.grownBy_alloc _ _ _)
theorem Only.andThen {b c : Nat} {w w1 w2 : World} (h : Only b w w1) (k : Only c w1 w2) (hc : w.heap.size ≤ c) : Only b w w2 :=
  ⟨k.os.trans h.os, k.tape.trans h.tape, k.output.trans h.output, Nat.le_trans h.size k.size, fun i hi hne => (k.block i (Nat.lt_of_lt_of_le hi h.size) (by simp; omega)).trans (h.block i hi hne)⟩
theorem Only.below {b B : Nat} {w w' : World} (h : Only b w w') (hb : B ≤ b) (hB : B ≤ w.heap.size) : Below B w w' :=
  ⟨h.os, h.tape, h.output, h.size, fun k hk => h.block k (by omega) (by simp; omega)⟩
theorem belowN {B : Nat} {w w' : World} (h : Below B w w') (q : Nat) : Below B w (w'.drewN q) := ⟨h.os, h.tape, h.output, h.size, h.block⟩
theorem MatAt.only {w w' : World} {b c : Nat} {T : TypeId} {k : IntKind} {n : Nat} {m : Mat} (h : MatAt w c T k n m) (ho : Only b w w') (hne : c ≠ b) : MatAt w' c T k n m :=
  (ho.block c h.lt (by simp [hne])).trans h

/-- A zone, or nil. -/
def ZoneV (T : TypeId) (w : World) (v : Value) : Option (Nat × Mat) → Prop
  | none => v = .pointer none
  | some (n, m) => ∃ b, v = .pointer (some ⟨b, 0, none⟩) ∧ n ≤ 8 ∧ RightM n m ∧ MatAt w b T .i32 n m
theorem ZoneV.below {T : TypeId} {w w' : World} {v : Value} {z : Option (Nat × Mat)} (h : ZoneV T w v z) (hb : Below w.heap.size w w') : ZoneV T w' v z := by
  match z, h with
  | none, h => exact h
  | some (n, m), ⟨b, h1, hn, hr, h2⟩ => exact ⟨b, h1, hn, hr, h2.later hb⟩

/-- One part laid over all cells. -/
theorem foldl_set (l : List Value) : ∀ (o : Nat) (z : Array Value), o + l.length = z.size →
    ((l.zipIdx o).foldl (fun cs (c : Value × Nat) => cs.setIfInBounds (0 + c.2) c.1) z).toList = z.toList.take o ++ l := by
  induction l with
  | nil => intro o z h; simp at h; subst h; simp [← Array.length_toList]
  | cons x l ih =>
    intro o z h
    simp only [List.length_cons] at h
    simp only [List.zipIdx_cons, List.foldl_cons]
    rw [ih (o + 1) _ (by simp; omega)]
    simp only [Nat.zero_add, Array.toList_setIfInBounds]
    rw [List.take_set, List.take_add_one, List.set_append_right _ _ (by simp; omega)]
    have e : z.toList[o]? = some z[o] := by simp
    simp [e, Nat.min_eq_left (show o ≤ z.size by omega)]
theorem fill_whole (c z : Array Value) (h : c.size = z.size) : Instr.fill (fun i => (#[(0, z.size)] : Array (Nat × Nat))[i]?) z [(0, .agg c)] = some c := by
  have e : (Value.agg c).cells = c := rfl
  have hf := foldl_set c.toList 0 z (by simpa using h)
  simp only [Instr.fill, List.getElem?_toArray, List.getElem?_cons_zero, e]
  rw [if_neg (by simp [h])]
  congr 1
  rw [← Array.toList_inj, ← Array.foldl_toList, Array.toList_zipIdx]
  simpa using hf
theorem lay_whole (c z : Array Value) (h : c.size = z.size) : Array.foldl (fun (cs : Array Value) (x : Value × Nat) => cs.setIfInBounds x.snd x.fst) z c.zipIdx 0 c.size = c := by
  have hf := foldl_set c.toList 0 z (by simpa using h)
  have e : c.size = c.zipIdx.size := by simp
  rw [e, ← Array.toList_inj, ← Array.foldl_toList, Array.toList_zipIdx]
  simpa using hf
theorem build_whole {P : Program} (t : TypeId) (z c : Array Value) (fs : Array Field) (w : World) (hz : (zeroValue t).run P w = .ok (.agg z) w) (hu : P.underlying t = some (.struct fs))
    (hp : (fs.mapM fun (f : Field) => (do pure (f.offset, ← sizeOf f.type) : Sem (Nat × Nat))).run P w = .ok #[(0, z.size)] w) (hc : c.size = z.size) : (Instr.build t #[(0, .agg c)]).run P w = .ok (.agg c) w := by
  have e : (Value.agg z).cells = z := rfl
  have hf := fill_whole c z hc
  simp only [Instr.build, Sem.run_bind, hz, e, run_underlying hu, Result.andThen_ok, hp, hf, Sem.run_pure]

/-- A slice of numbers that can be read. -/
def Ints (w : World) (k : IntKind) (A : Option Addr) (xs : List Int) : Prop :=
  ∀ j, j < xs.length → ∃ b off, A = some ⟨b, off, none⟩ ∧ w.cell? ⟨b, off + j, none⟩ = some (.int k (xs.getD j 0))
theorem Ints.below {w w' : World} {k : IntKind} {A : Option Addr} {xs : List Int} (h : Ints w k A xs) (hb : Below w.heap.size w w') : Ints w' k A xs := fun j hj => by
  obtain ⟨b, off, e, hc⟩ := h j hj
  exact ⟨b, off, e, (hb.cell (p := ⟨b, off + j, none⟩) (World.block_lt_of_cell? w _ hc)).trans hc⟩
/-- A slice of bounds of differences that can be read: three cells each. -/
def Lims (w : World) (A : Option Addr) (xs : List (Int × Int × Int)) : Prop :=
  ∀ j, j < xs.length → ∃ b off, A = some ⟨b, off, none⟩ ∧ w.cell? ⟨b, off + j * 3, none⟩ = some (.int .i64 (xs.getD j (0, 0, 0)).1) ∧
    w.cell? ⟨b, off + j * 3 + 1, none⟩ = some (.int .i64 (xs.getD j (0, 0, 0)).2.1) ∧ w.cell? ⟨b, off + j * 3 + 2, none⟩ = some (.int .i32 (xs.getD j (0, 0, 0)).2.2)
theorem Lims.below {w w' : World} {A : Option Addr} {xs : List (Int × Int × Int)} (h : Lims w A xs) (hb : Below w.heap.size w w') : Lims w' A xs := fun j hj => by
  obtain ⟨b, off, e, h1, h2, h3⟩ := h j hj
  exact ⟨b, off, e, (hb.cell (p := ⟨b, _, none⟩) (World.block_lt_of_cell? w _ h1)).trans h1, (hb.cell (p := ⟨b, _, none⟩) (World.block_lt_of_cell? w _ h2)).trans h2, (hb.cell (p := ⟨b, _, none⟩) (World.block_lt_of_cell? w _ h3)).trans h3⟩
theorem idx_div (p n : Nat) : (p : Int) / ((n : Int) + 1) = ((p / (n + 1) : Nat) : Int) := by simp
theorem idx_mod (p n : Nat) : (p : Int) % ((n : Int) + 1) = ((p % (n + 1) : Nat) : Int) := by simp

theorem wrap_tdiv (p n : Nat) (hp : p ≤ 1000000) : IntKind.i64.wrap ((p : Int).tdiv ((n : Int) + 1)) = ((p / (n + 1) : Nat) : Int) := by
  have e : (p : Int).tdiv ((n : Int) + 1) = ((p / (n + 1) : Nat) : Int) := by
    rw [Int.tdiv_eq_ediv_of_nonneg (by omega), idx_div]
  rw [e, IntKind.wrap_i64]
  have : p / (n + 1) ≤ p := Nat.div_le_self _ _
  generalize p / (n + 1) = q at this ⊢
  omega
theorem wrap_tmod (p n : Nat) (hp : p ≤ 1000000) : IntKind.i64.wrap ((p : Int).tmod ((n : Int) + 1)) = ((p % (n + 1) : Nat) : Int) := by
  have e : (p : Int).tmod ((n : Int) + 1) = ((p % (n + 1) : Nat) : Int) := by
    rw [Int.tmod_eq_emod_of_nonneg (by omega), idx_mod]
  rw [e, IntKind.wrap_i64]
  have : p % (n + 1) ≤ p := Nat.mod_le _ _
  generalize p % (n + 1) = q at this ⊢
  omega

def vals (k : IntKind) (xs : List Int) : List Value := xs.map fun x => .int k x
/-- A row of numbers of the call's own. -/
def OwnI (w : World) (base : Nat) (e : TypeId) (k : IntKind) (v : Value) (xs : List Int) : Prop := w.ownsRow base e 1 v xs.length (vals k xs)
/-- Block g begins with these numbers. -/
def RowAt (w : World) (g : Nat) (e : TypeId) (k : IntKind) (xs : List Int) : Prop :=
  ∃ cur : Array Value, w.heap[g]? = some (.cells cur e (0, 0)) ∧ cur.toList.take xs.length = vals k xs
section
variable {w : World} {g : Nat} {e : TypeId} {k : IntKind} {xs : List Int}
theorem RowAt.lt (h : RowAt w g e k xs) : g < w.heap.size := by obtain ⟨cur, h1, _⟩ := h; exact (Array.getElem?_eq_some_iff.1 h1).1
theorem RowAt.cell (h : RowAt w g e k xs) (p : Nat) (hp : p < xs.length) : w.cell? ⟨g, p, none⟩ = some (.int k (xs.getD p 0)) := by
  obtain ⟨cur, h1, h2⟩ := h
  have e1 : cur.toList[p]? = (vals k xs)[p]? := by rw [← h2, List.getElem?_take, if_pos hp]
  have e2 : (vals k xs)[p]? = some (.int k (xs.getD p 0)) := by
    simp [vals, List.getElem?_eq_getElem hp, List.getD_eq_getElem?_getD]
  rw [World.cell?, h1]
  simp only [Option.isSome_none, Bool.false_eq_true, if_false]
  rw [← Array.getElem?_toList, e1, e2]
theorem RowAt.frozen (h : RowAt w g e k xs) (o : Nat) : w.frozen? ⟨g, o, none⟩ = false := by
  obtain ⟨cur, h1, _⟩ := h
  simp [World.frozen?, h1]
theorem RowAt.set (h : RowAt w g e k xs) (p : Nat) (v : Int) : RowAt (w.setCell ⟨g, p, none⟩ (.int k v)) g e k (xs.set p v) := by
  obtain ⟨cur, h1, h2⟩ := h
  refine ⟨cur.setIfInBounds p (.int k v), ?_, ?_⟩
  · simp only [World.setCell, Array.getElem?_modify, if_true, h1, Option.map_some]
    simp
  · rw [Array.toList_setIfInBounds, List.length_set, List.take_set, h2]
    simp [vals, List.map_set]
theorem RowAt.below {B : Nat} {w' : World} (h : RowAt w g e k xs) (hb : Below B w w') (hB : g < B) : RowAt w' g e k xs := by
  obtain ⟨cur, h1, h2⟩ := h
  exact ⟨cur, (hb.block g hB).trans h1, h2⟩
theorem RowAt.later {w' : World} (h : RowAt w g e k xs) (hb : Below w.heap.size w w') : RowAt w' g e k xs := h.below hb h.lt
theorem RowAt.only {w' : World} {c : Nat} (h : RowAt w g e k xs) (ho : Only c w w') (hne : g ≠ c) : RowAt w' g e k xs := by
  have hlt := h.lt
  obtain ⟨cur, h1, h2⟩ := h
  exact ⟨cur, (ho.block g hlt (by simp [hne])).trans h1, h2⟩
theorem RowAt.drewN (h : RowAt w g e k xs) (q : Nat) : RowAt (w.drewN q) g e k xs := h
theorem RowAt.drew (h : RowAt w g e k xs) : RowAt w.drew g e k xs := h
theorem RowAt.ints (h : RowAt w g e k xs) : Ints w k (some ⟨g, 0, none⟩) xs := fun j hj => ⟨g, 0, rfl, by rw [Nat.zero_add]; exact h.cell j hj⟩
end
theorem row_vals {w : World} {g : Nat} {e : TypeId} {k : IntKind} {xs : List Int} (h : RowAt w g e k xs) : ∀ j u, (vals k xs)[j]? = some u → w.cell? ((⟨g, 0, none⟩ : Addr).add j) = some u := by
  intro j u hu
  have ha : (⟨g, 0, none⟩ : Addr).add j = ⟨g, j, none⟩ := by unfold Addr.add; split <;> simp_all
  rw [ha]
  by_cases hj : j < xs.length
  · rw [h.cell j hj, ← hu]
    simp [vals, List.getElem?_eq_getElem hj, List.getD_eq_getElem?_getD]
  · simp [vals, hj] at hu

/-- A row of the call's own that is not empty. -/
theorem OwnI.row {w : World} {base : Nat} {e : TypeId} {k : IntKind} {v : Value} {xs : List Int} (h : OwnI w base e k v xs) (hne : 0 < xs.length) :
    ∃ g cap, v = .slice (some ⟨g, 0, none⟩) xs.length cap ∧ base ≤ g ∧ RowAt w g e k xs := by
  rcases h.2 with ⟨_, h0⟩ | ⟨g, cap, cur, hv, hg, hh, _, _, _, ht⟩
  · omega
  · exact ⟨g, cap, hv, hg, cur, hh, by simpa using ht⟩
theorem OwnI.later {w w' : World} {base : Nat} {e : TypeId} {k : IntKind} {v : Value} {xs : List Int} (h : OwnI w base e k v xs) (hb : Below w.heap.size w w') : OwnI w' base e k v xs := by
  have hg : w.grownBy w' none := ⟨hb.os, hb.tape, hb.output, hb.size, fun i hi _ => hb.block i hi⟩
  exact World.ownsRow.kept h hg (by cases v.ownBlock <;> simp)
/-- Any row of the call's own is a slice that can be read. -/
theorem OwnI.slice {w : World} {base : Nat} {e : TypeId} {k : IntKind} {v : Value} {xs : List Int} (h : OwnI w base e k v xs) : ∃ A cap, v = .slice A xs.length cap ∧ Ints w k A xs := by
  by_cases hne : 0 < xs.length
  · obtain ⟨g, cap, hv, _, hr⟩ := h.row hne
    exact ⟨_, cap, hv, hr.ints⟩
  · have e0 : xs = [] := List.eq_nil_of_length_eq_zero (by omega)
    subst e0
    rcases h.2 with ⟨hv, _⟩ | ⟨g, cap, cur, hv, _⟩
    · exact ⟨none, 0, hv, fun j hj => by simp at hj⟩
    · exact ⟨_, cap, hv, fun j hj => by simp at hj⟩

theorem min_ints (ats : Array TypeId) (ty : TypeId) (k k' : IntKind) (x y : Int) : Builtin.min_ ats ty #[.int k x, .int k' y] = pure (.int k (min x y)) := by
  simp only [Builtin.min_, List.foldlM_cons, List.foldlM_nil, Builtin.min2]
  by_cases h : y < x
  · simp [h, Int.min_def, show ¬ x ≤ y by omega]
  · simp [h, Int.min_def, show x ≤ y by omega]
theorem max_ints (ats : Array TypeId) (ty : TypeId) (k k' : IntKind) (x y : Int) : Builtin.max_ ats ty #[.int k x, .int k' y] = pure (.int k (max x y)) := by
  simp only [Builtin.max_, List.foldlM_cons, List.foldlM_nil, Builtin.max2]
  by_cases h : x < y
  · simp [h, Int.max_def, show x ≤ y by omega]
  · by_cases e : x = y
    · simp [e]
    · simp [h, Int.max_def, show ¬ x ≤ y by omega]

end Go.Proofs.YtncgapnooabdgaaDoor

/- The zero values of the great types. -/
namespace Go.Proofs.YtncgapnooabdgaaDoor
open Go Go.RowKit
end Go.Proofs.YtncgapnooabdgaaDoor

/- The lowest bit of numbers of 64 bits. -/
namespace Go.Proofs.YtncgapnooabdgaaDoor
open Go Go.RowKit

theorem i64_and1 (x : Int) : bits .and .i64 x 1 = x % 2 := by
  show IntKind.i64.wrap ((BitVec.ofInt 64 x &&& BitVec.ofInt 64 1).toNat : Int) = _
  rw [BitVec.toNat_and]
  have e1 : (BitVec.ofInt 64 1).toNat = 1 := by decide
  rw [e1, Nat.and_one_is_mod, BitVec.toNat_ofInt, IntKind.wrap_i64]
  omega
theorem i64_and_and1 (x y : Int) : bits .and .i64 (bits .and .i64 x y) 1 = (x % 2) * (y % 2) := by
  rw [i64_and1]
  have h0 : bits .and .i64 x y = IntKind.i64.wrap ((BitVec.ofInt 64 x &&& BitVec.ofInt 64 y).toNat : Int) := rfl
  rw [h0, BitVec.toNat_and, IntKind.wrap_i64]
  have h := Nat.and_mod_two_pow (a := (BitVec.ofInt 64 x).toNat) (b := (BitVec.ofInt 64 y).toNat) (n := 1)
  simp only [Nat.pow_one] at h
  generalize hz : (BitVec.ofInt 64 x).toNat &&& (BitVec.ofInt 64 y).toNat = z at h ⊢
  have hx : (BitVec.ofInt 64 x).toNat % 2 = (x % 2).toNat := by rw [BitVec.toNat_ofInt]; omega
  have hy : (BitVec.ofInt 64 y).toNat % 2 = (y % 2).toNat := by rw [BitVec.toNat_ofInt]; omega
  rw [hx, hy] at h
  clear hx hy hz h0
  have cx : x % 2 = 0 ∨ x % 2 = 1 := by omega
  have cy : y % 2 = 0 ∨ y % 2 = 1 := by omega
  rcases cx with cx | cx <;> rcases cy with cy | cy <;> rw [cx, cy] at h ⊢
  · have h2 : z % 2 = 0 := h
    omega
  · have h2 : z % 2 = 0 := h
    omega
  · have h2 : z % 2 = 0 := h
    omega
  · have h2 : z % 2 = 1 := h
    omega
theorem i64_andNot1 (x : Int) (h0 : -9223372036854775808 ≤ x) (h1 : x ≤ 9223372036854775807) : bits .andNot .i64 x 1 = x - x % 2 := by
  show IntKind.i64.wrap ((BitVec.ofInt 64 x &&& ~~~ BitVec.ofInt 64 1).toNat : Int) = _
  have e : BitVec.ofInt 64 x &&& ~~~ BitVec.ofInt 64 1 = (BitVec.ofInt 64 x >>> 1) <<< 1 := by
    ext i hi
    simp only [BitVec.getElem_and, BitVec.getElem_not, BitVec.getElem_shiftLeft]
    by_cases h : i = 0
    · subst h; simp; 
    · have : (BitVec.ofInt 64 1)[i] = false := by
        have : BitVec.ofInt 64 1 = BitVec.twoPow 64 0 := by decide
        rw [this, BitVec.getElem_twoPow]; simp; omega
      rw [this]
      have : ¬ i < 1 := by omega
      simp [this]
      rw [← BitVec.getLsbD_eq_getElem]
      congr 1; omega
  rw [e, BitVec.toNat_shiftLeft, BitVec.toNat_ushiftRight, BitVec.toNat_ofInt, IntKind.wrap_i64, Nat.shiftLeft_eq, Nat.shiftRight_eq_div_pow]
  omega
end Go.Proofs.YtncgapnooabdgaaDoor

/- Small functions of bound and dbm: what each call computes. -/
namespace Go.Proofs.YtncgapnooabdgaaDoor
open Go.RowKit
set_option linter.unusedVariables false
set_option linter.unusedSimpArgs false
attribute [local go_sem] min_ints max_ints

set_option maxHeartbeats 400000 in
theorem few_any (n : Int) (w : World) :
    Calls Tryd.prog 48 #[.int .i64 n] w fun e w' => e = .returned (.bool (decide (0 ≤ n ∧ n ≤ 8))) ∧ w = w' := by
  by_cases h0 : 0 ≤ n
  · have hd : decide ((0 : Int) ≤ n) = true := decide_eq_true h0
    by_cases h1 : n ≤ 8
    all_goals
      go_enter Tryd.func48, Tryd.ntmps48
      go_wp2
      go_ret
      exact ⟨by simp [*], rfl⟩
  · have hd : decide ((0 : Int) ≤ n) = false := decide_eq_false h0
    go_enter Tryd.func48, Tryd.ntmps48
    go_wp2
    go_ret
    exact ⟨by simp [*], rfl⟩

set_option maxHeartbeats 400000 in
set_option maxRecDepth 100000 in
theorem keep_some (b i j : Nat) (n : Nat) (m : Nat → Nat → Int) (x : Int) (w : World) (hi : i < 9) (hj : j < 9) (h : MatAt w b 115 .i64 n m)
    (hx : (x == 2147483647) = false) (hx2 : (x != 2147483647) = true) (hx3 : -2147483648 ≤ x) (hx4 : x ≤ 2147483647) :
    Calls Tryd.prog 51 #[.pointer (some ⟨b, 0, none⟩), .int .i64 i, .int .i64 j, .int .i32 x] w fun e w' =>
      e = .returned (.tuple #[]) ∧ w' = (w.setCell ⟨b, 1 + i * 9 + j, none⟩ (.int .i64 (min (m i j) x))).drew := by
  have hc := h.cell i j hi hj
  have hf := h.frozen (1 + i * 9 + j)
  clear h
  go_enter Tryd.func51, Tryd.ntmps51
  go_wp2
  go_region
  go_wp2
  go_end0
  exact ⟨rfl, rfl⟩

set_option maxHeartbeats 400000 in
theorem keep_inf (p i j : Value) (w : World) :
    Calls Tryd.prog 51 #[p, i, j, .int .i32 2147483647] w fun e w' => e = .returned (.tuple #[]) ∧ w = w' := by
  go_enter Tryd.func51, Tryd.ntmps51
  go_wp2
  go_end0
  exact ⟨rfl, rfl⟩

theorem open_cells (n : Nat) : (Tryd.zeroCells115).setIfInBounds 0 (Value.int .i64 n) = matCells .i64 n (fun _ _ => 0) := by
  rfl

theorem keep_any (b : Nat) (x y : Int) (i j : Nat) (n : Nat) (m : Mat) (bd : Int) (w : World) (hi : i < 9) (hj : j < 9) (h : MatAt w b 115 .i64 n m) (hx : x = i) (hy : y = j)
    (h3 : -2147483648 ≤ bd) (h4 : bd ≤ 2147483647) :
    Calls Tryd.prog 51 #[.pointer (some ⟨b, 0, none⟩), .int .i64 x, .int .i64 y, .int .i32 bd] w fun e w' => e = .returned (.tuple #[]) ∧ Only b w w' ∧ MatAt w' b 115 .i64 n (keepM m i j bd) := by
  subst hx hy
  by_cases e : bd = 2147483647
  · subst e
    refine (keep_inf _ _ _ w).mono ?_
    rintro e w' ⟨rfl, rfl⟩
    exact ⟨rfl, Only.refl _ _, by unfold keepM; rw [if_pos rfl]; exact h⟩
  · refine (keep_some b i j n m bd w hi hj h (by simp [e]) (by simp [e]) h3 h4).mono ?_
    rintro e' w' ⟨rfl, rfl⟩
    refine ⟨rfl, ((Only.refl _ _).setCell _ _).drew, ?_⟩
    unfold keepM; rw [if_neg e]
    exact h.set i j hi hj _

/-- What the outer loop of 'open' has made. -/
def OpenRel (w0 : World) (n i j : Nat) (wr : World) : Prop := Below w0.heap.size w0 wr ∧ MatAt wr w0.heap.size 115 .i64 n (filled (openM n) i j) ∧ i ≤ n + 1 ∧ j ≤ n + 1

theorem open_start (w : World) (n : Nat) : OpenRel w n 0 0 (w.alloc (.cells ((Tryd.zeroCells115).setIfInBounds 0 (Value.int .i64 n)) 115)) := by
  refine ⟨(Below.refl _ _).alloc (Nat.le_refl _) _, ?_, by omega, by omega⟩
  unfold MatAt
  rw [heap_alloc_new, open_cells]
  rw [filled_zero]

theorem open_step {w wr : World} {n i j : Nat} (h : OpenRel w n i j wr) (hn : n ≤ 8) (hi : i < n + 1) (hj : j < n + 1) (v : Int) (hv : v = openM n i j) :
    OpenRel w n i (j + 1) (wr.setCell ⟨w.heap.size, 1 + i * 9 + j, none⟩ (.int .i64 v)) := by
  subst hv
  refine ⟨h.1.setCell (Nat.le_refl _) _, ?_, h.2.2.1, by omega⟩
  have := h.2.1.set i j (by omega) (by omega) (openM n i j)
  rw [upd_filled] at this
  exact this
theorem open_step2 {w wr : World} {n i j : Nat} (h : OpenRel w n i j wr) (hn : n ≤ 8) (hi : i < n + 1) (hj : j < n + 1) (u v : Int) (hv : v = openM n i j) :
    OpenRel w n i (j + 1) ((wr.setCell ⟨w.heap.size, 1 + i * 9 + j, none⟩ (.int .i64 u)).setCell ⟨w.heap.size, 1 + i * 9 + j, none⟩ (.int .i64 v)) := by
  subst hv
  refine ⟨(h.1.setCell (Nat.le_refl _) _).setCell (Nat.le_refl _) _, ?_, h.2.2.1, by omega⟩
  have := (h.2.1.set i j (by omega) (by omega) u).set i j (by omega) (by omega) (openM n i j)
  rw [upd_upd, upd_filled] at this
  exact this
theorem open_row {w wr : World} {n i : Nat} (h : OpenRel w n i (n + 1) wr) (hi : i < n + 1) : OpenRel w n (i + 1) 0 wr :=
  ⟨h.1, by rw [filled_row (openM_inside n)]; exact h.2.1, by omega, by omega⟩
theorem open_done {w wr : World} {n : Nat} (h : OpenRel w n (n + 1) 0 wr) : MatAt wr w.heap.size 115 .i64 n (openM n) := by
  have := h.2.1
  rw [filled_done (openM_inside n)] at this
  exact this

set_option maxRecDepth 100000 in
set_option maxHeartbeats 1000000 in
theorem open_any (n : Nat) (w : World) (hn : n ≤ 8) :
    Calls Tryd.prog 49 #[.int .i64 n] w fun e w' => e = .returned (.pointer (some ⟨w.heap.size, 0, none⟩)) ∧ Below w.heap.size w w' ∧ MatAt w' w.heap.size 115 .i64 n (openM n) := by
  have H0 := Lib.hid (open_start w n)
  go_enter Tryd.func49, Tryd.ntmps49
  go_wp2
  go_loopg [11] (n + 1) (fun k v wr => ∃ i : Nat, v = .int .i64 i ∧ OpenRel w n i 0 wr ∧ k + i = n + 1)
  case atStart => exact ⟨0, by simp, H0.out, by omega⟩
  case round =>
    clear H0
    obtain ⟨i, rfl, H, hk⟩ := hrel
    have HK := Lib.hid hk
    clear hk
    have HH := Lib.hid H
    by_cases hi : i < n + 1
    · clear H
      have hii : (i : Int) < (n : Int) + 1 := by omega
      go_wp2
      go_loopg [16] (n + 1) (fun k v wr => ∃ j : Nat, v = .int .i64 j ∧ OpenRel w n i j wr ∧ k + j = n + 1)
      case atStart => exact ⟨0, by simp, HH.out, by omega⟩
      case round =>
        clear HH
        obtain ⟨j, rfl, H, hk2⟩ := hrel
        have HK2 := Lib.hid hk2
        clear hk2
        have hf := H.2.1.frozen (1 + i * 9 + j)
        have hcell := H.2.1.cell i j (by omega) 
        have HH := Lib.hid H
        clear H hcell
        by_cases hj : j < n + 1
        · have hjj : (j : Int) < (n : Int) + 1 := by omega
          have hlt : w.heap.size < wr.heap.size := HH.out.2.1.lt
          have hcell := HH.out.2.1.cell i j (by omega) (by omega)
          by_cases e1 : i = j
          · have t1 : ((i : Int) == (j : Int)) = true := by simp [e1]
            have E1 := Lib.hid e1
            clear e1
            go_wp2
            go_roundg (gk - 1)
            case measure => have := HK2.out; omega
            case rel => exact ⟨j + 1, by go_num, open_step2 HH.out hn hi hj _ _ (by simp [openM, E1.out]; omega), by have := HK2.out; omega⟩
          · have t1 : ((i : Int) == (j : Int)) = false := by simp; omega
            by_cases e2 : i = 0
            · have t2 : ((i : Int) == 0) = true := by simp [e2]
              have E1 := Lib.hid e1
              have E2 := Lib.hid e2
              clear e1 e2
              go_wp2
              go_roundg (gk - 1)
              case measure => have := HK2.out; omega
              case rel => exact ⟨j + 1, by go_num, open_step2 HH.out hn hi hj _ _ (by simp [openM, E2.out]; omega), by have := HK2.out; omega⟩
            · have t2 : ((i : Int) == 0) = false := by simp; omega
              have E1 := Lib.hid e1
              have E2 := Lib.hid e2
              clear e1 e2
              go_wp2
              go_roundg (gk - 1)
              case measure => have := HK2.out; omega
              case rel => exact ⟨j + 1, by go_num, open_step HH.out hn hi hj _ (by have := E1.out; have := E2.out; simp [openM, none62, *]; omega), by have := HK2.out; omega⟩
        · have hjj : ¬ (j : Int) < (n : Int) + 1 := by omega
          go_wp2
          go_roundg (n - i)
          case measure => have := HK.out; omega
          case rel =>
            have : j = n + 1 := by have := HH.out.2.2.2; omega
            subst this
            exact ⟨i + 1, by go_num, open_row HH.out hi, by have := HK.out; omega⟩
    · have hii : ¬ (i : Int) < (n : Int) + 1 := by omega
      go_wp2
      go_ret
      have : i = n + 1 := by have := H.2.2.1; omega
      subst this
      exact ⟨rfl, H.1, open_done H⟩

end Go.Proofs.YtncgapnooabdgaaDoor

/- Cells of a zone under way: less, forget; is it a clock? -/
namespace Go.Proofs.YtncgapnooabdgaaDoor
open Go Go.RowKit
set_option linter.unusedVariables false
set_option linter.unusedSimpArgs false
attribute [local go_sem] min_ints max_ints

/-- A cell made stricter. -/
def lessM (m : Mat) (i j : Nat) (x : Int) : Mat := upd m i j (min (m i j) x)

/-- A clock that nothing is said of, behind the first p cells. -/
def forgetUp (x : Nat) (m : Mat) : Nat → Mat
  | 0 => m
  | p + 1 => if p = x then forgetUp x m p else upd (upd (forgetUp x m p) x p 2147483647) p x (upd (forgetUp x m p) x p 2147483647 p 0)
end Go.Proofs.YtncgapnooabdgaaDoor

/- What is asked of zones: Dim, Empty, Cell, Cells, Includes. -/
namespace Go.Proofs.YtncgapnooabdgaaDoor
open Go.RowKit
set_option linter.unusedVariables false
set_option linter.unusedSimpArgs false
attribute [local go_sem] min_ints max_ints

set_option maxHeartbeats 400000 in
theorem dim_nil (w : World) : Calls Tryd.prog 36 #[.pointer none] w fun e w' => e = .returned (.int .i64 0) ∧ w = w' := by
  go_enter Tryd.func36, Tryd.ntmps36
  go_wp2
  go_ret
  exact ⟨rfl, rfl⟩
set_option maxHeartbeats 400000 in
theorem dim_zone (b n : Nat) (m : Mat) (w : World) (h : MatAt w b 88 .i32 n m) : Calls Tryd.prog 36 #[.pointer (some ⟨b, 0, none⟩)] w fun e w' => e = .returned (.int .i64 n) ∧ w = w' := by
  have h0 := h.head
  clear h
  go_enter Tryd.func36, Tryd.ntmps36
  go_wp2
  go_ret
  exact ⟨rfl, rfl⟩
set_option maxHeartbeats 400000 in
theorem empty_nil (w : World) : Calls Tryd.prog 23 #[.pointer none] w fun e w' => e = .returned (.bool false) ∧ w = w' := by
  go_enter Tryd.func23, Tryd.ntmps23
  go_wp2
  go_ret
  exact ⟨rfl, rfl⟩
set_option maxHeartbeats 400000 in
theorem empty_zone (b n : Nat) (m : Mat) (w : World) (h : MatAt w b 88 .i32 n m) : Calls Tryd.prog 23 #[.pointer (some ⟨b, 0, none⟩)] w fun e w' => e = .returned (.bool (decide (m 0 0 < 1))) ∧ w = w' := by
  have h0 := h.cell 0 0 (by omega) (by omega)
  simp only [Nat.zero_mul, Nat.add_zero] at h0
  clear h
  go_enter Tryd.func23, Tryd.ntmps23
  go_wp2
  go_ret
  exact ⟨rfl, rfl⟩

/-- What Cell answers. -/
def cellP (n : Nat) (m : Mat) (i j : Int) : Int × Int := if 0 ≤ i ∧ i ≤ n ∧ 0 ≤ j ∧ j ≤ n then (m i.toNat j.toNat, 0) else (0, 12)
set_option maxHeartbeats 400000 in
theorem cell_nil (i j : Int) (w : World) : Calls Tryd.prog 47 #[.pointer none, .int .i64 i, .int .i64 j] w fun e w' => e = .returned (.tuple #[.int .i32 0, .int .i64 1]) ∧ w = w' := by
  go_enter Tryd.func47, Tryd.ntmps47
  go_wp2
  go_ret2
  exact ⟨rfl, rfl⟩
set_option maxRecDepth 100000 in
set_option maxHeartbeats 1000000 in
theorem cell_zone (b n : Nat) (m : Mat) (i j : Int) (w : World) (hn : n ≤ 8) (h : MatAt w b 88 .i32 n m) :
    Calls Tryd.prog 47 #[.pointer (some ⟨b, 0, none⟩), .int .i64 i, .int .i64 j] w fun e w' => e = .returned (.tuple #[.int .i32 (cellP n m i j).1, .int .i64 (cellP n m i j).2]) ∧ w = w' := by
  have h0 := h.head
  have H := Lib.hid h
  clear h
  by_cases a1 : i < 0
  · have hz : cellP n m i j = (0, 12) := by unfold cellP; rw [if_neg (by omega)]
    rw [hz]
    clear hz
    have d1 : decide (i < 0) = true := decide_eq_true a1
    go_enter Tryd.func47, Tryd.ntmps47
    go_wp2
    go_ret2
    exact ⟨rfl, rfl⟩
  · have d1 : decide (i < 0) = false := decide_eq_false a1
    by_cases a2 : (n : Int) < i
    · have hz : cellP n m i j = (0, 12) := by unfold cellP; rw [if_neg (by omega)]
      rw [hz]
      clear hz
      have d2 : decide ((n : Int) < i) = true := decide_eq_true a2
      go_enter Tryd.func47, Tryd.ntmps47
      go_wp2
      go_ret2
      exact ⟨rfl, rfl⟩
    · have d2 : decide ((n : Int) < i) = false := decide_eq_false a2
      by_cases a3 : j < 0
      · have hz : cellP n m i j = (0, 12) := by unfold cellP; rw [if_neg (by omega)]
        rw [hz]
        clear hz
        have d3 : decide (j < 0) = true := decide_eq_true a3
        go_enter Tryd.func47, Tryd.ntmps47
        go_wp2
        go_ret2
        exact ⟨rfl, rfl⟩
      · have d3 : decide (j < 0) = false := decide_eq_false a3
        by_cases a4 : (n : Int) < j
        · have hz : cellP n m i j = (0, 12) := by unfold cellP; rw [if_neg (by omega)]
          rw [hz]
          clear hz
          have d4 : decide ((n : Int) < j) = true := decide_eq_true a4
          go_enter Tryd.func47, Tryd.ntmps47
          go_wp2
          go_ret2
          exact ⟨rfl, rfl⟩
        · have d4 : decide ((n : Int) < j) = false := decide_eq_false a4
          obtain ⟨p, rfl⟩ : ∃ p : Nat, i = p := ⟨i.toNat, by omega⟩
          obtain ⟨q, rfl⟩ : ∃ q : Nat, j = q := ⟨j.toNat, by omega⟩
          have hz : cellP n m p q = (m p q, 0) := by unfold cellP; rw [if_pos (by omega)]; rfl
          rw [hz]
          clear hz
          have hc := H.out.cell p q (by omega) (by omega)
          go_enter Tryd.func47, Tryd.ntmps47
          go_wp2
          go_ret2
          exact ⟨rfl, rfl⟩

theorem infoB : (Tryd.prog.info? 44).map (fun i => (i.zero, i.size, i.bytes)) = some (some (.int .i32 0), 1, 4) := by kernel_rfl
theorem addr_add (g o j : Nat) : (⟨g, o, none⟩ : Addr).add j = ⟨g, o + j, none⟩ := by unfold Addr.add; split <;> simp_all

theorem slice_row (g o n : Nat) (hn : n ≤ 8) (w : World) :
    (Instr.sliceAt 83 (.pointer (some ⟨g, o, none⟩)) none (some (.int .i64 ((n : Int) + 1))) none).run Tryd.prog w = .ok (.slice (some ⟨g, o, none⟩) (n + 1) 9) w := by
  have hl : Tryd.prog.arrayLen 83 = 9 := by kernel_rfl
  have hu : Tryd.prog.underlying 83 = some (.array (Tryd.prog.arrayLen 83) (Tryd.prog.elem 83)) := by kernel_rfl
  have hs : (sizeOf (Tryd.prog.elem 83)).run Tryd.prog w = .ok 1 w := by kernel_rfl
  rw [run_sliceAt_array_h w _ _ hu .i64 _ (by omega) (by rw [hl]; omega), hs, hl]
  have e : ((n : Int) + 1).toNat = n + 1 := by omega
  simp [slicedAt, e, Addr.add]

theorem own_drew {w : World} {base : Nat} {e : TypeId} {size n : Nat} {v : Value} {xs : List Value} (h : w.ownsRow base e size v n xs) : w.drew.ownsRow base e size v n xs := h
theorem row_cells {w : World} {b n N : Nat} {T : TypeId} {k : IntKind} {m : Mat} (h : MatAt w b T k N m) {i : Nat} (hi : i < 9) (hn : n ≤ 8) :
    ∀ j u, ((List.range (n + 1)).map (fun c => Value.int k (m i c)))[j]? = some u → w.cell? ((⟨b, 1 + i * 9, none⟩ : Addr).add j) = some u := by
  intro j u hu
  rw [addr_add]
  rw [List.getElem?_map] at hu
  by_cases hj : j < n + 1
  · simp [hj] at hu
    subst hu
    exact h.cell i j hi (by omega)
  · simp [hj] at hu

/-- The rows that all has gathered. -/
def AllR (w0 : World) (b n : Nat) (m : Mat) (i : Nat) (v : Value) (wr : World) : Prop :=
  Below w0.heap.size w0 wr ∧ wr.ownsRow w0.heap.size 44 1 v (i * (n + 1)) (vals .i32 (rowsL n m i)) ∧ i ≤ n + 1

set_option maxRecDepth 100000 in
set_option maxHeartbeats 1000000 in
theorem all_any (b n : Nat) (m : Mat) (w : World) (hn : n ≤ 8) (h : MatAt w b 88 .i32 n m) :
    Calls Tryd.prog 45 #[.pointer (some ⟨b, 0, none⟩)] w fun e w' => ∃ v, e = .returned v ∧ AllR w b n m (n + 1) v w' := by
  have h0 := h.head
  have H := Lib.hid h
  clear h
  obtain ⟨i0, hi, hz0, hz1, hz2⟩ := info_parts infoB
  have HI := Lib.hid (And.intro hi (And.intro hz0 (And.intro hz1 hz2)))
  clear hi hz0 hz1 hz2
  have HS := Lib.hid (show AllR w b n m 0 (.slice none 0 0) w from ⟨Below.refl _ _, by simpa [rowsL, vals] using World.ownsRow_nil w _ _ _, by omega⟩)
  go_enter Tryd.func45, Tryd.ntmps45
  go_wp2
  go_loopg [3, 10] (n + 1) (fun g v x wr => ∃ i : Nat, x = .int .i64 i ∧ AllR w b n m i v wr ∧ Hid (g + i = n + 1))
  case atStart => exact ⟨0, by simp, HS.out, by show _ = _; omega⟩
  case round =>
    clear HS h0
    obtain ⟨i, rfl, HA, HG⟩ := hrel
    have HR := Lib.hid HA
    have hm := H.out.later HA.1
    have h0 := hm.head
    have HM := Lib.hid hm
    clear HA hm
    by_cases hi : i < n + 1
    · have hii : (i : Int) < (n : Int) + 1 := by omega
      have i9 : (i : Int) < 9 := by omega
      have n9 : (n : Int) + 1 ≤ 9 := by omega
      have g1 : IntKind.i64.wrap ((n : Int) + 1) = (n : Int) + 1 := IntWalk.i64_in _ (by omega)
      have D0 := Lib.hid (show wr.drew.cell? _ = _ from h0)
      have hin : i * (n + 1) ≤ 8 * 9 := Nat.mul_le_mul (by omega) (by omega)
      have hsl := slice_row b (1 + i * 9) n hn
      go_wp2_with fail
      refine wp_region_still_tail 12 (by kernel_rfl) (by kernel_rfl) ?_
      simp only [List.take_succ_cons, List.take_zero, List.drop_succ_cons, List.drop_zero]
      change wpStill _ _ wr.drew _ _ _
      generalize wr.drew = w2 at *
      have d0 := D0.out
      clear D0
      repeat still_step
      refine wpStill_nil ?_
      go_wp2_with (at_builtin; refine wpList_append_own _ rfl _ _ 22 rfl w.heap.size 44 i0 (.int .i32 0) 1 4 Tryd.underlying22 HI.out.1 HI.out.2.1 HI.out.2.2.1 HI.out.2.2.2 rfl (by decide) _ _ _ rfl (own_drew HR.out.2.1) ⟨b, 1 + i * 9, none⟩ (n + 1) 9 ((List.range (n + 1)).map (fun c => Value.int .i32 (m i c))) rfl (by simp) (row_cells HM.out.drew (by omega) hn) (by intro u hu; obtain ⟨c, _, rfl⟩ := List.mem_map.1 hu; rfl) ?c3 ?c4 ?c5 ?_)
      case c3 => unfold maxLen; omega
      case c4 => omega
      case c5 => exact HR.out.1.size
      intro v' w3 hown hgrow _
      have HN := Lib.hid (show AllR w b n m (i + 1) v' w3 from by
        refine ⟨(Below.drew HR.out.1).grown hgrow HR.out.1.size (fun k hk => ?_), ?_, by omega⟩
        · exact (HR.out.2.1.lt k hk).1
        · have e : (i + 1) * (n + 1) = i * (n + 1) + (n + 1) := by rw [Nat.add_mul]; omega
          rw [e]
          have e2 : vals .i32 (rowsL n m (i + 1)) = vals .i32 (rowsL n m i) ++ (List.range (n + 1)).map (fun c => Value.int .i32 (m i c)) := by
            simp [vals, rowsL]
          rw [e2, List.range_succ, List.map_append]; exact hown)
      clear hown hgrow
      go_wp2
      go_roundg (gk - 1)
      case measure => have h := HG.out; omega
      case rel => exact ⟨i + 1, by go_num, HN.out, by have h := HG.out; show _ = _; omega⟩
    · have hii : ¬ (i : Int) < (n : Int) + 1 := by omega
      have e : i = n + 1 := by have := HR.out.2.2; omega
      subst e
      go_wp2
      go_ret
      exact ⟨_, rfl, HR.out⟩

/-- A slice that cells tells: all of them, in new memory. -/
theorem AllR.own {w0 wr : World} {b n : Nat} {m : Mat} {v : Value} (h : AllR w0 b n m (n + 1) v wr) : OwnI wr w0.heap.size 44 .i32 v (flat n m) := by
  unfold OwnI
  rw [flat_length]; exact h.2.1

theorem cells_nil (w : World) : Calls Tryd.prog 18 #[.pointer none] w fun e w' => e = .returned (.slice none 0 0) ∧ w = w' := by
  go_enter Tryd.func18, Tryd.ntmps18
  go_wp2
  go_ret
  exact ⟨rfl, rfl⟩
set_option maxRecDepth 100000 in
set_option maxHeartbeats 1000000 in
theorem cells_zone (b n : Nat) (m : Mat) (w : World) (hn : n ≤ 8) (h : MatAt w b 88 .i32 n m) :
    Calls Tryd.prog 18 #[.pointer (some ⟨b, 0, none⟩)] w fun e w' => ∃ v, e = .returned v ∧ Below w.heap.size w w' ∧ OwnI w' w.heap.size 44 .i32 v (flat n m) := by
  go_enter Tryd.func18, Tryd.ntmps18
  go_wp2_with fail
  refine (all_any b n m _ hn h).mono ?_
  rintro e w1 ⟨v, rfl, hA⟩
  have HA := Lib.hid hA
  clear hA h
  go_wp2
  go_ret
  exact ⟨v, rfl, HA.out.1, HA.out.own⟩

/-! ### are two of as many clocks? -/
def alikeP (z o : Option (Nat × Mat)) : Bool := match z, o with
  | some (n, _), some (k, _) => decide (n = k)
  | _, _ => false
theorem alike_nil (v : Value) (w : World) : Calls Tryd.prog 54 #[.pointer none, v] w fun e w' => e = .returned (.bool false) ∧ ∃ q, w' = w.drewN q := by
  go_enter Tryd.func54, Tryd.ntmps54
  go_wp2
  go_quiet (fail)
  go_wp2
  go_ret
  exact ⟨rfl, _, rfl⟩

set_option maxRecDepth 100000 in
theorem alike_none (b n : Nat) (m : Mat) (w : World) (h : MatAt w b 88 .i32 n m) : Calls Tryd.prog 54 #[.pointer (some ⟨b, 0, none⟩), .pointer none] w fun e w' => e = .returned (.bool false) ∧ ∃ q, w' = w.drewN q := by
  have h0 := h.head
  clear h
  go_enter Tryd.func54, Tryd.ntmps54
  go_wp2
  go_quiet (fail)
  go_wp2
  go_ret
  exact ⟨rfl, _, rfl⟩
set_option maxRecDepth 100000 in
theorem alike_two (b n c k : Nat) (m o : Mat) (w : World) (h : MatAt w b 88 .i32 n m) (h' : MatAt w c 88 .i32 k o) :
    Calls Tryd.prog 54 #[.pointer (some ⟨b, 0, none⟩), .pointer (some ⟨c, 0, none⟩)] w fun e w' => e = .returned (.bool (decide ((n : Int) = k))) ∧ ∃ q, w' = w.drewN q := by
  have h0 := h.head
  have h1 := h'.head
  clear h h'
  go_enter Tryd.func54, Tryd.ntmps54
  go_wp2
  go_quiet (fail)
  go_wp2
  go_ret
  exact ⟨by congr, _, rfl⟩

theorem alike_same (b c n : Nat) (m o : Mat) (w : World) (h : MatAt w b 88 .i32 n m) (h' : MatAt w c 88 .i32 n o) :
    Calls Tryd.prog 54 #[.pointer (some ⟨b, 0, none⟩), .pointer (some ⟨c, 0, none⟩)] w fun e w' => e = .returned (.bool true) ∧ ∃ q, w' = w.drewN q :=
  (alike_two b n c n m o w h h').mono fun _ _ k => ⟨by rw [k.1, decide_eq_true rfl], k.2⟩
theorem alike_other (b c n k : Nat) (m o : Mat) (w : World) (h : MatAt w b 88 .i32 n m) (h' : MatAt w c 88 .i32 k o) (hne : n ≠ k) :
    Calls Tryd.prog 54 #[.pointer (some ⟨b, 0, none⟩), .pointer (some ⟨c, 0, none⟩)] w fun e w' => e = .returned (.bool false) ∧ ∃ q, w' = w.drewN q :=
  (alike_two b n c k m o w h h').mono fun _ _ j => ⟨by rw [j.1, decide_eq_false (by omega)], j.2⟩

end Go.Proofs.YtncgapnooabdgaaDoor

/- What is asked of the program's zones, or of nil. -/
namespace Go.Proofs.YtncgapnooabdgaaDoor
open Go Go.RowKit
set_option linter.unusedVariables false
set_option linter.unusedSimpArgs false

/-- The number of a zone's clocks. -/
def dimP (z : Option (Nat × Mat)) : Int := match z with | some (n, _) => n | none => 0
/-- All cells of a zone. -/
def cellsP (z : Option (Nat × Mat)) : List Int := match z with | some (n, m) => flat n m | none => []

/-- Has a zone no valuation? -/
def emptyP (z : Option (Nat × Mat)) : Bool := match z with | some (_, m) => decide (m 0 0 < 1) | none => false
/-- What Cell answers of a zone, or of nil. -/
def cellZ (z : Option (Nat × Mat)) (i j : Int) : Int × Int := match z with | some (n, m) => cellP n m i j | none => (0, 1)
theorem cell_any (v : Value) (z : Option (Nat × Mat)) (i j : Int) (w : World) (h : ZoneV 88 w v z) :
    Calls Tryd.prog 47 #[v, .int .i64 i, .int .i64 j] w fun e w' => e = .returned (.tuple #[.int .i32 (cellZ z i j).1, .int .i64 (cellZ z i j).2]) ∧ w = w' := by
  match z, h with
  | none, h =>
    have h : v = .pointer none := h
    subst h
    exact cell_nil i j w
  | some (n, m), ⟨b, e, hn, _, hm⟩ =>
    subst e
    exact cell_zone b n m i j w hn hm

/-- A slice in new memory, or nil: what Cells tells. -/
def TellsL (w0 : World) (xs : List Int) (e : Ending) (w' : World) : Prop := ∃ v, e = .returned v ∧ Below w0.heap.size w0 w' ∧ OwnI w' w0.heap.size 44 .i32 v xs
theorem tells_nil (w0 w' : World) (h : w0 = w') : TellsL w0 [] (.returned (.slice none 0 0)) w' := by
  subst h
  exact ⟨_, rfl, Below.refl _ _, by unfold OwnI; simpa [vals] using World.ownsRow_nil _ _ _ _⟩
theorem cells_any (v : Value) (z : Option (Nat × Mat)) (w : World) (h : ZoneV 88 w v z) : Calls Tryd.prog 18 #[v] w (TellsL w (cellsP z)) := by
  match z, h with
  | none, h =>
    have h : v = .pointer none := h
    subst h
    refine (cells_nil w).mono ?_
    rintro e w' ⟨rfl, hw⟩
    exact tells_nil w w' hw
  | some (n, m), ⟨b, e, hn, _, hm⟩ =>
    subst e
    exact cells_zone b n m w hn hm

/-- The zone that Of tells of. -/
def zOf (n : Int) (cells : List Int) : Option (Nat × Mat) := (ofP n cells).1.map fun m => (n.toNat, m)
theorem cellsP_short (z : Option (Nat × Mat)) (h : ∀ n m, z = some (n, m) → n ≤ 8) : (cellsP z).length ≤ 81 := by
  match z with
  | none => simp [cellsP]
  | some (n, m) =>
    have hn := h n m rfl
    show (flat n m).length ≤ 81
    rw [flat_length]
    have := Nat.mul_le_mul (show n + 1 ≤ 9 by omega) (show n + 1 ≤ 9 by omega)
    omega


end Go.Proofs.YtncgapnooabdgaaDoor

/- How the program adds wide bounds and closes a wide matrix. -/
namespace Go.Proofs.YtncgapnooabdgaaDoor
open Go.RowKit
set_option linter.unusedVariables false
set_option linter.unusedSimpArgs false
attribute [local go_sem] min_ints max_ints

theorem mul_bits (a b : Int) : 0 ≤ (a % 2) * (b % 2) ∧ (a % 2) * (b % 2) ≤ 1 := by
  rcases two_cases a b with ⟨h, _⟩ | ⟨h, _⟩ <;> rw [h] <;> omega

set_option maxRecDepth 100000 in
set_option maxHeartbeats 1000000 in
theorem sum_fin (a b : Int) (w : World) (ha1 : -1152921504606846976 ≤ a) (ha2 : a ≤ 1152921504606846976) (hb1 : -1152921504606846976 ≤ b) (hb2 : b ≤ 1152921504606846976) :
    Calls Tryd.prog 73 #[.int .i64 a, .int .i64 b] w fun e w' => e = .returned (.int .i64 (wsum a b)) ∧ w = w' := by
  have t1 : (a == 4611686018427387904) = false := by simp; omega
  have t2 : (b == 4611686018427387904) = false := by simp; omega
  obtain ⟨p, hp, hp0, hp1, hp2⟩ : ∃ p, Go.bits .and .i64 (Go.bits .and .i64 a b) 1 = p ∧ 0 ≤ p ∧ p ≤ 1 ∧ p = (a % 2) * (b % 2) := ⟨_, i64_and_and1 a b, (mul_bits a b).1, (mul_bits a b).2, rfl⟩
  have HP := Lib.hid hp2
  clear hp2
  obtain ⟨x, hx, hx0, hx1, hx2⟩ : ∃ x, Go.bits .andNot .i64 a 1 = x ∧ a - 1 ≤ x ∧ x ≤ a ∧ x = a - a % 2 := ⟨_, i64_andNot1 a (by omega) (by omega), by omega, by omega, rfl⟩
  have HX := Lib.hid hx2
  clear hx2
  obtain ⟨y, hy, hy0, hy1, hy2⟩ : ∃ y, Go.bits .andNot .i64 b 1 = y ∧ b - 1 ≤ y ∧ y ≤ b ∧ y = b - b % 2 := ⟨_, i64_andNot1 b (by omega) (by omega), by omega, by omega, rfl⟩
  have HY := Lib.hid hy2
  clear hy2
  have HR : wsum a b = x + y + p := by
    unfold wsum none62
    rw [if_neg (by omega), HP.out, HX.out, HY.out]
  rw [HR]
  clear HR
  go_enter Tryd.func73, Tryd.ntmps73
  go_wp2
  go_ret
  exact ⟨rfl, rfl⟩

set_option maxRecDepth 100000 in
set_option maxHeartbeats 1000000 in
theorem sum_none_left (b : Int) (w : World) :
    Calls Tryd.prog 73 #[.int .i64 4611686018427387904, .int .i64 b] w fun e w' => e = .returned (.int .i64 4611686018427387904) ∧ w = w' := by
  go_enter Tryd.func73, Tryd.ntmps73
  go_wp2
  go_ret
  exact ⟨rfl, rfl⟩

set_option maxRecDepth 100000 in
set_option maxHeartbeats 1000000 in
theorem sum_none_right (a : Int) (w : World) :
    Calls Tryd.prog 73 #[.int .i64 a, .int .i64 4611686018427387904] w fun e w' => e = .returned (.int .i64 4611686018427387904) ∧ w = w' := by
  by_cases h : a = 4611686018427387904
  · subst h; exact sum_none_left _ _
  · have t1 : (a == 4611686018427387904) = false := by simp; omega
    clear h
    go_enter Tryd.func73, Tryd.ntmps73
    go_wp2
    go_ret
    exact ⟨rfl, rfl⟩

theorem dsum_any (a b : Int) (w : World) (ha : Bd 1152921504606846976 a) (hb : Bd 1152921504606846976 b) :
    Calls Tryd.prog 73 #[.int .i64 a, .int .i64 b] w fun e w' => e = .returned (.int .i64 (wsum a b)) ∧ w = w' := by
  rcases ha with rfl | ha
  · have : wsum none62 b = 4611686018427387904 := by simp [wsum, none62]
    rw [this]; exact sum_none_left _ _
  · rcases hb with rfl | hb
    · have : wsum a none62 = 4611686018427387904 := by simp [wsum, none62]
      rw [this]; exact sum_none_right _ _
    · exact sum_fin a b w ha.1 ha.2 hb.1 hb.2

theorem sum_still (a b : Int) (w : World) (ha : Bd 1152921504606846976 a) (hb : Bd 1152921504606846976 b) :
    Calls Tryd.prog 73 #[.int .i64 a, .int .i64 b] w fun e w' => e = .returned (.int .i64 (wsum a b)) ∧ w' = w :=
  (dsum_any a b w ha hb).mono fun _ _ h => ⟨h.1, h.2.symm⟩

/-- The machine's matrix is cur; nothing else was touched. -/
def CloseAt (w0 : World) (b n : Nat) (cur : Mat) (wr : World) : Prop := Only b w0 wr ∧ MatAt wr b 115 .i64 n cur

def OuterR (w0 : World) (b n : Nat) (m0 : Mat) (g k : Nat) (m : Mat) (wr : World) : Prop := CloseAt w0 b n m wr ∧ RoundOk n m0 k m ∧ g + k = n + 1
def MidR (w0 : World) (b n : Nat) (m : Mat) (k g i : Nat) (cur : Mat) (wr : World) : Prop :=
  CloseAt w0 b n cur wr ∧ InnerOk n (1073741824 * 4 ^ k) m k i 0 cur ∧ (∀ a, a < i → 1 ≤ fw k n m a a) ∧ i ≤ n + 1 ∧ g + i = n + 1
def InnR (w0 : World) (b n : Nat) (m : Mat) (k i g j : Nat) (cur : Mat) (wr : World) : Prop :=
  CloseAt w0 b n cur wr ∧ InnerOk n (1073741824 * 4 ^ k) m k i j cur ∧ j ≤ n + 1 ∧ g + j = n + 1

theorem CloseAt.step {w0 wr : World} {b n : Nat} {cur : Mat} (h : CloseAt w0 b n cur wr) {i j : Nat} (hi : i < 9) (hj : j < 9) (v : Int) :
    CloseAt w0 b n (upd cur i j v) (wr.setCell ⟨b, 1 + i * 9 + j, none⟩ (.int .i64 v)).drew :=
  ⟨(h.1.setCell _ _).drew, h.2.set i j hi hj v⟩

theorem InnR.bounds {w0 wr : World} {b n : Nat} {m m0 cur : Mat} {k i g j : Nat} (h : InnR w0 b n m k i g j cur wr) (hr : RoundOk n m0 k m) (hn : n ≤ 8) (hk : k ≤ n) (hi : i ≤ n) (hj : j ≤ n) :
    Bd 1152921504606846976 (cur i j) ∧ Bd 1152921504606846976 (cur i k) ∧ Bd 1152921504606846976 (cur k j) := by
  have h4 := pow2_le (show k ≤ 9 by omega)
  have h1 := one_le_pow2 k
  have := h.2.1.bounds hr.fit (by omega) hk hi hj
  exact ⟨this.1.mono (by omega), this.2.1.mono (by omega), this.2.2.mono (by omega)⟩

theorem InnR.step {w0 wr : World} {b n : Nat} {m m0 cur : Mat} {k i g j : Nat} (h : InnR w0 b n m k i g j cur wr) (hr : RoundOk n m0 k m) (hn : n ≤ 8) (hk : k ≤ n) (hi : i ≤ n) (hj : j ≤ n) :
    InnR w0 b n m k i (g - 1) (j + 1) (upd cur i j (min (cur i j) (wsum (cur i k) (cur k j)))) (wr.setCell ⟨b, 1 + i * 9 + j, none⟩ (.int .i64 (min (cur i j) (wsum (cur i k) (cur k j))))).drew := by
  have h1 := one_le_pow2 k
  have := h.2.2.2
  exact ⟨h.1.step (by omega) (by omega) _, h.2.1.step hr.fit (by omega) hk hi hj, by omega, by omega⟩

theorem InnR.next {w0 wr : World} {b n : Nat} {m cur : Mat} {k i g j : Nat} (h : InnR w0 b n m k i g j cur wr) (hj : ¬ j < n + 1) (hd : 1 ≤ cur i i) (hi : i ≤ n) (hall : ∀ a, a < i → 1 ≤ fw k n m a a) :
    MidR w0 b n m k (n - i) (i + 1) cur wr := by
  have e : j = n + 1 := by have := h.2.2.1; omega
  subst e
  obtain ⟨h1, h2, h3⟩ := (h.2.1.row hi).2 hd
  refine ⟨h.1, h3, fun a ha => ?_, by omega, by omega⟩
  by_cases e : a = i
  · subst e; exact h2
  · exact hall a (by omega)

theorem InnR.fail {w0 wr : World} {b n : Nat} {m m0 cur : Mat} {k i g j : Nat} (h : InnR w0 b n m k i g j cur wr) (hr : RoundOk n m0 k m) (hj : ¬ j < n + 1) (hd : cur i i < 1) (hk : k ≤ n) (hi : i ≤ n) : closed n m0 = none := by
  have e : j = n + 1 := by have := h.2.2.1; omega
  subst e
  exact hr.fail hk hi ((h.2.1.row hi).1 hd)

theorem MidR.next {w0 wr : World} {b n : Nat} {m m0 cur : Mat} {k i g : Nat} (h : MidR w0 b n m k g i cur wr) (hr : RoundOk n m0 k m) (hi : ¬ i < n + 1) (hk : k ≤ n) :
    OuterR w0 b n m0 (n - k) (k + 1) cur wr := by
  have e : i = n + 1 := by have := h.2.2.2.1; omega
  subst e
  exact ⟨h.1, hr.next hk h.2.1 (fun a ha => h.2.2.1 a (by omega)), by omega⟩

/-- What close answers. -/
def CloseEnds (w0 : World) (b n : Nat) (m0 : Mat) (e : Ending) (w' : World) : Prop :=
  Only b w0 w' ∧ ((closed n m0 = none ∧ e = .returned (.bool false)) ∨ ∃ m', closed n m0 = some m' ∧ e = .returned (.bool true) ∧ MatAt w' b 115 .i64 n m')

set_option maxRecDepth 100000 in
set_option maxHeartbeats 2000000 in
theorem close_any (b n : Nat) (m0 : Mat) (w : World) (hn : n ≤ 8) (h : MatAt w b 115 .i64 n m0) (hf : Fit n 1073741824 m0) :
    Calls Tryd.prog 65 #[.pointer (some ⟨b, 0, none⟩)] w (CloseEnds w b n m0) := by
  have H0 := Lib.hid (show OuterR w b n m0 (n + 1) 0 m0 w from ⟨⟨Only.refl _ _, h⟩, RoundOk.start hf, by omega⟩)
  have h0 := h.head
  clear h hf
  go_enter Tryd.func65, Tryd.ntmps65
  go_wp2
  go_loopg [11] (n + 1) (fun g v wr => ∃ k : Nat, ∃ m, v = .int .i64 k ∧ OuterR w b n m0 g k m wr)
  case atStart => exact ⟨0, m0, by simp, H0.out⟩
  case round =>
    clear H0 h0
    obtain ⟨k, m, rfl, H⟩ := hrel
    have HK := Lib.hid H
    have h0 := H.1.2.head
    clear H
    by_cases hk : k < n + 1
    · have hkk : (k : Int) < (n : Int) + 1 := by omega
      have H1 := Lib.hid (show MidR w b n m k (n + 1) 0 m wr from ⟨HK.out.1, HK.out.2.1.inner (by omega), fun a ha => by omega, by omega, by omega⟩)
      go_wp2
      go_loopg [19] (n + 1) (fun g v wr => ∃ i : Nat, ∃ cur, v = .int .i64 i ∧ MidR w b n m k g i cur wr)
      case atStart => exact ⟨0, m, by simp, H1.out⟩
      case round =>
        clear H1 h0
        obtain ⟨i, cur, rfl, H⟩ := hrel
        have HI := Lib.hid H
        have h0 := H.1.2.head
        clear H
        by_cases hi : i < n + 1
        · have hii : (i : Int) < (n : Int) + 1 := by omega
          have H1 := Lib.hid (show InnR w b n m k i (n + 1) 0 cur wr from ⟨HI.out.1, HI.out.2.1, by omega, by omega⟩)
          go_wp2
          go_loopg [27] (n + 1) (fun g v wr => ∃ j : Nat, ∃ cur, v = .int .i64 j ∧ InnR w b n m k i g j cur wr)
          case atStart => exact ⟨0, cur, by simp, H1.out⟩
          case round =>
            clear H1 h0
            obtain ⟨j, cur, rfl, H⟩ := hrel
            have HJ := Lib.hid H
            by_cases hj : j < n + 1
            · have hjj : (j : Int) < (n : Int) + 1 := by omega
              have c1 := H.1.2.cell i j (by omega) (by omega)
              have c2 := H.1.2.cell i k (by omega) (by omega)
              have c3 := H.1.2.cell k j (by omega) (by omega)
              have f1 := H.1.2.frozen (1 + i * 9 + j)
              clear H
              have HB := Lib.hid (HJ.out.bounds HK.out.2.1 hn (by omega) (by omega) (by omega))
              have HS := Lib.hid (HJ.out.step HK.out.2.1 hn (by omega) (by omega) (by omega))
              have i9 : (i : Int) < 9 := by omega
              have j9 : (j : Int) < 9 := by omega
              have k9 : (k : Int) < 9 := by omega
              have C1 := Lib.hid (show wr.drew.cell? _ = _ from c1)
              have C2 := Lib.hid (show wr.drew.cell? _ = _ from c2)
              have C3 := Lib.hid (show wr.drew.cell? _ = _ from c3)
              go_wp2
              refine wp_region_still_tail 33 (by kernel_rfl) (by kernel_rfl) ?_
              simp only [List.take_succ_cons, List.take_zero, List.drop_succ_cons, List.drop_zero]
              change wpStill _ _ wr.drew _ _ _
              generalize wr.drew = w2 at *
              have d1 := C1.out
              have d2 := C2.out
              have d3 := C3.out
              clear C1 C2 C3
              repeat still_step
              still_call (sum_still _ _ _ HB.out.2.1 HB.out.2.2)
              repeat still_step
              refine wpStill_nil ?_
              go_wp2
              go_roundg (gk - 1)
              case measure => have := HJ.out.2.2.2; omega
              case rel => exact ⟨j + 1, _, by go_num, HS.out⟩
            · have hjj : ¬ (j : Int) < (n : Int) + 1 := by omega
              have c1 := H.1.2.cell i i (by omega) (by omega)
              have h0 := H.1.2.head
              clear H
              by_cases hd : cur i i < 1
              · go_wp2
                go_ret
                exact ⟨HJ.out.1.1, .inl ⟨HJ.out.fail HK.out.2.1 hj hd (by omega) (by omega), rfl⟩⟩
              · go_wp2
                go_roundg (n - i)
                case measure => have := HI.out.2.2.2.2; omega
                case rel =>
                  exact ⟨i + 1, _, by go_num, HJ.out.next hj (by omega) (by omega) HI.out.2.2.1⟩
        · have hii : ¬ (i : Int) < (n : Int) + 1 := by omega
          go_wp2
          go_roundg (n - k)
          case measure => have := HK.out.2.2; omega
          case rel =>
            exact ⟨k + 1, _, by go_num, HI.out.next HK.out.2.1 hi (by omega)⟩
    · have hkk : ¬ (k : Int) < (n : Int) + 1 := by omega
      go_wp2
      go_ret
      have e : k = n + 1 := by have := HK.out.2.1.le; omega
      subst e
      exact ⟨HK.out.1.1, .inr ⟨m, HK.out.2.1.done, rfl, HK.out.1.2⟩⟩

end Go.Proofs.YtncgapnooabdgaaDoor
