/- Matrices of bounds in wide cells, and how they are closed: plain numbers, no program. -/
namespace Go.Proofs.YtdeblempnmklfaaDoor
set_option linter.unusedVariables false

/-- A matrix of cells. -/
abbrev Mat := Nat → Nat → Int

/-- No bound, in wide cells. -/
def none62 : Int := 4611686018427387904

/-- The sum of two wide bounds. -/
def wsum (a b : Int) : Int := if a = none62 ∨ b = none62 then none62 else (a - a % 2) + (b - b % 2) + (a % 2) * (b % 2)

/-- No bound, or a number of at most this size. -/
def Bd (X a : Int) : Prop := a = none62 ∨ (-X ≤ a ∧ a ≤ X)

theorem two_cases (a b : Int) : (a % 2) * (b % 2) = 0 ∧ (a % 2 = 0 ∨ b % 2 = 0) ∨ (a % 2) * (b % 2) = 1 ∧ a % 2 = 1 ∧ b % 2 = 1 := by
  have ha : a % 2 = 0 ∨ a % 2 = 1 := by omega
  have hb : b % 2 = 0 ∨ b % 2 = 1 := by omega
  rcases ha with ha | ha <;> rcases hb with hb | hb <;> simp [ha, hb]

theorem wsum_fin {a b : Int} (ha : a ≠ none62) (hb : b ≠ none62) : a + b - 1 ≤ wsum a b ∧ wsum a b ≤ a + b := by
  unfold wsum
  rw [if_neg (by simp [ha, hb])]
  rcases two_cases a b with ⟨h, h1⟩ | ⟨h, h1, h2⟩ <;> rw [h] <;> omega

theorem wsum_one_left (b : Int) : wsum 1 b = b := by
  unfold wsum none62
  by_cases h : b = 4611686018427387904
  · simp [h]
  · rw [if_neg (by omega)]; omega
theorem wsum_one_right (a : Int) : wsum a 1 = a := by
  unfold wsum none62
  by_cases h : a = 4611686018427387904
  · simp [h]
  · rw [if_neg (by omega)]; omega

theorem Bd.mono {X Y a : Int} (h : Bd X a) (hXY : X ≤ Y) : Bd Y a := by
  rcases h with h | h
  · exact .inl h
  · exact .inr (by omega)
theorem Bd.sum {X Y a b : Int} (ha : Bd X a) (hb : Bd Y b) : Bd (X + Y + 1) (wsum a b) := by
  by_cases h1 : a = none62
  · left; simp [wsum, h1]
  · by_cases h2 : b = none62
    · left; simp [wsum, h2]
    · right
      have := wsum_fin h1 h2
      rcases ha with ha | ha
      · exact absurd ha h1
      · rcases hb with hb | hb
        · exact absurd hb h2
        · omega
theorem Bd.min {X a b : Int} (ha : Bd X a) (hb : Bd X b) : Bd X (min a b) := by
  rw [Int.min_def]; split
  · exact ha
  · exact hb
theorem Bd.le {X a : Int} (h : Bd X a) (hX : X ≤ none62) : -X ≤ a ∧ a ≤ none62 ∨ a = none62 := by
  rcases h with h | h
  · exact .inr h
  · left; omega

/-- One cell made another. -/
def upd (m : Mat) (i j : Nat) (v : Int) : Mat := fun a b => if a = i ∧ b = j then v else m a b
theorem upd_upd (m : Mat) (i j : Nat) (v v' : Int) : upd (upd m i j v) i j v' = upd m i j v' := by
  funext a b; simp only [upd]; split <;> rfl

/-- The round for clock k: all ways by k. -/
def fw (k n : Nat) (m : Mat) : Mat := fun i j => if i ≤ n ∧ j ≤ n then min (m i j) (wsum (m i k) (m k j)) else m i j

/-- f in the rows ahead of i and, of row i, ahead of j; elsewhere m. -/
def mix (f m : Mat) (n i j : Nat) : Mat := fun a c => if (a < i ∧ c ≤ n) ∨ (a = i ∧ c < j) then f a c else m a c

theorem mix_start (f m : Mat) (n : Nat) : mix f m n 0 0 = m := by
  funext a c; simp only [mix]; rw [if_neg (by omega)]
theorem mix_step (f m : Mat) (n i j : Nat) (hj : j ≤ n) : upd (mix f m n i j) i j (f i j) = mix f m n i (j + 1) := by
  funext a c
  simp only [upd, mix]
  by_cases h : a = i ∧ c = j
  · obtain ⟨rfl, rfl⟩ := h
    rw [if_pos ⟨rfl, rfl⟩, if_pos (by omega)]
  · rw [if_neg h]
    by_cases h2 : (a < i ∧ c ≤ n) ∨ (a = i ∧ c < j)
    · rw [if_pos h2, if_pos (by omega)]
    · rw [if_neg h2, if_neg (by omega)]
theorem mix_row (f m : Mat) (n i : Nat) : mix f m n i (n + 1) = mix f m n (i + 1) 0 := by
  funext a c
  simp only [mix]
  by_cases h2 : (a < i ∧ c ≤ n) ∨ (a = i ∧ c < n + 1)
  · rw [if_pos h2, if_pos (by omega)]
  · rw [if_neg h2, if_neg (by omega)]
theorem mix_done (k n : Nat) (m : Mat) : mix (fw k n m) m n (n + 1) 0 = fw k n m := by
  funext a c
  simp only [mix]
  by_cases h2 : (a < n + 1 ∧ c ≤ n) ∨ (a = n + 1 ∧ c < 0)
  · rw [if_pos h2]
  · rw [if_neg h2]
    unfold fw
    rw [if_neg (by omega)]

theorem fw_col {k n : Nat} {m : Mat} (hk : m k k = 1) (i : Nat) : fw k n m i k = m i k := by
  unfold fw; split
  · rw [hk, wsum_one_right, Int.min_self]
  · rfl
theorem fw_row {k n : Nat} {m : Mat} (hk : m k k = 1) (j : Nat) : fw k n m k j = m k j := by
  unfold fw; split
  · rw [hk, wsum_one_left, Int.min_self]
  · rfl
theorem mix_col {k n : Nat} {m : Mat} (hk : m k k = 1) (i j a : Nat) : mix (fw k n m) m n i j a k = m a k := by
  unfold mix; split
  · exact fw_col hk a
  · rfl
theorem mix_krow {k n : Nat} {m : Mat} (hk : m k k = 1) (i j c : Nat) : mix (fw k n m) m n i j k c = m k c := by
  unfold mix; split
  · exact fw_row hk c
  · rfl
theorem mix_here (f m : Mat) (n i j : Nat) : mix f m n i j i j = m i j := by
  unfold mix; rw [if_neg (by omega)]
/-- What the machine stores is the round's own cell. -/
theorem mix_cell {k n : Nat} {m : Mat} (hk : m k k = 1) {i j : Nat} (hi : i ≤ n) (hj : j ≤ n) :
    min (mix (fw k n m) m n i j i j) (wsum (mix (fw k n m) m n i j i k) (mix (fw k n m) m n i j k j)) = fw k n m i j := by
  rw [mix_here, mix_col hk, mix_krow hk]
  unfold fw; rw [if_pos ⟨hi, hj⟩]

/-- The closed form, round by round; none: a cell of a clock against itself fell below 1. -/
def closeP (n : Nat) : Nat → Nat → Mat → Option Mat
  | 0, _, m => some m
  | s + 1, k, m => if (∀ i, i ≤ n → 1 ≤ fw k n m i i) then closeP n s (k + 1) (fw k n m) else none
/-- The closed form. -/
def closed (n : Nat) (m : Mat) : Option Mat := closeP n (n + 1) 0 m

/-- What a matrix must be for a round to run within the machine's numbers. -/
structure Fit (n : Nat) (X : Int) (m : Mat) : Prop where
  bd : ∀ i j, i ≤ n → j ≤ n → Bd X (m i j)
  diag : ∀ i, i ≤ n → m i i ≤ 1

theorem Fit.fwd {n : Nat} {X : Int} {m : Mat} (h : Fit n X m) {k : Nat} (hk : k ≤ n) (hX : 0 ≤ X) : Fit n (2 * X + 1) (fw k n m) := by
  refine ⟨fun i j hi hj => ?_, fun i hi => ?_⟩
  · unfold fw; rw [if_pos ⟨hi, hj⟩]
    have h1 := (h.bd i j hi hj).mono (Y := 2 * X + 1) (by omega)
    have h2 := (h.bd i k hi hk).sum (h.bd k j hk hj)
    exact h1.min (h2.mono (by omega))
  · have := h.diag i hi
    unfold fw; rw [if_pos ⟨hi, hi⟩]
    rw [Int.min_def]; split <;> omega
theorem Fit.mixd {n : Nat} {X : Int} {m : Mat} (h : Fit n X m) {k : Nat} (hk : k ≤ n) (hX : 0 ≤ X) (i j : Nat) : Fit n (2 * X + 1) (mix (fw k n m) m n i j) := by
  have h1 := h.fwd hk hX
  refine ⟨fun a c ha hc => ?_, fun a ha => ?_⟩
  · simp only [mix]; split
    · exact h1.bd a c ha hc
    · exact (h.bd a c ha hc).mono (by omega)
  · simp only [mix]; split
    · exact h1.diag a ha
    · exact h.diag a ha

/-- What the machine's matrix is in the round k, at row i, ahead of column j, where m was the matrix at the round's head. -/
def InnerOk (n : Nat) (X : Int) (m : Mat) (k i j : Nat) (cur : Mat) : Prop :=
  (m k k = 1 ∧ cur = mix (fw k n m) m n i j) ∨
  (k = 0 ∧ i = 0 ∧ m 0 0 < 1 ∧ cur 0 0 < 1 ∧ Bd (2 * X + 1) (cur 0 0) ∧ (∀ c, c ≤ n → Bd (4 * X + 4) (cur 0 c)) ∧ (∀ c, j ≤ c → 1 ≤ j → cur 0 c = m 0 c) ∧ (j = 0 → cur = m))

theorem InnerOk.start {n : Nat} {X : Int} {m : Mat} {k : Nat} (hk : m k k = 1) : InnerOk n X m k 0 0 m := .inl ⟨hk, (mix_start _ _ _).symm⟩
theorem InnerOk.start0 {n : Nat} {X : Int} {m : Mat} (hf : Fit n X m) (hX : 0 ≤ X) (h : m 0 0 < 1) : InnerOk n X m 0 0 0 m :=
  .inr ⟨rfl, rfl, h, h, (hf.bd 0 0 (by omega) (by omega)).mono (by omega), fun c hc => (hf.bd 0 c (by omega) hc).mono (by omega), fun c _ h => absurd h (by omega), fun _ => rfl⟩

theorem InnerOk.bounds {n : Nat} {X : Int} {m : Mat} (hf : Fit n X m) (hX : 0 ≤ X) {k i j : Nat} {cur : Mat} (h : InnerOk n X m k i j cur) (hk : k ≤ n) (hi : i ≤ n) (hj : j ≤ n) :
    Bd (4 * X + 4) (cur i j) ∧ Bd (4 * X + 4) (cur i k) ∧ Bd (4 * X + 4) (cur k j) := by
  rcases h with ⟨h1, rfl⟩ | ⟨rfl, rfl, h0, h1, h2, h3, h4, h5⟩
  · have := hf.mixd hk hX i j
    exact ⟨(this.bd i j hi hj).mono (by omega), (this.bd i k hi hk).mono (by omega), (this.bd k j hk hj).mono (by omega)⟩
  · exact ⟨h3 j hj, h3 0 (by omega), h3 j hj⟩

theorem InnerOk.step {n : Nat} {X : Int} {m : Mat} (hf : Fit n X m) (hX : 0 ≤ X) {k i j : Nat} {cur : Mat} (h : InnerOk n X m k i j cur) (hk : k ≤ n) (hi : i ≤ n) (hj : j ≤ n) :
    InnerOk n X m k i (j + 1) (upd cur i j (min (cur i j) (wsum (cur i k) (cur k j)))) := by
  rcases h with ⟨h1, rfl⟩ | ⟨rfl, rfl, h0, h1, h2, h3, h4, h5⟩
  · refine .inl ⟨h1, ?_⟩
    rw [mix_cell h1 hi hj, mix_step _ _ _ _ _ hj]
  · refine .inr ⟨rfl, rfl, h0, ?_⟩
    by_cases hj0 : j = 0
    · subst hj0
      obtain rfl := h5 rfl
      have hm := hf.bd 0 0 (by omega) (by omega)
      have hnew : Bd (2 * X + 1) (min (cur 0 0) (wsum (cur 0 0) (cur 0 0))) := (hm.mono (by omega)).min ((hm.sum hm).mono (by omega))
      refine ⟨?_, ?_, ?_, ?_, by omega⟩
      · simp only [upd, and_self, if_true]; rw [Int.min_def]; split <;> omega
      · simp only [upd, and_self, if_true]; exact hnew
      · intro c hc
        simp only [upd]; split
        · exact hnew.mono (by omega)
        · exact h3 c hc
      · intro c hc _
        simp only [upd]; rw [if_neg (by omega)]
    · have e := h4 j (by omega) (by omega)
      have hm := hf.bd 0 j (by omega) hj
      refine ⟨?_, ?_, ?_, ?_, by omega⟩
      · simp only [upd]; rw [if_neg (by omega)]; exact h1
      · simp only [upd]; rw [if_neg (by omega)]; exact h2
      · intro c hc
        simp only [upd]; split
        · rw [e]; exact (hm.mono (by omega)).min ((h2.sum hm).mono (by omega))
        · exact h3 c hc
      · intro c hc _
        simp only [upd]; rw [if_neg (by omega)]; exact h4 c (by omega) (by omega)

/-- Behind a row: the round goes on, or the matrix has no valuation. -/
theorem InnerOk.row {n : Nat} {X : Int} {m : Mat} {k i : Nat} {cur : Mat} (h : InnerOk n X m k i (n + 1) cur) (hi : i ≤ n) :
    (cur i i < 1 → fw k n m i i < 1) ∧ (1 ≤ cur i i → m k k = 1 ∧ 1 ≤ fw k n m i i ∧ InnerOk n X m k (i + 1) 0 cur) := by
  rcases h with ⟨h1, rfl⟩ | ⟨rfl, rfl, h0, h1, h2, h3, h4, h5⟩
  · have e : mix (fw k n m) m n i (n + 1) i i = fw k n m i i := by
      unfold mix; rw [if_pos (show (i < i ∧ i ≤ n) ∨ (i = i ∧ i < n + 1) from by omega)]
    rw [e]
    exact ⟨id, fun h => ⟨h1, h, .inl ⟨h1, mix_row _ _ _ _⟩⟩⟩
  · refine ⟨fun _ => ?_, fun h => absurd h (by omega)⟩
    unfold fw; rw [if_pos (show 0 ≤ n ∧ 0 ≤ n from by omega), Int.min_def]; split <;> omega

theorem one_le_pow2 : ∀ k : Nat, (1 : Int) ≤ 4 ^ k
  | 0 => by simp
  | k + 1 => by have := one_le_pow2 k; rw [Int.pow_succ]; omega
theorem pow2_step (k : Nat) : 2 * (1073741824 * 4 ^ k) + 1 ≤ (1073741824 : Int) * 4 ^ (k + 1) := by
  have := one_le_pow2 k
  rw [Int.pow_succ]
  generalize (4 : Int) ^ k = p at this ⊢
  omega
theorem pow2_le {k : Nat} (h : k ≤ 9) : (4 : Int) ^ k ≤ 262144 := by
  match k, h with
  | 0, _ | 1, _ | 2, _ | 3, _ | 4, _ | 5, _ | 6, _ | 7, _ | 8, _ | 9, _ => decide

/-- What holds at a round's head. -/
structure RoundOk (n : Nat) (m0 : Mat) (k : Nat) (m : Mat) : Prop where
  fit : Fit n (1073741824 * 4 ^ k) m
  one : k = 0 ∨ ∀ i, i ≤ n → m i i = 1
  same : closeP n (n + 1 - k) k m = closed n m0
  le : k ≤ n + 1

theorem RoundOk.start {n : Nat} {m : Mat} (h : Fit n 1073741824 m) : RoundOk n m 0 m := ⟨by simpa using h, .inl rfl, rfl, by omega⟩

theorem RoundOk.inner {n : Nat} {m0 m : Mat} {k : Nat} (h : RoundOk n m0 k m) (hk : k ≤ n) : InnerOk n (1073741824 * 4 ^ k) m k 0 0 m := by
  have hX : (0 : Int) ≤ 1073741824 * 4 ^ k := by have := one_le_pow2 k; omega
  rcases h.one with rfl | h1
  · by_cases h0 : m 0 0 < 1
    · exact .start0 h.fit hX h0
    · exact .start (by have := h.fit.diag 0 (by omega); omega)
  · exact .start (h1 k hk)

theorem RoundOk.next {n : Nat} {m0 m cur : Mat} {k : Nat} (h : RoundOk n m0 k m) (hk : k ≤ n) (hi : InnerOk n (1073741824 * 4 ^ k) m k (n + 1) 0 cur) (hd : ∀ i, i ≤ n → 1 ≤ fw k n m i i) :
    RoundOk n m0 (k + 1) cur := by
  rcases hi with ⟨h1, rfl⟩ | ⟨_, h2, _⟩
  · rw [mix_done]
    refine ⟨?_, .inr fun i hi => ?_, ?_, by omega⟩
    · have := h.fit.fwd hk (by have := one_le_pow2 k; omega)
      exact ⟨fun i j hi hj => (this.bd i j hi hj).mono (pow2_step k), this.diag⟩
    · have a := hd i hi
      have b := (h.fit.fwd hk (by have := one_le_pow2 k; omega)).diag i hi
      exact Int.le_antisymm b a
    · rw [← h.same]
      have e : n + 1 - k = (n - k) + 1 := by omega
      have e2 : n + 1 - (k + 1) = n - k := by omega
      rw [e, e2]
      simp only [closeP]
      rw [if_pos hd]
  · omega

theorem RoundOk.fail {n : Nat} {m0 m : Mat} {k i : Nat} (h : RoundOk n m0 k m) (hk : k ≤ n) (hi : i ≤ n) (hd : fw k n m i i < 1) : closed n m0 = none := by
  rw [← h.same]
  have e : n + 1 - k = (n - k) + 1 := by omega
  rw [e]
  simp only [closeP]
  rw [if_neg (fun hall => by have := hall i hi; omega)]

theorem RoundOk.done {n : Nat} {m0 m : Mat} (h : RoundOk n m0 (n + 1) m) : closed n m0 = some m := by
  rw [← h.same]
  have e : n + 1 - (n + 1) = 0 := by omega
  rw [e]
  rfl

/-- The rows ahead of i, and of row i what is ahead of j. -/
def filled (f : Mat) (i j : Nat) : Mat := fun a c => if a < i ∨ (a = i ∧ c < j) then f a c else 0
theorem upd_filled (f : Mat) (i j : Nat) : upd (filled f i j) i j (f i j) = filled f i (j + 1) := by
  funext a b
  simp only [upd, filled]
  by_cases h : a = i ∧ b = j
  · obtain ⟨rfl, rfl⟩ := h; simp
  · rw [if_neg h]
    by_cases h1 : a < i ∨ a = i ∧ b < j
    · rw [if_pos h1, if_pos (by omega)]
    · rw [if_neg h1, if_neg (by omega)]
theorem filled_zero (f : Mat) : filled f 0 0 = fun _ _ => 0 := by funext a c; simp [filled]
/-- Nothing but noughts outside of n + 1 rows and columns. -/
def Inside (n : Nat) (f : Mat) : Prop := ∀ a c, n < a ∨ n < c → f a c = 0
theorem filled_row {f : Mat} {n : Nat} (hf : Inside n f) (i : Nat) : filled f (i + 1) 0 = filled f i (n + 1) := by
  funext a b
  simp only [filled]
  by_cases h1 : a < i ∨ a = i ∧ b < n + 1
  · rw [if_pos h1, if_pos (by omega)]
  · rw [if_neg h1]
    by_cases h2 : a < i + 1 ∨ a = i + 1 ∧ b < 0
    · rw [if_pos h2, hf a b (by omega)]
    · rw [if_neg h2]
theorem filled_done {f : Mat} {n : Nat} (hf : Inside n f) : filled f (n + 1) 0 = f := by
  funext a b
  simp only [filled]
  by_cases h1 : a < n + 1 ∨ a = n + 1 ∧ b < 0
  · rw [if_pos h1]
  · rw [if_neg h1, hf a b (by omega)]

/-- A wide bound, narrow. -/
def nar (x : Int) : Int := if x = none62 then 2147483647 else x
/-- May a wide bound be made narrow? -/
def inR (x : Int) : Prop := x = none62 ∨ (-536870912 ≤ x ∧ x ≤ 536870913)
instance (x : Int) : Decidable (inR x) := by unfold inR; infer_instance
def narM (n : Nat) (m : Mat) : Mat := fun i j => if i ≤ n ∧ j ≤ n then nar (m i j) else 0
theorem narM_inside (n : Nat) (m : Mat) : Inside n (narM n m) := fun a c h => by unfold narM; rw [if_neg (by omega)]
def allR (n : Nat) (m : Mat) : Prop := ∀ i, i ≤ n → ∀ j, j ≤ n → inR (m i j)
instance (n : Nat) (m : Mat) : Decidable (allR n m) := by unfold allR; infer_instance
/-- The zone of wide cells, or the number of the error. -/
def zoneP (n : Nat) (m : Mat) : Option Mat × Int :=
  match closed n m with
  | none => (some (fun _ _ => 0), 0)
  | some m' => if allR n m' then (some (narM n m'), 0) else (none, 10)

/-- All cells without a bound, but for what holds of all valuations. -/
def openM (n : Nat) : Mat := fun i j => if i ≤ n ∧ j ≤ n then (if i = j ∨ i = 0 then 1 else none62) else 0
theorem openM_inside (n : Nat) : Inside n (openM n) := fun a c h => by unfold openM; rw [if_neg (by omega)]
theorem openM_fit (n : Nat) : Fit n 1073741824 (openM n) := by
  refine ⟨fun i j hi hj => ?_, fun i hi => ?_⟩
  · unfold openM; rw [if_pos ⟨hi, hj⟩]; split
    · exact .inr (by omega)
    · exact .inl rfl
  · unfold openM; rw [if_pos ⟨hi, hi⟩]; simp
/-- A cell as strict as a bound, at least. -/
def keepM (m : Mat) (i j : Nat) (b : Int) : Mat := if b = 2147483647 then m else upd m i j (min (m i j) b)
/-- Is a bound right? -/
def rightB (b : Int) : Bool := decide (b = 2147483647 ∨ (-536870912 ≤ b ∧ b ≤ 536870913))
theorem rightB_bd {b : Int} (h : rightB b = true) (hb : b ≠ 2147483647) : -536870912 ≤ b ∧ b ≤ 536870913 := by
  unfold rightB at h; have := of_decide_eq_true h; omega
theorem keepM_fit {n : Nat} {m : Mat} (h : Fit n 1073741824 m) (i j : Nat) {b : Int} (hb : rightB b = true) : Fit n 1073741824 (keepM m i j b) := by
  unfold keepM
  by_cases e : b = 2147483647
  · rw [if_pos e]; exact h
  · rw [if_neg e]
    have hr := rightB_bd hb e
    refine ⟨fun a c ha hc => ?_, fun a ha => ?_⟩
    · simp only [upd]; split
      · rename_i h2; obtain ⟨rfl, rfl⟩ := h2
        exact (h.bd a c ha hc).min (.inr (by omega))
      · exact h.bd a c ha hc
    · have := h.diag a ha
      simp only [upd]; split
      · rename_i h2; obtain ⟨rfl, rfl⟩ := h2
        rw [Int.min_def]; split <;> omega
      · exact this
/-- The first p cells of a row are kept. -/
def keepUp (n : Nat) (cells : List Int) : Nat → Mat
  | 0 => openM n
  | p + 1 => keepM (keepUp n cells p) (p / (n + 1)) (p % (n + 1)) (cells.getD p 0)
theorem keepUp_fit (n : Nat) (cells : List Int) : ∀ p, (∀ q, q < p → rightB (cells.getD q 0) = true) → Fit n 1073741824 (keepUp n cells p)
  | 0, _ => openM_fit n
  | p + 1, h => keepM_fit (keepUp_fit n cells p fun q hq => h q (by omega)) _ _ (h p (by omega))
/-- The first p limits are kept. -/
def limUp (n : Nat) (l : List (Int × Int × Int)) : Nat → Mat
  | 0 => openM n
  | p + 1 => keepM (limUp n l p) (l.getD p (0, 0, 0)).1.toNat (l.getD p (0, 0, 0)).2.1.toNat (l.getD p (0, 0, 0)).2.2
/-- May a limit of n clocks be? -/
def limOk (n : Nat) (x : Int × Int × Int) : Bool := decide (0 ≤ x.1 ∧ x.1 ≤ n ∧ 0 ≤ x.2.1 ∧ x.2.1 ≤ n) && rightB x.2.2
theorem limUp_fit (n : Nat) (l : List (Int × Int × Int)) : ∀ p, (∀ q, q < p → limOk n (l.getD q (0, 0, 0)) = true) → Fit n 1073741824 (limUp n l p)
  | 0, _ => openM_fit n
  | p + 1, h => keepM_fit (limUp_fit n l p fun q hq => h q (by omega)) _ _ (by have := h p (by omega); simp only [limOk, Bool.and_eq_true] at this; exact this.2)

/-- All cells are right bounds. -/
def RightM (n : Nat) (m : Mat) : Prop := ∀ i j, i ≤ n → j ≤ n → rightB (m i j) = true
theorem right_zero (n : Nat) : RightM n (fun _ _ => 0) := fun _ _ _ _ => by show rightB 0 = true; decide
theorem narM_right {n : Nat} {m : Mat} (h : allR n m) : RightM n (narM n m) := fun i j hi hj => by
  unfold narM nar rightB
  rw [if_pos ⟨hi, hj⟩, decide_eq_true_iff]
  have := h i hi j hj
  unfold inR at this
  split <;> omega

/-- The same, where no row ends a round early. -/
def BadAt (n : Nat) (X : Int) (m : Mat) (i j : Nat) (cur : Mat) : Prop :=
  cur 0 0 < 1 ∧ Bd (2 * X + 1) (cur 0 0) ∧ (∀ c, c ≤ n → Bd (4 * X + 4) (cur 0 c)) ∧ (∀ a c, a ≤ n → c ≤ n → Bd (16 * X + 16) (cur a c)) ∧
  (∀ a c, a ≤ n → c ≤ n → (i < a ∨ (a = i ∧ j ≤ c)) → cur a c = m a c) ∧ (1 ≤ i → 1 ≤ j → Bd (3 * X + 2) (cur i 0))
def RefOk (n : Nat) (X : Int) (m : Mat) (k i j : Nat) (cur : Mat) : Prop :=
  (m k k = 1 ∧ cur = mix (fw k n m) m n i j) ∨ (k = 0 ∧ m 0 0 < 1 ∧ BadAt n X m i j cur)
theorem RefOk.bounds {n : Nat} {X : Int} {m : Mat} (hf : Fit n X m) (hX : 0 ≤ X) {k i j : Nat} {cur : Mat} (h : RefOk n X m k i j cur) (hk : k ≤ n) {a c : Nat} (ha : a ≤ n) (hc : c ≤ n) :
    Bd (16 * X + 16) (cur a c) := by
  rcases h with ⟨h1, rfl⟩ | ⟨_, _, hb⟩
  · exact ((hf.mixd hk hX i j).bd a c ha hc).mono (by omega)
  · exact hb.2.2.2.1 a c ha hc
theorem BadAt.step {n : Nat} {X : Int} {m : Mat} (hf : Fit n X m) (hX : 0 ≤ X) {i j : Nat} {cur : Mat} (h : BadAt n X m i j cur) (hi : i ≤ n) (hj : j ≤ n) :
    BadAt n X m i (j + 1) (upd cur i j (min (cur i j) (wsum (cur i 0) (cur 0 j)))) := by
  obtain ⟨h1, h2, h3, h4, h5, h6⟩ := h
  have e := h5 i j hi hj (.inr ⟨rfl, Nat.le_refl _⟩)
  have hm := hf.bd i j hi hj
  have hnew : Bd (16 * X + 16) (min (cur i j) (wsum (cur i 0) (cur 0 j))) ∧ (i = 0 → Bd (4 * X + 4) (min (cur i j) (wsum (cur i 0) (cur 0 j)))) ∧
      (i = 0 → j = 0 → Bd (2 * X + 1) (min (cur i j) (wsum (cur i 0) (cur 0 j))) ∧ min (cur i j) (wsum (cur i 0) (cur 0 j)) < 1) ∧
      (j = 0 → Bd (3 * X + 2) (min (cur i j) (wsum (cur i 0) (cur 0 j)))) := by
    rw [e]
    by_cases hi0 : i = 0
    · subst hi0
      by_cases hj0 : j = 0
      · subst hj0
        have := (hm.mono (show X ≤ 2 * X + 1 by omega)).min ((hm.sum hm).mono (show X + X + 1 ≤ 2 * X + 1 by omega))
        rw [e] at h1 ⊢
        refine ⟨this.mono (by omega), fun _ => this.mono (by omega), fun _ _ => ⟨this, ?_⟩, fun _ => this.mono (by omega)⟩
        rw [Int.min_def]; split <;> omega
      · have e2 := h5 0 j (by omega) hj (.inr ⟨rfl, Nat.le_refl _⟩)
        have := (hm.mono (show X ≤ 3 * X + 2 by omega)).min (((h2.sum hm)).mono (show 2 * X + 1 + X + 1 ≤ 3 * X + 2 by omega))
        rw [e2]
        exact ⟨this.mono (by omega), fun _ => this.mono (by omega), fun _ h => absurd h hj0, fun h => absurd h hj0⟩
    · by_cases hj0 : j = 0
      · subst hj0
        have := (hm.mono (show X ≤ 3 * X + 2 by omega)).min (((hm.sum h2)).mono (show X + (2 * X + 1) + 1 ≤ 3 * X + 2 by omega))
        rw [e]
        exact ⟨this.mono (by omega), fun h => absurd h hi0, fun h => absurd h hi0, fun _ => this⟩
      · have h7 := h6 (by omega) (by omega)
        have := (hm.mono (show X ≤ 7 * X + 7 by omega)).min ((h7.sum (h3 j hj)).mono (show 3 * X + 2 + (4 * X + 4) + 1 ≤ 7 * X + 7 by omega))
        exact ⟨this.mono (by omega), fun h => absurd h hi0, fun h => absurd h hi0, fun h => absurd h hj0⟩
  obtain ⟨n1, n2, n3, n4⟩ := hnew
  generalize min (cur i j) (wsum (cur i 0) (cur 0 j)) = v at *
  refine ⟨?_, ?_, ?_, ?_, ?_, ?_⟩
  · simp only [upd]; split
    · rename_i h; exact (n3 h.1.symm h.2.symm).2
    · exact h1
  · simp only [upd]; split
    · rename_i h; exact (n3 h.1.symm h.2.symm).1
    · exact h2
  · intro c hc
    simp only [upd]; split
    · rename_i h; exact n2 h.1.symm
    · exact h3 c hc
  · intro a c ha hc
    simp only [upd]; split
    · exact n1
    · exact h4 a c ha hc
  · intro a c ha hc hac
    simp only [upd]; rw [if_neg (by omega)]
    exact h5 a c ha hc (by omega)
  · intro hi1 _
    by_cases hj0 : j = 0
    · unfold upd; rw [if_pos ⟨rfl, hj0.symm⟩]; exact n4 hj0
    · unfold upd; rw [if_neg (fun h => hj0 h.2.symm)]; exact h6 hi1 (by omega)
theorem RefOk.step {n : Nat} {X : Int} {m : Mat} (hf : Fit n X m) (hX : 0 ≤ X) {k i j : Nat} {cur : Mat} (h : RefOk n X m k i j cur) (hk : k ≤ n) (hi : i ≤ n) (hj : j ≤ n) :
    RefOk n X m k i (j + 1) (upd cur i j (min (cur i j) (wsum (cur i k) (cur k j)))) := by
  rcases h with ⟨h1, rfl⟩ | ⟨rfl, h0, hb⟩
  · exact .inl ⟨h1, by rw [mix_cell h1 hi hj, mix_step _ _ _ _ _ hj]⟩
  · exact .inr ⟨rfl, h0, hb.step hf hX hi hj⟩
theorem RefOk.row {n : Nat} {X : Int} {m : Mat} {k i : Nat} {cur : Mat} (h : RefOk n X m k i (n + 1) cur) : RefOk n X m k (i + 1) 0 cur := by
  rcases h with ⟨h1, rfl⟩ | ⟨rfl, h0, h1, h2, h3, h4, h5, h6⟩
  · exact .inl ⟨h1, mix_row _ _ _ _⟩
  · exact .inr ⟨rfl, h0, h1, h2, h3, h4, fun a c ha hc hac => h5 a c ha hc (by omega), fun _ h => by omega⟩
theorem RoundOk.ref {n : Nat} {m0 m : Mat} {k : Nat} (h : RoundOk n m0 k m) (hk : k ≤ n) : RefOk n (1073741824 * 4 ^ k) m k 0 0 m := by
  have hX : (0 : Int) ≤ 1073741824 * 4 ^ k := by have := one_le_pow2 k; omega
  have hone : m k k = 1 → RefOk n (1073741824 * 4 ^ k) m k 0 0 m := fun h1 => .inl ⟨h1, (mix_start _ _ _).symm⟩
  rcases h.one with rfl | h1
  · by_cases h0 : m 0 0 < 1
    · refine .inr ⟨rfl, h0, h0, (h.fit.bd 0 0 (by omega) (by omega)).mono (by omega), fun c hc => (h.fit.bd 0 c (by omega) hc).mono (by omega), fun a c ha hc => (h.fit.bd a c ha hc).mono (by omega), fun _ _ _ _ _ => rfl, fun h => by omega⟩
    · exact hone (by have := h.fit.diag 0 (by omega); omega)
  · exact hone (h1 k hk)
/-- Behind the round: a cell of a clock against itself below 1 tells that there is no valuation. -/
theorem RefOk.fail {n : Nat} {m0 m cur : Mat} {k i : Nat} (hr : RoundOk n m0 k m) (hk : k ≤ n) (h : RefOk n (1073741824 * 4 ^ k) m k (n + 1) 0 cur) (hi : i ≤ n) (hd : cur i i < 1) : closed n m0 = none := by
  rcases h with ⟨h1, rfl⟩ | ⟨rfl, h0, _⟩
  · rw [mix_done] at hd; exact hr.fail hk hi hd
  · refine hr.fail hk (Nat.zero_le _) ?_
    unfold fw; rw [if_pos (show 0 ≤ n ∧ 0 ≤ n from by omega), Int.min_def]; split <;> omega
theorem RefOk.next {n : Nat} {m0 m cur : Mat} {k : Nat} (hr : RoundOk n m0 k m) (hk : k ≤ n) (h : RefOk n (1073741824 * 4 ^ k) m k (n + 1) 0 cur) (hd : ∀ i, i ≤ n → 1 ≤ cur i i) : RoundOk n m0 (k + 1) cur := by
  rcases h with ⟨h1, rfl⟩ | ⟨rfl, h0, hb⟩
  · refine hr.next hk (.inl ⟨h1, rfl⟩) ?_
    rw [mix_done] at hd; exact hd
  · have := hd 0 (by omega); have := hb.1; omega

/-- A narrow bound, wide. -/
def wid (b : Int) : Int := if b = 2147483647 then none62 else b
/-- The first p bounds, wide. -/
def widUp (l : List Int) : Nat → List Int
  | 0 => []
  | p + 1 => widUp l p ++ [wid (l.getD p 0)]
theorem widUp_length (l : List Int) : ∀ p, (widUp l p).length = p
  | 0 => rfl
  | p + 1 => by simp [widUp, widUp_length l p]
theorem widUp_getD (l : List Int) : ∀ p q, q < p → (widUp l p).getD q 0 = wid (l.getD q 0)
  | 0, q, h => by omega
  | p + 1, q, h => by
    rw [List.getD_eq_getElem?_getD]
    by_cases e : q = p
    · subst e
      rw [show widUp l (q + 1) = widUp l q ++ [wid (l.getD q 0)] from rfl, List.getElem?_append_right (by rw [widUp_length]; omega), widUp_length]
      simp
    · rw [show widUp l (p + 1) = widUp l p ++ [wid (l.getD p 0)] from rfl, List.getElem?_append_left (by rw [widUp_length]; omega), ← List.getD_eq_getElem?_getD]
      exact widUp_getD l p q (by omega)

/-- What Of answers. -/
def ofP (n : Int) (cells : List Int) : Option Mat × Int :=
  if 0 ≤ n ∧ n ≤ 8 then
    if (cells.length : Int) = (n + 1) * (n + 1) then
      if cells.all rightB then zoneP n.toNat (keepUp n.toNat cells cells.length) else (none, 7)
    else (none, 6)
  else (none, 12)
/-- What Limits answers. -/
def limP (n : Int) (l : List (Int × Int × Int)) : Option Mat × Int :=
  if 0 ≤ n ∧ n ≤ 8 then
    if l.all (limOk n.toNat) then zoneP n.toNat (limUp n.toNat l l.length) else (none, 7)
  else (none, 12)
theorem all_getD {α : Type} (l : List α) (f : α → Bool) (d : α) : l.all f = true ↔ ∀ q, q < l.length → f (l.getD q d) = true := by
  rw [List.all_eq_true]
  constructor
  · intro h q hq
    rw [List.getD_eq_getElem?_getD, List.getElem?_eq_getElem hq]
    exact h _ (List.getElem_mem hq)
  · intro h x hx
    obtain ⟨q, hq, rfl⟩ := List.getElem_of_mem hx
    have := h q hq
    rw [List.getD_eq_getElem?_getD, List.getElem?_eq_getElem hq] at this
    exact this

/-! ### all cells, row by row -/
def rowsL (n : Nat) (m : Mat) : Nat → List Int
  | 0 => []
  | i + 1 => rowsL n m i ++ (List.range (n + 1)).map (fun c => m i c)
/-- All cells. -/
def flat (n : Nat) (m : Mat) : List Int := rowsL n m (n + 1)
theorem rowsL_length (n : Nat) (m : Mat) : ∀ i, (rowsL n m i).length = i * (n + 1)
  | 0 => by simp [rowsL]
  | i + 1 => by simp [rowsL, rowsL_length n m i, Nat.add_mul]
theorem flat_length (n : Nat) (m : Mat) : (flat n m).length = (n + 1) * (n + 1) := rowsL_length n m _
theorem rowsL_getD (n : Nat) (m : Mat) : ∀ i p, p < i * (n + 1) → (rowsL n m i).getD p 0 = m (p / (n + 1)) (p % (n + 1))
  | 0, p, h => by simp at h
  | i + 1, p, h => by
    rw [List.getD_eq_getElem?_getD]
    by_cases hp : p < i * (n + 1)
    · rw [show rowsL n m (i + 1) = rowsL n m i ++ (List.range (n + 1)).map (fun c => m i c) from rfl, List.getElem?_append_left (by rw [rowsL_length]; exact hp), ← List.getD_eq_getElem?_getD]
      exact rowsL_getD n m i p hp
    · rw [Nat.add_mul, Nat.one_mul] at h
      have e1 : p / (n + 1) = i := by
        apply Nat.div_eq_of_lt_le
        · omega
        · rw [Nat.add_mul]; omega
      have e2 : p % (n + 1) = p - i * (n + 1) := by
        rw [Nat.mod_def, e1, Nat.mul_comm]
      rw [show rowsL n m (i + 1) = rowsL n m i ++ (List.range (n + 1)).map (fun c => m i c) from rfl, List.getElem?_append_right (by rw [rowsL_length]; omega), rowsL_length, e1, e2]
      simp [show p - i * (n + 1) < n + 1 by omega]
theorem flat_getD (n : Nat) (m : Mat) (p : Nat) (h : p < (n + 1) * (n + 1)) : (flat n m).getD p 0 = m (p / (n + 1)) (p % (n + 1)) := rowsL_getD n m _ p h

theorem at_row {n i j : Nat} (hj : j < n + 1) : (i * (n + 1) + j) / (n + 1) = i ∧ (i * (n + 1) + j) % (n + 1) = j := by
  constructor
  · rw [Nat.mul_comm, Nat.mul_add_div (by omega), Nat.div_eq_of_lt hj, Nat.add_zero]
  · rw [Nat.mul_comm, Nat.mul_add_mod, Nat.mod_eq_of_lt hj]
theorem at_lt {n i j : Nat} (hi : i < n + 1) (hj : j < n + 1) : i * (n + 1) + j < (n + 1) * (n + 1) := by
  have : i * (n + 1) ≤ n * (n + 1) := Nat.mul_le_mul_right _ (by omega)
  rw [Nat.add_mul, Nat.one_mul]; omega
theorem flat_at {n i j : Nat} (m : Mat) (hi : i < n + 1) (hj : j < n + 1) : (flat n m).getD (i * (n + 1) + j) 0 = m i j := by
  rw [flat_getD _ _ _ (at_lt hi hj), (at_row hj).1, (at_row hj).2]
theorem list_ext0 {l k : List Int} (hl : l.length = k.length) (h : ∀ p, p < l.length → l.getD p 0 = k.getD p 0) : l = k := by
  apply List.ext_getElem hl
  intro p h1 h2
  have := h p h1
  simpa [List.getD_eq_getElem?_getD, List.getElem?_eq_getElem h1, List.getElem?_eq_getElem h2] using this
theorem flat_upd {n i j : Nat} (m : Mat) (hi : i < n + 1) (hj : j < n + 1) (v : Int) : (flat n m).set (i * (n + 1) + j) v = flat n (upd m i j v) := by
  apply list_ext0 (by simp [flat_length])
  intro p hp
  simp only [List.length_set, flat_length] at hp
  rw [flat_getD _ _ _ hp, List.getD_eq_getElem?_getD, List.getElem?_set]
  by_cases e : i * (n + 1) + j = p
  · rw [if_pos e, if_pos (by rw [flat_length]; omega)]
    subst e
    simp [upd, (at_row (i := i) hj).1, (at_row (i := i) hj).2]
  · rw [if_neg e, ← List.getD_eq_getElem?_getD, flat_getD _ _ _ hp]
    have : ¬ (p / (n + 1) = i ∧ p % (n + 1) = j) := fun h => e (by rw [← h.1, ← h.2, Nat.mul_comm]; exact Nat.div_add_mod _ _)
    simp [upd, this]
theorem flat_congr {n : Nat} {m o : Mat} (h : ∀ i j, i ≤ n → j ≤ n → m i j = o i j) : flat n m = flat n o := by
  apply list_ext0 (by simp [flat_length])
  intro p hp
  rw [flat_length] at hp
  rw [flat_getD _ _ _ hp, flat_getD _ _ _ hp]
  have h1 : p / (n + 1) < n + 1 := Nat.div_lt_of_lt_mul hp
  have h2 := Nat.mod_lt p (show 0 < n + 1 by omega)
  exact h _ _ (by omega) (by omega)

/-- The diagonal and the first row made at most 1, as far as clock i. -/
def clUp (m : Mat) (i : Nat) : Mat := fun a c => if (a = c ∧ a < i) ∨ (a = 0 ∧ c < i) then min (m a c) 1 else m a c
theorem clUp_zero (m : Mat) : clUp m 0 = m := by funext a c; simp [clUp]
theorem clUp_at (m : Mat) (i : Nat) : clUp m i i i = m i i := by unfold clUp; rw [if_neg (by omega)]
theorem clUp_top (m : Mat) (i : Nat) : clUp m i 0 i = m 0 i := by unfold clUp; rw [if_neg (by omega)]
theorem clUp_step (m : Mat) (i : Nat) : upd (upd (clUp m i) i i (min (clUp m i i i) 1)) 0 i (min (upd (clUp m i) i i (min (clUp m i i i) 1) 0 i) 1) = clUp m (i + 1) := by
  rw [clUp_at]
  funext a c
  by_cases hc : c = i
  · subst hc
    by_cases ha : a = 0
    · subst ha
      by_cases h0 : c = 0
      · subst h0
        simp [upd, clUp]
      · have h0' : ¬ 0 = c := fun h => h0 h.symm
        simp [upd, clUp, h0']
    · by_cases hac : a = c
      · subst hac
        simp [upd, clUp, ha]
      · have : ¬ (a = c ∧ a < c + 1) := fun h => hac h.1
        simp [upd, clUp, ha, hac]
  · have h1 : ¬ (a = 0 ∧ c = i) := fun h => hc h.2
    have h2 : ¬ (a = i ∧ c = i) := fun h => hc h.2
    show (if a = 0 ∧ c = i then _ else (if a = i ∧ c = i then _ else clUp m i a c)) = _
    rw [if_neg h1, if_neg h2]
    unfold clUp
    by_cases h3 : (a = c ∧ a < i) ∨ (a = 0 ∧ c < i)
    · rw [if_pos h3, if_pos (by omega)]
    · rw [if_neg h3, if_neg (by omega)]
theorem clUp_fit {n : Nat} {m : Mat} (h : ∀ i j, i ≤ n → j ≤ n → Bd 1073741824 (m i j)) : Fit n 1073741824 (clUp m (n + 1)) := by
  refine ⟨fun i j hi hj => ?_, fun i hi => ?_⟩
  · unfold clUp; split
    · exact (h i j hi hj).min (.inr (by omega))
    · exact h i j hi hj
  · unfold clUp; rw [if_pos (by omega), Int.min_def]; split <;> omega
/-- The first p wide bounds, narrow. -/
def narUp (l : List Int) : Nat → List Int
  | 0 => []
  | p + 1 => narUp l p ++ [nar (l.getD p 0)]
theorem narUp_length (l : List Int) : ∀ p, (narUp l p).length = p
  | 0 => rfl
  | p + 1 => by simp [narUp, narUp_length l p]
theorem narUp_getD (l : List Int) : ∀ p q, q < p → (narUp l p).getD q 0 = nar (l.getD q 0)
  | 0, q, h => by omega
  | p + 1, q, h => by
    rw [List.getD_eq_getElem?_getD]
    by_cases e : q = p
    · subst e
      rw [show narUp l (q + 1) = narUp l q ++ [nar (l.getD q 0)] from rfl, List.getElem?_append_right (by rw [narUp_length]; omega), narUp_length]
      simp
    · rw [show narUp l (p + 1) = narUp l p ++ [nar (l.getD p 0)] from rfl, List.getElem?_append_left (by rw [narUp_length]; omega), ← List.getD_eq_getElem?_getD]
      exact narUp_getD l p q (by omega)
theorem narUp_flat (n : Nat) (m : Mat) : narUp (flat n m) ((n + 1) * (n + 1)) = flat n (narM n m) := by
  apply list_ext0 (by rw [narUp_length, flat_length])
  intro p hp
  rw [narUp_length] at hp
  have h1 : p / (n + 1) < n + 1 := Nat.div_lt_of_lt_mul hp
  have h2 := Nat.mod_lt p (show 0 < n + 1 by omega)
  rw [narUp_getD _ _ _ hp, flat_getD _ _ _ hp, flat_getD _ _ _ hp]
  unfold narM; rw [if_pos (by omega)]
theorem allR_flat {n : Nat} {m : Mat} (h : ∀ p, p < (n + 1) * (n + 1) → inR ((flat n m).getD p 0)) : allR n m := fun i hi j hj => by
  have := h (i * (n + 1) + j) (at_lt (by omega) (by omega))
  rwa [flat_at m (by omega) (by omega)] at this
theorem allR_at {n : Nat} {m : Mat} (h : allR n m) {p : Nat} (hp : p < (n + 1) * (n + 1)) : inR ((flat n m).getD p 0) := by
  have h1 : p / (n + 1) < n + 1 := Nat.div_lt_of_lt_mul hp
  have h2 := Nat.mod_lt p (show 0 < n + 1 by omega)
  rw [flat_getD _ _ _ hp]
  exact h _ (by omega) _ (by omega)

end Go.Proofs.YtdeblempnmklfaaDoor
