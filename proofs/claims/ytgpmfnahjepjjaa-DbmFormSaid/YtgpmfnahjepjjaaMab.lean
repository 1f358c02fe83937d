/- The closed form hangs on the cells of the clocks alone; the program's wide matrix and the document's have the same ones. -/
import Derived.Test.YtgpmfnahjepjjaaMat
namespace Go.Proofs.Ytgpmfnahjepjjaa
set_option linter.unusedVariables false

/-- The same cells of clocks 0 to n. -/
def Agree (n : Nat) (m o : Mat) : Prop := ∀ i j, i ≤ n → j ≤ n → m i j = o i j
theorem Agree.fwd {n : Nat} {m o : Mat} (h : Agree n m o) {k : Nat} (hk : k ≤ n) : Agree n (fw k n m) (fw k n o) := fun i j hi hj => by
  unfold fw; rw [if_pos ⟨hi, hj⟩, if_pos ⟨hi, hj⟩, h i j hi hj, h i k hi hk, h k j hk hj]
theorem closeP_agree {n : Nat} : ∀ s k m o, Agree n m o → k + s ≤ n + 1 → (closeP n s k m = none ∧ closeP n s k o = none) ∨ ∃ m' o', closeP n s k m = some m' ∧ closeP n s k o = some o' ∧ Agree n m' o'
  | 0, k, m, o, h, _ => .inr ⟨m, o, rfl, rfl, h⟩
  | s + 1, k, m, o, h, hk => by
    have hf := h.fwd (k := k) (by omega)
    simp only [closeP]
    by_cases hd : ∀ i, i ≤ n → 1 ≤ fw k n m i i
    · have hd' : ∀ i, i ≤ n → 1 ≤ fw k n o i i := fun i hi => by rw [← hf i i hi hi]; exact hd i hi
      rw [if_pos hd, if_pos hd']
      exact closeP_agree s (k + 1) _ _ hf (by omega)
    · have hd' : ¬ ∀ i, i ≤ n → 1 ≤ fw k n o i i := fun h' => hd fun i hi => by rw [hf i i hi hi]; exact h' i hi
      rw [if_neg hd, if_neg hd']
      exact .inl ⟨rfl, rfl⟩
theorem closed_agree {n : Nat} {m o : Mat} (h : Agree n m o) : (closed n m = none ∧ closed n o = none) ∨ ∃ m' o', closed n m = some m' ∧ closed n o = some o' ∧ Agree n m' o' :=
  closeP_agree (n + 1) 0 m o h (by omega)
theorem narM_agree {n : Nat} {m o : Mat} (h : Agree n m o) : narM n m = narM n o := by
  funext i j; unfold narM
  by_cases hij : i ≤ n ∧ j ≤ n
  · rw [if_pos hij, if_pos hij, h i j hij.1 hij.2]
  · rw [if_neg hij, if_neg hij]
theorem zoneP_agree {n : Nat} {m o : Mat} (h : Agree n m o) : zoneP n m = zoneP n o := by
  unfold zoneP
  rcases closed_agree h with ⟨h1, h2⟩ | ⟨m', o', h1, h2, h3⟩
  · rw [h1, h2]
  · rw [h1, h2]
    simp only
    by_cases ha : allR n m'
    · have hb : allR n o' := fun i hi j hj => by rw [← h3 i j hi hj]; exact ha i hi j hj
      rw [if_pos ha, if_pos hb, narM_agree h3]
    · have hb : ¬ allR n o' := fun hb => ha fun i hi j hj => by rw [h3 i j hi hj]; exact hb i hi j hj
      rw [if_neg ha, if_neg hb]

/-- The wide matrix of a row of bounds. -/
def widM (n : Nat) (cells : List Int) : Mat := fun i j => wid (cells.getD (i * (n + 1) + j) 0)
theorem widUp_flat {n : Nat} {cells : List Int} : widUp cells ((n + 1) * (n + 1)) = flat n (widM n cells) := by
  apply list_ext0 (by rw [widUp_length, flat_length])
  intro p hp
  rw [widUp_length] at hp
  rw [widUp_getD _ _ _ hp, flat_getD _ _ _ hp]
  show _ = wid (cells.getD (p / (n + 1) * (n + 1) + p % (n + 1)) 0)
  rw [Nat.mul_comm, Nat.div_add_mod]
theorem widM_bd {n : Nat} {cells : List Int} (h : ∀ q, q < (n + 1) * (n + 1) → rightB (cells.getD q 0) = true) : ∀ i j, i ≤ n → j ≤ n → Bd 1073741824 (widM n cells i j) := fun i j hi hj => by
  have hr := h (i * (n + 1) + j) (at_lt (by omega) (by omega))
  unfold widM wid
  by_cases e : cells.getD (i * (n + 1) + j) 0 = 2147483647
  · rw [if_pos e]; exact .inl rfl
  · rw [if_neg e]
    have := rightB_bd hr e
    exact .inr (by omega)

/-- What keeping the first p cells leaves of a cell. -/
theorem keepUp_cell (n : Nat) (cells : List Int) (i j : Nat) (hi : i ≤ n) (hj : j ≤ n) (hr : ∀ q, q < (n + 1) * (n + 1) → rightB (cells.getD q 0) = true) : ∀ p, p ≤ (n + 1) * (n + 1) →
    keepUp n cells p i j = if i * (n + 1) + j < p then (if i = j ∨ i = 0 then min 1 (wid (cells.getD (i * (n + 1) + j) 0)) else wid (cells.getD (i * (n + 1) + j) 0)) else openM n i j
  | 0, _ => by rw [if_neg (by omega)]; rfl
  | p + 1, hp => by
    have ih := keepUp_cell n cells i j hi hj hr p (by omega)
    have hrp := hr p (by omega)
    show keepM (keepUp n cells p) (p / (n + 1)) (p % (n + 1)) (cells.getD p 0) i j = _
    have hopen : openM n i j = if i = j ∨ i = 0 then 1 else none62 := by unfold openM; rw [if_pos ⟨hi, hj⟩]
    by_cases e : i * (n + 1) + j = p
    · have h1 := (at_row (i := i) (show j < n + 1 by omega)).1
      have h2 := (at_row (i := i) (show j < n + 1 by omega)).2
      rw [e] at h1 h2
      rw [if_neg (by omega)] at ih
      rw [if_pos (by omega), h1, h2, e]
      unfold keepM
      by_cases hinf : cells.getD p 0 = 2147483647
      · rw [if_pos hinf, ih, hopen]
        have hw : wid (cells.getD p 0) = none62 := by unfold wid; rw [if_pos hinf]
        rw [hw]
        by_cases hd : i = j ∨ i = 0
        · rw [if_pos hd, if_pos hd]; decide
        · rw [if_neg hd, if_neg hd]
      · rw [if_neg hinf]
        have hw : wid (cells.getD p 0) = cells.getD p 0 := by unfold wid; rw [if_neg hinf]
        have hb := rightB_bd hrp hinf
        rw [hw]
        unfold upd
        rw [if_pos ⟨rfl, rfl⟩, ih, hopen]
        by_cases hd : i = j ∨ i = 0
        · rw [if_pos hd, if_pos hd]
        · rw [if_neg hd, if_neg hd, Int.min_def]
          unfold none62
          rw [if_neg (by omega)]
    · have hne : ¬ (i = p / (n + 1) ∧ j = p % (n + 1)) := fun h => e (by rw [h.1, h.2, Nat.mul_comm]; exact Nat.div_add_mod _ _)
      have hk : keepM (keepUp n cells p) (p / (n + 1)) (p % (n + 1)) (cells.getD p 0) i j = keepUp n cells p i j := by
        unfold keepM
        split
        · rfl
        · unfold upd; rw [if_neg hne]
      rw [hk, ih]
      by_cases hlt : i * (n + 1) + j < p
      · rw [if_pos hlt, if_pos (show i * (n + 1) + j < p + 1 by omega)]
      · rw [if_neg hlt, if_neg (show ¬ i * (n + 1) + j < p + 1 by omega)]

/-- The program's wide matrix is the document's. -/
theorem keep_wide {n : Nat} {cells : List Int} (hr : ∀ q, q < (n + 1) * (n + 1) → rightB (cells.getD q 0) = true) : Agree n (clUp (widM n cells) (n + 1)) (keepUp n cells ((n + 1) * (n + 1))) := fun i j hi hj => by
  rw [keepUp_cell n cells i j hi hj hr _ (Nat.le_refl _), if_pos (at_lt (by omega) (by omega))]
  unfold clUp
  by_cases hd : i = j ∨ i = 0
  · rw [if_pos (by omega), if_pos hd, Int.min_comm]; rfl
  · rw [if_neg (by omega), if_neg hd]; rfl

end Go.Proofs.Ytgpmfnahjepjjaa
