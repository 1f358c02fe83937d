/- Texts of ours, laid together: Mab, Mcl, Msm, Mfm, Jb, Jd, Mem, Zv, Bit, Da, Oa. -/
import Derived.WalkKit
import Derived.WalkSpells
import Derived.WalkLawsBesides
import Derived.Test.YtkgohhdenfnfpaaProg
import Derived.KernelRfl
import Derived.Lib.Hide
import Derived.Deep.LoopGhost
import Derived.Deep.QuietTactic
import Derived.BigQuiet
import Derived.BigRegion
import Derived.StillTailTactics
import Derived.Test.YtkgohhdenfnfpaaMg1
/- The closed form hangs on the cells of the clocks alone; the program's wide matrix and the document's have the same ones. -/
namespace Go.Proofs.Ytkgohhdenfnfpaa
set_option linter.unusedVariables false

/-- The same cells of clocks 0 to n. -/
def Agree (n : Nat) (m o : Mat) : Prop := ∀ i j, i ≤ n → j ≤ n → m i j = o i j
theorem Agree.fwd {n : Nat} {m o : Mat} (h : Agree n m o) {k : Nat} (hk : k ≤ n) : Agree n (fw k n m) (fw k n o) := fun i j hi hj => by
  unfold fw; rw [if_pos ⟨hi, hj⟩, if_pos ⟨hi, hj⟩, h i j hi hj, h i k hi hk, h k j hk hj]
theorem closeP_agree {n : Nat} : ∀ s k m o, Agree n m o → k + s ≤ n + 1 → (closeP n s k m = none ∧ closeP n s k o = none) ∨ ∃ m' o', closeP n s k m = some m' ∧ closeP n s k o = some o' ∧ Agree n m' o'
  | 0, k, m, o, h, _ => .inr ⟨m, o, rfl, rfl, h⟩
  | s + 1, k, m, o, h, hk => by
    have hf := h.fwd (k := k) (by omega)
    simp only [closeP]
    by_cases hd : ∀ i, i ≤ n → 1 ≤ fw k n m i i
    · have hd' : ∀ i, i ≤ n → 1 ≤ fw k n o i i := fun i hi => by rw [← hf i i hi hi]; exact hd i hi
      rw [if_pos hd, if_pos hd']
      exact closeP_agree s (k + 1) _ _ hf (by omega)
    · have hd' : ¬ ∀ i, i ≤ n → 1 ≤ fw k n o i i := fun h' => hd fun i hi => by rw [hf i i hi hi]; exact h' i hi
      rw [if_neg hd, if_neg hd']
      exact .inl ⟨rfl, rfl⟩
theorem closed_agree {n : Nat} {m o : Mat} (h : Agree n m o) : (closed n m = none ∧ closed n o = none) ∨ ∃ m' o', closed n m = some m' ∧ closed n o = some o' ∧ Agree n m' o' :=
  closeP_agree (n + 1) 0 m o h (by omega)
theorem narM_agree {n : Nat} {m o : Mat} (h : Agree n m o) : narM n m = narM n o := by
  funext i j; unfold narM
  by_cases hij : i ≤ n ∧ j ≤ n
  · rw [if_pos hij, if_pos hij, h i j hij.1 hij.2]
  · rw [if_neg hij, if_neg hij]
theorem zoneP_agree {n : Nat} {m o : Mat} (h : Agree n m o) : zoneP n m = zoneP n o := by
  unfold zoneP
  rcases closed_agree h with ⟨h1, h2⟩ | ⟨m', o', h1, h2, h3⟩
  · rw [h1, h2]
  · rw [h1, h2]
    simp only
    by_cases ha : allR n m'
    · have hb : allR n o' := fun i hi j hj => by rw [← h3 i j hi hj]; exact ha i hi j hj
      rw [if_pos ha, if_pos hb, narM_agree h3]
    · have hb : ¬ allR n o' := fun hb => ha fun i hi j hj => by rw [h3 i j hi hj]; exact hb i hi j hj
      rw [if_neg ha, if_neg hb]

/-- The wide matrix of a row of bounds. -/
def widM (n : Nat) (cells : List Int) : Mat := fun i j => wid (cells.getD (i * (n + 1) + j) 0)
theorem widUp_flat {n : Nat} {cells : List Int} : widUp cells ((n + 1) * (n + 1)) = flat n (widM n cells) := by
  apply list_ext0 (by rw [widUp_length, flat_length])
  intro p hp
  rw [widUp_length] at hp
  rw [widUp_getD _ _ _ hp, flat_getD _ _ _ hp]
  show _ = wid (cells.getD (p / (n + 1) * (n + 1) + p % (n + 1)) 0)
  rw [Nat.mul_comm, Nat.div_add_mod]
theorem widM_bd {n : Nat} {cells : List Int} (h : ∀ q, q < (n + 1) * (n + 1) → rightB (cells.getD q 0) = true) : ∀ i j, i ≤ n → j ≤ n → Bd 1073741824 (widM n cells i j) := fun i j hi hj => by
  have hr := h (i * (n + 1) + j) (at_lt (by omega) (by omega))
  unfold widM wid
  by_cases e : cells.getD (i * (n + 1) + j) 0 = 2147483647
  · rw [if_pos e]; exact .inl rfl
  · rw [if_neg e]
    have := rightB_bd hr e
    exact .inr (by omega)

/-- What keeping the first p cells leaves of a cell. -/
theorem keepUp_cell (n : Nat) (cells : List Int) (i j : Nat) (hi : i ≤ n) (hj : j ≤ n) (hr : ∀ q, q < (n + 1) * (n + 1) → rightB (cells.getD q 0) = true) : ∀ p, p ≤ (n + 1) * (n + 1) →
    keepUp n cells p i j = if i * (n + 1) + j < p then (if i = j ∨ i = 0 then min 1 (wid (cells.getD (i * (n + 1) + j) 0)) else wid (cells.getD (i * (n + 1) + j) 0)) else openM n i j
  | 0, _ => by rw [if_neg (by omega)]; rfl
  | p + 1, hp => by
    have ih := keepUp_cell n cells i j hi hj hr p (by omega)
    have hrp := hr p (by omega)
    show keepM (keepUp n cells p) (p / (n + 1)) (p % (n + 1)) (cells.getD p 0) i j = _
    have hopen : openM n i j = if i = j ∨ i = 0 then 1 else none62 := by unfold openM; rw [if_pos ⟨hi, hj⟩]
    by_cases e : i * (n + 1) + j = p
    · have h1 := (at_row (i := i) (show j < n + 1 by omega)).1
      have h2 := (at_row (i := i) (show j < n + 1 by omega)).2
      rw [e] at h1 h2
      rw [if_neg (by omega)] at ih
      rw [if_pos (by omega), h1, h2, e]
      unfold keepM
      by_cases hinf : cells.getD p 0 = 2147483647
      · rw [if_pos hinf, ih, hopen]
        have hw : wid (cells.getD p 0) = none62 := by unfold wid; rw [if_pos hinf]
        rw [hw]
        by_cases hd : i = j ∨ i = 0
        · rw [if_pos hd, if_pos hd]; decide
        · rw [if_neg hd, if_neg hd]
      · rw [if_neg hinf]
        have hw : wid (cells.getD p 0) = cells.getD p 0 := by unfold wid; rw [if_neg hinf]
        have hb := rightB_bd hrp hinf
        rw [hw]
        unfold upd
        rw [if_pos ⟨rfl, rfl⟩, ih, hopen]
        by_cases hd : i = j ∨ i = 0
        · rw [if_pos hd, if_pos hd]
        · rw [if_neg hd, if_neg hd, Int.min_def]
          unfold none62
          rw [if_neg (by omega)]
    · have hne : ¬ (i = p / (n + 1) ∧ j = p % (n + 1)) := fun h => e (by rw [h.1, h.2, Nat.mul_comm]; exact Nat.div_add_mod _ _)
      have hk : keepM (keepUp n cells p) (p / (n + 1)) (p % (n + 1)) (cells.getD p 0) i j = keepUp n cells p i j := by
        unfold keepM
        split
        · rfl
        · unfold upd; rw [if_neg hne]
      rw [hk, ih]
      by_cases hlt : i * (n + 1) + j < p
      · rw [if_pos hlt, if_pos (show i * (n + 1) + j < p + 1 by omega)]
      · rw [if_neg hlt, if_neg (show ¬ i * (n + 1) + j < p + 1 by omega)]

/-- The program's wide matrix is the document's. -/
theorem keep_wide {n : Nat} {cells : List Int} (hr : ∀ q, q < (n + 1) * (n + 1) → rightB (cells.getD q 0) = true) : Agree n (clUp (widM n cells) (n + 1)) (keepUp n cells ((n + 1) * (n + 1))) := fun i j hi hj => by
  rw [keepUp_cell n cells i j hi hj hr _ (Nat.le_refl _), if_pos (at_lt (by omega) (by omega))]
  unfold clUp
  by_cases hd : i = j ∨ i = 0
  · rw [if_pos (by omega), if_pos hd, Int.min_comm]; rfl
  · rw [if_neg (by omega), if_neg hd]; rfl

end Go.Proofs.Ytkgohhdenfnfpaa

/- The diagonal of a closed form, and the shape of every zone. -/
namespace Go.Proofs.Ytkgohhdenfnfpaa
set_option linter.unusedVariables false
set_option linter.unusedSimpArgs false

theorem fw_diag {k n : Nat} {m : Mat} (h : ∀ i, i ≤ n → m i i ≤ 1) : ∀ i, i ≤ n → fw k n m i i ≤ 1 := fun i hi => by
  unfold fw
  rw [if_pos ⟨hi, hi⟩]
  have := h i hi
  omega
theorem closeP_diag {n : Nat} : ∀ s k m m', (∀ i, i ≤ n → m i i ≤ 1) → closeP n s k m = some m' → ∀ i, i ≤ n → m' i i ≤ 1
  | 0, k, m, m', h, e => by
    simp [closeP] at e
    subst e
    exact h
  | s + 1, k, m, m', h, e => by
    unfold closeP at e
    split at e
    · exact closeP_diag s (k + 1) _ m' (fw_diag h) e
    · cases e
theorem closeP_low {n : Nat} : ∀ s k m m', closeP n (s + 1) k m = some m' → ∀ i, i ≤ n → 1 ≤ m' i i
  | 0, k, m, m', e => by
    unfold closeP at e
    split at e
    · simp [closeP] at e
      subst e
      assumption
    · cases e
  | s + 1, k, m, m', e => by
    unfold closeP at e
    split at e
    · exact closeP_low s (k + 1) _ m' e
    · cases e
/-- On the diagonal of a closed form stands 0, reached. -/
theorem closed_diag {n : Nat} {m m' : Mat} (h : ∀ i, i ≤ n → m i i ≤ 1) (e : closed n m = some m') : ∀ i, i ≤ n → m' i i = 1 := fun i hi => by
  have h1 := closeP_diag _ _ _ _ h e i hi
  have h2 := closeP_low _ _ _ _ e i hi
  omega

/-- The shape of a zone: nothing outside; empty: all 0; else 1 on the diagonal. -/
structure Shape (n : Nat) (m : Mat) : Prop where
  inside : Inside n m
  cases : m = (fun _ _ => 0) ∨ ∀ i, i ≤ n → m i i = 1
theorem zoneP_shape {n : Nat} {m z : Mat} (h : ∀ i, i ≤ n → m i i ≤ 1) (e : (zoneP n m).1 = some z) : Shape n z := by
  unfold zoneP at e
  split at e
  · simp at e
    subst e
    exact ⟨fun _ _ _ => rfl, .inl rfl⟩
  · rename_i m' hm
    split at e
    · simp at e
      subst e
      refine ⟨narM_inside _ _, .inr fun i hi => ?_⟩
      unfold narM
      rw [if_pos ⟨hi, hi⟩, closed_diag h hm i hi]
      decide
    · cases e
theorem ofP_shape {n : Int} {cells : List Int} {z : Mat} (e : (ofP n cells).1 = some z) : 0 ≤ n ∧ n ≤ 8 ∧ Shape n.toNat z := by
  unfold ofP at e
  split at e
  · rename_i hn
    refine ⟨hn.1, hn.2, ?_⟩
    split at e
    · split at e
      · rename_i hr
        have hr' := (all_getD cells rightB 0).1 hr
        exact zoneP_shape (fun i hi => (keepUp_fit _ _ _ hr').diag i hi) e
      · cases e
    · cases e
  · cases e
theorem limP_shape {n : Int} {l : List (Int × Int × Int)} {z : Mat} (e : (limP n l).1 = some z) : 0 ≤ n ∧ n ≤ 8 ∧ Shape n.toNat z := by
  unfold limP at e
  split at e
  · rename_i hn
    refine ⟨hn.1, hn.2, ?_⟩
    split at e
    · rename_i hr
      have hr' := (all_getD l (limOk n.toNat) (0, 0, 0)).1 hr
      exact zoneP_shape (fun i hi => (limUp_fit _ _ _ hr').diag i hi) e
    · cases e
  · cases e
/-- Two that hold the same within are the same. -/
theorem inside_ext {n : Nat} {m o : Mat} (hm : Inside n m) (ho : Inside n o) (h : ∀ i j, i ≤ n → j ≤ n → m i j = o i j) : m = o := by
  funext a c
  by_cases hb : a ≤ n ∧ c ≤ n
  · exact h a c hb.1 hb.2
  · rw [hm a c (by omega), ho a c (by omega)]

end Go.Proofs.Ytkgohhdenfnfpaa

/- What bounds mean: valuations on a grid. The closed form has the same ones, it is closed, and it is its own closed form. -/
namespace Go.Proofs.Ytkgohhdenfnfpaa
set_option linter.unusedVariables false
set_option linter.unusedSimpArgs false

/-! ### sums of wide bounds -/
theorem wsum_min {a b : Int} (ha : a ≠ none62) (hb : b ≠ none62) : wsum a b = (a - a % 2) + (b - b % 2) + min (a % 2) (b % 2) := by
  unfold wsum
  rw [if_neg (by simp [ha, hb])]
  rcases two_cases a b with ⟨h, h1⟩ | ⟨h, h1, h2⟩ <;> rw [h] <;> omega
theorem wsum_none_left (b : Int) : wsum none62 b = none62 := by simp [wsum]
theorem wsum_none_right (a : Int) : wsum a none62 = none62 := by simp [wsum]
theorem wsum_comm (a b : Int) : wsum a b = wsum b a := by
  by_cases ha : a = none62
  · rw [ha, wsum_none_left, wsum_none_right]
  · by_cases hb : b = none62
    · rw [hb, wsum_none_left, wsum_none_right]
    · rw [wsum_min ha hb, wsum_min hb ha]; omega
/-- A wide bound that may be added a few times. -/
abbrev FB (a : Int) : Prop := Bd 288230376151711744 a
theorem FB.fin {a : Int} (h : FB a) (hn : a ≠ none62) : -288230376151711744 ≤ a ∧ a ≤ 288230376151711744 := by
  rcases h with h | h
  · exact absurd h hn
  · exact h
theorem FB.le {a : Int} (h : FB a) : a ≤ none62 := by
  unfold none62
  rcases h with h | h
  · unfold none62 at h; omega
  · omega
theorem wsum_fin_ne {a b : Int} (ha : FB a) (hb : FB b) (h1 : a ≠ none62) (h2 : b ≠ none62) : wsum a b ≠ none62 := by
  rw [wsum_min h1 h2]
  have := ha.fin h1
  have := hb.fin h2
  unfold none62
  omega
theorem wsum_assoc {a b c : Int} (ha : FB a) (hb : FB b) (hc : FB c) : wsum (wsum a b) c = wsum a (wsum b c) := by
  by_cases h1 : a = none62
  · rw [h1, wsum_none_left, wsum_none_left, wsum_none_left]
  · by_cases h2 : b = none62
    · rw [h2, wsum_none_right, wsum_none_left, wsum_none_right]
    · by_cases h3 : c = none62
      · rw [h3, wsum_none_right, wsum_none_right, wsum_none_right]
      · have e1 := wsum_fin_ne ha hb h1 h2
        have e2 := wsum_fin_ne hb hc h2 h3
        rw [wsum_min e1 h3, wsum_min h1 e2, wsum_min h1 h2, wsum_min h2 h3]
        omega
theorem wsum_le {a a' b b' : Int} (ha : FB a) (ha' : FB a') (hb : FB b) (hb' : FB b') (h1 : a ≤ a') (h2 : b ≤ b') : wsum a b ≤ wsum a' b' := by
  by_cases e1 : a' = none62
  · rw [e1, wsum_none_left]
    by_cases e2 : a = none62
    · rw [e2, wsum_none_left]; exact Int.le_refl _
    · by_cases e3 : b = none62
      · rw [e3, wsum_none_right]; exact Int.le_refl _
      · have := ha.fin e2
        have := hb.fin e3
        rw [wsum_min e2 e3]; unfold none62; omega
  · by_cases e2 : b' = none62
    · rw [e2, wsum_none_right]
      by_cases e3 : a = none62
      · rw [e3, wsum_none_left]; exact Int.le_refl _
      · by_cases e4 : b = none62
        · rw [e4, wsum_none_right]; exact Int.le_refl _
        · have := ha.fin e3
          have := hb.fin e4
          rw [wsum_min e3 e4]; unfold none62; omega
    · have f1 := ha'.fin e1
      have f2 := hb'.fin e2
      have e3 : a ≠ none62 := fun h => by unfold none62 at h; omega
      have e4 : b ≠ none62 := fun h => by unfold none62 at h; omega
      rw [wsum_min e3 e4, wsum_min e1 e2]
      omega

/-! ### the closed form is closed -/
/-- No way by a clock ahead of k is stricter. -/
def Tri (n : Nat) (m : Mat) (k : Nat) : Prop := ∀ l, l < k → ∀ i j, i ≤ n → j ≤ n → m i j ≤ wsum (m i l) (m l j)
theorem fw_le (k n : Nat) (m : Mat) (i j : Nat) : fw k n m i j ≤ m i j := by
  unfold fw; split
  · omega
  · exact Int.le_refl _
theorem half_fb {a : Int} (h : Bd 1125899906842624 a) : FB a := h.mono (by omega)
theorem sum_fb {a b : Int} (h : Bd 1125899906842624 a) (h' : Bd 1125899906842624 b) : FB (wsum a b) := (h.sum h').mono (by omega)
theorem fw_tri {n k : Nat} {m : Mat} (hf : ∀ i j, i ≤ n → j ≤ n → Bd 1125899906842624 (m i j)) (hk : k ≤ n) (hd : ∀ i, i ≤ n → m i i = 1) (ht : Tri n m k) : Tri n (fw k n m) (k + 1) := by
  intro l hl i j hi hj
  by_cases e : l = k
  · subst e
    rw [fw_col (hd l hk), fw_row (hd l hk)]
    unfold fw
    rw [if_pos ⟨hi, hj⟩]
    omega
  · have hlk : l < k := by omega
    have hln : l ≤ n := by omega
    have t1 := ht l hlk i j hi hj
    have t2 := ht l hlk k j hk hj
    have t3 := ht l hlk i k hi hk
    have t4 := ht l hlk k k hk hk
    rw [hd k hk] at t4
    have fa := hf i l hi hln
    have fb := hf l j hln hj
    have fc := hf i k hi hk
    have fd := hf k j hk hj
    have fp := hf k l hk hln
    have fq := hf l k hln hk
    unfold fw
    rw [if_pos ⟨hi, hj⟩, if_pos ⟨hi, hln⟩, if_pos ⟨hln, hj⟩]
    generalize m i j = x at *
    generalize m i l = a at *
    generalize m l j = b at *
    generalize m i k = c at *
    generalize m k j = d at *
    generalize m k l = p at *
    generalize m l k = q at *
    have g2 : wsum c d ≤ wsum (wsum c p) b := by
      rw [wsum_assoc (half_fb fc) (half_fb fp) (half_fb fb)]
      exact wsum_le (half_fb fc) (half_fb fc) (half_fb fd) (sum_fb fp fb) (Int.le_refl _) t2
    have g3 : wsum c d ≤ wsum a (wsum q d) := by
      rw [← wsum_assoc (half_fb fa) (half_fb fq) (half_fb fd)]
      exact wsum_le (half_fb fc) (sum_fb fa fq) (half_fb fd) (half_fb fd) t3 (Int.le_refl _)
    have g4 : wsum c d ≤ wsum (wsum c p) (wsum q d) := by
      rw [wsum_assoc (half_fb fc) (half_fb fp) (sum_fb fq fd), ← wsum_assoc (half_fb fp) (half_fb fq) (half_fb fd)]
      refine wsum_le (half_fb fc) (half_fb fc) (half_fb fd) ?_ (Int.le_refl _) ?_
      · have := ((fp.sum fq).sum fd)
        exact this.mono (by omega)
      · have := wsum_le (a := 1) (b := d) (a' := wsum p q) (b' := d) (.inr (by omega)) (sum_fb fp fq) (half_fb fd) (half_fb fd) t4 (Int.le_refl _)
        rwa [wsum_one_left] at this
    have m1 : min a (wsum c p) = a ∨ min a (wsum c p) = wsum c p := by omega
    have m2 : min b (wsum q d) = b ∨ min b (wsum q d) = wsum q d := by omega
    rcases m1 with m1 | m1 <;> rcases m2 with m2 | m2 <;> rw [m1, m2]
    · omega
    · omega
    · omega
    · omega

theorem four_le {k : Nat} (h : k ≤ 9) : (1073741824 : Int) * 4 ^ k ≤ 281474976710656 := by
  have := pow2_le h
  omega
theorem fit_bd {n k : Nat} {m : Mat} (h : Fit n (1073741824 * 4 ^ k) m) (hk : k ≤ 9) : ∀ i j, i ≤ n → j ≤ n → Bd 1125899906842624 (m i j) := fun i j hi hj => (h.bd i j hi hj).mono (by have := four_le hk; omega)
theorem fit_next {n k : Nat} {m : Mat} (h : Fit n (1073741824 * 4 ^ k) m) (hk : k ≤ n) : Fit n (1073741824 * 4 ^ (k + 1)) (fw k n m) := by
  have := h.fwd hk (by have := one_le_pow2 k; omega)
  exact ⟨fun i j hi hj => (this.bd i j hi hj).mono (pow2_step k), this.diag⟩

/-- What a closed form is. -/
structure Closed (n : Nat) (m m' : Mat) : Prop where
  tri : Tri n m' (n + 1)
  bd : ∀ i j, i ≤ n → j ≤ n → Bd 1125899906842624 (m' i j)
  one : ∀ i, i ≤ n → m' i i = 1
  le : ∀ i j, m' i j ≤ m i j
theorem closeP_closed {n : Nat} (hn : n ≤ 8) : ∀ s k m m', k + s = n + 1 → Fit n (1073741824 * 4 ^ k) m → Tri n m k → (∀ i, i ≤ n → s = 0 → m i i = 1) → closeP n s k m = some m' → Closed n m m'
  | 0, k, m, m', hk, hf, ht, h1, e => by
    simp [closeP] at e
    subst e
    have : k = n + 1 := by omega
    subst this
    exact ⟨ht, fit_bd hf (by omega), fun i hi => h1 i hi rfl, fun _ _ => Int.le_refl _⟩
  | s + 1, k, m, m', hk, hf, ht, h1, e => by
    unfold closeP at e
    split at e
    · rename_i hd
      have hone : ∀ i, i ≤ n → m i i = 1 := fun i hi => by
        have a := hd i hi
        have b := fw_le k n m i i
        have c := hf.diag i hi
        omega
      have hf' := fit_next hf (show k ≤ n by omega)
      have hone' : ∀ i, i ≤ n → fw k n m i i = 1 := fun i hi => by
        have a := hd i hi
        have b := hf'.diag i hi
        omega
      have ht' := fw_tri (fit_bd hf (by omega)) (by omega) hone ht
      have := closeP_closed hn s (k + 1) (fw k n m) m' (by omega) hf' ht' (fun i hi _ => hone' i hi) e
      exact ⟨this.tri, this.bd, this.one, fun i j => Int.le_trans (this.le i j) (fw_le k n m i j)⟩
    · cases e
theorem closed_closed {n : Nat} {m m' : Mat} (hn : n ≤ 8) (hf : Fit n 1073741824 m) (e : closed n m = some m') : Closed n m m' :=
  closeP_closed hn (n + 1) 0 m m' (by omega) (by simpa using hf) (fun l hl => by omega) (fun i hi h => by omega) e

/-- What is closed is its own closed form. -/
theorem fw_id {k n : Nat} {m : Mat} (hk : k ≤ n) (ht : Tri n m (n + 1)) : fw k n m = m := by
  funext i j
  unfold fw
  split
  · rename_i h
    have := ht k (by omega) i j h.1 h.2
    omega
  · rfl
theorem closeP_id {n : Nat} {m : Mat} (ht : Tri n m (n + 1)) (h1 : ∀ i, i ≤ n → m i i = 1) : ∀ s k, k + s ≤ n + 1 → closeP n s k m = some m
  | 0, k, _ => rfl
  | s + 1, k, hk => by
    unfold closeP
    rw [fw_id (by omega) ht, if_pos (fun i hi => by rw [h1 i hi]; exact Int.le_refl _)]
    exact closeP_id ht h1 s (k + 1) (by omega)
theorem closed_id {n : Nat} {m : Mat} (ht : Tri n m (n + 1)) (h1 : ∀ i, i ≤ n → m i i = 1) : closed n m = some m := closeP_id ht h1 _ _ (by omega)

/-! ### valuations -/
/-- Does a difference, in units of a grid, keep a wide bound? -/
def sat (g b x : Int) : Prop := b = none62 ∨ x < b / 2 * g + b % 2
theorem sat_mono {g a b x : Int} (hg : 1 ≤ g) (hb : FB b) (h : a ≤ b) (hs : sat g a x) : sat g b x := by
  rcases hb with hb | hb
  · exact .inl hb
  · right
    rcases hs with hs | hs
    · unfold none62 at hs; omega
    · by_cases e : a / 2 = b / 2
      · rw [← e]; omega
      · have h2 : (a / 2 + 1) * g ≤ b / 2 * g := Int.mul_le_mul_of_nonneg_right (by omega) (by omega)
        rw [Int.add_mul, Int.one_mul] at h2
        omega
theorem sat_sum {g a b x y : Int} (h1 : sat g a x) (h2 : sat g b y) : sat g (wsum a b) (x + y) := by
  by_cases ha : a = none62
  · left; rw [ha, wsum_none_left]
  · by_cases hb : b = none62
    · left; rw [hb, wsum_none_right]
    · right
      rw [wsum_min ha hb]
      rcases h1 with h1 | h1
      · exact absurd h1 ha
      · rcases h2 with h2 | h2
        · exact absurd h2 hb
        · have e1 : (a - a % 2 + (b - b % 2) + min (a % 2) (b % 2)) / 2 = a / 2 + b / 2 := by omega
          have e2 : (a - a % 2 + (b - b % 2) + min (a % 2) (b % 2)) % 2 = min (a % 2) (b % 2) := by omega
          rw [e1, e2, Int.add_mul]
          omega
theorem sat_min {g a b x : Int} (hg : 1 ≤ g) (ha : FB a) (hb : FB b) : sat g (min a b) x ↔ sat g a x ∧ sat g b x := by
  constructor
  · intro h
    exact ⟨sat_mono hg ha (by omega) h, sat_mono hg hb (by omega) h⟩
  · intro ⟨h1, h2⟩
    rcases (show min a b = a ∨ min a b = b by omega) with e | e <;> rw [e] <;> assumption
theorem sat_zero {g b : Int} (hg : 1 ≤ g) (hs : sat g b 0) : 1 ≤ b := by
  rcases hs with hs | hs
  · rw [hs]; decide
  · by_cases h : 1 ≤ b
    · exact h
    · exfalso
      by_cases e : b = 0
      · subst e; simp at hs
      · have h2 : b / 2 * g ≤ -1 * g := Int.mul_le_mul_of_nonneg_right (by omega) (by omega)
        omega
theorem sat_one {g x : Int} (hx : x ≤ 0) : sat g 1 x := .inr (by simp; omega)

/-- Does a valuation keep all cells? -/
def satM (n : Nat) (g : Int) (m : Mat) (v : Nat → Int) : Prop := ∀ i j, i ≤ n → j ≤ n → sat g (m i j) (v i - v j)
theorem satM_fw {n k : Nat} {g : Int} {m : Mat} {v : Nat → Int} (hg : 1 ≤ g) (hf : ∀ i j, i ≤ n → j ≤ n → Bd 1125899906842624 (m i j)) (hk : k ≤ n) : satM n g (fw k n m) v ↔ satM n g m v := by
  constructor
  · intro h i j hi hj
    exact sat_mono hg (half_fb (hf i j hi hj)) (fw_le k n m i j) (h i j hi hj)
  · intro h i j hi hj
    unfold fw
    rw [if_pos ⟨hi, hj⟩, sat_min hg (half_fb (hf i j hi hj)) (sum_fb (hf i k hi hk) (hf k j hk hj))]
    refine ⟨h i j hi hj, ?_⟩
    have := sat_sum (h i k hi hk) (h k j hk hj)
    rwa [show v i - v k + (v k - v j) = v i - v j by omega] at this
def ClosedSat (n : Nat) (g : Int) (m : Mat) (v : Nat → Int) : Option Mat → Prop
  | none => ¬ satM n g m v
  | some m' => satM n g m v ↔ satM n g m' v
theorem closeP_sat {n : Nat} {g : Int} (hn : n ≤ 8) (hg : 1 ≤ g) (v : Nat → Int) : ∀ s k m, k + s = n + 1 → Fit n (1073741824 * 4 ^ k) m → ClosedSat n g m v (closeP n s k m)
  | 0, k, m, _, _ => Iff.rfl
  | s + 1, k, m, hk, hf => by
    have e := satM_fw (v := v) hg (fit_bd hf (by omega)) (show k ≤ n by omega)
    unfold closeP
    split
    · have ih := closeP_sat hn hg v s (k + 1) (fw k n m) (by omega) (fit_next hf (by omega))
      revert ih
      cases closeP n s (k + 1) (fw k n m) with
      | none => exact fun ih h => ih (e.2 h)
      | some m' => exact fun ih => e.symm.trans ih
    · rename_i hd
      intro hs
      refine hd fun i hi => ?_
      have := (e.2 hs) i i hi hi
      rw [Int.sub_self] at this
      exact sat_zero hg this
theorem closed_sat {n : Nat} {g : Int} {m : Mat} (hn : n ≤ 8) (hg : 1 ≤ g) (v : Nat → Int) (hf : Fit n 1073741824 m) : ClosedSat n g m v (closed n m) :=
  closeP_sat hn hg v (n + 1) 0 m (by omega) (by simpa using hf)

/-! ### zones of their own cells -/
/-- The wide cells of narrow ones, with what holds of all valuations. -/
def wideZ (z : Mat) : Mat := fun i j => if i = j ∨ i = 0 then min 1 (wid (z i j)) else wid (z i j)
theorem keep_flat {n : Nat} {z : Mat} (hr : RightM n z) : Agree n (keepUp n (flat n z) ((n + 1) * (n + 1))) (wideZ z) := fun i j hi hj => by
  rw [keepUp_cell n (flat n z) i j hi hj (fun q hq => by
    rw [flat_getD _ _ _ hq]
    have h1 : q / (n + 1) < n + 1 := Nat.div_lt_of_lt_mul hq
    have h2 := Nat.mod_lt q (show 0 < n + 1 by omega)
    exact hr _ _ (by omega) (by omega)) _ (Nat.le_refl _), if_pos (at_lt (by omega) (by omega)), flat_at _ (by omega) (by omega)]
  rfl
theorem flat_right {n : Nat} {z : Mat} (hr : RightM n z) : (flat n z).all rightB = true := (all_getD _ _ 0).2 fun q hq => by
  rw [flat_length] at hq
  rw [flat_getD _ _ _ hq]
  have h1 : q / (n + 1) < n + 1 := Nat.div_lt_of_lt_mul hq
  have h2 := Nat.mod_lt q (show 0 < n + 1 by omega)
  exact hr _ _ (by omega) (by omega)
/-- What Of tells of a matrix. -/
theorem of_flat {n : Nat} {z : Mat} (hn : n ≤ 8) (hr : RightM n z) : ofP n (flat n z) = zoneP n (wideZ z) := by
  unfold ofP
  rw [if_pos (by omega), if_pos (by rw [flat_length]; simp), if_pos (flat_right hr), flat_length, Int.toNat_natCast]
  exact zoneP_agree (keep_flat hr)
theorem wid_nar {x : Int} (h : inR x) : wid (nar x) = x := by
  unfold nar wid
  rcases h with h | h
  · rw [if_pos h, if_pos rfl, h]
  · have e1 : ¬ x = none62 := by unfold none62; omega
    rw [if_neg e1, if_neg (by omega)]
theorem zoneP_zero (n : Nat) : zoneP n (wideZ fun _ _ => 0) = (some (fun _ _ => 0), 0) := by
  have h : closed n (wideZ fun _ _ => 0) = none := by
    unfold closed closeP
    rw [if_neg]
    intro h
    have h1 := h 0 (by omega)
    have h2 := fw_le 0 n (wideZ fun _ _ => 0) 0 0
    have h3 : wideZ (fun _ _ => 0) 0 0 = 0 := by decide
    omega
  unfold zoneP
  rw [h]
/-- What a zone's own matrix is: empty, or closed. -/
inductive ZoneIs (n : Nat) (M z : Mat) : Prop
  | empty (h : z = fun _ _ => 0) (e : closed n M = none)
  | full (m' : Mat) (e : closed n M = some m') (h : allR n m') (hz : z = narM n m') (hc : Closed n M m')
theorem zoneP_is {n : Nat} {M z : Mat} (hn : n ≤ 8) (hf : Fit n 1073741824 M) (e : (zoneP n M).1 = some z) : ZoneIs n M z := by
  unfold zoneP at e
  cases hc : closed n M with
  | none => rw [hc] at e; simp at e; exact .empty e.symm hc
  | some m' =>
    rw [hc] at e
    simp only at e
    by_cases ha : allR n m'
    · rw [if_pos ha] at e
      simp at e
      exact .full m' hc ha e.symm (closed_closed hn hf hc)
    · rw [if_neg ha] at e; cases e
/-- Of a zone's own cells: the zone. -/
theorem of_again {n : Nat} {M z : Mat} (hn : n ≤ 8) (hf : Fit n 1073741824 M) (h0 : ∀ j, j ≤ n → M 0 j ≤ 1) (e : (zoneP n M).1 = some z) : ofP n (flat n z) = (some z, 0) := by
  rcases zoneP_is hn hf e with ⟨h, _⟩ | ⟨m', hm, ha, hz, hc⟩
  · subst h
    rw [of_flat hn (right_zero n), zoneP_zero]
  · have hr : RightM n z := by rw [hz]; exact narM_right ha
    rw [of_flat hn hr]
    have hag : Agree n (wideZ z) m' := fun i j hi hj => by
      have e1 : z i j = nar (m' i j) := by rw [hz]; unfold narM; rw [if_pos ⟨hi, hj⟩]
      have e2 := wid_nar (ha i hi j hj)
      unfold wideZ
      rw [e1, e2]
      split
      · rename_i hij
        have : m' i j ≤ 1 := by
          rcases hij with hij | hij
          · subst hij; rw [hc.one i hi]; exact Int.le_refl _
          · subst hij; exact Int.le_trans (hc.le 0 j) (h0 j hj)
        omega
      · rfl
    rw [zoneP_agree hag]
    unfold zoneP
    rw [closed_id hc.tri hc.one]
    simp only
    rw [if_pos ha, hz]

end Go.Proofs.Ytkgohhdenfnfpaa

/- Each zone that is not empty has a valuation on the grid of its clocks and one; how it is found; what is not forbidden is there. -/
namespace Go.Proofs.Ytkgohhdenfnfpaa
set_option linter.unusedVariables false
set_option linter.unusedSimpArgs false

/-! ### counting -/
def cnt (P : Nat → Bool) : Nat → Int
  | 0 => 0
  | k + 1 => cnt P k + (if P k then 1 else 0)
theorem cnt_le {P Q : Nat → Bool} : ∀ N, (∀ k, k < N → P k = true → Q k = true) → cnt P N ≤ cnt Q N
  | 0, _ => Int.le_refl _
  | N + 1, h => by
    have ih := cnt_le N fun k hk => h k (by omega)
    have hN := h N (by omega)
    unfold cnt
    cases hp : P N
    · cases Q N <;> simp <;> omega
    · rw [hN hp]; simp; omega
theorem cnt_lt {P Q : Nat → Bool} : ∀ N k0, k0 < N → (∀ k, k < N → P k = true → Q k = true) → P k0 = false → Q k0 = true → cnt P N + 1 ≤ cnt Q N
  | 0, k0, h0, _, _, _ => by omega
  | N + 1, k0, h0, h, hp, hq => by
    unfold cnt
    by_cases e : k0 = N
    · subst e
      have := cnt_le k0 fun k hk => h k (by omega)
      rw [hp, hq]; simp; omega
    · have ih := cnt_lt N k0 (by omega) (fun k hk => h k (by omega)) hp hq
      have hN := h N (by omega)
      cases hpN : P N
      · cases Q N <;> simp <;> omega
      · rw [hN hpN]; simp; omega
theorem cnt_bd (P : Nat → Bool) : ∀ N, 0 ≤ cnt P N ∧ cnt P N ≤ N
  | 0 => by simp [cnt]
  | N + 1 => by
    have ih := cnt_bd P N
    unfold cnt
    split <;> omega
theorem cnt_miss (P : Nat → Bool) (N k0 : Nat) (h0 : k0 < N) (h : P k0 = false) : cnt P N + 1 ≤ N := by
  have h1 := cnt_lt (P := P) (Q := fun _ => true) N k0 h0 (fun _ _ _ => rfl) h rfl
  have h2 := (cnt_bd (fun _ => true) N).2
  omega

/-! ### a valuation of a closed matrix -/
/-- What a matrix must be to have a valuation: closed, and no clock below 0. -/
structure Solid (n : Nat) (m : Mat) : Prop where
  tri : Tri n m (n + 1)
  bd : ∀ i j, i ≤ n → j ≤ n → FB (m i j)
  one : ∀ i, i ≤ n → m i i = 1
  top : ∀ j, j ≤ n → m 0 j ≤ 1
theorem Solid.fin {n : Nat} {m : Mat} (h : Solid n m) {j : Nat} (hj : j ≤ n) : m 0 j ≠ none62 := fun e => by
  have := h.top j hj
  rw [e] at this
  unfold none62 at this
  omega
theorem Solid.step {n : Nat} {m : Mat} (h : Solid n m) {i k j : Nat} (hi : i ≤ n) (hk : k ≤ n) (hj : j ≤ n) (h1 : m i k ≠ none62) (h2 : m k j ≠ none62) :
    m i j ≠ none62 ∧ m i j ≤ (m i k - m i k % 2) + (m k j - m k j % 2) + min (m i k % 2) (m k j % 2) := by
  have t := h.tri k (by omega) i j hi hj
  rw [wsum_min h1 h2] at t
  refine ⟨fun e => ?_, t⟩
  have f1 := (h.bd i k hi hk).fin h1
  have f2 := (h.bd k j hk hj).fin h2
  rw [e] at t
  unfold none62 at t
  omega
/-- A way that is as short as it can be, and less than reached. -/
def tightR (m : Mat) (k j : Nat) : Bool := decide (m k j ≠ none62 ∧ m 0 j / 2 = m 0 k / 2 + m k j / 2 ∧ m k j % 2 = 0)
/-- The valuation. -/
def solU (n : Nat) (m : Mat) (j : Nat) : Int := ((n : Int) + 1) * (-(m 0 j / 2)) + cnt (fun k => tightR m k j) (n + 1)

theorem tight_trans {n : Nat} {m : Mat} (h : Solid n m) {k i j : Nat} (hk : k ≤ n) (hi : i ≤ n) (hj : j ≤ n) (h1 : tightR m k i = true) (h2 : m i j ≠ none62) (h3 : m 0 j / 2 = m 0 i / 2 + m i j / 2) : tightR m k j = true := by
  unfold tightR at h1
  obtain ⟨a1, a2, a3⟩ := of_decide_eq_true h1
  obtain ⟨b1, b2⟩ := h.step hk hi hj a1 h2
  have b3 := (h.step (Nat.zero_le n) hk hj (h.fin hk) b1).2
  refine decide_eq_true ⟨b1, ?_, ?_⟩ <;> omega
theorem solU_sat {n : Nat} {m : Mat} (h : Solid n m) : ∀ i j, i ≤ n → j ≤ n → m i j ≠ none62 → solU n m i - (m i j / 2 * ((n : Int) + 1) - (1 - m i j % 2)) ≤ solU n m j := fun i j hi hj hf => by
  have t := (h.step (Nat.zero_le n) hi hj (h.fin hi) hf).2
  have hp : -(m 0 j / 2) ≥ -(m 0 i / 2) - m i j / 2 := by omega
  have hself : tightR m i i = false := by
    unfold tightR
    rw [h.one i hi]
    refine decide_eq_false fun hh => ?_
    have := hh.2.2
    omega
  have hqi := cnt_miss (fun k => tightR m k i) (n + 1) i (by omega) hself
  have hqj := (cnt_bd (fun k => tightR m k j) (n + 1)).1
  unfold solU
  obtain ⟨a, ha⟩ : ∃ a, a = m 0 i / 2 := ⟨_, rfl⟩
  obtain ⟨b, hb⟩ : ∃ b, b = m 0 j / 2 := ⟨_, rfl⟩
  obtain ⟨x, hx⟩ : ∃ x, x = m i j / 2 := ⟨_, rfl⟩
  obtain ⟨r, hr⟩ : ∃ r, r = m i j % 2 := ⟨_, rfl⟩
  have hr2 : 0 ≤ r ∧ r ≤ 1 := by omega
  rw [← ha, ← hb, ← hx, ← hr]
  rw [← ha, ← hb, ← hx] at hp
  by_cases e : b = a + x
  · have hq : cnt (fun k => tightR m k i) (n + 1) + (1 - r) ≤ cnt (fun k => tightR m k j) (n + 1) := by
      have himp : ∀ k, k < n + 1 → (fun k => tightR m k i) k = true → (fun k => tightR m k j) k = true := fun k hk h1 => tight_trans h (by omega) hi hj h1 hf (by omega)
      by_cases hr0 : r = 0
      · have := cnt_lt (P := fun k => tightR m k i) (Q := fun k => tightR m k j) (n + 1) i (by omega) himp hself (decide_eq_true ⟨hf, by omega, by omega⟩)
        omega
      · have := cnt_le (P := fun k => tightR m k i) (Q := fun k => tightR m k j) (n + 1) himp
        omega
    have e2 : ((n : Int) + 1) * -b = ((n : Int) + 1) * -a - x * ((n : Int) + 1) := by
      rw [e, Int.neg_add, Int.mul_add, Int.mul_neg, Int.mul_neg, Int.mul_comm x]; omega
    omega
  · have e1 : -b ≥ -a - x + 1 := by omega
    have e2 : ((n : Int) + 1) * -b ≥ ((n : Int) + 1) * (-a - x + 1) := Int.mul_le_mul_of_nonneg_left e1 (by omega)
    have e3 : ((n : Int) + 1) * (-a - x + 1) = ((n : Int) + 1) * -a - x * ((n : Int) + 1) + ((n : Int) + 1) := by
      rw [Int.mul_add, Int.mul_sub, Int.mul_comm x]; omega
    omega
theorem solU_pos {n : Nat} {m : Mat} (h : Solid n m) : ∀ j, j ≤ n → 0 ≤ solU n m j := fun j hj => by
  have h1 := h.top j hj
  have h2 := (cnt_bd (fun k => tightR m k j) (n + 1)).1
  have h3 : 0 ≤ ((n : Int) + 1) * (-(m 0 j / 2)) := Int.mul_nonneg (by omega) (by omega)
  unfold solU
  omega
theorem solU_le {n : Nat} {m : Mat} {X : Int} (hX : ∀ j, j ≤ n → -X ≤ m 0 j / 2) : ∀ j, j ≤ n → solU n m j ≤ ((n : Int) + 1) * X + ((n : Int) + 1) := fun j hj => by
  have h1 := hX j hj
  have h2 := (cnt_bd (fun k => tightR m k j) (n + 1)).2
  have h3 : ((n : Int) + 1) * (-(m 0 j / 2)) ≤ ((n : Int) + 1) * X := Int.mul_le_mul_of_nonneg_left (by omega) (by omega)
  unfold solU
  omega
theorem sat_of_le {g b x : Int} (h : b ≠ none62 → x ≤ b / 2 * g - (1 - b % 2)) : sat g b x := by
  by_cases e : b = none62
  · exact .inl e
  · have := h e
    exact .inr (by omega)
theorem le_of_sat {g b x : Int} (h : sat g b x) (hb : b ≠ none62) : x ≤ b / 2 * g - (1 - b % 2) := by
  rcases h with h | h
  · exact absurd h hb
  · omega
theorem solid_sat {n : Nat} {m : Mat} (h : Solid n m) : satM n ((n : Int) + 1) m (solU n m) := fun i j hi hj => sat_of_le fun hf => by
  have := solU_sat h i j hi hj hf
  omega

/-! ### how the least one is found -/
/-- A valuation that keeps all bounds, none below 0. -/
def Sol (n : Nat) (g : Int) (m : Mat) (u : Nat → Int) : Prop := (∀ j, j ≤ n → 0 ≤ u j) ∧ ∀ i j, i ≤ n → j ≤ n → m i j ≠ none62 → u i - (m i j / 2 * g - (1 - m i j % 2)) ≤ u j
/-- One bound is looked at. -/
def insS (g : Int) (m : Mat) (v : Nat → Int) (i j : Nat) : Nat → Int :=
  if m i j ≠ none62 ∧ v j < v i - (m i j / 2 * g - (1 - m i j % 2)) then fun a => if a = j then v i - (m i j / 2 * g - (1 - m i j % 2)) else v a else v
def insJ (g : Int) (m : Mat) (v : Nat → Int) (i : Nat) : Nat → Nat → Int
  | 0 => v
  | j + 1 => insS g m (insJ g m v i j) i j
def insI (n : Nat) (g : Int) (m : Mat) (v : Nat → Int) : Nat → Nat → Int
  | 0 => v
  | i + 1 => insJ g m (insI n g m v i) i (n + 1)
def insR (n : Nat) (g : Int) (m : Mat) : Nat → Nat → Int
  | 0 => fun _ => 0
  | r + 1 => insI n g m (insR n g m r) (n + 1)
theorem insS_ge (g : Int) (m : Mat) (v : Nat → Int) (i j a : Nat) : v a ≤ insS g m v i j a := by
  unfold insS
  split
  · rename_i h
    show _ ≤ if a = j then _ else _
    split
    · rename_i e; subst e; omega
    · exact Int.le_refl _
  · exact Int.le_refl _
theorem insJ_ge (g : Int) (m : Mat) (v : Nat → Int) (i a : Nat) : ∀ j d, insJ g m v i j a ≤ insJ g m v i (j + d) a
  | _, 0 => Int.le_refl _
  | j, d + 1 => Int.le_trans (insJ_ge g m v i a j d) (insS_ge g m _ i (j + d) a)
theorem insI_ge (n : Nat) (g : Int) (m : Mat) (v : Nat → Int) (a : Nat) : ∀ i d, insI n g m v i a ≤ insI n g m v (i + d) a
  | _, 0 => Int.le_refl _
  | i, d + 1 => Int.le_trans (insI_ge n g m v a i d) (by
    have := insJ_ge g m (insI n g m v (i + d)) (i + d) a 0 (n + 1)
    rw [Nat.zero_add] at this
    exact this)
theorem insS_le {n : Nat} {g : Int} {m : Mat} {u v : Nat → Int} (hu : Sol n g m u) (hv : ∀ a, a ≤ n → v a ≤ u a) {i j : Nat} (hi : i ≤ n) (hj : j ≤ n) : ∀ a, a ≤ n → insS g m v i j a ≤ u a := fun a ha => by
  unfold insS
  split
  · rename_i h
    show (if a = j then _ else _) ≤ _
    split
    · rename_i e
      subst e
      have := hu.2 i a hi ha h.1
      have := hv i hi
      omega
    · exact hv a ha
  · exact hv a ha
theorem insJ_le {n : Nat} {g : Int} {m : Mat} {u v : Nat → Int} (hu : Sol n g m u) (hv : ∀ a, a ≤ n → v a ≤ u a) {i : Nat} (hi : i ≤ n) : ∀ j, j ≤ n + 1 → ∀ a, a ≤ n → insJ g m v i j a ≤ u a
  | 0, _ => hv
  | j + 1, h => insS_le hu (insJ_le hu hv hi j (by omega)) hi (by omega)
theorem insI_le {n : Nat} {g : Int} {m : Mat} {u v : Nat → Int} (hu : Sol n g m u) (hv : ∀ a, a ≤ n → v a ≤ u a) : ∀ i, i ≤ n + 1 → ∀ a, a ≤ n → insI n g m v i a ≤ u a
  | 0, _ => hv
  | i + 1, h => insJ_le hu (insI_le hu hv i (by omega)) (by omega) (n + 1) (Nat.le_refl _)
theorem insR_le {n : Nat} {g : Int} {m : Mat} {u : Nat → Int} (hu : Sol n g m u) : ∀ r, ∀ a, a ≤ n → insR n g m r a ≤ u a
  | 0 => fun a ha => hu.1 a ha
  | r + 1 => insI_le hu (insR_le hu r) (n + 1) (Nat.le_refl _)
theorem insR_pos (n : Nat) (g : Int) (m : Mat) : ∀ r a, 0 ≤ insR n g m r a
  | 0, _ => Int.le_refl _
  | r + 1, a => Int.le_trans (insR_pos n g m r a) (by
    have := insI_ge n g m (insR n g m r) a 0 (n + 1)
    rw [Nat.zero_add] at this
    exact this)
/-- Behind a round each bound was looked at. -/
theorem round_ge (n : Nat) (g : Int) (m : Mat) (v : Nat → Int) {i j : Nat} (hi : i ≤ n) (hj : j ≤ n) (hf : m i j ≠ none62) : v i - (m i j / 2 * g - (1 - m i j % 2)) ≤ insI n g m v (n + 1) j := by
  have h1 := insI_ge n g m v j (i + 1) (n - i)
  rw [show i + 1 + (n - i) = n + 1 by omega] at h1
  refine Int.le_trans ?_ h1
  show _ ≤ insJ g m (insI n g m v i) i (n + 1) j
  have h2 := insJ_ge g m (insI n g m v i) i j (j + 1) (n - j)
  rw [show j + 1 + (n - j) = n + 1 by omega] at h2
  refine Int.le_trans ?_ h2
  show _ ≤ insS g m (insJ g m (insI n g m v i) i j) i j j
  have h3 : v i ≤ insJ g m (insI n g m v i) i j i := by
    have a1 := insI_ge n g m v i 0 i
    have a2 := insJ_ge g m (insI n g m v i) i i 0 j
    rw [Nat.zero_add] at a1 a2
    exact Int.le_trans a1 a2
  generalize insJ g m (insI n g m v i) i j = x at h3
  unfold insS
  split
  · simp only [if_true]; omega
  · rename_i h
    have : ¬ x j < x i - (m i j / 2 * g - (1 - m i j % 2)) := fun hh => h ⟨hf, hh⟩
    omega

/-- The sum of a valuation. -/
def sumU (u : Nat → Int) : Nat → Int
  | 0 => 0
  | k + 1 => sumU u k + u k
theorem sumU_le {u v : Nat → Int} : ∀ N, (∀ a, a < N → u a ≤ v a) → sumU u N ≤ sumU v N
  | 0, _ => Int.le_refl _
  | N + 1, h => by
    have := sumU_le N fun a ha => h a (by omega)
    have := h N (by omega)
    unfold sumU; omega
theorem sumU_lt {u v : Nat → Int} : ∀ N k0, k0 < N → (∀ a, a < N → u a ≤ v a) → u k0 < v k0 → sumU u N < sumU v N
  | 0, k0, h0, _, _ => by omega
  | N + 1, k0, h0, h, hl => by
    unfold sumU
    by_cases e : k0 = N
    · subst e
      have := sumU_le k0 fun a ha => h a (by omega)
      omega
    · have := sumU_lt N k0 (by omega) (fun a ha => h a (by omega)) hl
      have := h N (by omega)
      omega
theorem sumU_pos {u : Nat → Int} : ∀ N, (∀ a, a < N → 0 ≤ u a) → 0 ≤ sumU u N
  | 0, _ => Int.le_refl _
  | N + 1, h => by
    have := sumU_pos N fun a ha => h a (by omega)
    have := h N (by omega)
    unfold sumU; omega
/-- There is one whose sum is the least. -/
theorem least_sol {n : Nat} {g : Int} {m : Mat} : ∀ (s : Nat) (u : Nat → Int), Sol n g m u → sumU u (n + 1) ≤ s → ∃ u', Sol n g m u' ∧ ∀ u'', Sol n g m u'' → sumU u' (n + 1) ≤ sumU u'' (n + 1)
  | 0, u, hu, hs => ⟨u, hu, fun u'' hu'' => by
    have := sumU_pos (n + 1) fun a ha => hu''.1 a (by omega)
    omega⟩
  | s + 1, u, hu, hs => by
    by_cases h : ∀ u'', Sol n g m u'' → sumU u (n + 1) ≤ sumU u'' (n + 1)
    · exact ⟨u, hu, h⟩
    · have : ∃ u'', Sol n g m u'' ∧ sumU u'' (n + 1) < sumU u (n + 1) := by
        refine Classical.byContradiction fun hn => h fun u'' hu'' => ?_
        exact Int.not_lt.1 fun hl => hn ⟨u'', hu'', hl⟩
      obtain ⟨u'', hu'', hl⟩ := this
      exact least_sol s u'' hu'' (by omega)

/-- So many places are as in u. -/
def same (n : Nat) (v u : Nat → Int) : Int := cnt (fun a => decide (v a = u a)) (n + 1)
theorem round_more {n : Nat} {g : Int} {m : Mat} {u v : Nat → Int} (hu : Sol n g m u) (hl : ∀ u'', Sol n g m u'' → sumU u (n + 1) ≤ sumU u'' (n + 1)) (hv0 : ∀ a, a ≤ n → 0 ≤ v a) (hv : ∀ a, a ≤ n → v a ≤ u a)
    (hne : ∃ a, a ≤ n ∧ v a ≠ u a) : same n v u + 1 ≤ same n (insI n g m v (n + 1)) u := by
  have hge : ∀ a, v a ≤ insI n g m v (n + 1) a := fun a => by
    have := insI_ge n g m v a 0 (n + 1)
    rw [Nat.zero_add] at this
    exact this
  have hle := insI_le hu hv (n + 1) (Nat.le_refl _)
  have hkeep : ∀ a, a ≤ n → v a = u a → insI n g m v (n + 1) a = u a := fun a ha e => by
    have := hge a
    have := hle a ha
    omega
  by_cases hex : ∃ a, a ≤ n ∧ v a ≠ u a ∧ insI n g m v (n + 1) a = u a
  · obtain ⟨a, ha, h1, h2⟩ := hex
    exact cnt_lt (n + 1) a (by omega) (fun k hk h => decide_eq_true (hkeep k (by omega) (of_decide_eq_true h))) (decide_eq_false h1) (decide_eq_true h2)
  · exfalso
    have hno : ∀ a, a ≤ n → v a ≠ u a → insI n g m v (n + 1) a < u a := fun a ha h1 => by
      have h2 := hle a ha
      have h3 : insI n g m v (n + 1) a ≠ u a := fun e => hex ⟨a, ha, h1, e⟩
      omega
    obtain ⟨a0, ha0, hne0⟩ := hne
    have hsol : Sol n g m (fun a => if v a = u a then u a else u a - 1) := by
      refine ⟨fun a ha => ?_, fun i j hi hj hf => ?_⟩
      · show 0 ≤ if v a = u a then u a else u a - 1
        split
        · exact hu.1 a ha
        · have := hv a ha
          have := hv0 a ha
          omega
      · show (if v i = u i then u i else u i - 1) - _ ≤ if v j = u j then u j else u j - 1
        have t := hu.2 i j hi hj hf
        by_cases h1 : v i = u i
        · rw [if_pos h1]
          by_cases h2 : v j = u j
          · rw [if_pos h2]; exact t
          · rw [if_neg h2]
            have r := round_ge n g m v hi hj hf
            have := hno j hj h2
            rw [h1] at r
            omega
        · rw [if_neg h1]
          split <;> omega
    have h1 := hl _ hsol
    have h2 := sumU_lt (u := fun a => if v a = u a then u a else u a - 1) (v := u) (n + 1) a0 (by omega) (fun a _ => by
      show (if v a = u a then u a else u a - 1) ≤ u a
      split <;> omega) (by
      show (if v a0 = u a0 then u a0 else u a0 - 1) < u a0
      rw [if_neg hne0]; omega)
    omega
theorem rounds_same {n : Nat} {g : Int} {m : Mat} {u : Nat → Int} (hu : Sol n g m u) (hl : ∀ u'', Sol n g m u'' → sumU u (n + 1) ≤ sumU u'' (n + 1)) : ∀ r : Nat, (r : Int) ≤ same n (insR n g m r) u ∨ ∀ a, a ≤ n → insR n g m r a = u a
  | 0 => .inl (by have := (cnt_bd (fun a => decide (insR n g m 0 a = u a)) (n + 1)).1; exact this)
  | r + 1 => by
    by_cases hall : ∀ a, a ≤ n → insR n g m r a = u a
    · right
      intro a ha
      have h1 := insR_le hu (r + 1) a ha
      have h2 := insI_ge n g m (insR n g m r) a 0 (n + 1)
      rw [Nat.zero_add] at h2
      have h3 : insR n g m r a ≤ insR n g m (r + 1) a := h2
      have := hall a ha
      omega
    · left
      rcases rounds_same hu hl r with ih | ih
      · have hne : ∃ a, a ≤ n ∧ insR n g m r a ≠ u a := by
          refine Classical.byContradiction fun hn => hall fun a ha => Classical.byContradiction fun h => hn ⟨a, ha, h⟩
        have := round_more hu hl (fun a _ => insR_pos n g m r a) (insR_le hu r) hne
        show ((r + 1 : Nat) : Int) ≤ same n (insI n g m (insR n g m r) (n + 1)) u
        omega
      · exact absurd ih hall
/-- What is found is a valuation, and the least of sums; no more than any. -/
theorem inside_sol {n : Nat} {g : Int} {m : Mat} {u0 : Nat → Int} (h : Sol n g m u0) : Sol n g m (insR n g m (n + 2)) ∧ (∀ r a, a ≤ n → insR n g m r a ≤ u0 a) := by
  refine ⟨?_, fun r => insR_le h r⟩
  obtain ⟨u, hu, hl⟩ := least_sol (sumU u0 (n + 1)).toNat u0 h (by omega)
  have hall : ∀ a, a ≤ n → insR n g m (n + 2) a = u a := by
    rcases rounds_same hu hl (n + 2) with hr | hr
    · exfalso
      have := (cnt_bd (fun a => decide (insR n g m (n + 2) a = u a)) (n + 1)).2
      have hr' : ((n + 2 : Nat) : Int) ≤ cnt (fun a => decide (insR n g m (n + 2) a = u a)) (n + 1) := hr
      omega
    · exact hr
  refine ⟨fun j hj => by rw [hall j hj]; exact hu.1 j hj, fun i j hi hj hf => ?_⟩
  rw [hall i hi, hall j hj]
  exact hu.2 i j hi hj hf
theorem sol_sat {n : Nat} {g : Int} {m : Mat} {u : Nat → Int} (h : Sol n g m u) : satM n g m u := fun i j hi hj => sat_of_le fun hf => by
  have := h.2 i j hi hj hf
  omega
theorem solid_sol {n : Nat} {m : Mat} (h : Solid n m) : Sol n ((n : Int) + 1) m (solU n m) := ⟨solU_pos h, solU_sat h⟩

/-! ### one bound more -/
/-- Closed, with one bound made stricter. -/
def tighter (m : Mat) (j i : Nat) (o : Int) : Mat := fun a b => min (m a b) (wsum (wsum (m a j) o) (m i b))
theorem tighter_solid {n : Nat} {m : Mat} (h : Closed n m m) (h0 : ∀ j, j ≤ n → m 0 j ≤ 1) {i j : Nat} {o : Int} (hi : i ≤ n) (hj : j ≤ n) (ho : Bd 1125899906842624 o) (hone : 1 ≤ wsum o (m i j)) : Solid n (tighter m j i o) := by
  have f := h.bd
  have F : ∀ a b, a ≤ n → b ≤ n → FB (m a b) := fun a b ha hb => half_fb (f a b ha hb)
  have fo : FB o := half_fb ho
  have f2 : ∀ a, a ≤ n → FB (wsum (m a j) o) := fun a ha => sum_fb (f a j ha hj) ho
  have f3 : ∀ a b, a ≤ n → b ≤ n → FB (wsum (wsum (m a j) o) (m i b)) := fun a b ha hb => (((f a j ha hj).sum ho).sum (f i b hi hb)).mono (by omega)
  have fs : ∀ a b c d, a ≤ n → b ≤ n → c ≤ n → d ≤ n → FB (wsum (m a b) (m c d)) := fun a b c d ha hb hc hd => sum_fb (f a b ha hb) (f c d hc hd)
  have tr : ∀ a k b, a ≤ n → k ≤ n → b ≤ n → m a b ≤ wsum (m a k) (m k b) := fun a k b ha hk hb => h.tri k (by omega) a b ha hb
  refine ⟨fun k hk a b ha hb => ?_, fun a b ha hb => ?_, fun a ha => ?_, fun b hb => ?_⟩
  · have hk : k ≤ n := by omega
    show min (m a b) (wsum (wsum (m a j) o) (m i b)) ≤ wsum (min (m a k) (wsum (wsum (m a j) o) (m i k))) (min (m k b) (wsum (wsum (m k j) o) (m i b)))
    have c1 := tr a k b ha hk hb
    have c2 : wsum (wsum (m a j) o) (m i b) ≤ wsum (wsum (wsum (m a j) o) (m i k)) (m k b) := by
      rw [wsum_assoc (f2 a ha) (F i k hi hk) (F k b hk hb)]
      exact wsum_le (f2 a ha) (f2 a ha) (F i b hi hb) (fs i k k b hi hk hk hb) (Int.le_refl _) (tr i k b hi hk hb)
    have c3 : wsum (wsum (m a j) o) (m i b) ≤ wsum (m a k) (wsum (wsum (m k j) o) (m i b)) := by
      rw [← wsum_assoc (F a k ha hk) (f2 k hk) (F i b hi hb), ← wsum_assoc (F a k ha hk) (F k j hk hj) fo]
      refine wsum_le (f2 a ha) ((((f a k ha hk).sum (f k j hk hj)).sum ho).mono (by omega)) (F i b hi hb) (F i b hi hb) ?_ (Int.le_refl _)
      exact wsum_le (F a j ha hj) (fs a k k j ha hk hk hj) fo fo (tr a k j ha hk hj) (Int.le_refl _)
    have c4 : wsum (wsum (m a j) o) (m i b) ≤ wsum (wsum (wsum (m a j) o) (m i k)) (wsum (wsum (m k j) o) (m i b)) := by
      rw [← wsum_assoc (f3 a k ha hk) (f2 k hk) (F i b hi hb)]
      refine wsum_le (f2 a ha) (((((f a j ha hj).sum ho).sum (f i k hi hk)).sum ((f k j hk hj).sum ho)).mono (by omega)) (F i b hi hb) (F i b hi hb) ?_ (Int.le_refl _)
      have e1 : wsum (wsum (wsum (m a j) o) (m i k)) (wsum (m k j) o) = wsum (wsum (m a j) o) (wsum (wsum (m i k) (m k j)) o) := by
        rw [wsum_assoc (f2 a ha) (F i k hi hk) (f2 k hk), wsum_assoc (F i k hi hk) (F k j hk hj) fo]
      rw [e1]
      have e2 : 1 ≤ wsum (wsum (m i k) (m k j)) o := by
        refine Int.le_trans hone ?_
        rw [wsum_comm o]
        exact wsum_le (F i j hi hj) (fs i k k j hi hk hk hj) fo fo (tr i k j hi hk hj) (Int.le_refl _)
      have := wsum_le (a := wsum (m a j) o) (a' := wsum (m a j) o) (b := 1) (b' := wsum (wsum (m i k) (m k j)) o) (f2 a ha) (f2 a ha) (.inr (by omega)) ((((f i k hi hk).sum (f k j hk hj)).sum ho).mono (by omega)) (Int.le_refl _) e2
      rwa [wsum_one_right] at this
    have m1 : min (m a k) (wsum (wsum (m a j) o) (m i k)) = m a k ∨ min (m a k) (wsum (wsum (m a j) o) (m i k)) = wsum (wsum (m a j) o) (m i k) := by omega
    have m2 : min (m k b) (wsum (wsum (m k j) o) (m i b)) = m k b ∨ min (m k b) (wsum (wsum (m k j) o) (m i b)) = wsum (wsum (m k j) o) (m i b) := by omega
    rcases m1 with m1 | m1 <;> rcases m2 with m2 | m2 <;> rw [m1, m2]
    · omega
    · omega
    · omega
    · omega
  · exact (F a b ha hb).min (f3 a b ha hb)
  · show min (m a a) (wsum (wsum (m a j) o) (m i a)) = 1
    have e : 1 ≤ wsum (wsum (m a j) o) (m i a) := by
      refine Int.le_trans hone ?_
      rw [wsum_comm (m a j) o, wsum_assoc fo (F a j ha hj) (F i a hi ha), wsum_comm (m a j)]
      exact wsum_le fo fo (F i j hi hj) (fs i a a j hi ha ha hj) (Int.le_refl _) (tr i a j hi ha hj)
    rw [h.one a ha]
    omega
  · have := h0 b hb
    show min (m 0 b) _ ≤ 1
    omega
theorem tighter_le (m : Mat) (j i : Nat) (o : Int) (a b : Nat) : tighter m j i o a b ≤ m a b := by
  unfold tighter; omega
theorem tighter_at {n : Nat} {m : Mat} (h : Closed n m m) {i j : Nat} (hi : i ≤ n) (hj : j ≤ n) (o : Int) : tighter m j i o j i ≤ o := by
  unfold tighter
  rw [h.one j hj, h.one i hi, wsum_one_left, wsum_one_right]
  omega
/-- The opposite of a bound that is stricter than a cell lets the cell be. -/
theorem not_one {b c : Int} (hb : Bd 1125899906842624 b) (hbn : b ≠ none62) (hc : FB c) (h : b < c) : 1 ≤ wsum (1 - b) c := by
  have f := (half_fb hb).fin hbn
  by_cases e : c = none62
  · rw [e, wsum_none_right]; decide
  · rw [wsum_min (by unfold none62; omega) e]
    omega

end Go.Proofs.Ytkgohhdenfnfpaa

/- The least valuation of a zone on its grid: the rounds stand still in time. -/
namespace Go.Proofs.Ytkgohhdenfnfpaa
set_option linter.unusedVariables false
set_option linter.unusedSimpArgs false

theorem sol_round {n : Nat} {g : Int} {m : Mat} {v : Nat → Int} (h : Sol n g m v) : ∀ k, k ≤ n + 1 → insI n g m v k = v := by
  have hs : ∀ i j, i ≤ n → j ≤ n → insS g m v i j = v := fun i j hi hj => by
    unfold insS
    rw [if_neg]
    rintro ⟨h1, h2⟩
    have := h.2 i j hi hj h1
    omega
  have hj : ∀ i, i ≤ n → ∀ j, j ≤ n + 1 → insJ g m v i j = v := fun i hi j => by
    induction j with
    | zero => intro _; rfl
    | succ j ih =>
      intro hj
      show insS g m (insJ g m v i j) i j = v
      rw [ih (by omega)]
      exact hs i j hi (by omega)
  intro k
  induction k with
  | zero => intro _; rfl
  | succ k ih =>
    intro hk
    show insJ g m (insI n g m v k) k (n + 1) = v
    rw [ih (by omega)]
    exact hj k (by omega) (n + 1) (Nat.le_refl _)
theorem insR_later {n : Nat} {g : Int} {m : Mat} {r : Nat} (h : insR n g m (r + 1) = insR n g m r) : ∀ d, insR n g m (r + d) = insR n g m r
  | 0 => rfl
  | d + 1 => by
    have ih := insR_later h d
    show insI n g m (insR n g m (r + d)) (n + 1) = _
    rw [ih]
    exact h
/-- Where the rounds stand still, there they are what n + 2 rounds come to. -/
theorem insR_end {n : Nat} {g : Int} {m : Mat} {u0 : Nat → Int} (hs : Sol n g m u0) {r : Nat} (h : insR n g m (r + 1) = insR n g m r) : insR n g m r = insR n g m (n + 2) := by
  rcases Nat.lt_or_ge r (n + 2) with hr | hr
  · have := insR_later h (n + 2 - r)
    rw [show r + (n + 2 - r) = n + 2 by omega] at this
    exact this.symm
  · have h2 : insR n g m (n + 2 + 1) = insR n g m (n + 2) := sol_round (inside_sol hs).1 (n + 1) (Nat.le_refl _)
    have := insR_later h2 (r - (n + 2))
    rw [show n + 2 + (r - (n + 2)) = r by omega] at this
    exact this
/-- The least valuation, as fractions. -/
def leastV (n : Nat) (m : Mat) : List (Int × Int) := (List.range n).map fun i => (newP (insR n ((n : Int) + 1) (fun a b => wid (m a b)) (n + 2) (i + 1)) ((n : Int) + 1)).1
theorem leastV_length (n : Nat) (m : Mat) : (leastV n m).length = n := by simp [leastV]

end Go.Proofs.Ytkgohhdenfnfpaa

/- Fractions as rational numbers: order, sums, what keeps a bound; what is in a zone. -/
namespace Go.Proofs.Ytkgohhdenfnfpaa
set_option linter.unusedVariables false
set_option linter.unusedSimpArgs false

def qv (x : Int × Int) : Rat := (x.1 : Rat) / (x.2 : Rat)
theorem cast_pos {d : Int} (h : 0 < d) : (0 : Rat) < (d : Rat) := by exact_mod_cast h
theorem qv_mul {x : Int × Int} (hx : 0 < x.2) : qv x * (x.2 : Rat) = (x.1 : Rat) := by
  have h1 := cast_pos hx
  exact Rat.div_mul_cancel (by grind)
theorem lt_iff_mul {a b c : Rat} (hc : 0 < c) : a < b ↔ a * c < b * c := (Rat.mul_lt_mul_right hc).symm
theorem eq_of_mul {a b c : Rat} (hc : 0 < c) (h : a * c = b * c) : a = b := by
  have hn : c ≠ 0 := by grind
  rw [← Rat.mul_div_cancel (a := a) hn, h, Rat.mul_div_cancel hn]
/-- comparing -/
theorem qv_lt {x y : Int × Int} (hx : 0 < x.2) (hy : 0 < y.2) : qv x < qv y ↔ x.1 * y.2 - y.1 * x.2 < 0 := by
  have h1 := cast_pos hx
  have h2 := cast_pos hy
  have e1 := qv_mul hx
  have e2 := qv_mul hy
  rw [lt_iff_mul (Rat.mul_pos h1 h2)]
  have e3 : qv x * ((x.2 : Rat) * (y.2 : Rat)) = (x.1 : Rat) * (y.2 : Rat) := by grind
  have e4 : qv y * ((x.2 : Rat) * (y.2 : Rat)) = (y.1 : Rat) * (x.2 : Rat) := by grind
  rw [e3, e4]
  have : ((x.1 : Rat) * (y.2 : Rat) < (y.1 : Rat) * (x.2 : Rat)) ↔ x.1 * y.2 < y.1 * x.2 := by exact_mod_cast Iff.rfl
  rw [this]; omega
theorem qv_eq {x y : Int × Int} (hx : 0 < x.2) (hy : 0 < y.2) : qv x = qv y ↔ x.1 * y.2 - y.1 * x.2 = 0 := by
  have h1 := qv_lt hx hy
  have h2 := qv_lt hy hx
  constructor
  · intro h; rw [h] at h1 h2
    have a : ¬ qv y < qv y := by grind
    have a1 : ¬ x.1 * y.2 - y.1 * x.2 < 0 := fun hh => a (h1.2 hh)
    have a2 : ¬ y.1 * x.2 - x.1 * y.2 < 0 := fun hh => a (h2.2 hh)
    omega
  · intro h
    have a : ¬ qv x < qv y := fun hh => by have := h1.1 hh; omega
    have b : ¬ qv y < qv x := fun hh => by have := h2.1 hh; omega
    grind
/-- A fraction's value by its place on a grid. -/
theorem qv_grid {x : Int × Int} {G u : Int} (hx : 0 < x.2) (hG : 0 < G) (e : u * x.2 = x.1 * G) : qv x = (u : Rat) / (G : Rat) := by
  have := (qv_eq (x := x) (y := (u, G)) hx hG).2 (by simp only; omega)
  exact this
theorem qv_of {x : Int × Int} {X D : Int} (hx : 0 < x.2) (hD : 0 < D) (e : x.1 * D = X * x.2) : qv x * (D : Rat) = (X : Rat) := by
  rw [qv_grid hx hD e.symm]
  exact Rat.div_mul_cancel (by have := cast_pos hD; grind)
def kq (b : Int) (q : Rat) : Prop := b = 2147483647 ∨ q < ((b / 2 : Int) : Rat) ∨ (b % 2 = 1 ∧ q = ((b / 2 : Int) : Rat))
theorem keeps_kq {x y : Int × Int} (hx : 0 < x.2) (hy : 0 < y.2) (b : Int) : keepsQ x y b = true ↔ kq b (qv x - qv y) := by
  have h1 := cast_pos hx
  have h2 := cast_pos hy
  have e1 := qv_mul hx
  have e2 := qv_mul hy
  have hp := Rat.mul_pos h1 h2
  obtain ⟨n, hn⟩ : ∃ n, n = b / 2 := ⟨_, rfl⟩
  have e3 : (qv x - qv y) * ((x.2 : Rat) * (y.2 : Rat)) = ((x.1 * y.2 - y.1 * x.2 : Int) : Rat) := by
    rw [Rat.intCast_sub, Rat.intCast_mul, Rat.intCast_mul]; grind
  have e4 : (n : Rat) * ((x.2 : Rat) * (y.2 : Rat)) = ((n * (x.2 * y.2) : Int) : Rat) := by
    rw [Rat.intCast_mul, Rat.intCast_mul]
  have l1 : qv x - qv y < (n : Rat) ↔ x.1 * y.2 - y.1 * x.2 < n * (x.2 * y.2) := by
    rw [lt_iff_mul hp, e3, e4]; exact_mod_cast Iff.rfl
  have l2 : qv x - qv y = (n : Rat) ↔ x.1 * y.2 - y.1 * x.2 = n * (x.2 * y.2) := by
    constructor
    · intro h; rw [h, e4] at e3; exact_mod_cast e3.symm
    · intro h
      rw [h, ← e4] at e3
      exact eq_of_mul hp e3
  unfold keepsQ kq
  rw [← hn, decide_eq_true_iff, l1, l2]
  have : b % 2 = 0 ∨ b % 2 = 1 := by omega
  omega

theorem rq_pos {x : Int × Int} (h : rightR x = true) : 0 < x.2 := (of_decide_eq_true h).1
theorem cmp_qv {x y : Int × Int} (hx : rightR x = true) (hy : rightR y = true) : (cmpP x y < 0 ↔ qv x < qv y) ∧ (cmpP x y = 0 ↔ qv x = qv y) ∧ (0 < cmpP x y ↔ qv y < qv x) := by
  have a := qv_lt (rq_pos hx) (rq_pos hy)
  have b := qv_eq (rq_pos hx) (rq_pos hy)
  have c := qv_lt (rq_pos hy) (rq_pos hx)
  have e : cmpP x y = cmpQI (x.1 * y.2 - y.1 * x.2) := by unfold cmpP; rw [if_pos (by rw [hx, hy]; rfl)]
  rw [e, a, b, c]
  rcases cmp_cases (x.1 * y.2 - y.1 * x.2) with ⟨h1, h2⟩ | ⟨h1, h2⟩ | ⟨h1, h2⟩ <;> rw [h2] <;> omega
theorem frac_qv {X D : Int} (hD : 0 < D) (h : (fracP X D).2 = 0) : rightR (fracP X D).1 = true ∧ qv (fracP X D).1 * (D : Rat) = (X : Rat) :=
  have hr := (frac_right (by omega) h).1
  ⟨hr, qv_of (rq_pos hr) hD (frac_value (by omega) h)⟩
theorem sub_qv {x y : Int × Int} (hx : rightR x = true) (hy : rightR y = true) (h : (subP x y).2 = 0) : rightR (subP x y).1 = true ∧ qv (subP x y).1 = qv x - qv y := by
  have px := rq_pos hx
  have py := rq_pos hy
  have e : subP x y = fracP (x.1 * y.2 - y.1 * x.2) (x.2 * y.2) := by unfold subP; rw [if_pos (by rw [hx, hy]; rfl)]
  rw [e] at h ⊢
  obtain ⟨h1, h2⟩ := frac_qv (Int.mul_pos px py) h
  refine ⟨h1, eq_of_mul (cast_pos (Int.mul_pos px py)) (h2.trans ?_)⟩
  have e1 := qv_mul px
  have e2 := qv_mul py
  rw [Rat.intCast_sub, Rat.intCast_mul, Rat.intCast_mul, Rat.intCast_mul]; grind
theorem add_qv {x y : Int × Int} (hx : rightR x = true) (hy : rightR y = true) (h : (addP x y).2 = 0) : rightR (addP x y).1 = true ∧ qv (addP x y).1 = qv x + qv y := by
  have px := rq_pos hx
  have py := rq_pos hy
  have e : addP x y = fracP (x.1 * y.2 + y.1 * x.2) (x.2 * y.2) := by unfold addP; rw [if_pos (by rw [hx, hy]; rfl)]
  rw [e] at h ⊢
  obtain ⟨h1, h2⟩ := frac_qv (Int.mul_pos px py) h
  refine ⟨h1, eq_of_mul (cast_pos (Int.mul_pos px py)) (h2.trans ?_)⟩
  have e1 := qv_mul px
  have e2 := qv_mul py
  rw [Rat.intCast_add, Rat.intCast_mul, Rat.intCast_mul, Rat.intCast_mul]; grind
theorem qv_int (n : Int) : qv (n, 1) = (n : Rat) := by
  have := qv_mul (x := (n, 1)) (show (0 : Int) < 1 by omega)
  simpa using this
theorem qv_pos {x : Int × Int} (hx : 0 < x.2) : 0 ≤ qv x ↔ 0 ≤ x.1 := by
  have h := qv_lt (x := x) (y := (0, 1)) hx (by decide)
  rw [qv_int] at h
  have e : x.1 * 1 - 0 * x.2 = x.1 := by omega
  simp only at h
  rw [e] at h
  constructor
  · intro a; apply Classical.byContradiction; intro b
    have := h.2 (by omega)
    have z : ((0 : Int) : Rat) = 0 := rfl
    rw [z] at this; grind
  · intro a; apply Classical.byContradiction; intro b
    have z : ((0 : Int) : Rat) = 0 := rfl
    have := h.1 (by rw [z]; grind)
    omega

/-! ### what is in a zone -/
/-- A clock's value as a rational number. -/
def cq (v : List (Int × Int)) (i : Nat) : Rat := qv (clockV v i)
theorem cq_zero (v : List (Int × Int)) : cq v 0 = 0 := by
  unfold cq clockV
  rw [if_pos rfl, qv_int]; rfl
theorem break_none {n : Nat} {m : Mat} {v : List (Int × Int)} : ∀ g k, breakFrom n m v g k = none ↔ ∀ q, k ≤ q → q < k + g → keptAt n m v q = true
  | 0, k => ⟨fun _ q h1 h2 => absurd h2 (by omega), fun _ => rfl⟩
  | g + 1, k => by
    unfold breakFrom
    by_cases h : keptAt n m v k = true
    · rw [if_pos h, break_none g (k + 1)]
      constructor
      · intro a q h1 h2
        by_cases e : q = k
        · rw [e]; exact h
        · exact a q (by omega) (by omega)
      · intro a q h1 h2; exact a q (by omega) (by omega)
    · rw [if_neg h]
      exact ⟨fun a => (by cases a), fun a => absurd (a k (Nat.le_refl _) (by omega)) h⟩
theorem cells_all {n : Nat} {P : Nat → Nat → Prop} : (∀ k, k < (n + 1) * (n + 1) → P (k / (n + 1)) (k % (n + 1))) ↔ ∀ i j, i ≤ n → j ≤ n → P i j := by
  constructor
  · intro h i j hi hj
    have hk : i * (n + 1) + j < (n + 1) * (n + 1) := at_lt (by omega) (by omega)
    have := h _ hk
    rwa [show (i * (n + 1) + j) / (n + 1) = i by rw [Nat.mul_comm, Nat.mul_add_div (by omega), Nat.div_eq_of_lt (by omega)]; omega, show (i * (n + 1) + j) % (n + 1) = j by rw [Nat.mul_comm, Nat.mul_add_mod, Nat.mod_eq_of_lt (by omega)]] at this
  · intro h k hk
    have h1 : k / (n + 1) < n + 1 := Nat.div_lt_of_lt_mul hk
    have h2 := Nat.mod_lt k (show 0 < n + 1 by omega)
    exact h _ _ (by omega) (by omega)
theorem clock_pos {v : List (Int × Int)} (h : rightV v = true) {i : Nat} (hi : i ≤ v.length) : 0 < (clockV v i).2 := rq_pos (clock_right h hi).1
theorem breaks_none {n : Nat} {m : Mat} {v : List (Int × Int)} (hv : rightV v = true) (hl : v.length = n) : breaksP n m v = none ↔ ∀ i j, i ≤ n → j ≤ n → kq (m i j) (cq v i - cq v j) := by
  unfold breaksP
  rw [break_none]
  have := cells_all (n := n) (P := fun i j => kq (m i j) (cq v i - cq v j))
  rw [← this]
  constructor
  · intro h k hk
    have h0 := h k (Nat.zero_le _) (by omega)
    have h1 : k / (n + 1) < n + 1 := Nat.div_lt_of_lt_mul hk
    have h2 := Nat.mod_lt k (show 0 < n + 1 by omega)
    exact (keeps_kq (clock_pos hv (by omega)) (clock_pos hv (by omega)) _).1 h0
  · intro h k _ hk
    have h0 := h k (by omega)
    have h1 : k / (n + 1) < n + 1 := Nat.div_lt_of_lt_mul (by omega)
    have h2 := Nat.mod_lt k (show 0 < n + 1 by omega)
    exact (keeps_kq (clock_pos hv (by omega)) (clock_pos hv (by omega)) _).2 h0
theorem in_iff {n : Nat} {m : Mat} {v : List (Int × Int)} : inP n m v = true ↔ rightV v = true ∧ v.length = n ∧ ∀ i j, i ≤ n → j ≤ n → kq (m i j) (cq v i - cq v j) := by
  unfold inP
  rw [Bool.and_eq_true_iff, Bool.and_eq_true_iff, decide_eq_true_iff, Option.isNone_iff_eq_none]
  constructor
  · rintro ⟨⟨a, b⟩, c⟩; exact ⟨a, b, (breaks_none a b).1 c⟩
  · rintro ⟨a, b, c⟩; exact ⟨⟨a, b⟩, (breaks_none a b).2 c⟩

end Go.Proofs.Ytkgohhdenfnfpaa

/- Words for matrices that lie in memory: a block that holds a number and 81 cells. -/
namespace Go.Proofs.Ytkgohhdenfnfpaa
open Go.RowKit

/-- The cells of a block: the number of clocks, then nine rows of nine. -/
def matCells (k : IntKind) (n : Nat) (m : Mat) : Array Value :=
  (Value.int .i64 n :: (List.range 81).map fun p => Value.int k (m (p / 9) (p % 9))).toArray

/-- Block b holds a matrix. -/
def MatAt (w : World) (b : Nat) (T : TypeId) (k : IntKind) (n : Nat) (m : Mat) : Prop :=
  w.heap[b]? = some (.cells (matCells k n m) T (0, 0))

theorem matCells_size (k : IntKind) (n : Nat) (m : Mat) : (matCells k n m).size = 82 := by simp [matCells]

theorem matCells_head (k : IntKind) (n : Nat) (m : Mat) : (matCells k n m)[0]? = some (.int .i64 n) := by simp [matCells]

theorem matCells_get (k : IntKind) (n : Nat) (m : Mat) (p : Nat) (hp : p < 81) : (matCells k n m)[p + 1]? = some (.int k (m (p / 9) (p % 9))) := by
  simp [matCells, hp]

theorem matCells_set (k : IntKind) (n : Nat) (m : Mat) (i j : Nat) (hi : i < 9) (hj : j < 9) (v : Int) :
    (matCells k n m).setIfInBounds (1 + i * 9 + j) (.int k v) = matCells k n (upd m i j v) := by
  apply Array.ext_getElem?
  intro q
  rw [Array.getElem?_setIfInBounds]
  match q with
  | 0 => rw [if_neg (by omega), matCells_head, matCells_head]
  | p + 1 =>
    by_cases hp : p < 81
    · rw [matCells_get _ _ _ _ hp, matCells_get _ _ _ _ hp]
      by_cases e : 1 + i * 9 + j = p + 1
      · rw [if_pos e, if_pos (by rw [matCells_size]; omega)]
        have h1 : p / 9 = i := by omega
        have h2 : p % 9 = j := by omega
        simp [upd, h1, h2]
      · rw [if_neg e]
        have : ¬ (p / 9 = i ∧ p % 9 = j) := by omega
        simp [upd, this]
    · rw [if_neg (by omega), Array.getElem?_eq_none (by rw [matCells_size]; omega), Array.getElem?_eq_none (by rw [matCells_size]; omega)]

section
variable {w : World} {b : Nat} {T : TypeId} {k : IntKind} {n : Nat} {m : Mat}
theorem MatAt.lt (h : MatAt w b T k n m) : b < w.heap.size := (Array.getElem?_eq_some_iff.1 h).1
theorem MatAt.head (h : MatAt w b T k n m) : w.cell? ⟨b, 0, none⟩ = some (.int .i64 n) := by
  unfold MatAt at h
  simp [World.cell?, h, matCells_head]
theorem MatAt.cell (h : MatAt w b T k n m) (i j : Nat) (hi : i < 9) (hj : j < 9) : w.cell? ⟨b, 1 + i * 9 + j, none⟩ = some (.int k (m i j)) := by
  unfold MatAt at h
  have e : 1 + i * 9 + j = (i * 9 + j) + 1 := by omega
  have h1 : (i * 9 + j) / 9 = i := by omega
  have h2 : (i * 9 + j) % 9 = j := by omega
  simp [World.cell?, h, e, matCells_get _ _ _ _ (show i * 9 + j < 81 by omega), h1, h2]
theorem MatAt.frozen (h : MatAt w b T k n m) (o : Nat) : w.frozen? ⟨b, o, none⟩ = false := by
  unfold MatAt at h
  simp [World.frozen?, h]
theorem MatAt.set (h : MatAt w b T k n m) (i j : Nat) (hi : i < 9) (hj : j < 9) (v : Int) : MatAt (w.setCell ⟨b, 1 + i * 9 + j, none⟩ (.int k v)) b T k n (upd m i j v) := by
  unfold MatAt at h ⊢
  simp only [World.setCell, Array.getElem?_modify, if_true, h, Option.map_some]
  simp [matCells_set, hi, hj]
theorem MatAt.below {B : Nat} {w' : World} (h : MatAt w b T k n m) (hb : Below B w w') (hB : b < B) : MatAt w' b T k n m := (hb.block b hB).trans h
theorem MatAt.later {w' : World} (h : MatAt w b T k n m) (hb : Below w.heap.size w w') : MatAt w' b T k n m := h.below hb h.lt
theorem MatAt.drew (h : MatAt w b T k n m) : MatAt w.drew b T k n m := h
theorem MatAt.drewN (h : MatAt w b T k n m) (q : Nat) : MatAt (w.drewN q) b T k n m := h
theorem MatAt.alloc (h : MatAt w b T k n m) (o : Obj) : MatAt (w.alloc o) b T k n m := h.later ((Below.refl _ _).alloc (Nat.le_refl _) o)
end

/-- What was there is as it was, but for block b. -/
def Only (b : Nat) (w w' : World) : Prop := w.grownBy w' (some b)
theorem Only.refl (b : Nat) (w : World) : Only b w w := ⟨rfl, rfl, rfl, Nat.le_refl _, fun _ _ _ => rfl⟩
theorem Only.trans {b : Nat} {w w1 w2 : World} (h : Only b w w1) (k : Only b w1 w2) : Only b w w2 :=
  ⟨k.os.trans h.os, k.tape.trans h.tape, k.output.trans h.output, Nat.le_trans h.size k.size, fun i hi hne => (k.block i (Nat.lt_of_lt_of_le hi h.size) hne).trans (h.block i hi hne)⟩
theorem Only.setCell {b : Nat} {w w' : World} (h : Only b w w') (o : Nat) (v : Value) : Only b w (w'.setCell ⟨b, o, none⟩ v) :=
  h.trans ⟨rfl, rfl, rfl, by simp [World.setCell], fun k _ hk => Below.heap_setCell _ _ _ _ (fun e => hk (by rw [e]))⟩
theorem Only.drew {b : Nat} {w w' : World} (h : Only b w w') : Only b w w'.drew := ⟨h.os, h.tape, h.output, h.size, h.block⟩
theorem Only.drewN {b : Nat} {w w' : World} (h : Only b w w') (q : Nat) : Only b w (w'.drewN q) := ⟨h.os, h.tape, h.output, h.size, h.block⟩
theorem Only.alloc {b : Nat} {w w' : World} (h : Only b w w') (o : Obj) : Only b w (w'.alloc o) := h.trans (World.grownBy_alloc _ _ _)
theorem Only.andThen {b c : Nat} {w w1 w2 : World} (h : Only b w w1) (k : Only c w1 w2) (hc : w.heap.size ≤ c) : Only b w w2 :=
  ⟨k.os.trans h.os, k.tape.trans h.tape, k.output.trans h.output, Nat.le_trans h.size k.size, fun i hi hne => (k.block i (Nat.lt_of_lt_of_le hi h.size) (by simp; omega)).trans (h.block i hi hne)⟩
theorem Only.below {b B : Nat} {w w' : World} (h : Only b w w') (hb : B ≤ b) (hB : B ≤ w.heap.size) : Below B w w' :=
  ⟨h.os, h.tape, h.output, h.size, fun k hk => h.block k (by omega) (by simp; omega)⟩
theorem belowN {B : Nat} {w w' : World} (h : Below B w w') (q : Nat) : Below B w (w'.drewN q) := ⟨h.os, h.tape, h.output, h.size, h.block⟩
theorem MatAt.only {w w' : World} {b c : Nat} {T : TypeId} {k : IntKind} {n : Nat} {m : Mat} (h : MatAt w c T k n m) (ho : Only b w w') (hne : c ≠ b) : MatAt w' c T k n m :=
  (ho.block c h.lt (by simp [hne])).trans h

/-- A zone, or nil. -/
def ZoneV (T : TypeId) (w : World) (v : Value) : Option (Nat × Mat) → Prop
  | none => v = .pointer none
  | some (n, m) => ∃ b, v = .pointer (some ⟨b, 0, none⟩) ∧ n ≤ 8 ∧ RightM n m ∧ MatAt w b T .i32 n m
theorem ZoneV.below {T : TypeId} {w w' : World} {v : Value} {z : Option (Nat × Mat)} (h : ZoneV T w v z) (hb : Below w.heap.size w w') : ZoneV T w' v z := by
  match z, h with
  | none, h => exact h
  | some (n, m), ⟨b, h1, hn, hr, h2⟩ => exact ⟨b, h1, hn, hr, h2.later hb⟩

/-- One part laid over all cells. -/
theorem foldl_set (l : List Value) : ∀ (o : Nat) (z : Array Value), o + l.length = z.size →
    ((l.zipIdx o).foldl (fun cs (c : Value × Nat) => cs.setIfInBounds (0 + c.2) c.1) z).toList = z.toList.take o ++ l := by
  induction l with
  | nil => intro o z h; simp at h; subst h; simp [← Array.length_toList]
  | cons x l ih =>
    intro o z h
    simp only [List.length_cons] at h
    simp only [List.zipIdx_cons, List.foldl_cons]
    rw [ih (o + 1) _ (by simp; omega)]
    simp only [Nat.zero_add, Array.toList_setIfInBounds]
    rw [List.take_set, List.take_add_one, List.set_append_right _ _ (by simp; omega)]
    have e : z.toList[o]? = some z[o] := by simp
    simp [e, Nat.min_eq_left (show o ≤ z.size by omega)]
theorem fill_whole (c z : Array Value) (h : c.size = z.size) : Instr.fill (fun i => (#[(0, z.size)] : Array (Nat × Nat))[i]?) z [(0, .agg c)] = some c := by
  have e : (Value.agg c).cells = c := rfl
  have hf := foldl_set c.toList 0 z (by simpa using h)
  simp only [Instr.fill, List.getElem?_toArray, List.getElem?_cons_zero, e]
  rw [if_neg (by simp [h])]
  congr 1
  rw [← Array.toList_inj, ← Array.foldl_toList, Array.toList_zipIdx]
  simpa using hf
theorem lay_whole (c z : Array Value) (h : c.size = z.size) : Array.foldl (fun (cs : Array Value) (x : Value × Nat) => cs.setIfInBounds x.snd x.fst) z c.zipIdx 0 c.size = c := by
  have hf := foldl_set c.toList 0 z (by simpa using h)
  have e : c.size = c.zipIdx.size := by simp
  rw [e, ← Array.toList_inj, ← Array.foldl_toList, Array.toList_zipIdx]
  simpa using hf
theorem build_whole {P : Program} (t : TypeId) (z c : Array Value) (fs : Array Field) (w : World) (hz : (zeroValue t).run P w = .ok (.agg z) w) (hu : P.underlying t = some (.struct fs))
    (hp : (fs.mapM fun (f : Field) => (do pure (f.offset, ← sizeOf f.type) : Sem (Nat × Nat))).run P w = .ok #[(0, z.size)] w) (hc : c.size = z.size) : (Instr.build t #[(0, .agg c)]).run P w = .ok (.agg c) w := by
  have e : (Value.agg z).cells = z := rfl
  have hf := fill_whole c z hc
  simp only [Instr.build, Sem.run_bind, hz, e, run_underlying hu, Result.andThen_ok, hp, hf, Sem.run_pure]

/-- A slice of numbers that can be read. -/
def Ints (w : World) (k : IntKind) (A : Option Addr) (xs : List Int) : Prop :=
  ∀ j, j < xs.length → ∃ b off, A = some ⟨b, off, none⟩ ∧ w.cell? ⟨b, off + j, none⟩ = some (.int k (xs.getD j 0))
theorem Ints.below {w w' : World} {k : IntKind} {A : Option Addr} {xs : List Int} (h : Ints w k A xs) (hb : Below w.heap.size w w') : Ints w' k A xs := fun j hj => by
  obtain ⟨b, off, e, hc⟩ := h j hj
  exact ⟨b, off, e, (hb.cell (p := ⟨b, off + j, none⟩) (World.block_lt_of_cell? w _ hc)).trans hc⟩
/-- A slice of bounds of differences that can be read: three cells each. -/
def Lims (w : World) (A : Option Addr) (xs : List (Int × Int × Int)) : Prop :=
  ∀ j, j < xs.length → ∃ b off, A = some ⟨b, off, none⟩ ∧ w.cell? ⟨b, off + j * 3, none⟩ = some (.int .i64 (xs.getD j (0, 0, 0)).1) ∧
    w.cell? ⟨b, off + j * 3 + 1, none⟩ = some (.int .i64 (xs.getD j (0, 0, 0)).2.1) ∧ w.cell? ⟨b, off + j * 3 + 2, none⟩ = some (.int .i32 (xs.getD j (0, 0, 0)).2.2)
theorem Lims.below {w w' : World} {A : Option Addr} {xs : List (Int × Int × Int)} (h : Lims w A xs) (hb : Below w.heap.size w w') : Lims w' A xs := fun j hj => by
  obtain ⟨b, off, e, h1, h2, h3⟩ := h j hj
  exact ⟨b, off, e, (hb.cell (p := ⟨b, _, none⟩) (World.block_lt_of_cell? w _ h1)).trans h1, (hb.cell (p := ⟨b, _, none⟩) (World.block_lt_of_cell? w _ h2)).trans h2, (hb.cell (p := ⟨b, _, none⟩) (World.block_lt_of_cell? w _ h3)).trans h3⟩
theorem idx_div (p n : Nat) : (p : Int) / ((n : Int) + 1) = ((p / (n + 1) : Nat) : Int) := by simp
theorem idx_mod (p n : Nat) : (p : Int) % ((n : Int) + 1) = ((p % (n + 1) : Nat) : Int) := by simp

theorem wrap_tdiv (p n : Nat) (hp : p ≤ 1000000) : IntKind.i64.wrap ((p : Int).tdiv ((n : Int) + 1)) = ((p / (n + 1) : Nat) : Int) := by
  have e : (p : Int).tdiv ((n : Int) + 1) = ((p / (n + 1) : Nat) : Int) := by
    rw [Int.tdiv_eq_ediv_of_nonneg (by omega), idx_div]
  rw [e, IntKind.wrap_i64]
  have : p / (n + 1) ≤ p := Nat.div_le_self _ _
  generalize p / (n + 1) = q at this ⊢
  omega
theorem wrap_tmod (p n : Nat) (hp : p ≤ 1000000) : IntKind.i64.wrap ((p : Int).tmod ((n : Int) + 1)) = ((p % (n + 1) : Nat) : Int) := by
  have e : (p : Int).tmod ((n : Int) + 1) = ((p % (n + 1) : Nat) : Int) := by
    rw [Int.tmod_eq_emod_of_nonneg (by omega), idx_mod]
  rw [e, IntKind.wrap_i64]
  have : p % (n + 1) ≤ p := Nat.mod_le _ _
  generalize p % (n + 1) = q at this ⊢
  omega

def vals (k : IntKind) (xs : List Int) : List Value := xs.map fun x => .int k x
/-- A row of numbers of the call's own. -/
def OwnI (w : World) (base : Nat) (e : TypeId) (k : IntKind) (v : Value) (xs : List Int) : Prop := w.ownsRow base e 1 v xs.length (vals k xs)
/-- Block g begins with these numbers. -/
def RowAt (w : World) (g : Nat) (e : TypeId) (k : IntKind) (xs : List Int) : Prop :=
  ∃ cur : Array Value, w.heap[g]? = some (.cells cur e (0, 0)) ∧ cur.toList.take xs.length = vals k xs
section
variable {w : World} {g : Nat} {e : TypeId} {k : IntKind} {xs : List Int}
theorem RowAt.lt (h : RowAt w g e k xs) : g < w.heap.size := by obtain ⟨cur, h1, _⟩ := h; exact (Array.getElem?_eq_some_iff.1 h1).1
theorem RowAt.cell (h : RowAt w g e k xs) (p : Nat) (hp : p < xs.length) : w.cell? ⟨g, p, none⟩ = some (.int k (xs.getD p 0)) := by
  obtain ⟨cur, h1, h2⟩ := h
  have e1 : cur.toList[p]? = (vals k xs)[p]? := by rw [← h2, List.getElem?_take, if_pos hp]
  have e2 : (vals k xs)[p]? = some (.int k (xs.getD p 0)) := by
    simp [vals, List.getElem?_eq_getElem hp, List.getD_eq_getElem?_getD]
  rw [World.cell?, h1]
  simp only [Option.isSome_none, Bool.false_eq_true, if_false]
  rw [← Array.getElem?_toList, e1, e2]
theorem RowAt.frozen (h : RowAt w g e k xs) (o : Nat) : w.frozen? ⟨g, o, none⟩ = false := by
  obtain ⟨cur, h1, _⟩ := h
  simp [World.frozen?, h1]
theorem RowAt.set (h : RowAt w g e k xs) (p : Nat) (v : Int) : RowAt (w.setCell ⟨g, p, none⟩ (.int k v)) g e k (xs.set p v) := by
  obtain ⟨cur, h1, h2⟩ := h
  refine ⟨cur.setIfInBounds p (.int k v), ?_, ?_⟩
  · simp only [World.setCell, Array.getElem?_modify, if_true, h1, Option.map_some]
    simp
  · rw [Array.toList_setIfInBounds, List.length_set, List.take_set, h2]
    simp [vals, List.map_set]
theorem RowAt.below {B : Nat} {w' : World} (h : RowAt w g e k xs) (hb : Below B w w') (hB : g < B) : RowAt w' g e k xs := by
  obtain ⟨cur, h1, h2⟩ := h
  exact ⟨cur, (hb.block g hB).trans h1, h2⟩
theorem RowAt.later {w' : World} (h : RowAt w g e k xs) (hb : Below w.heap.size w w') : RowAt w' g e k xs := h.below hb h.lt
theorem RowAt.only {w' : World} {c : Nat} (h : RowAt w g e k xs) (ho : Only c w w') (hne : g ≠ c) : RowAt w' g e k xs := by
  have hlt := h.lt
  obtain ⟨cur, h1, h2⟩ := h
  exact ⟨cur, (ho.block g hlt (by simp [hne])).trans h1, h2⟩
theorem RowAt.drewN (h : RowAt w g e k xs) (q : Nat) : RowAt (w.drewN q) g e k xs := h
theorem RowAt.drew (h : RowAt w g e k xs) : RowAt w.drew g e k xs := h
theorem RowAt.ints (h : RowAt w g e k xs) : Ints w k (some ⟨g, 0, none⟩) xs := fun j hj => ⟨g, 0, rfl, by rw [Nat.zero_add]; exact h.cell j hj⟩
end
theorem row_vals {w : World} {g : Nat} {e : TypeId} {k : IntKind} {xs : List Int} (h : RowAt w g e k xs) : ∀ j u, (vals k xs)[j]? = some u → w.cell? ((⟨g, 0, none⟩ : Addr).add j) = some u := by
  intro j u hu
  have ha : (⟨g, 0, none⟩ : Addr).add j = ⟨g, j, none⟩ := by unfold Addr.add; split <;> simp_all
  rw [ha]
  by_cases hj : j < xs.length
  · rw [h.cell j hj, ← hu]
    simp [vals, List.getElem?_eq_getElem hj, List.getD_eq_getElem?_getD]
  · simp [vals, hj] at hu

/-- A row of the call's own that is not empty. -/
theorem OwnI.row {w : World} {base : Nat} {e : TypeId} {k : IntKind} {v : Value} {xs : List Int} (h : OwnI w base e k v xs) (hne : 0 < xs.length) :
    ∃ g cap, v = .slice (some ⟨g, 0, none⟩) xs.length cap ∧ base ≤ g ∧ RowAt w g e k xs := by
  rcases h.2 with ⟨_, h0⟩ | ⟨g, cap, cur, hv, hg, hh, _, _, _, ht⟩
  · omega
  · exact ⟨g, cap, hv, hg, cur, hh, by simpa using ht⟩
theorem OwnI.later {w w' : World} {base : Nat} {e : TypeId} {k : IntKind} {v : Value} {xs : List Int} (h : OwnI w base e k v xs) (hb : Below w.heap.size w w') : OwnI w' base e k v xs := by
  have hg : w.grownBy w' none := ⟨hb.os, hb.tape, hb.output, hb.size, fun i hi _ => hb.block i hi⟩
  exact World.ownsRow.kept h hg (by cases v.ownBlock <;> simp)
/-- Any row of the call's own is a slice that can be read. -/
theorem OwnI.slice {w : World} {base : Nat} {e : TypeId} {k : IntKind} {v : Value} {xs : List Int} (h : OwnI w base e k v xs) : ∃ A cap, v = .slice A xs.length cap ∧ Ints w k A xs := by
  by_cases hne : 0 < xs.length
  · obtain ⟨g, cap, hv, _, hr⟩ := h.row hne
    exact ⟨_, cap, hv, hr.ints⟩
  · have e0 : xs = [] := List.eq_nil_of_length_eq_zero (by omega)
    subst e0
    rcases h.2 with ⟨hv, _⟩ | ⟨g, cap, cur, hv, _⟩
    · exact ⟨none, 0, hv, fun j hj => by simp at hj⟩
    · exact ⟨_, cap, hv, fun j hj => by simp at hj⟩

theorem min_ints (ats : Array TypeId) (ty : TypeId) (k k' : IntKind) (x y : Int) : Builtin.min_ ats ty #[.int k x, .int k' y] = pure (.int k (min x y)) := by
  simp only [Builtin.min_, List.foldlM_cons, List.foldlM_nil, Builtin.min2]
  by_cases h : y < x
  · simp [h, Int.min_def, show ¬ x ≤ y by omega]
  · simp [h, Int.min_def, show x ≤ y by omega]
theorem max_ints (ats : Array TypeId) (ty : TypeId) (k k' : IntKind) (x y : Int) : Builtin.max_ ats ty #[.int k x, .int k' y] = pure (.int k (max x y)) := by
  simp only [Builtin.max_, List.foldlM_cons, List.foldlM_nil, Builtin.max2]
  by_cases h : x < y
  · simp [h, Int.max_def, show x ≤ y by omega]
  · by_cases e : x = y
    · simp [e]
    · simp [h, Int.max_def, show ¬ x ≤ y by omega]

end Go.Proofs.Ytkgohhdenfnfpaa

/- The zero values of the great types. -/
namespace Go.Proofs.Ytkgohhdenfnfpaa
open Go Go.RowKit
end Go.Proofs.Ytkgohhdenfnfpaa

/- The lowest bit of numbers of 64 bits. -/
namespace Go.Proofs.Ytkgohhdenfnfpaa
open Go Go.RowKit

theorem i64_and1 (x : Int) : bits .and .i64 x 1 = x % 2 := by
  show IntKind.i64.wrap ((BitVec.ofInt 64 x &&& BitVec.ofInt 64 1).toNat : Int) = _
  rw [BitVec.toNat_and]
  have e1 : (BitVec.ofInt 64 1).toNat = 1 := by decide
  rw [e1, Nat.and_one_is_mod, BitVec.toNat_ofInt, IntKind.wrap_i64]
  omega
theorem i64_and_and1 (x y : Int) : bits .and .i64 (bits .and .i64 x y) 1 = (x % 2) * (y % 2) := by
  rw [i64_and1]
  have h0 : bits .and .i64 x y = IntKind.i64.wrap ((BitVec.ofInt 64 x &&& BitVec.ofInt 64 y).toNat : Int) := rfl
  rw [h0, BitVec.toNat_and, IntKind.wrap_i64]
  have h := Nat.and_mod_two_pow (a := (BitVec.ofInt 64 x).toNat) (b := (BitVec.ofInt 64 y).toNat) (n := 1)
  simp only [Nat.pow_one] at h
  generalize hz : (BitVec.ofInt 64 x).toNat &&& (BitVec.ofInt 64 y).toNat = z at h ⊢
  have hx : (BitVec.ofInt 64 x).toNat % 2 = (x % 2).toNat := by rw [BitVec.toNat_ofInt]; omega
  have hy : (BitVec.ofInt 64 y).toNat % 2 = (y % 2).toNat := by rw [BitVec.toNat_ofInt]; omega
  rw [hx, hy] at h
  clear hx hy hz h0
  have cx : x % 2 = 0 ∨ x % 2 = 1 := by omega
  have cy : y % 2 = 0 ∨ y % 2 = 1 := by omega
  rcases cx with cx | cx <;> rcases cy with cy | cy <;> rw [cx, cy] at h ⊢
  · have h2 : z % 2 = 0 := h
    omega
  · have h2 : z % 2 = 0 := h
    omega
  · have h2 : z % 2 = 0 := h
    omega
  · have h2 : z % 2 = 1 := h
    omega
theorem i64_andNot1 (x : Int) (h0 : -9223372036854775808 ≤ x) (h1 : x ≤ 9223372036854775807) : bits .andNot .i64 x 1 = x - x % 2 := by
  show IntKind.i64.wrap ((BitVec.ofInt 64 x &&& ~~~ BitVec.ofInt 64 1).toNat : Int) = _
  have e : BitVec.ofInt 64 x &&& ~~~ BitVec.ofInt 64 1 = (BitVec.ofInt 64 x >>> 1) <<< 1 := by
    ext i hi
    simp only [BitVec.getElem_and, BitVec.getElem_not, BitVec.getElem_shiftLeft]
    by_cases h : i = 0
    · subst h; simp; 
    · have : (BitVec.ofInt 64 1)[i] = false := by
        have : BitVec.ofInt 64 1 = BitVec.twoPow 64 0 := by decide
        rw [this, BitVec.getElem_twoPow]; simp; omega
      rw [this]
      have : ¬ i < 1 := by omega
      simp [this]
      rw [← BitVec.getLsbD_eq_getElem]
      congr 1; omega
  rw [e, BitVec.toNat_shiftLeft, BitVec.toNat_ushiftRight, BitVec.toNat_ofInt, IntKind.wrap_i64, Nat.shiftLeft_eq, Nat.shiftRight_eq_div_pow]
  omega
end Go.Proofs.Ytkgohhdenfnfpaa

/- Small functions of bound and dbm: what each call computes. -/
namespace Go.Proofs.Ytkgohhdenfnfpaa
open Go.RowKit
set_option linter.unusedVariables false
set_option linter.unusedSimpArgs false
attribute [local go_sem] min_ints max_ints

set_option maxHeartbeats 400000 in
theorem few_any (n : Int) (w : World) :
    Calls Try.prog 12 #[.int .i64 n] w fun e w' => e = .returned (.bool (decide (0 ≤ n ∧ n ≤ 8))) ∧ w = w' := by
  by_cases h0 : 0 ≤ n
  · have hd : decide ((0 : Int) ≤ n) = true := decide_eq_true h0
    by_cases h1 : n ≤ 8
    all_goals
      go_enter Try.func12, Try.ntmps12
      go_wp2
      go_ret
      exact ⟨by simp [*], rfl⟩
  · have hd : decide ((0 : Int) ≤ n) = false := decide_eq_false h0
    go_enter Try.func12, Try.ntmps12
    go_wp2
    go_ret
    exact ⟨by simp [*], rfl⟩

set_option maxHeartbeats 400000 in
set_option maxRecDepth 100000 in
theorem keep_some (b i j : Nat) (n : Nat) (m : Nat → Nat → Int) (x : Int) (w : World) (hi : i < 9) (hj : j < 9) (h : MatAt w b 77 .i64 n m)
    (hx : (x == 2147483647) = false) (hx2 : (x != 2147483647) = true) (hx3 : -2147483648 ≤ x) (hx4 : x ≤ 2147483647) :
    Calls Try.prog 15 #[.pointer (some ⟨b, 0, none⟩), .int .i64 i, .int .i64 j, .int .i32 x] w fun e w' =>
      e = .returned (.tuple #[]) ∧ w' = (w.setCell ⟨b, 1 + i * 9 + j, none⟩ (.int .i64 (min (m i j) x))).drew := by
  have hc := h.cell i j hi hj
  have hf := h.frozen (1 + i * 9 + j)
  clear h
  go_enter Try.func15, Try.ntmps15
  go_wp2
  go_region
  go_wp2
  go_end0
  exact ⟨rfl, rfl⟩

set_option maxHeartbeats 400000 in
theorem keep_inf (p i j : Value) (w : World) :
    Calls Try.prog 15 #[p, i, j, .int .i32 2147483647] w fun e w' => e = .returned (.tuple #[]) ∧ w = w' := by
  go_enter Try.func15, Try.ntmps15
  go_wp2
  go_end0
  exact ⟨rfl, rfl⟩

theorem open_cells (n : Nat) : (Try.zeroCells77).setIfInBounds 0 (Value.int .i64 n) = matCells .i64 n (fun _ _ => 0) := by
  rfl

theorem keep_any (b : Nat) (x y : Int) (i j : Nat) (n : Nat) (m : Mat) (bd : Int) (w : World) (hi : i < 9) (hj : j < 9) (h : MatAt w b 77 .i64 n m) (hx : x = i) (hy : y = j)
    (h3 : -2147483648 ≤ bd) (h4 : bd ≤ 2147483647) :
    Calls Try.prog 15 #[.pointer (some ⟨b, 0, none⟩), .int .i64 x, .int .i64 y, .int .i32 bd] w fun e w' => e = .returned (.tuple #[]) ∧ Only b w w' ∧ MatAt w' b 77 .i64 n (keepM m i j bd) := by
  subst hx hy
  by_cases e : bd = 2147483647
  · subst e
    refine (keep_inf _ _ _ w).mono ?_
    rintro e w' ⟨rfl, rfl⟩
    exact ⟨rfl, Only.refl _ _, by unfold keepM; rw [if_pos rfl]; exact h⟩
  · refine (keep_some b i j n m bd w hi hj h (by simp [e]) (by simp [e]) h3 h4).mono ?_
    rintro e' w' ⟨rfl, rfl⟩
    refine ⟨rfl, ((Only.refl _ _).setCell _ _).drew, ?_⟩
    unfold keepM; rw [if_neg e]
    exact h.set i j hi hj _

/-- What the outer loop of 'open' has made. -/
def OpenRel (w0 : World) (n i j : Nat) (wr : World) : Prop := Below w0.heap.size w0 wr ∧ MatAt wr w0.heap.size 77 .i64 n (filled (openM n) i j) ∧ i ≤ n + 1 ∧ j ≤ n + 1

theorem open_start (w : World) (n : Nat) : OpenRel w n 0 0 (w.alloc (.cells ((Try.zeroCells77).setIfInBounds 0 (Value.int .i64 n)) 77)) := by
  refine ⟨(Below.refl _ _).alloc (Nat.le_refl _) _, ?_, by omega, by omega⟩
  unfold MatAt
  rw [heap_alloc_new, open_cells]
  rw [filled_zero]

theorem open_step {w wr : World} {n i j : Nat} (h : OpenRel w n i j wr) (hn : n ≤ 8) (hi : i < n + 1) (hj : j < n + 1) (v : Int) (hv : v = openM n i j) :
    OpenRel w n i (j + 1) (wr.setCell ⟨w.heap.size, 1 + i * 9 + j, none⟩ (.int .i64 v)) := by
  subst hv
  refine ⟨h.1.setCell (Nat.le_refl _) _, ?_, h.2.2.1, by omega⟩
  have := h.2.1.set i j (by omega) (by omega) (openM n i j)
  rw [upd_filled] at this
  exact this
theorem open_step2 {w wr : World} {n i j : Nat} (h : OpenRel w n i j wr) (hn : n ≤ 8) (hi : i < n + 1) (hj : j < n + 1) (u v : Int) (hv : v = openM n i j) :
    OpenRel w n i (j + 1) ((wr.setCell ⟨w.heap.size, 1 + i * 9 + j, none⟩ (.int .i64 u)).setCell ⟨w.heap.size, 1 + i * 9 + j, none⟩ (.int .i64 v)) := by
  subst hv
  refine ⟨(h.1.setCell (Nat.le_refl _) _).setCell (Nat.le_refl _) _, ?_, h.2.2.1, by omega⟩
  have := (h.2.1.set i j (by omega) (by omega) u).set i j (by omega) (by omega) (openM n i j)
  rw [upd_upd, upd_filled] at this
  exact this
theorem open_row {w wr : World} {n i : Nat} (h : OpenRel w n i (n + 1) wr) (hi : i < n + 1) : OpenRel w n (i + 1) 0 wr :=
  ⟨h.1, by rw [filled_row (openM_inside n)]; exact h.2.1, by omega, by omega⟩
theorem open_done {w wr : World} {n : Nat} (h : OpenRel w n (n + 1) 0 wr) : MatAt wr w.heap.size 77 .i64 n (openM n) := by
  have := h.2.1
  rw [filled_done (openM_inside n)] at this
  exact this

set_option maxRecDepth 100000 in
set_option maxHeartbeats 1000000 in
theorem open_any (n : Nat) (w : World) (hn : n ≤ 8) :
    Calls Try.prog 13 #[.int .i64 n] w fun e w' => e = .returned (.pointer (some ⟨w.heap.size, 0, none⟩)) ∧ Below w.heap.size w w' ∧ MatAt w' w.heap.size 77 .i64 n (openM n) := by
  have H0 := Lib.hid (open_start w n)
  go_enter Try.func13, Try.ntmps13
  go_wp2
  go_loopg [11] (n + 1) (fun k v wr => ∃ i : Nat, v = .int .i64 i ∧ OpenRel w n i 0 wr ∧ k + i = n + 1)
  case atStart => exact ⟨0, by simp, H0.out, by omega⟩
  case round =>
    clear H0
    obtain ⟨i, rfl, H, hk⟩ := hrel
    have HK := Lib.hid hk
    clear hk
    have HH := Lib.hid H
    by_cases hi : i < n + 1
    · clear H
      have hii : (i : Int) < (n : Int) + 1 := by omega
      go_wp2
      go_loopg [16] (n + 1) (fun k v wr => ∃ j : Nat, v = .int .i64 j ∧ OpenRel w n i j wr ∧ k + j = n + 1)
      case atStart => exact ⟨0, by simp, HH.out, by omega⟩
      case round =>
        clear HH
        obtain ⟨j, rfl, H, hk2⟩ := hrel
        have HK2 := Lib.hid hk2
        clear hk2
        have hf := H.2.1.frozen (1 + i * 9 + j)
        have hcell := H.2.1.cell i j (by omega) 
        have HH := Lib.hid H
        clear H hcell
        by_cases hj : j < n + 1
        · have hjj : (j : Int) < (n : Int) + 1 := by omega
          have hlt : w.heap.size < wr.heap.size := HH.out.2.1.lt
          have hcell := HH.out.2.1.cell i j (by omega) (by omega)
          by_cases e1 : i = j
          · have t1 : ((i : Int) == (j : Int)) = true := by simp [e1]
            have E1 := Lib.hid e1
            clear e1
            go_wp2
            go_roundg (gk - 1)
            case measure => have := HK2.out; omega
            case rel => exact ⟨j + 1, by go_num, open_step2 HH.out hn hi hj _ _ (by simp [openM, E1.out]; omega), by have := HK2.out; omega⟩
          · have t1 : ((i : Int) == (j : Int)) = false := by simp; omega
            by_cases e2 : i = 0
            · have t2 : ((i : Int) == 0) = true := by simp [e2]
              have E1 := Lib.hid e1
              have E2 := Lib.hid e2
              clear e1 e2
              go_wp2
              go_roundg (gk - 1)
              case measure => have := HK2.out; omega
              case rel => exact ⟨j + 1, by go_num, open_step2 HH.out hn hi hj _ _ (by simp [openM, E2.out]; omega), by have := HK2.out; omega⟩
            · have t2 : ((i : Int) == 0) = false := by simp; omega
              have E1 := Lib.hid e1
              have E2 := Lib.hid e2
              clear e1 e2
              go_wp2
              go_roundg (gk - 1)
              case measure => have := HK2.out; omega
              case rel => exact ⟨j + 1, by go_num, open_step HH.out hn hi hj _ (by have := E1.out; have := E2.out; simp [openM, none62, *]; omega), by have := HK2.out; omega⟩
        · have hjj : ¬ (j : Int) < (n : Int) + 1 := by omega
          go_wp2
          go_roundg (n - i)
          case measure => have := HK.out; omega
          case rel =>
            have : j = n + 1 := by have := HH.out.2.2.2; omega
            subst this
            exact ⟨i + 1, by go_num, open_row HH.out hi, by have := HK.out; omega⟩
    · have hii : ¬ (i : Int) < (n : Int) + 1 := by omega
      go_wp2
      go_ret
      have : i = n + 1 := by have := H.2.2.1; omega
      subst this
      exact ⟨rfl, H.1, open_done H⟩

end Go.Proofs.Ytkgohhdenfnfpaa

/- Cells of a zone under way: less, forget; is it a clock? -/
namespace Go.Proofs.Ytkgohhdenfnfpaa
open Go Go.RowKit
set_option linter.unusedVariables false
set_option linter.unusedSimpArgs false
attribute [local go_sem] min_ints max_ints

/-- A cell made stricter. -/
def lessM (m : Mat) (i j : Nat) (x : Int) : Mat := upd m i j (min (m i j) x)

/-- A clock that nothing is said of, behind the first p cells. -/
def forgetUp (x : Nat) (m : Mat) : Nat → Mat
  | 0 => m
  | p + 1 => if p = x then forgetUp x m p else upd (upd (forgetUp x m p) x p 2147483647) p x (upd (forgetUp x m p) x p 2147483647 p 0)
def ForgetR (w0 : World) (b n x : Nat) (m : Mat) (p : Nat) (wr : World) : Prop := Only b w0 wr ∧ MatAt wr b 72 .i32 n (forgetUp x m p)
theorem ForgetR.skip {w0 wr : World} {b n x : Nat} {m : Mat} (h : ForgetR w0 b n x m x wr) : ForgetR w0 b n x m (x + 1) wr :=
  ⟨h.1, by have := h.2; unfold forgetUp; rw [if_pos rfl]; exact this⟩

end Go.Proofs.Ytkgohhdenfnfpaa
