/- Texts of ours, laid together: Msm, Pw, Og, Oh, Oi, Oj, Px, On, Oq, Os, Df, Dg, Bl, Dh, Py, Ot, Ph, Pu. -/
import Derived.Deep.RegionHeld3
import Derived.Deep.MidRow
import Derived.Test.YtmelblnflalanaaGreatProg
import Derived.Lib.Hide
import Derived.Deep.LoopGhost
import Derived.Deep.QuietTactic
import Derived.BigQuiet
import Derived.BigRegion
import Derived.StillTailTactics
import Derived.KernelRfl
import Derived.Test.YtmelblnflalanaaGreatMg9
/- What bounds mean: valuations on a grid. The closed form has the same ones, it is closed, and it is its own closed form. -/
namespace Go.Proofs.YtmelblnflalanaaGreat
set_option linter.unusedVariables false
set_option linter.unusedSimpArgs false

/-! ### sums of wide bounds -/
theorem wsum_min {a b : Int} (ha : a ≠ none62) (hb : b ≠ none62) : wsum a b = (a - a % 2) + (b - b % 2) + min (a % 2) (b % 2) := by
  unfold wsum
  rw [if_neg (by simp [ha, hb])]
  rcases two_cases a b with ⟨h, h1⟩ | ⟨h, h1, h2⟩ <;> rw [h] <;> omega
theorem wsum_none_left (b : Int) : wsum none62 b = none62 := by simp [wsum]
theorem wsum_none_right (a : Int) : wsum a none62 = none62 := by simp [wsum]
theorem wsum_comm (a b : Int) : wsum a b = wsum b a := by
  by_cases ha : a = none62
  · rw [ha, wsum_none_left, wsum_none_right]
  · by_cases hb : b = none62
    · rw [hb, wsum_none_left, wsum_none_right]
    · rw [wsum_min ha hb, wsum_min hb ha]; omega
/-- A wide bound that may be added a few times. -/
abbrev FB (a : Int) : Prop := Bd 288230376151711744 a
theorem FB.fin {a : Int} (h : FB a) (hn : a ≠ none62) : -288230376151711744 ≤ a ∧ a ≤ 288230376151711744 := by
  rcases h with h | h
  · exact absurd h hn
  · exact h
theorem FB.le {a : Int} (h : FB a) : a ≤ none62 := by
  unfold none62
  rcases h with h | h
  · unfold none62 at h; omega
  · omega
theorem wsum_fin_ne {a b : Int} (ha : FB a) (hb : FB b) (h1 : a ≠ none62) (h2 : b ≠ none62) : wsum a b ≠ none62 := by
  rw [wsum_min h1 h2]
  have := ha.fin h1
  have := hb.fin h2
  unfold none62
  omega
theorem wsum_assoc {a b c : Int} (ha : FB a) (hb : FB b) (hc : FB c) : wsum (wsum a b) c = wsum a (wsum b c) := by
  by_cases h1 : a = none62
  · rw [h1, wsum_none_left, wsum_none_left, wsum_none_left]
  · by_cases h2 : b = none62
    · rw [h2, wsum_none_right, wsum_none_left, wsum_none_right]
    · by_cases h3 : c = none62
      · rw [h3, wsum_none_right, wsum_none_right, wsum_none_right]
      · have e1 := wsum_fin_ne ha hb h1 h2
        have e2 := wsum_fin_ne hb hc h2 h3
        rw [wsum_min e1 h3, wsum_min h1 e2, wsum_min h1 h2, wsum_min h2 h3]
        omega
theorem wsum_le {a a' b b' : Int} (ha : FB a) (ha' : FB a') (hb : FB b) (hb' : FB b') (h1 : a ≤ a') (h2 : b ≤ b') : wsum a b ≤ wsum a' b' := by
  by_cases e1 : a' = none62
  · rw [e1, wsum_none_left]
    by_cases e2 : a = none62
    · rw [e2, wsum_none_left]; exact Int.le_refl _
    · by_cases e3 : b = none62
      · rw [e3, wsum_none_right]; exact Int.le_refl _
      · have := ha.fin e2
        have := hb.fin e3
        rw [wsum_min e2 e3]; unfold none62; omega
  · by_cases e2 : b' = none62
    · rw [e2, wsum_none_right]
      by_cases e3 : a = none62
      · rw [e3, wsum_none_left]; exact Int.le_refl _
      · by_cases e4 : b = none62
        · rw [e4, wsum_none_right]; exact Int.le_refl _
        · have := ha.fin e3
          have := hb.fin e4
          rw [wsum_min e3 e4]; unfold none62; omega
    · have f1 := ha'.fin e1
      have f2 := hb'.fin e2
      have e3 : a ≠ none62 := fun h => by unfold none62 at h; omega
      have e4 : b ≠ none62 := fun h => by unfold none62 at h; omega
      rw [wsum_min e3 e4, wsum_min e1 e2]
      omega

/-! ### the closed form is closed -/
/-- No way by a clock ahead of k is stricter. -/
def Tri (n : Nat) (m : Mat) (k : Nat) : Prop := ∀ l, l < k → ∀ i j, i ≤ n → j ≤ n → m i j ≤ wsum (m i l) (m l j)
theorem fw_le (k n : Nat) (m : Mat) (i j : Nat) : fw k n m i j ≤ m i j := by
  unfold fw; split
  · omega
  · exact Int.le_refl _
theorem half_fb {a : Int} (h : Bd 1125899906842624 a) : FB a := h.mono (by omega)
theorem sum_fb {a b : Int} (h : Bd 1125899906842624 a) (h' : Bd 1125899906842624 b) : FB (wsum a b) := (h.sum h').mono (by omega)
theorem fw_tri {n k : Nat} {m : Mat} (hf : ∀ i j, i ≤ n → j ≤ n → Bd 1125899906842624 (m i j)) (hk : k ≤ n) (hd : ∀ i, i ≤ n → m i i = 1) (ht : Tri n m k) : Tri n (fw k n m) (k + 1) := by
  intro l hl i j hi hj
  by_cases e : l = k
  · subst e
    rw [fw_col (hd l hk), fw_row (hd l hk)]
    unfold fw
    rw [if_pos ⟨hi, hj⟩]
    omega
  · have hlk : l < k := by omega
    have hln : l ≤ n := by omega
    have t1 := ht l hlk i j hi hj
    have t2 := ht l hlk k j hk hj
    have t3 := ht l hlk i k hi hk
    have t4 := ht l hlk k k hk hk
    rw [hd k hk] at t4
    have fa := hf i l hi hln
    have fb := hf l j hln hj
    have fc := hf i k hi hk
    have fd := hf k j hk hj
    have fp := hf k l hk hln
    have fq := hf l k hln hk
    unfold fw
    rw [if_pos ⟨hi, hj⟩, if_pos ⟨hi, hln⟩, if_pos ⟨hln, hj⟩]
    generalize m i j = x at *
    generalize m i l = a at *
    generalize m l j = b at *
    generalize m i k = c at *
    generalize m k j = d at *
    generalize m k l = p at *
    generalize m l k = q at *
    have g2 : wsum c d ≤ wsum (wsum c p) b := by
      rw [wsum_assoc (half_fb fc) (half_fb fp) (half_fb fb)]
      exact wsum_le (half_fb fc) (half_fb fc) (half_fb fd) (sum_fb fp fb) (Int.le_refl _) t2
    have g3 : wsum c d ≤ wsum a (wsum q d) := by
      rw [← wsum_assoc (half_fb fa) (half_fb fq) (half_fb fd)]
      exact wsum_le (half_fb fc) (sum_fb fa fq) (half_fb fd) (half_fb fd) t3 (Int.le_refl _)
    have g4 : wsum c d ≤ wsum (wsum c p) (wsum q d) := by
      rw [wsum_assoc (half_fb fc) (half_fb fp) (sum_fb fq fd), ← wsum_assoc (half_fb fp) (half_fb fq) (half_fb fd)]
      refine wsum_le (half_fb fc) (half_fb fc) (half_fb fd) ?_ (Int.le_refl _) ?_
      · have := ((fp.sum fq).sum fd)
        exact this.mono (by omega)
      · have := wsum_le (a := 1) (b := d) (a' := wsum p q) (b' := d) (.inr (by omega)) (sum_fb fp fq) (half_fb fd) (half_fb fd) t4 (Int.le_refl _)
        rwa [wsum_one_left] at this
    have m1 : min a (wsum c p) = a ∨ min a (wsum c p) = wsum c p := by omega
    have m2 : min b (wsum q d) = b ∨ min b (wsum q d) = wsum q d := by omega
    rcases m1 with m1 | m1 <;> rcases m2 with m2 | m2 <;> rw [m1, m2]
    · omega
    · omega
    · omega
    · omega

theorem four_le {k : Nat} (h : k ≤ 9) : (1073741824 : Int) * 4 ^ k ≤ 281474976710656 := by
  have := pow2_le h
  omega
theorem fit_bd {n k : Nat} {m : Mat} (h : Fit n (1073741824 * 4 ^ k) m) (hk : k ≤ 9) : ∀ i j, i ≤ n → j ≤ n → Bd 1125899906842624 (m i j) := fun i j hi hj => (h.bd i j hi hj).mono (by have := four_le hk; omega)
theorem fit_next {n k : Nat} {m : Mat} (h : Fit n (1073741824 * 4 ^ k) m) (hk : k ≤ n) : Fit n (1073741824 * 4 ^ (k + 1)) (fw k n m) := by
  have := h.fwd hk (by have := one_le_pow2 k; omega)
  exact ⟨fun i j hi hj => (this.bd i j hi hj).mono (pow2_step k), this.diag⟩

/-- What a closed form is. -/
structure Closed (n : Nat) (m m' : Mat) : Prop where
  tri : Tri n m' (n + 1)
  bd : ∀ i j, i ≤ n → j ≤ n → Bd 1125899906842624 (m' i j)
  one : ∀ i, i ≤ n → m' i i = 1
  le : ∀ i j, m' i j ≤ m i j
theorem closeP_closed {n : Nat} (hn : n ≤ 8) : ∀ s k m m', k + s = n + 1 → Fit n (1073741824 * 4 ^ k) m → Tri n m k → (∀ i, i ≤ n → s = 0 → m i i = 1) → closeP n s k m = some m' → Closed n m m'
  | 0, k, m, m', hk, hf, ht, h1, e => by
    simp [closeP] at e
    subst e
    have : k = n + 1 := by omega
    subst this
    exact ⟨ht, fit_bd hf (by omega), fun i hi => h1 i hi rfl, fun _ _ => Int.le_refl _⟩
  | s + 1, k, m, m', hk, hf, ht, h1, e => by
    unfold closeP at e
    split at e
    · rename_i hd
      have hone : ∀ i, i ≤ n → m i i = 1 := fun i hi => by
        have a := hd i hi
        have b := fw_le k n m i i
        have c := hf.diag i hi
        omega
      have hf' := fit_next hf (show k ≤ n by omega)
      have hone' : ∀ i, i ≤ n → fw k n m i i = 1 := fun i hi => by
        have a := hd i hi
        have b := hf'.diag i hi
        omega
      have ht' := fw_tri (fit_bd hf (by omega)) (by omega) hone ht
      have := closeP_closed hn s (k + 1) (fw k n m) m' (by omega) hf' ht' (fun i hi _ => hone' i hi) e
      exact ⟨this.tri, this.bd, this.one, fun i j => Int.le_trans (this.le i j) (fw_le k n m i j)⟩
    · cases e
theorem closed_closed {n : Nat} {m m' : Mat} (hn : n ≤ 8) (hf : Fit n 1073741824 m) (e : closed n m = some m') : Closed n m m' :=
  closeP_closed hn (n + 1) 0 m m' (by omega) (by simpa using hf) (fun l hl => by omega) (fun i hi h => by omega) e

/-- What is closed is its own closed form. -/
theorem fw_id {k n : Nat} {m : Mat} (hk : k ≤ n) (ht : Tri n m (n + 1)) : fw k n m = m := by
  funext i j
  unfold fw
  split
  · rename_i h
    have := ht k (by omega) i j h.1 h.2
    omega
  · rfl
theorem closeP_id {n : Nat} {m : Mat} (ht : Tri n m (n + 1)) (h1 : ∀ i, i ≤ n → m i i = 1) : ∀ s k, k + s ≤ n + 1 → closeP n s k m = some m
  | 0, k, _ => rfl
  | s + 1, k, hk => by
    unfold closeP
    rw [fw_id (by omega) ht, if_pos (fun i hi => by rw [h1 i hi]; exact Int.le_refl _)]
    exact closeP_id ht h1 s (k + 1) (by omega)
theorem closed_id {n : Nat} {m : Mat} (ht : Tri n m (n + 1)) (h1 : ∀ i, i ≤ n → m i i = 1) : closed n m = some m := closeP_id ht h1 _ _ (by omega)

/-! ### valuations -/
/-- Does a difference, in units of a grid, keep a wide bound? -/
def sat (g b x : Int) : Prop := b = none62 ∨ x < b / 2 * g + b % 2
theorem sat_mono {g a b x : Int} (hg : 1 ≤ g) (hb : FB b) (h : a ≤ b) (hs : sat g a x) : sat g b x := by
  rcases hb with hb | hb
  · exact .inl hb
  · right
    rcases hs with hs | hs
    · unfold none62 at hs; omega
    · by_cases e : a / 2 = b / 2
      · rw [← e]; omega
      · have h2 : (a / 2 + 1) * g ≤ b / 2 * g := Int.mul_le_mul_of_nonneg_right (by omega) (by omega)
        rw [Int.add_mul, Int.one_mul] at h2
        omega
theorem sat_sum {g a b x y : Int} (h1 : sat g a x) (h2 : sat g b y) : sat g (wsum a b) (x + y) := by
  by_cases ha : a = none62
  · left; rw [ha, wsum_none_left]
  · by_cases hb : b = none62
    · left; rw [hb, wsum_none_right]
    · right
      rw [wsum_min ha hb]
      rcases h1 with h1 | h1
      · exact absurd h1 ha
      · rcases h2 with h2 | h2
        · exact absurd h2 hb
        · have e1 : (a - a % 2 + (b - b % 2) + min (a % 2) (b % 2)) / 2 = a / 2 + b / 2 := by omega
          have e2 : (a - a % 2 + (b - b % 2) + min (a % 2) (b % 2)) % 2 = min (a % 2) (b % 2) := by omega
          rw [e1, e2, Int.add_mul]
          omega
theorem sat_min {g a b x : Int} (hg : 1 ≤ g) (ha : FB a) (hb : FB b) : sat g (min a b) x ↔ sat g a x ∧ sat g b x := by
  constructor
  · intro h
    exact ⟨sat_mono hg ha (by omega) h, sat_mono hg hb (by omega) h⟩
  · intro ⟨h1, h2⟩
    rcases (show min a b = a ∨ min a b = b by omega) with e | e <;> rw [e] <;> assumption
theorem sat_zero {g b : Int} (hg : 1 ≤ g) (hs : sat g b 0) : 1 ≤ b := by
  rcases hs with hs | hs
  · rw [hs]; decide
  · by_cases h : 1 ≤ b
    · exact h
    · exfalso
      by_cases e : b = 0
      · subst e; simp at hs
      · have h2 : b / 2 * g ≤ -1 * g := Int.mul_le_mul_of_nonneg_right (by omega) (by omega)
        omega
theorem sat_one {g x : Int} (hx : x ≤ 0) : sat g 1 x := .inr (by simp; omega)

/-- Does a valuation keep all cells? -/
def satM (n : Nat) (g : Int) (m : Mat) (v : Nat → Int) : Prop := ∀ i j, i ≤ n → j ≤ n → sat g (m i j) (v i - v j)
theorem satM_fw {n k : Nat} {g : Int} {m : Mat} {v : Nat → Int} (hg : 1 ≤ g) (hf : ∀ i j, i ≤ n → j ≤ n → Bd 1125899906842624 (m i j)) (hk : k ≤ n) : satM n g (fw k n m) v ↔ satM n g m v := by
  constructor
  · intro h i j hi hj
    exact sat_mono hg (half_fb (hf i j hi hj)) (fw_le k n m i j) (h i j hi hj)
  · intro h i j hi hj
    unfold fw
    rw [if_pos ⟨hi, hj⟩, sat_min hg (half_fb (hf i j hi hj)) (sum_fb (hf i k hi hk) (hf k j hk hj))]
    refine ⟨h i j hi hj, ?_⟩
    have := sat_sum (h i k hi hk) (h k j hk hj)
    rwa [show v i - v k + (v k - v j) = v i - v j by omega] at this
def ClosedSat (n : Nat) (g : Int) (m : Mat) (v : Nat → Int) : Option Mat → Prop
  | none => ¬ satM n g m v
  | some m' => satM n g m v ↔ satM n g m' v
theorem closeP_sat {n : Nat} {g : Int} (hn : n ≤ 8) (hg : 1 ≤ g) (v : Nat → Int) : ∀ s k m, k + s = n + 1 → Fit n (1073741824 * 4 ^ k) m → ClosedSat n g m v (closeP n s k m)
  | 0, k, m, _, _ => Iff.rfl
  | s + 1, k, m, hk, hf => by
    have e := satM_fw (v := v) hg (fit_bd hf (by omega)) (show k ≤ n by omega)
    unfold closeP
    split
    · have ih := closeP_sat hn hg v s (k + 1) (fw k n m) (by omega) (fit_next hf (by omega))
      revert ih
      cases closeP n s (k + 1) (fw k n m) with
      | none => exact fun ih h => ih (e.2 h)
      | some m' => exact fun ih => e.symm.trans ih
    · rename_i hd
      intro hs
      refine hd fun i hi => ?_
      have := (e.2 hs) i i hi hi
      rw [Int.sub_self] at this
      exact sat_zero hg this
theorem closed_sat {n : Nat} {g : Int} {m : Mat} (hn : n ≤ 8) (hg : 1 ≤ g) (v : Nat → Int) (hf : Fit n 1073741824 m) : ClosedSat n g m v (closed n m) :=
  closeP_sat hn hg v (n + 1) 0 m (by omega) (by simpa using hf)

/-! ### zones of their own cells -/
/-- The wide cells of narrow ones, with what holds of all valuations. -/
def wideZ (z : Mat) : Mat := fun i j => if i = j ∨ i = 0 then min 1 (wid (z i j)) else wid (z i j)
theorem keep_flat {n : Nat} {z : Mat} (hr : RightM n z) : Agree n (keepUp n (flat n z) ((n + 1) * (n + 1))) (wideZ z) := fun i j hi hj => by
  rw [keepUp_cell n (flat n z) i j hi hj (fun q hq => by
    rw [flat_getD _ _ _ hq]
    have h1 : q / (n + 1) < n + 1 := Nat.div_lt_of_lt_mul hq
    have h2 := Nat.mod_lt q (show 0 < n + 1 by omega)
    exact hr _ _ (by omega) (by omega)) _ (Nat.le_refl _), if_pos (at_lt (by omega) (by omega)), flat_at _ (by omega) (by omega)]
  rfl
theorem flat_right {n : Nat} {z : Mat} (hr : RightM n z) : (flat n z).all rightB = true := (all_getD _ _ 0).2 fun q hq => by
  rw [flat_length] at hq
  rw [flat_getD _ _ _ hq]
  have h1 : q / (n + 1) < n + 1 := Nat.div_lt_of_lt_mul hq
  have h2 := Nat.mod_lt q (show 0 < n + 1 by omega)
  exact hr _ _ (by omega) (by omega)
/-- What Of tells of a matrix. -/
theorem of_flat {n : Nat} {z : Mat} (hn : n ≤ 8) (hr : RightM n z) : ofP n (flat n z) = zoneP n (wideZ z) := by
  unfold ofP
  rw [if_pos (by omega), if_pos (by rw [flat_length]; simp), if_pos (flat_right hr), flat_length, Int.toNat_natCast]
  exact zoneP_agree (keep_flat hr)
theorem wid_nar {x : Int} (h : inR x) : wid (nar x) = x := by
  unfold nar wid
  rcases h with h | h
  · rw [if_pos h, if_pos rfl, h]
  · have e1 : ¬ x = none62 := by unfold none62; omega
    rw [if_neg e1, if_neg (by omega)]
theorem zoneP_zero (n : Nat) : zoneP n (wideZ fun _ _ => 0) = (some (fun _ _ => 0), 0) := by
  have h : closed n (wideZ fun _ _ => 0) = none := by
    unfold closed closeP
    rw [if_neg]
    intro h
    have h1 := h 0 (by omega)
    have h2 := fw_le 0 n (wideZ fun _ _ => 0) 0 0
    have h3 : wideZ (fun _ _ => 0) 0 0 = 0 := by decide
    omega
  unfold zoneP
  rw [h]
/-- What a zone's own matrix is: empty, or closed. -/
inductive ZoneIs (n : Nat) (M z : Mat) : Prop
  | empty (h : z = fun _ _ => 0) (e : closed n M = none)
  | full (m' : Mat) (e : closed n M = some m') (h : allR n m') (hz : z = narM n m') (hc : Closed n M m')
theorem zoneP_is {n : Nat} {M z : Mat} (hn : n ≤ 8) (hf : Fit n 1073741824 M) (e : (zoneP n M).1 = some z) : ZoneIs n M z := by
  unfold zoneP at e
  cases hc : closed n M with
  | none => rw [hc] at e; simp at e; exact .empty e.symm hc
  | some m' =>
    rw [hc] at e
    simp only at e
    by_cases ha : allR n m'
    · rw [if_pos ha] at e
      simp at e
      exact .full m' hc ha e.symm (closed_closed hn hf hc)
    · rw [if_neg ha] at e; cases e
/-- Of a zone's own cells: the zone. -/
theorem of_again {n : Nat} {M z : Mat} (hn : n ≤ 8) (hf : Fit n 1073741824 M) (h0 : ∀ j, j ≤ n → M 0 j ≤ 1) (e : (zoneP n M).1 = some z) : ofP n (flat n z) = (some z, 0) := by
  rcases zoneP_is hn hf e with ⟨h, _⟩ | ⟨m', hm, ha, hz, hc⟩
  · subst h
    rw [of_flat hn (right_zero n), zoneP_zero]
  · have hr : RightM n z := by rw [hz]; exact narM_right ha
    rw [of_flat hn hr]
    have hag : Agree n (wideZ z) m' := fun i j hi hj => by
      have e1 : z i j = nar (m' i j) := by rw [hz]; unfold narM; rw [if_pos ⟨hi, hj⟩]
      have e2 := wid_nar (ha i hi j hj)
      unfold wideZ
      rw [e1, e2]
      split
      · rename_i hij
        have : m' i j ≤ 1 := by
          rcases hij with hij | hij
          · subst hij; rw [hc.one i hi]; exact Int.le_refl _
          · subst hij; exact Int.le_trans (hc.le 0 j) (h0 j hj)
        omega
      · rfl
    rw [zoneP_agree hag]
    unfold zoneP
    rw [closed_id hc.tri hc.one]
    simp only
    rw [if_pos ha, hz]

end Go.Proofs.YtmelblnflalanaaGreat

/- Zones, empty or full; what the zone of their changed cells is. -/
namespace Go.Proofs.YtmelblnflalanaaGreat
set_option linter.unusedVariables false
set_option linter.unusedSimpArgs false

/-- Cells, wide. -/
def widW (m : Mat) : Mat := fun i j => wid (m i j)
theorem wid_upd (m : Mat) (a b : Nat) (x : Int) : widW (upd m a b x) = upd (widW m) a b (wid x) := by
  funext i j
  unfold widW upd
  split <;> rfl
theorem wid_min {x y : Int} (hx : x ≤ 2147483647) (hy : y ≤ 2147483647) : wid (min x y) = min (wid x) (wid y) := by
  unfold wid none62
  rw [Int.min_def, Int.min_def]
  split <;> split <;> split <;> (try split) <;> omega
theorem wid_less (m : Mat) (a b : Nat) (x : Int) (h : m a b ≤ 2147483647) (hx : x ≤ 2147483647) : widW (lessM m a b x) = lessM (widW m) a b (wid x) := by
  unfold lessM
  rw [wid_upd, wid_min h hx]
  rfl
theorem right_hi {x : Int} (h : rightB x = true) : -2147483648 ≤ x ∧ x ≤ 2147483647 := by
  unfold rightB at h
  have := of_decide_eq_true h
  omega
theorem right_min {x y : Int} (hx : rightB x = true) (hy : rightB y = true) : rightB (min x y) = true := by
  rw [Int.min_def]; split <;> assumption
/-- Cells that bounds of a zone may be. -/
structure OkM (n : Nat) (m : Mat) : Prop where
  right : RightM n m
  diag : ∀ i, i ≤ n → m i i ≤ 1
  top : ∀ j, j ≤ n → m 0 j ≤ 1
theorem OkM.upd {n : Nat} {m : Mat} (h : OkM n m) (a b : Nat) (x : Int) (hr : rightB x = true) (hd : a = b → x ≤ 1) (ht : a = 0 → x ≤ 1) : OkM n (upd m a b x) := by
  refine ⟨fun i j hi hj => ?_, fun i hi => ?_, fun j hj => ?_⟩
  · unfold Go.Proofs.YtmelblnflalanaaGreat.upd; split
    · exact hr
    · exact h.right i j hi hj
  · unfold Go.Proofs.YtmelblnflalanaaGreat.upd; split
    · rename_i e; exact hd (by omega)
    · exact h.diag i hi
  · unfold Go.Proofs.YtmelblnflalanaaGreat.upd; split
    · rename_i e; exact ht (by omega)
    · exact h.top j hj
theorem OkM.less {n : Nat} {m : Mat} (h : OkM n m) (a b : Nat) (ha : a ≤ n) (hb : b ≤ n) (x : Int) (hr : rightB x = true) : OkM n (lessM m a b x) := by
  refine h.upd a b _ (right_min (h.right a b ha hb) hr) (fun e => ?_) (fun e => ?_)
  · subst e; have := h.diag a ha; omega
  · subst e; have := h.top b hb; omega
theorem OkM.fit {n : Nat} {m : Mat} (h : OkM n m) : Fit n 1073741824 (widW m) := by
  refine ⟨fun i j hi hj => ?_, fun i hi => ?_⟩
  · unfold widW wid
    split
    · exact .inl rfl
    · rename_i e
      have := rightB_bd (h.right i j hi hj) e
      exact .inr (by omega)
  · have := h.diag i hi
    unfold widW wid
    rw [if_neg (by omega)]; exact this
theorem OkM.wtop {n : Nat} {m : Mat} (h : OkM n m) : ∀ j, j ≤ n → widW m 0 j ≤ 1 := fun j hj => by
  have := h.top j hj
  unfold widW wid
  rw [if_neg (by omega)]; exact this
/-- What Of tells of such cells. -/
theorem ofP_wid {n : Nat} {m : Mat} (hn : n ≤ 8) (h : OkM n m) : ofP n (flat n m) = zoneP n (widW m) := by
  rw [of_flat hn h.right]
  refine zoneP_agree fun i j hi hj => ?_
  unfold wideZ
  split
  · rename_i e
    have : m i j ≤ 1 := by
      rcases e with e | e
      · subst e; exact h.diag i hi
      · subst e; exact h.top j hj
    unfold widW
    have e2 : wid (m i j) = m i j := by unfold wid; rw [if_neg (by omega)]
    rw [e2]; omega
  · rfl
/-- The zone is not empty. -/
structure FullZ (n : Nat) (m : Mat) : Prop where
  right : RightM n m
  one : ∀ i, i ≤ n → m i i = 1
  top : ∀ j, j ≤ n → m 0 j ≤ 1
theorem FullZ.ok {n : Nat} {m : Mat} (h : FullZ n m) : OkM n m := ⟨h.right, fun i hi => by rw [h.one i hi]; exact Int.le_refl _, h.top⟩
theorem keepUp_top4 {n : Nat} {cells : List Int} (hr : ∀ q, q < (n + 1) * (n + 1) → rightB (cells.getD q 0) = true) : ∀ j, j ≤ n → keepUp n cells ((n + 1) * (n + 1)) 0 j ≤ 1 := fun j hj => by
  rw [keepUp_cell n cells 0 j (Nat.zero_le _) hj hr _ (Nat.le_refl _), if_pos (at_lt (by omega) (by omega)), if_pos (.inr rfl)]
  omega
theorem full_of {n : Nat} {M m' : Mat} (h0 : ∀ j, j ≤ n → M 0 j ≤ 1) (ha : allR n m') (hc : Closed n M m') : FullZ n (narM n m') := by
  have hcell : ∀ i j, i ≤ n → j ≤ n → m' i j ≤ 1 → narM n m' i j = m' i j := fun i j hi hj hle => by
    unfold narM nar
    rw [if_pos ⟨hi, hj⟩, if_neg (by unfold none62; omega)]
  refine ⟨narM_right ha, fun i hi => ?_, fun j hj => ?_⟩
  · rw [hcell i i hi hi (by rw [hc.one i hi]; exact Int.le_refl _), hc.one i hi]
  · have : m' 0 j ≤ 1 := Int.le_trans (hc.le 0 j) (h0 j hj)
    rw [hcell 0 j (by omega) hj this]; exact this
/-- A zone is empty, or full. -/
theorem zone_kinds {n : Int} {cells : List Int} {k : Nat} {m : Mat} (e : zOf n cells = some (k, m)) : (0 ≤ n ∧ n ≤ 8 ∧ k = n.toNat) ∧ (m = (fun _ _ => 0) ∨ FullZ k m) := by
  unfold zOf at e
  cases hz : (ofP n cells).1 with
  | none => rw [hz] at e; cases e
  | some m0 =>
    rw [hz] at e
    simp only [Option.map_some, Option.some.injEq, Prod.mk.injEq] at e
    obtain ⟨e1, e2⟩ := e
    subst e2
    unfold ofP at hz
    split at hz
    · rename_i hn
      split at hz
      · rename_i hl
        split at hz
        · rename_i hr
          obtain ⟨q, rfl⟩ : ∃ q : Nat, n = q := ⟨n.toNat, by omega⟩
          rw [Int.toNat_natCast] at hz e1
          subst e1
          have hl' : cells.length = (q + 1) * (q + 1) := by exact_mod_cast hl
          have hr' : ∀ p, p < (q + 1) * (q + 1) → rightB (cells.getD p 0) = true := fun p hp => (all_getD cells rightB 0).1 hr p (by omega)
          rw [hl'] at hz
          refine ⟨by omega, ?_⟩
          rcases zoneP_is (by omega) (keepUp_fit q cells _ hr') hz with ⟨h, _⟩ | ⟨m', hm, ha, hzz, hc⟩
          · exact .inl h
          · right; rw [hzz]; exact full_of (keepUp_top4 hr') ha hc
        · cases hz
      · cases hz
    · cases hz
theorem FullZ.notEmpty {n : Nat} {m : Mat} (h : FullZ n m) : emptyP (some (n, m)) = false := decide_eq_false (by have := h.one 0 (by omega); omega)

/-- The same cells, opened. -/
theorem Agree.upd {n : Nat} {m o : Mat} (h : Agree n m o) (a b : Nat) (x : Int) : Agree n (upd m a b x) (upd o a b x) := fun i j hi hj => by
  unfold Go.Proofs.YtmelblnflalanaaGreat.upd; split
  · rfl
  · exact h i j hi hj
theorem Agree.less {n : Nat} {m o : Mat} (h : Agree n m o) (a b : Nat) (ha : a ≤ n) (hb : b ≤ n) (x : Int) : Agree n (lessM m a b x) (lessM o a b x) := by
  unfold lessM; rw [h a b ha hb]; exact h.upd a b _
theorem open_agree (n : Nat) (m : Mat) : Agree n (openW (some (n, m))) m := fun i j hi hj => openW_in (by omega) (by omega)

/-! ### empty zones -/
theorem flat_open (n : Nat) (m : Mat) : flat n (openW (some (n, m))) = flat n m := flat_congr (open_agree n m)
theorem ofP_zero (n : Nat) (hn : n ≤ 8) : ofP n (flat n (openW (some (n, fun _ _ => 0)))) = (some (fun _ _ => 0), 0) := by
  rw [flat_open, of_flat hn (right_zero n), zoneP_zero]

/-! ### Up -/
def upD (M : Mat) : Nat → Mat
  | 0 => M
  | p + 1 => if p = 0 then upD M p else upd (upD M p) p 0 none62
theorem wid_up (m : Mat) : ∀ p, widW (upUp m p) = upD (widW m) p
  | 0 => rfl
  | p + 1 => by
    unfold upUp upD
    split
    · exact wid_up m p
    · rw [wid_upd, wid_up m p]; rfl
theorem Agree.up {n : Nat} {m o : Mat} (h : Agree n m o) : ∀ p, Agree n (upUp m p) (upUp o p)
  | 0 => h
  | p + 1 => by
    unfold upUp
    split
    · exact h.up p
    · exact (h.up p).upd _ _ _
theorem OkM.up {n : Nat} {m : Mat} (h : OkM n m) : ∀ p, OkM n (upUp m p)
  | 0 => h
  | p + 1 => by
    unfold upUp
    split
    · exact h.up p
    · rename_i e; exact (h.up p).upd _ _ _ (by decide) (fun e' => absurd e' e) (fun e' => absurd e' e)
theorem up_same {n : Nat} {m : Mat} (hn : n ≤ 8) (h : FullZ n m) : ofP n (flat n (upW (some (n, m)))) = zoneP n (upD (widW m) (n + 1)) := by
  have e : upW (some (n, m)) = upUp (openW (some (n, m))) (n + 1) := by unfold upW; rw [h.notEmpty]; rfl
  rw [e, flat_congr ((open_agree n m).up (n + 1)), ofP_wid hn (h.ok.up _), wid_up]
theorem up_zero (n : Nat) (hn : n ≤ 8) : ofP n (flat n (upW (some (n, fun _ _ => 0)))) = (some (fun _ _ => 0), 0) := by
  have e : upW (some (n, fun _ _ => 0)) = openW (some (n, fun _ _ => 0)) := by unfold upW; rw [if_pos (show emptyP (some (n, fun _ _ => 0)) = true from rfl)]
  rw [e]; exact ofP_zero n hn

/-! ### Down -/
theorem OkM.downIn {n : Nat} {m : Mat} (h : OkM n m) (i : Nat) (hi : i ≤ n) : ∀ j, j ≤ n + 1 → OkM n (downIn m i j)
  | 0, _ => h
  | j + 1, hj => by
    have ih := h.downIn i hi j (by omega)
    unfold Go.Proofs.YtmelblnflalanaaGreat.downIn
    split
    · exact ih
    · exact ih.less 0 i (by omega) hi _ (ih.right j i (by omega) hi)
theorem OkM.down {n : Nat} {m : Mat} (h : OkM n m) : ∀ i, i ≤ n + 1 → OkM n (downUp n m i)
  | 0, _ => h
  | i + 1, hi => by
    have ih := h.down i (by omega)
    unfold downUp
    split
    · exact ih
    · exact (ih.upd 0 i 1 (by decide) (fun _ => Int.le_refl _) (fun _ => Int.le_refl _)).downIn i (by omega) _ (Nat.le_refl _)
theorem wid_downIn {n : Nat} {m : Mat} (h : OkM n m) (i : Nat) (hi : i ≤ n) : ∀ j, j ≤ n + 1 → widW (downIn m i j) = downIn (widW m) i j
  | 0, _ => rfl
  | j + 1, hj => by
    have ih := wid_downIn h i hi j (by omega)
    have ok := h.downIn i hi j (by omega)
    unfold downIn
    split
    · exact ih
    · rw [wid_less _ _ _ _ (right_hi (ok.right 0 i (by omega) hi)).2 (right_hi (ok.right j i (by omega) hi)).2, ih, ← ih]
      rfl
theorem wid_down {n : Nat} {m : Mat} (h : OkM n m) : ∀ i, i ≤ n + 1 → widW (downUp n m i) = downUp n (widW m) i
  | 0, _ => rfl
  | i + 1, hi => by
    have ih := wid_down h i (by omega)
    have ok := h.down i (by omega)
    unfold downUp
    split
    · exact ih
    · rw [wid_downIn (ok.upd 0 i 1 (by decide) (fun _ => Int.le_refl _) (fun _ => Int.le_refl _)) i (by omega) _ (Nat.le_refl _), wid_upd, ih]
      rfl
theorem Agree.downIn {n : Nat} {m o : Mat} (h : Agree n m o) (i : Nat) (hi : i ≤ n) : ∀ j, j ≤ n + 1 → Agree n (downIn m i j) (downIn o i j)
  | 0, _ => h
  | j + 1, hj => by
    have ih := h.downIn i hi j (by omega)
    unfold Go.Proofs.YtmelblnflalanaaGreat.downIn
    split
    · exact ih
    · rw [ih j i (by omega) hi]; exact ih.less 0 i (by omega) hi _
theorem Agree.down {n : Nat} {m o : Mat} (h : Agree n m o) : ∀ i, i ≤ n + 1 → Agree n (downUp n m i) (downUp n o i)
  | 0, _ => h
  | i + 1, hi => by
    unfold downUp
    split
    · exact h.down i (by omega)
    · exact ((h.down i (by omega)).upd 0 i 1).downIn i (by omega) _ (Nat.le_refl _)
theorem down_same {n : Nat} {m : Mat} (hn : n ≤ 8) (h : FullZ n m) : ofP n (flat n (downW (some (n, m)))) = zoneP n (downUp n (widW m) (n + 1)) := by
  have e : downW (some (n, m)) = downUp n (openW (some (n, m))) (n + 1) := by unfold downW; rw [h.notEmpty]; rfl
  rw [e, flat_congr ((open_agree n m).down (n + 1) (Nat.le_refl _)), ofP_wid hn (h.ok.down _ (Nat.le_refl _)), wid_down h.ok _ (Nat.le_refl _)]
theorem down_zero (n : Nat) (hn : n ≤ 8) : ofP n (flat n (downW (some (n, fun _ _ => 0)))) = (some (fun _ _ => 0), 0) := by
  have e : downW (some (n, fun _ _ => 0)) = openW (some (n, fun _ _ => 0)) := by unfold downW; rw [if_pos (show emptyP (some (n, fun _ _ => 0)) = true from rfl)]
  rw [e]; exact ofP_zero n hn

end Go.Proofs.YtmelblnflalanaaGreat

/- A clock set to a number. -/
namespace Go.Proofs.YtmelblnflalanaaGreat
open Go Go.RowKit
set_option linter.unusedVariables false
set_option linter.unusedSimpArgs false
attribute [local go_sem] min_ints max_ints

/-- Is a number a clock's? -/
def isB (n : Nat) (x : Int) : Bool := decide (1 ≤ x ∧ x ≤ n)
/-- The error of a clock that is to be set. -/
def setE (z : Option (Nat × Mat)) (c k : Int) : Int := match z with
  | none => 1
  | some (n, _) => if isB n c = true then (if 0 ≤ k ∧ k ≤ 1048576 then 0 else 13) else 12
end Go.Proofs.YtmelblnflalanaaGreat

/- Reset. -/
namespace Go.Proofs.YtmelblnflalanaaGreat
open Go Go.RowKit
set_option linter.unusedVariables false
set_option linter.unusedSimpArgs false
attribute [local go_sem] min_ints max_ints

theorem rng_forget {n : Nat} {m : Mat} (h : Rng n m) (x : Nat) (hx : x < n + 1) : ∀ p, p ≤ n + 1 → Rng n (forgetUp x m p)
  | 0, _ => h
  | p + 1, hp => by
    have h1 := rng_forget h x hx p (by omega)
    unfold forgetUp
    split
    · exact h1
    · have h2 := rng_upd h1 x p 2147483647 (by decide) (by decide)
      exact rng_upd h2 p x _ (h2 p 0 (by omega) (by omega)).1 (h2 p 0 (by omega) (by omega)).2
/-- The cells when clock c is set to k. -/
def setW (m : Mat) (n c : Nat) (k : Int) : Mat := lessM (lessM (forgetUp c m (n + 1)) c 0 (2 * k + 1)) 0 c (-2 * k + 1)
theorem rng_set {n : Nat} {m : Mat} (h : Rng n m) (c : Nat) (hc : c < n + 1) (k : Int) (k0 : 0 ≤ k) (k1 : k ≤ 1048576) : Rng n (setW m n c k) :=
  rng_less (rng_less (rng_forget h c hc _ (Nat.le_refl _)) c 0 hc (by omega) _ (by omega) (by omega)) 0 c (by omega) hc _ (by omega) (by omega)
def resetW (z : Option (Nat × Mat)) (c : Nat) (k : Int) : Mat := if emptyP z then openW z else setW (openW z) (dimN z) c k

end Go.Proofs.YtmelblnflalanaaGreat

/- Is a number a clock's, or 0? -/
namespace Go.Proofs.YtmelblnflalanaaGreat
open Go Go.RowKit
set_option linter.unusedVariables false
set_option linter.unusedSimpArgs false
attribute [local go_sem] min_ints max_ints

def anyB (n : Nat) (x : Int) : Bool := decide (0 ≤ x ∧ x ≤ n)
end Go.Proofs.YtmelblnflalanaaGreat

/- What of a zone keeps bounds. -/
namespace Go.Proofs.YtmelblnflalanaaGreat
open Go Go.RowKit
set_option linter.unusedVariables false
set_option linter.unusedSimpArgs false
attribute [local go_sem] min_ints max_ints

/-- Are a limit's numbers clocks', or 0? -/
def clkB (n : Nat) (x : Int × Int × Int) : Bool := anyB n x.1 && anyB n x.2.1
/-- Is its bound right? -/
def bdB (x : Int × Int × Int) : Bool := rightB x.2.2
/-- The error of limits. -/
def conE (n : Nat) (l : List (Int × Int × Int)) : Int := if l.all (clkB n) = true then (if l.all bdB = true then 0 else 2) else 12
/-- Cells, made stricter by the first p limits. -/
def conUp (M : Mat) (l : List (Int × Int × Int)) : Nat → Mat
  | 0 => M
  | p + 1 => lessM (conUp M l p) (l.getD p (0, 0, 0)).1.toNat (l.getD p (0, 0, 0)).2.1.toNat (l.getD p (0, 0, 0)).2.2
/-- What Constrain answers of a zone. -/
def conP (n : Nat) (M : Mat) (l : List (Int × Int × Int)) : Option Mat × Int := if conE n l = 0 then ofP n (flat n (conUp M l l.length)) else (none, conE n l)

theorem rng_con {n : Nat} {M : Mat} {l : List (Int × Int × Int)} (h : Rng n M) (hc : l.all (clkB n) = true) (hb : l.all bdB = true) : ∀ p, p ≤ l.length → Rng n (conUp M l p)
  | 0, _ => h
  | p + 1, hp => by
    have h1 := rng_con h hc hb p (by omega)
    have a := (all_getD l (clkB n) (0, 0, 0)).1 hc p (by omega)
    have b := (all_getD l bdB (0, 0, 0)).1 hb p (by omega)
    unfold clkB anyB at a
    unfold bdB rightB at b
    simp only [Bool.and_eq_true, decide_eq_true_eq] at a b
    exact rng_less h1 _ _ (by omega) (by omega) _ (by omega) (by omega)

end Go.Proofs.YtmelblnflalanaaGreat

/- What of a zone keeps bounds: plain. -/
namespace Go.Proofs.YtmelblnflalanaaGreat
set_option linter.unusedVariables false
set_option linter.unusedSimpArgs false

theorem zoneP_low {n : Nat} {M : Mat} (h : M 0 0 < 1) : zoneP n M = (some (fun _ _ => 0), 0) := by
  have hc : closed n M = none := by
    unfold closed closeP
    rw [if_neg]
    intro h'
    have h1 := h' 0 (by omega)
    have h2 := fw_le 0 n M 0 0
    omega
  unfold zoneP
  rw [hc]
theorem zero_ok (n : Nat) : OkM n (fun _ _ => 0) := ⟨right_zero n, fun _ _ => by show (0 : Int) ≤ 1; omega, fun _ _ => by show (0 : Int) ≤ 1; omega⟩
theorem clk_parts {n : Nat} {x : Int × Int × Int} (h : clkB n x = true) : (0 ≤ x.1 ∧ x.1 ≤ n) ∧ (0 ≤ x.2.1 ∧ x.2.1 ≤ n) := by
  unfold clkB anyB at h
  simpa only [Bool.and_eq_true, decide_eq_true_eq] using h
theorem OkM.con {n : Nat} {m : Mat} {l : List (Int × Int × Int)} (h : OkM n m) (hc : l.all (clkB n) = true) (hb : l.all bdB = true) : ∀ p, p ≤ l.length → OkM n (conUp m l p)
  | 0, _ => h
  | p + 1, hp => by
    have ih := h.con hc hb p (by omega)
    have a := clk_parts ((all_getD l (clkB n) (0, 0, 0)).1 hc p (by omega))
    have b := (all_getD l bdB (0, 0, 0)).1 hb p (by omega)
    exact ih.less _ _ (by omega) (by omega) _ b
theorem Agree.con {n : Nat} {m o : Mat} {l : List (Int × Int × Int)} (h : Agree n m o) (hc : l.all (clkB n) = true) : ∀ p, p ≤ l.length → Agree n (conUp m l p) (conUp o l p)
  | 0, _ => h
  | p + 1, hp => by
    have ih := h.con hc p (by omega)
    have a := clk_parts ((all_getD l (clkB n) (0, 0, 0)).1 hc p (by omega))
    exact ih.less _ _ (by omega) (by omega) _
theorem con_le (m : Mat) (l : List (Int × Int × Int)) (i j : Nat) : ∀ p, conUp m l p i j ≤ m i j
  | 0 => Int.le_refl _
  | p + 1 => by
    have ih := con_le m l i j p
    unfold conUp lessM upd
    split
    · rename_i e
      rw [e.1, e.2] at ih ⊢
      omega
    · exact ih
theorem conE_parts {n : Nat} {l : List (Int × Int × Int)} (h : conE n l = 0) : l.all (clkB n) = true ∧ l.all bdB = true := by
  unfold conE at h
  by_cases a : l.all (clkB n) = true
  · rw [if_pos a] at h
    by_cases b : l.all bdB = true
    · exact ⟨a, b⟩
    · rw [if_neg b] at h; omega
  · rw [if_neg a] at h; omega
/-- What the document's Constrain answers. -/
def conQ (n : Nat) (m : Mat) (l : List (Int × Int × Int)) : Option Mat × Int :=
  if conE n l = 0 then (if m 0 0 = 1 then zoneP n (widW (conUp m l l.length)) else (some (fun _ _ => 0), 0)) else (none, conE n l)
theorem con_same {n : Nat} {m : Mat} (hn : n ≤ 8) (h : m = (fun _ _ => 0) ∨ FullZ n m) (l : List (Int × Int × Int)) : conP n (openW (some (n, m))) l = conQ n m l := by
  unfold conP conQ
  by_cases he : conE n l = 0
  · rw [if_pos he, if_pos he]
    obtain ⟨hc, hb⟩ := conE_parts he
    have hok : OkM n m := by
      rcases h with rfl | h
      · exact zero_ok n
      · exact h.ok
    rw [flat_congr ((open_agree n m).con hc l.length (Nat.le_refl _)), ofP_wid hn (hok.con hc hb _ (Nat.le_refl _))]
    rcases h with rfl | h
    · rw [if_neg (by decide)]
      refine zoneP_low ?_
      have := con_le (fun _ _ => 0) l 0 0 l.length
      unfold widW wid
      rw [if_neg (by omega)]; omega
    · rw [if_pos (h.one 0 (by omega))]
  · rw [if_neg he, if_neg he]

end Go.Proofs.YtmelblnflalanaaGreat

/- The operations, asked of nil. -/
namespace Go.Proofs.YtmelblnflalanaaGreat
open Go Go.RowKit
set_option linter.unusedVariables false
set_option linter.unusedSimpArgs false

/-- No zone, and the error of nil. -/
def NilEnds (w : World) (e : Ending) (w' : World) : Prop := e = .returned (.tuple #[.pointer none, .int .i64 1]) ∧ Below w.heap.size w w'
end Go.Proofs.YtmelblnflalanaaGreat

/- And, Hull: nil among the zones. -/
namespace Go.Proofs.YtmelblnflalanaaGreat
open Go Go.RowKit
set_option linter.unusedVariables false
set_option linter.unusedSimpArgs false

/-- A list of addresses that can be read. -/
def Ptrs (w : World) (A : Option Addr) (vs : List Value) : Prop := ∀ j, j < vs.length → ∃ b off, A = some ⟨b, off, none⟩ ∧ w.cell? ⟨b, off + j, none⟩ = some (vs.getD j (.pointer none))
theorem Ptrs.below {w w' : World} {A : Option Addr} {vs : List Value} (h : Ptrs w A vs) (hb : Below w.heap.size w w') : Ptrs w' A vs := fun j hj => by
  obtain ⟨b, off, e, hc⟩ := h j hj
  exact ⟨b, off, e, (hb.cell (p := ⟨b, off + j, none⟩) (World.block_lt_of_cell? w _ hc)).trans hc⟩
theorem ptrs_new (w : World) (e : TypeId) (vs : List Value) : Ptrs (w.alloc (.cells vs.toArray e (0, 0))) (some ⟨w.heap.size, 0, none⟩) vs := fun j hj => by
  refine ⟨_, 0, rfl, ?_⟩
  have h1 := heap_alloc_new w (.cells vs.toArray e (0, 0))
  rw [Nat.zero_add]
  unfold World.cell?
  rw [h1]
  show vs.toArray[j]? = _
  rw [List.getElem?_toArray, List.getElem?_eq_getElem hj, List.getD_eq_getElem?_getD, List.getElem?_eq_getElem hj]
  rfl

end Go.Proofs.YtmelblnflalanaaGreat

/- What zones have in common. -/
namespace Go.Proofs.YtmelblnflalanaaGreat
open Go Go.RowKit
set_option linter.unusedVariables false
set_option linter.unusedSimpArgs false
attribute [local go_sem] min_ints max_ints

/-- Zones of k clocks, one behind the other. -/
def ZonesV (w : World) (A : Option Addr) (vs : List Value) (k : Nat) (ms : List Mat) : Prop :=
  Ptrs w A vs ∧ vs.length = ms.length ∧ ∀ j, j < ms.length → ZoneV 173 w (vs.getD j (.pointer none)) (some (k, ms.getD j fun _ _ => 0))
theorem ZonesV.below {w w' : World} {A : Option Addr} {vs : List Value} {k : Nat} {ms : List Mat} (h : ZonesV w A vs k ms) (hb : Below w.heap.size w w') : ZonesV w' A vs k ms :=
  ⟨h.1.below hb, h.2.1, fun j hj => (h.2.2 j hj).below hb⟩

/-- The strictest of both cells, in the first n + 1 rows. -/
def minF (M V : Mat) : Mat := fun a c => min (M a c) (V a c)
def minW (n : Nat) (M V : Mat) : Mat := mix (minF M V) M n (n + 1) 0
theorem minW_in {n : Nat} {M V : Mat} {a c : Nat} (ha : a ≤ n) (hc : c ≤ n) : minW n M V a c = min (M a c) (V a c) := by
  unfold minW mix
  rw [if_pos (.inl ⟨by omega, hc⟩)]; rfl
def andUp (n : Nat) (M : Mat) (ms : List Mat) : Nat → Mat
  | 0 => M
  | p + 1 => minW n (andUp n M ms p) (openW (some (n, ms.getD p fun _ _ => 0)))
theorem rng_and {n : Nat} {M : Mat} {ms : List Mat} (h : Rng n M) (hr : ∀ j, j < ms.length → RightM n (ms.getD j fun _ _ => 0)) : ∀ p, p ≤ ms.length → Rng n (andUp n M ms p)
  | 0, _ => h
  | p + 1, hp => fun i j hi hj => by
    have h1 := rng_and h hr p (by omega) i j hi hj
    have h2 := rng_open (hr p (by omega)) i j hi hj
    unfold andUp
    rw [minW_in (by omega) (by omega)]
    omega
theorem less_mix (M V : Mat) (n i j : Nat) (hj : j ≤ n) : lessM (mix (minF M V) M n i j) i j (V i j) = mix (minF M V) M n i (j + 1) := by
  unfold lessM
  rw [mix_here]
  exact mix_step _ _ _ _ _ hj

end Go.Proofs.YtmelblnflalanaaGreat

/- Does a zone include another one? -/
namespace Go.Proofs.YtmelblnflalanaaGreat
open Go.RowKit
set_option linter.unusedVariables false
set_option linter.unusedSimpArgs false

theorem empty_yes (b n : Nat) (m : Mat) (w : World) (h : MatAt w b 173 .i32 n m) (hm : m 0 0 < 1) : Calls Tryz.prog 76 #[.pointer (some ⟨b, 0, none⟩)] w fun e w' => e = .returned (.bool true) ∧ w' = w :=
  (empty_zone b n m w h).mono fun _ _ k => ⟨by rw [k.1, decide_eq_true hm], k.2.symm⟩
theorem empty_no (b n : Nat) (m : Mat) (w : World) (h : MatAt w b 173 .i32 n m) (hm : ¬ m 0 0 < 1) : Calls Tryz.prog 76 #[.pointer (some ⟨b, 0, none⟩)] w fun e w' => e = .returned (.bool false) ∧ w' = w :=
  (empty_zone b n m w h).mono fun _ _ k => ⟨by rw [k.1, decide_eq_false hm], k.2.symm⟩

/-- Is o in m? -/
def inclM (n : Nat) (m o : Mat) : Bool := decide (o 0 0 < 1 ∨ ∀ i, i ≤ n → ∀ j, j ≤ n → o i j ≤ m i j)
def inclP (z o : Option (Nat × Mat)) : Bool := match z, o with
  | some (n, m), some (k, o) => decide (n = k) && inclM n m o
  | _, _ => false

/-- What was there is there; so far no cell of o is greater. -/
def InclR (w0 : World) (n : Nat) (m o : Mat) (i j : Nat) (wr : World) : Prop :=
  Below w0.heap.size w0 wr ∧ (∀ a c, a < i ∨ (a = i ∧ c < j) → c ≤ n → o a c ≤ m a c) ∧ i ≤ n + 1 ∧ j ≤ n + 1

end Go.Proofs.YtmelblnflalanaaGreat

/- Are two zones the same? Their arrays are held against one another as wholes. -/
namespace Go.Proofs.YtmelblnflalanaaGreat
open Go Go.RowKit
set_option linter.unusedVariables false
set_option linter.unusedSimpArgs false
section
variable {P : Program}
theorem eq_loop (d : Nat) (E n : Nat) (xs ys : Array Value) (f : Nat → Bool) (L : List Nat)
    (hpart : ∀ i, i ∈ L → ∀ w, ∃ a b, (part E xs (i * n)).run P w = .ok a w ∧ (part E ys (i * n)).run P w = .ok b w ∧ (Op.equalIn d E a b).run P w = .ok (f i) w) : ∀ (w : World),
    Sem.run P (forIn L ((none, ()) : Option Bool × Unit) fun i (__s : Option Bool × Unit) => (do
            let __do_lift ← part E xs (i * n)
            let __do_lift_1 ← part E ys (i * n)
            let __do_lift ← Op.equalIn d E __do_lift __do_lift_1
            if (!__do_lift) = true then pure (ForInStep.done ((some false, ()) : Option Bool × Unit)) else pure (ForInStep.yield ((none, ()) : Option Bool × Unit)) : Sem (ForInStep (Option Bool × Unit))))
          w = .ok (if L.all f then (none, ()) else (some false, ())) w := by
  induction L with
  | nil => intro w; simp
  | cons i L ih =>
    intro w
    obtain ⟨a, b, h1, h2, h3⟩ := hpart i (by simp) w
    simp only [List.forIn_cons, Sem.run_bind, h1, h2, h3, Result.andThen_ok]
    cases hf : f i with
    | false => simp [hf]
    | true =>
      simp only [Bool.not_true, Bool.false_eq_true, if_false, Sem.run_pure, Result.andThen_ok]
      rw [ih (fun j hj => hpart j (by simp [hj])) w]
      simp [hf]
/-- Equality of arrays, element by element. -/
theorem run_eq_array (d : Nat) (T len E n : Nat) (hu : P.underlying T = some (.array len E)) (hs : ∀ w, (sizeOf E).run P w = .ok n w) (xs ys : Array Value) (f : Nat → Bool)
    (hpart : ∀ i, i < len → ∀ w, ∃ a b, (part E xs (i * n)).run P w = .ok a w ∧ (part E ys (i * n)).run P w = .ok b w ∧ (Op.equalIn d E a b).run P w = .ok (f i) w) (w : World) :
    (Op.equalIn (d + 1) T (.agg xs) (.agg ys)).run P w = .ok ((List.range len).all f) w := by
  simp only [Op.equalIn, Sem.run_bind, run_underlying hu, Result.andThen_ok, hs]
  rw [Std.Legacy.Range.forIn_eq_forIn_range']
  simp only [Std.Legacy.Range.size, Nat.sub_zero, Nat.add_sub_cancel, Nat.div_one]
  rw [← List.range_eq_range', eq_loop d E n xs ys f (List.range len) (fun i hi => hpart i (by simpa using hi)) w]
  cases h : (List.range len).all f <;> simp
theorem part_cell (E : Nat) (xs : Array Value) (o : Nat) (v : Value) (ha : ∀ w, (isAgg E).run P w = .ok false w) (hv : xs[o]? = some v) (w : World) : (part E xs o).run P w = .ok v w := by
  simp [part, ha, hv]
theorem part_row (E s : Nat) (xs : Array Value) (o : Nat) (ha : ∀ w, (isAgg E).run P w = .ok true w) (hs : ∀ w, (sizeOf E).run P w = .ok s w) (w : World) : (part E xs o).run P w = .ok (.agg (xs.extract o (o + s))) w := by
  simp [part, ha, hs]
end

/-- The 81 cells as a list. -/
def cellsOf (k : IntKind) (m : Mat) : List Value := (List.range 81).map fun p => Value.int k (m (p / 9) (p % 9))
def eqM (m o : Mat) : Bool := (List.range 9).all fun i => (List.range 9).all fun j => m i j == o i j
theorem cellsOf_get (k : IntKind) (m : Mat) (p : Nat) (hp : p < 81) : (cellsOf k m).toArray[p]? = some (.int k (m (p / 9) (p % 9))) := by
  simp [cellsOf, hp]
theorem range_mat {w : World} {b n : Nat} {T : TypeId} {k : IntKind} {m : Mat} (h : MatAt w b T k n m) : w.rangeAt b 1 (cellsOf k m) := by
  intro j v hv
  by_cases hj : j < 81
  · simp [cellsOf, hj] at hv
    subst hv
    have := h.cell (j / 9) (j % 9) (by omega) (by omega)
    have e : 1 + j / 9 * 9 + j % 9 = 1 + j := by omega
    rw [e] at this; exact this
  · simp [cellsOf, hj] at hv

theorem eq_row (d : Nat) (m o : Mat) (i : Nat) (hi : i < 9) (w : World) :
    (Op.equalIn (d + 2) 168 (.agg ((cellsOf .i32 m).toArray.extract (i * 9) (i * 9 + 9))) (.agg ((cellsOf .i32 o).toArray.extract (i * 9) (i * 9 + 9)))).run Tryz.prog w =
      .ok ((List.range 9).all fun j => m i j == o i j) w := by
  refine run_eq_array (P := Tryz.prog) (d + 1) 168 9 70 1 Tryz.underlying168 (fun w => by kernel_rfl) _ _ _ (fun j hj w => ?_) w
  have e1 : (i * 9 + j) / 9 = i := by omega
  have e2 : (i * 9 + j) % 9 = j := by omega
  refine ⟨.int .i32 (m i j), .int .i32 (o i j), ?_, ?_, ?_⟩
  · refine part_cell _ _ _ _ (fun w => by kernel_rfl) ?_ w
    rw [Array.getElem?_extract, if_pos (by simp [cellsOf]; omega), Nat.mul_one, cellsOf_get _ _ _ (by omega), e1, e2]
  · refine part_cell _ _ _ _ (fun w => by kernel_rfl) ?_ w
    rw [Array.getElem?_extract, if_pos (by simp [cellsOf]; omega), Nat.mul_one, cellsOf_get _ _ _ (by omega), e1, e2]
  · exact run_equalIn_int w d _ .i32 .i32 _ _ Tryz.underlying70
theorem eq_mat (d : Nat) (m o : Mat) (w : World) :
    (Op.equalIn (d + 3) 169 (.agg (cellsOf .i32 m).toArray) (.agg (cellsOf .i32 o).toArray)).run Tryz.prog w = .ok (eqM m o) w :=
  run_eq_array (P := Tryz.prog) (d + 2) 169 9 168 9 Tryz.underlying169 (fun w => by kernel_rfl) _ _ _ (fun i hi w =>
    ⟨_, _, part_row _ 9 _ _ (fun w => by kernel_rfl) (fun w => by kernel_rfl) w, part_row _ 9 _ _ (fun w => by kernel_rfl) (fun w => by kernel_rfl) w, eq_row d m o i hi w⟩) w

theorem load_mat {w : World} {b n : Nat} {m : Mat} (h : MatAt w b 173 .i32 n m) :
    (Instr.loadAt 169 (.pointer (some ⟨b, 1, none⟩))).run Tryz.prog w = .ok (.agg (cellsOf .i32 m).toArray) w :=
  run_loadAt_mid w b 1 _ _ _ (range_mat h) Tryz.underlying169 rfl (by simp only [cellsOf, List.length_map, List.length_range]; kernel_rfl)

theorem quiet_value {P : Program} {ops : Array Oper} {w : World} {Q : Act → Prop} {a : Act} {o : Oper} {rest : List Oper} (v : Value) (hw : Region.wanted o (yielded ops a.tmps) = true)
    (hr : ∀ q, (execOp a.eval o).run P (w.drewN q) = .ok (.value v) (w.drewN q)) (h : wpQuiet P ops (fun w' => ∃ n, w' = w.drewN n) Q rest (a.put o.dst v)) :
    wpQuiet P ops (fun w' => ∃ n, w' = w.drewN n) Q (o :: rest) a := by
  unfold wpQuiet
  rw [if_pos hw]
  refine ⟨v, fun w' hw' => ?_, h⟩
  obtain ⟨n, rfl⟩ := hw'
  unfold Oper.quietAt
  rw [hr]
  exact ⟨rfl, rfl⟩
theorem exec_load {P : Program} {a : Act} {o : Oper} {w : World} {v p : Value} (ty : TypeId) (x : Operand) (ho : o.op = .load ty x) (hx : a.eval x = p) (hl : (Instr.loadAt ty p).run P w = .ok v w) :
    (execOp a.eval o).run P w = .ok (.value v) w := by
  simp only [execOp, ho, hx, Sem.run_bind, hl, Result.andThen_ok, Sem.run_pure]

def equalP (z o : Option (Nat × Mat)) : Bool := match z, o with
  | some (n, m), some (k, o) => decide (n = k) && eqM m o
  | _, _ => false
end Go.Proofs.YtmelblnflalanaaGreat

/- The strictest of bounds. -/
namespace Go.Proofs.YtmelblnflalanaaGreat
open Go Go.RowKit
set_option linter.unusedVariables false
set_option linter.unusedSimpArgs false

attribute [local go_sem] min_ints max_ints


/-- The least of the first p, and of a number. -/
def minUp (a : Int) (l : List Int) : Nat → Int
  | 0 => a
  | p + 1 => min (minUp a l p) (l.getD p 0)

end Go.Proofs.YtmelblnflalanaaGreat

/- Have two zones a valuation in common? The strictest of bounds. -/
namespace Go.Proofs.YtmelblnflalanaaGreat
open Go Go.RowKit
set_option linter.unusedVariables false
set_option linter.unusedSimpArgs false
attribute [local go_sem] min_ints max_ints
theorem least_two {w : World} {b : Nat} {x y : Int} (h0 : w.cell? ⟨b, 0, none⟩ = some (.int .i32 x)) (h1 : w.cell? ⟨b, 1, none⟩ = some (.int .i32 y)) : Ints w .i32 (some ⟨b, 0, none⟩) [x, y] := by
  intro j hj
  refine ⟨b, 0, rfl, ?_⟩
  match j, hj with
  | 0, _ => simpa using h0
  | 1, _ => simpa using h1

/-- The strictest cells of both. -/
def minM (m o : Mat) : Mat := fun i j => min (min 2147483647 (m i j)) (o i j)
theorem minM_right {n : Nat} {m o : Mat} (h : RightM n m) (h' : RightM n o) : RightM n (minM m o) := fun i j hi hj => by
  have h1 := h i j hi hj
  have h2 := h' i j hi hj
  unfold rightB at h1 h2 ⊢
  rw [decide_eq_true_iff] at h1 h2 ⊢
  simp only [minM, Int.min_def]
  split <;> split <;> omega
/-- The wide matrix of what two have in common. -/
def meetM (n : Nat) (m o : Mat) (p : Nat) : Mat := keepUp n (flat n (minM m o)) p
theorem meetM_fit {n : Nat} {m o : Mat} (h : RightM n (minM m o)) (p : Nat) (hp : p ≤ (n + 1) * (n + 1)) : Fit n 1073741824 (meetM n m o p) := by
  refine keepUp_fit _ _ _ fun q hq => ?_
  rw [flat_getD _ _ _ (by omega)]
  have : q / (n + 1) < n + 1 := Nat.div_lt_of_lt_mul (by omega)
  have := Nat.mod_lt q (show 0 < n + 1 by omega)
  exact h _ _ (by omega) (by omega)
theorem meetM_step {n : Nat} {m o : Mat} {i j : Nat} (hi : i < n + 1) (hj : j < n + 1) : meetM n m o (i * (n + 1) + j + 1) = keepM (meetM n m o (i * (n + 1) + j)) i j (min (min 2147483647 (m i j)) (o i j)) := by
  have h := at_row (i := i) hj
  have hlt : i * (n + 1) + j < (n + 1) * (n + 1) := by
    have : i * (n + 1) ≤ n * (n + 1) := Nat.mul_le_mul_right _ (by omega)
    rw [Nat.add_mul, Nat.one_mul]; omega
  show keepM (keepUp n (flat n (minM m o)) (i * (n + 1) + j)) ((i * (n + 1) + j) / (n + 1)) ((i * (n + 1) + j) % (n + 1)) ((flat n (minM m o)).getD (i * (n + 1) + j) 0) = _
  rw [flat_getD _ _ _ hlt, h.1, h.2]; rfl

/-- The wide matrix in the first new block, so far. -/
def MeetR (w0 : World) (n : Nat) (m o : Mat) (i j : Nat) (wr : World) : Prop :=
  Below w0.heap.size w0 wr ∧ MatAt wr w0.heap.size 166 .i64 n (meetM n m o (i * (n + 1) + j)) ∧ i ≤ n + 1 ∧ j ≤ n + 1

def meetsP (z o : Option (Nat × Mat)) : Bool := match z, o with
  | some (n, m), some (k, o) => decide (n = k) && (closed n (meetM n m o ((n + 1) * (n + 1)))).isSome
  | _, _ => false
def meets1 (n : Nat) (m o : Mat) : Bool := (closed n (meetM n m o ((n + 1) * (n + 1)))).isSome

theorem meet_below {w0 wr w3 : World} {o : Obj} (h : Below w0.heap.size w0 wr) (ho : Only w0.heap.size (wr.alloc o).drew w3) : Below w0.heap.size w0 w3 :=
  ((h.alloc h.size o).drew).trans (ho.below (Nat.le_refl _) (by have := h.size; simp; omega))

end Go.Proofs.YtmelblnflalanaaGreat

/- And is Constrain by all cells: plain. -/
namespace Go.Proofs.YtmelblnflalanaaGreat
set_option linter.unusedVariables false
set_option linter.unusedSimpArgs false

theorem ofP_min {n : Nat} {m o : Mat} (hn : n ≤ 8) (hr : RightM n (minM m o)) : ofP n (flat n (minM m o)) = zoneP n (meetM n m o ((n + 1) * (n + 1))) := by
  unfold ofP
  rw [if_pos (by omega), if_pos (by rw [flat_length]; simp), if_pos (flat_right hr), flat_length, Int.toNat_natCast]
  rfl
theorem minM_cell {n : Nat} {m o : Mat} (hm : RightM n m) {i j : Nat} (hi : i ≤ n) (hj : j ≤ n) : minM m o i j = min (m i j) (o i j) := by
  have := right_hi (hm i j hi hj)
  unfold minM
  omega
theorem and_one {n : Nat} {m o : Mat} (hm : RightM n m) : Agree n (andUp n (openW (some (n, m))) [o] 1) (minM m o) := fun i j hi hj => by
  show minW n (openW (some (n, m))) (openW (some (n, o))) i j = _
  rw [minW_in hi hj, open_agree n m i j hi hj, open_agree n o i j hi hj, minM_cell hm hi hj]
theorem and_two {n : Nat} {m o : Mat} (hm : RightM n m) : Agree n (andUp n (openW (some (n, o))) [m, o] 2) (minM m o) := fun i j hi hj => by
  show minW n (minW n (openW (some (n, o))) (openW (some (n, m)))) (openW (some (n, o))) i j = _
  rw [minW_in hi hj, minW_in hi hj, open_agree n m i j hi hj, open_agree n o i j hi hj, minM_cell hm hi hj]
  omega

/-- All cells, as limits, from the last row on. -/
def rowL (o : Mat) (i q : Nat) : List (Int × Int × Int) := (List.range q).map fun (j : Nat) => ((i : Int), (j : Int), o i j)
def allL (n : Nat) (o : Mat) : Nat → List (Int × Int × Int)
  | 0 => []
  | p + 1 => allL n o p ++ rowL o (n - p) (n + 1)
theorem rowL_next (o : Mat) (i q : Nat) : rowL o i (q + 1) = rowL o i q ++ [((i : Int), (q : Int), o i q)] := by simp [rowL, List.range_succ]
theorem rowL_length (o : Mat) (i q : Nat) : (rowL o i q).length = q := by simp [rowL]
theorem allL_length (n : Nat) (o : Mat) : ∀ p, (allL n o p).length = p * (n + 1)
  | 0 => by simp [allL]
  | p + 1 => by rw [allL, List.length_append, allL_length n o p, rowL_length, Nat.add_mul, Nat.one_mul]
theorem allL_is (n : Nat) (o : Mat) : ∀ p x, x ∈ allL n o p → ∃ i j : Nat, i ≤ n ∧ j ≤ n ∧ x = ((i : Int), (j : Int), o i j)
  | 0, x, h => by simp [allL] at h
  | p + 1, x, h => by
    rw [allL, List.mem_append] at h
    rcases h with h | h
    · exact allL_is n o p x h
    · simp only [rowL, List.mem_map, List.mem_range] at h
      obtain ⟨j, hj, e⟩ := h
      exact ⟨n - p, j, by omega, by omega, e.symm⟩
theorem allL_mem (n : Nat) (o : Mat) (i j : Nat) (hi : i ≤ n) (hj : j ≤ n) : ∀ p, n - i < p → ((i : Int), (j : Int), o i j) ∈ allL n o p
  | 0, h => by omega
  | p + 1, h => by
    rw [allL, List.mem_append]
    by_cases e : n - i = p
    · right
      have : n - p = i := by omega
      rw [this]
      exact List.mem_map.2 ⟨j, List.mem_range.2 (by omega), rfl⟩
    · left; exact allL_mem n o i j hi hj p (by omega)
theorem allL_conE {n : Nat} {o : Mat} (ho : RightM n o) (p : Nat) : (allL n o p).all (clkB n) = true ∧ (allL n o p).all bdB = true := by
  refine ⟨List.all_eq_true.2 fun x hx => ?_, List.all_eq_true.2 fun x hx => ?_⟩
  · obtain ⟨i, j, hi, hj, rfl⟩ := allL_is n o p x hx
    unfold clkB anyB
    simp only [Bool.and_eq_true, decide_eq_true_eq]
    omega
  · obtain ⟨i, j, hi, hj, rfl⟩ := allL_is n o p x hx
    exact ho i j hi hj
theorem con_hit {M o : Mat} {l : List (Int × Int × Int)} (hx : ∀ q, q < l.length → (l.getD q (0, 0, 0)).2.2 = o (l.getD q (0, 0, 0)).1.toNat (l.getD q (0, 0, 0)).2.1.toNat) (i j : Nat) : ∀ p, p ≤ l.length →
    (conUp M l p i j = M i j ∧ ∀ q, q < p → ¬ (i = (l.getD q (0, 0, 0)).1.toNat ∧ j = (l.getD q (0, 0, 0)).2.1.toNat)) ∨ conUp M l p i j = min (M i j) (o i j)
  | 0, _ => .inl ⟨rfl, fun q hq => by omega⟩
  | p + 1, hp => by
    have ih := con_hit (M := M) hx i j p (by omega)
    unfold conUp lessM upd
    by_cases e : i = (l.getD p (0, 0, 0)).1.toNat ∧ j = (l.getD p (0, 0, 0)).2.1.toNat
    · rw [if_pos e, hx p (by omega), ← e.1, ← e.2]
      right
      rcases ih with ⟨h, _⟩ | h
      · rw [h]
      · rw [h]; omega
    · rw [if_neg e]
      rcases ih with ⟨h, h2⟩ | h
      · refine .inl ⟨h, fun q hq => ?_⟩
        by_cases e2 : q = p
        · subst e2; exact e
        · exact h2 q (by omega)
      · exact .inr h
theorem con_all {n : Nat} {m o : Mat} (hm : RightM n m) : Agree n (conUp (openW (some (n, m))) (allL n o (n + 1)) (allL n o (n + 1)).length) (minM m o) := fun i j hi hj => by
  have hx : ∀ q, q < (allL n o (n + 1)).length → ((allL n o (n + 1)).getD q (0, 0, 0)).2.2 = o ((allL n o (n + 1)).getD q (0, 0, 0)).1.toNat ((allL n o (n + 1)).getD q (0, 0, 0)).2.1.toNat := fun q hq => by
    have hm : (allL n o (n + 1)).getD q (0, 0, 0) ∈ allL n o (n + 1) := by
      rw [List.getD_eq_getElem?_getD, List.getElem?_eq_getElem hq]; exact List.getElem_mem hq
    obtain ⟨a, b, _, _, e⟩ := allL_is n o _ _ hm
    rw [e]; simp
  rcases con_hit (M := openW (some (n, m))) hx i j _ (Nat.le_refl _) with ⟨_, h⟩ | h
  · obtain ⟨q, hq, e⟩ := List.getElem_of_mem (allL_mem n o i j hi hj (n + 1) (by omega))
    refine absurd ?_ (h q hq)
    rw [List.getD_eq_getElem?_getD, List.getElem?_eq_getElem hq, e]
    simp
  · rw [h, open_agree n m i j hi hj, minM_cell hm hi hj]
theorem con_cells {n : Nat} {m o : Mat} (hn : n ≤ 8) (hm : RightM n m) (ho : RightM n o) : conP n (openW (some (n, m))) (allL n o (n + 1)) = zoneP n (meetM n m o ((n + 1) * (n + 1))) := by
  have h := allL_conE ho (n + 1)
  unfold conP conE
  rw [h.1, h.2, if_pos rfl, if_pos rfl, if_pos rfl, flat_congr (con_all hm), ofP_min hn (minM_right hm ho)]

theorem zoneP_cases (n : Nat) (M : Mat) : (∃ a, zoneP n M = (some a, 0)) ∨ zoneP n M = (none, 10) := by
  unfold zoneP
  split
  · exact .inl ⟨_, rfl⟩
  · split
    · exact .inl ⟨_, rfl⟩
    · exact .inr rfl
theorem eqM_self (a : Mat) : eqM a a = true := by unfold eqM; simp
/-- What two have in common is in both; it is empty just if they do not meet. -/
theorem meet_zone {n : Nat} {m o a : Mat} {e : Int} (hn : n ≤ 8) (hm : RightM n m) (ho : RightM n o) (h : zoneP n (meetM n m o ((n + 1) * (n + 1))) = (some a, e)) :
    inclM n m a = true ∧ inclM n o a = true ∧ decide (a 0 0 < 1) = !meets1 n m o := by
  have hr := minM_right hm ho
  have hf := meetM_fit hr ((n + 1) * (n + 1)) (Nat.le_refl _)
  have h1 : (zoneP n (meetM n m o ((n + 1) * (n + 1)))).1 = some a := by rw [h]
  rcases zoneP_is hn hf h1 with ⟨ha, hc⟩ | ⟨m', hc, ha, hz, hcl⟩
  · subst ha
    refine ⟨decide_eq_true (.inl (by decide)), decide_eq_true (.inl (by decide)), ?_⟩
    unfold meets1
    rw [hc]; rfl
  · have h00 : a 0 0 = 1 := by
      rw [hz]
      unfold narM nar
      rw [if_pos ⟨by omega, by omega⟩, hcl.one 0 (by omega), if_neg (by decide)]
    have hcell : ∀ i j, i ≤ n → j ≤ n → a i j ≤ m i j ∧ a i j ≤ o i j := fun i j hi hj => by
      have e1 : a i j = nar (m' i j) := by rw [hz]; unfold narM; rw [if_pos ⟨hi, hj⟩]
      have e2 := hcl.le i j
      have e3 : meetM n m o ((n + 1) * (n + 1)) i j ≤ wid (minM m o i j) := by
        unfold meetM
        rw [keepUp_cell n (flat n (minM m o)) i j hi hj (fun q hq => by
          have := (all_getD _ rightB 0).1 (flat_right hr) q (by rw [flat_length]; exact hq)
          exact this) _ (Nat.le_refl _), if_pos (at_lt (by omega) (by omega)), flat_at _ (by omega) (by omega)]
        split <;> omega
      have e4 := minM_cell (o := o) hm hi hj
      have r1 := right_hi (hm i j hi hj)
      have r2 := right_hi (ho i j hi hj)
      have r3 := ha i hi j hj
      have b1 := hm i j hi hj
      have b2 := ho i j hi hj
      rw [e4] at e3
      unfold rightB at b1 b2
      simp only [decide_eq_true_eq] at b1 b2
      rw [e1]
      unfold inR at r3
      unfold wid at e3
      unfold nar
      unfold none62 at *
      split at e3 <;> split <;> omega
    refine ⟨decide_eq_true (.inr fun i hi j hj => (hcell i j hi hj).1), decide_eq_true (.inr fun i hi j hj => (hcell i j hi hj).2), ?_⟩
    unfold meets1
    rw [hc, decide_eq_false (by omega)]; rfl

end Go.Proofs.YtmelblnflalanaaGreat

/- The least zone that includes some. -/
namespace Go.Proofs.YtmelblnflalanaaGreat
open Go Go.RowKit
set_option linter.unusedVariables false
set_option linter.unusedSimpArgs false
attribute [local go_sem] min_ints max_ints

theorem infoPZ : (Tryz.prog.info? 75).map (fun i => (i.zero, i.size, i.bytes)) = some (some (.pointer none), 1, 8) := by kernel_rfl
/-- What a row of the call's own of addresses holds. -/
theorem own_ptrs {w : World} {base : Nat} {e : TypeId} {v : Value} {vs : List Value} (h : w.ownsRow base e 1 v vs.length vs) : ∃ A cap, v = .slice A vs.length cap ∧ Ptrs w A vs := by
  obtain ⟨hl, h⟩ := h
  rcases h with ⟨rfl, h0⟩ | ⟨g, cap, cur, rfl, _, h1, _, _, _, h2⟩
  · refine ⟨none, 0, by rw [h0], fun j hj => by omega⟩
  · refine ⟨some ⟨g, 0, none⟩, cap, rfl, fun j hj => ⟨g, 0, rfl, ?_⟩⟩
    have e1 : cur.toList[j]? = vs[j]? := by rw [← h2, List.getElem?_take, if_pos (by omega)]
    rw [Nat.zero_add, World.cell?, h1]
    simp only [Option.isSome_none, Bool.false_eq_true, if_false]
    rw [← Array.getElem?_toList, e1, List.getD_eq_getElem?_getD, List.getElem?_eq_getElem hj]
    rfl
/-- The widest of both cells, in the first n + 1 rows. -/
def maxF (M V : Mat) : Mat := fun a c => max (M a c) (V a c)
def maxW (n : Nat) (M V : Mat) : Mat := mix (maxF M V) M n (n + 1) 0
theorem maxW_in {n : Nat} {M V : Mat} {a c : Nat} (ha : a ≤ n) (hc : c ≤ n) : maxW n M V a c = max (M a c) (V a c) := by
  unfold maxW mix
  rw [if_pos (.inl ⟨by omega, hc⟩)]; rfl
/-- The hull of the first p zones; none: so far all are empty. -/
def hullUp (n : Nat) (ms : List Mat) : Nat → Option Mat
  | 0 => none
  | p + 1 => if (ms.getD p fun _ _ => 0) 0 0 < 1 then hullUp n ms p else match hullUp n ms p with
    | none => some (openW (some (n, ms.getD p fun _ _ => 0)))
    | some H => some (maxW n H (openW (some (n, ms.getD p fun _ _ => 0))))
/-- What Hull answers. -/
def hullA (n : Nat) (m : Mat) (ms : List Mat) : Option Mat × Int := match hullUp n (m :: ms) (m :: ms).length with
  | none => ofP n (flat n (openW (some (n, m))))
  | some H => ofP n (flat n H)
theorem hullUp_skip {n p : Nat} {ms : List Mat} {m : Mat} (hm : (ms.getD p fun _ _ => 0) = m) (h : m 0 0 < 1) : hullUp n ms (p + 1) = hullUp n ms p := by rw [hullUp, hm, if_pos h]
theorem hullUp_first {n p : Nat} {ms : List Mat} {m : Mat} (hm : (ms.getD p fun _ _ => 0) = m) (h : ¬ m 0 0 < 1) (hn : hullUp n ms p = none) : hullUp n ms (p + 1) = some (openW (some (n, m))) := by rw [hullUp, hm, if_neg h, hn]
theorem hullUp_more {n p : Nat} {ms : List Mat} {m H : Mat} (hm : (ms.getD p fun _ _ => 0) = m) (h : ¬ m 0 0 < 1) (hn : hullUp n ms p = some H) : hullUp n ms (p + 1) = some (maxW n H (openW (some (n, m)))) := by rw [hullUp, hm, if_neg h, hn]
theorem rng_hull {n : Nat} {ms : List Mat} (hr : ∀ j, j < ms.length → RightM n (ms.getD j fun _ _ => 0)) : ∀ p, p ≤ ms.length → ∀ H, hullUp n ms p = some H → Rng n H
  | 0, _, H, h => by cases h
  | p + 1, hp, H, h => by
    have h2 := rng_open (hr p (by omega))
    unfold hullUp at h
    split at h
    · exact rng_hull hr p (by omega) H h
    · split at h
      · simp only [Option.some.injEq] at h; subst h; exact h2
      · rename_i H' he
        simp only [Option.some.injEq] at h
        subst h
        intro i j hi hj
        have a1 := rng_hull hr p (by omega) H' he i j hi hj
        have a2 := h2 i j hi hj
        rw [maxW_in (by omega) (by omega)]
        omega
end Go.Proofs.YtmelblnflalanaaGreat

/- The hull of zones: plain. -/
namespace Go.Proofs.YtmelblnflalanaaGreat
set_option linter.unusedVariables false
set_option linter.unusedSimpArgs false

/-- The zone is not empty, and its cells are the strictest. -/
structure ClosedZ (n : Nat) (m : Mat) : Prop where
  full : FullZ n m
  tri : Tri n (widW m) (n + 1)
theorem closed_of {n : Nat} {M m' : Mat} (h0 : ∀ j, j ≤ n → M 0 j ≤ 1) (ha : allR n m') (hc : Closed n M m') : ClosedZ n (narM n m') := by
  have hcell : ∀ i j, i ≤ n → j ≤ n → widW (narM n m') i j = m' i j := fun i j hi hj => by
    unfold widW narM
    rw [if_pos ⟨hi, hj⟩]
    exact wid_nar (ha i hi j hj)
  refine ⟨full_of h0 ha hc, fun l hl i j hi hj => ?_⟩
  rw [hcell i j hi hj, hcell i l hi (by omega), hcell l j (by omega) hj]
  exact hc.tri l hl i j hi hj
/-- A zone that Of made is empty, or closed. -/
theorem zone_closed {n : Int} {cells : List Int} {k : Nat} {m : Mat} (e : zOf n cells = some (k, m)) : m = (fun _ _ => 0) ∨ ClosedZ k m := by
  unfold zOf at e
  cases hz : (ofP n cells).1 with
  | none => rw [hz] at e; cases e
  | some m0 =>
    rw [hz] at e
    simp only [Option.map_some, Option.some.injEq, Prod.mk.injEq] at e
    obtain ⟨e1, e2⟩ := e
    subst e2
    unfold ofP at hz
    split at hz
    · rename_i hn
      split at hz
      · rename_i hl
        split at hz
        · rename_i hr
          obtain ⟨q, rfl⟩ : ∃ q : Nat, n = q := ⟨n.toNat, by omega⟩
          rw [Int.toNat_natCast] at hz e1
          subst e1
          have hl' : cells.length = (q + 1) * (q + 1) := by exact_mod_cast hl
          have hr' : ∀ p, p < (q + 1) * (q + 1) → rightB (cells.getD p 0) = true := fun p hp => (all_getD cells rightB 0).1 hr p (by omega)
          rw [hl'] at hz
          rcases zoneP_is (by omega) (keepUp_fit q cells _ hr') hz with ⟨h, _⟩ | ⟨m', hm, ha, hzz, hc⟩
          · exact .inl h
          · right; rw [hzz]; exact closed_of (keepUp_top4 hr') ha hc
        · cases hz
      · cases hz
    · cases hz
theorem wid_max {x y : Int} (hx : x ≤ 2147483647) (hy : y ≤ 2147483647) : wid (max x y) = max (wid x) (wid y) := by
  unfold wid none62
  rw [Int.max_def, Int.max_def]
  split <;> split <;> split <;> (try split) <;> omega
theorem right_fb {x : Int} (h : rightB x = true) : FB (wid x) := by
  unfold wid
  split
  · exact .inl rfl
  · rename_i e
    have := rightB_bd h e
    exact .inr (by omega)
theorem right_max {x y : Int} (hx : rightB x = true) (hy : rightB y = true) : rightB (max x y) = true := by
  rw [Int.max_def]; split <;> assumption
theorem ClosedZ.congr {n : Nat} {a b : Mat} (h : ClosedZ n a) (hab : Agree n a b) : ClosedZ n b := by
  refine ⟨⟨fun i j hi hj => ?_, fun i hi => ?_, fun j hj => ?_⟩, fun l hl i j hi hj => ?_⟩
  · rw [← hab i j hi hj]; exact h.full.right i j hi hj
  · rw [← hab i i hi hi]; exact h.full.one i hi
  · rw [← hab 0 j (by omega) hj]; exact h.full.top j hj
  · have := h.tri l hl i j hi hj
    unfold widW at this ⊢
    rw [hab i j hi hj, hab i l hi (by omega), hab l j (by omega) hj] at this
    exact this
theorem ClosedZ.join {n : Nat} {a b : Mat} (h : ClosedZ n a) (h' : ClosedZ n b) : ClosedZ n (maxF a b) := by
  refine ⟨⟨fun i j hi hj => right_max (h.full.right i j hi hj) (h'.full.right i j hi hj), fun i hi => ?_, fun j hj => ?_⟩, fun l hl i j hi hj => ?_⟩
  · show max (a i i) (b i i) = 1
    rw [h.full.one i hi, h'.full.one i hi]; rfl
  · show max (a 0 j) (b 0 j) ≤ 1
    have := h.full.top j hj
    have := h'.full.top j hj
    omega
  · have hcell : ∀ p q, p ≤ n → q ≤ n → widW (maxF a b) p q = max (widW a p q) (widW b p q) := fun p q hp hq =>
      wid_max (right_hi (h.full.right p q hp hq)).2 (right_hi (h'.full.right p q hp hq)).2
    have hl' : l ≤ n := by omega
    rw [hcell i j hi hj, hcell i l hi hl', hcell l j hl' hj]
    have t1 := h.tri l hl i j hi hj
    have t2 := h'.tri l hl i j hi hj
    have f1 : FB (widW a i l) := right_fb (h.full.right i l hi hl')
    have f2 : FB (widW a l j) := right_fb (h.full.right l j hl' hj)
    have f3 : FB (widW b i l) := right_fb (h'.full.right i l hi hl')
    have f4 : FB (widW b l j) := right_fb (h'.full.right l j hl' hj)
    have g1 : FB (Max.max (widW a i l) (widW b i l)) := by rw [Int.max_def]; split <;> assumption
    have g2 : FB (Max.max (widW a l j) (widW b l j)) := by rw [Int.max_def]; split <;> assumption
    have m1 := wsum_le f1 g1 f2 g2 (by omega) (by omega)
    have m2 := wsum_le f3 g1 f4 g2 (by omega) (by omega)
    omega
theorem ofP_closed {n : Nat} {H : Mat} (hn : n ≤ 8) (h : ClosedZ n H) : ofP n (flat n H) = (some (narM n (widW H)), 0) ∧ ∀ i j, i ≤ n → j ≤ n → narM n (widW H) i j = H i j := by
  have hall : allR n (widW H) := fun i hi j hj => by
    have := h.full.right i j hi hj
    unfold rightB at this
    have := of_decide_eq_true this
    unfold widW wid inR none62
    split <;> omega
  constructor
  · rw [ofP_wid hn h.full.ok]
    unfold zoneP
    rw [closed_id h.tri (fun i hi => by unfold widW; rw [h.full.one i hi]; decide)]
    simp only
    rw [if_pos hall]
  · intro i j hi hj
    have := right_hi (h.full.right i j hi hj)
    unfold narM nar widW wid none62
    rw [if_pos ⟨hi, hj⟩]
    split <;> split <;> omega
/-- What is known of the hull of the first p. -/
def HullInv (n : Nat) (ms : List Mat) (p : Nat) : Option Mat → Prop
  | none => ∀ q, q < p → (ms.getD q fun _ _ => 0) 0 0 < 1
  | some H => ClosedZ n H ∧ (∀ q, q < p → (ms.getD q fun _ _ => 0) 0 0 < 1 ∨ ∀ i, i ≤ n → ∀ j, j ≤ n → (ms.getD q fun _ _ => 0) i j ≤ H i j) ∧
    ∀ o : Mat, (∀ q, q < p → (ms.getD q fun _ _ => 0) 0 0 < 1 ∨ ∀ i, i ≤ n → ∀ j, j ≤ n → (ms.getD q fun _ _ => 0) i j ≤ o i j) → ∀ i, i ≤ n → ∀ j, j ≤ n → H i j ≤ o i j
theorem hull_inv {n : Nat} {ms : List Mat} (hk : ∀ j, j < ms.length → (ms.getD j fun _ _ => 0) = (fun _ _ => 0) ∨ ClosedZ n (ms.getD j fun _ _ => 0)) : ∀ p, p ≤ ms.length → HullInv n ms p (hullUp n ms p)
  | 0, _ => fun q hq => by omega
  | p + 1, hp => by
    have ih := hull_inv hk p (by omega)
    have hkp := hk p (by omega)
    obtain ⟨m, hm⟩ : ∃ m, (ms.getD p fun _ _ => 0) = m := ⟨_, rfl⟩
    rw [hm] at hkp
    by_cases he : m 0 0 < 1
    · rw [hullUp_skip hm he]
      cases hu : hullUp n ms p with
      | none =>
        rw [hu] at ih
        intro q hq
        by_cases e : q = p
        · subst e; rw [hm]; exact he
        · exact ih q (by omega)
      | some H =>
        rw [hu] at ih
        obtain ⟨h1, h2, h3⟩ := ih
        refine ⟨h1, fun q hq => ?_, fun o ho => h3 o fun q hq => ho q (by omega)⟩
        by_cases e : q = p
        · subst e; rw [hm]; exact .inl he
        · exact h2 q (by omega)
    · have hcl : ClosedZ n m := by
        rcases hkp with rfl | h
        · exact absurd (by decide) he
        · exact h
      have hag := open_agree n m
      cases hu : hullUp n ms p with
      | none =>
        rw [hullUp_first hm he hu]
        rw [hu] at ih
        refine ⟨hcl.congr fun i j hi hj => (hag i j hi hj).symm, fun q hq => ?_, fun o ho i hi j hj => ?_⟩
        · by_cases e : q = p
          · subst e; rw [hm]; exact .inr fun i hi j hj => by rw [hag i j hi hj]; exact Int.le_refl _
          · exact .inl (ih q (by omega))
        · rw [hag i j hi hj]
          rcases ho p (by omega) with h | h
          · rw [hm] at h; exact absurd h he
          · rw [hm] at h; exact h i hi j hj
      | some H =>
        rw [hullUp_more hm he hu]
        rw [hu] at ih
        obtain ⟨h1, h2, h3⟩ := ih
        have hmx : Agree n (maxF H m) (maxW n H (openW (some (n, m)))) := fun i j hi hj => by
          rw [maxW_in hi hj, hag i j hi hj]; rfl
        refine ⟨(h1.join hcl).congr hmx, fun q hq => ?_, fun o ho i hi j hj => ?_⟩
        · by_cases e : q = p
          · subst e; rw [hm]
            refine .inr fun i hi j hj => ?_
            rw [← hmx i j hi hj]
            show m i j ≤ max (H i j) (m i j)
            omega
          · rcases h2 q (by omega) with h | h
            · exact .inl h
            · refine .inr fun i hi j hj => ?_
              have := h i hi j hj
              rw [← hmx i j hi hj]
              show _ ≤ max (H i j) (m i j)
              omega
        · rw [← hmx i j hi hj]
          show max (H i j) (m i j) ≤ _
          have a1 := h3 o (fun q hq => ho q (by omega)) i hi j hj
          rcases ho p (by omega) with h | h
          · rw [hm] at h; exact absurd h he
          · rw [hm] at h
            have a2 := h i hi j hj
            omega
/-- The hull includes all, and each zone that includes all includes it. -/
theorem hull_law {n : Nat} {m : Mat} {ms : List Mat} (hn : n ≤ 8) (hk : ∀ j, j < (m :: ms).length → ((m :: ms).getD j fun _ _ => 0) = (fun _ _ => 0) ∨ ClosedZ n ((m :: ms).getD j fun _ _ => 0)) :
    ∃ h, hullA n m ms = (some h, 0) ∧ (∀ q, q < (m :: ms).length → inclM n h ((m :: ms).getD q fun _ _ => 0) = true) ∧ ∀ o, (∀ q, q < (m :: ms).length → inclM n o ((m :: ms).getD q fun _ _ => 0) = true) → inclM n o h = true := by
  have hi := hull_inv hk (m :: ms).length (Nat.le_refl _)
  unfold hullA
  cases hu : hullUp n (m :: ms) (m :: ms).length with
  | none =>
    rw [hu] at hi
    have h0 := hi 0 (by simp)
    have hm : m = (fun _ _ => 0) := by
      rcases hk 0 (by simp) with h | h
      · exact h
      · have := h.full.one 0 (by omega); rw [this] at h0; omega
    subst hm
    refine ⟨fun _ _ => 0, ofP_zero n hn, fun q hq => decide_eq_true (.inl (hi q hq)), fun o _ => decide_eq_true (.inl (by decide))⟩
  | some H =>
    rw [hu] at hi
    obtain ⟨h1, h2, h3⟩ := hi
    obtain ⟨e1, e2⟩ := ofP_closed hn h1
    refine ⟨_, e1, fun q hq => decide_eq_true ?_, fun o ho => decide_eq_true (.inr fun i hi j hj => ?_)⟩
    · rcases h2 q hq with h | h
      · exact .inl h
      · exact .inr fun i hi j hj => by rw [e2 i j hi hj]; exact h i hi j hj
    · rw [e2 i j hi hj]
      exact h3 o (fun q hq => of_decide_eq_true (ho q hq)) i hi j hj

end Go.Proofs.YtmelblnflalanaaGreat

/- The closed form is the greatest closed one below; time that passes twice: plain. -/
namespace Go.Proofs.YtmelblnflalanaaGreat
set_option linter.unusedVariables false
set_option linter.unusedSimpArgs false

theorem fw_ge {n k : Nat} {m E : Mat} (hk : k ≤ n) (hE : ∀ i j, i ≤ n → j ≤ n → FB (E i j)) (hm : ∀ i j, i ≤ n → j ≤ n → FB (m i j)) (ht : Tri n E (n + 1)) (hle : ∀ i j, i ≤ n → j ≤ n → E i j ≤ m i j) :
    ∀ i j, i ≤ n → j ≤ n → E i j ≤ fw k n m i j := fun i j hi hj => by
  have h1 := hle i j hi hj
  have h2 := ht k (by omega) i j hi hj
  have h3 := wsum_le (hE i k hi hk) (hm i k hi hk) (hE k j hk hj) (hm k j hk hj) (hle i k hi hk) (hle k j hk hj)
  unfold fw
  rw [if_pos ⟨hi, hj⟩]
  omega
theorem closeP_ge {n : Nat} (hn : n ≤ 8) {E : Mat} (hE : ∀ i j, i ≤ n → j ≤ n → FB (E i j)) (ht : Tri n E (n + 1)) (h1 : ∀ i, i ≤ n → E i i = 1) :
    ∀ s k m, k + s = n + 1 → Fit n (1073741824 * 4 ^ k) m → (∀ i j, i ≤ n → j ≤ n → E i j ≤ m i j) → ∃ m', closeP n s k m = some m' ∧ ∀ i j, i ≤ n → j ≤ n → E i j ≤ m' i j
  | 0, k, m, _, _, h => ⟨m, rfl, h⟩
  | s + 1, k, m, hk, hf, h => by
    have hg := fw_ge (show k ≤ n by omega) hE (fun i j hi hj => half_fb (fit_bd hf (by omega) i j hi hj)) ht h
    unfold closeP
    rw [if_pos (fun i hi => by have := hg i i hi hi; rw [h1 i hi] at this; exact this)]
    exact closeP_ge hn hE ht h1 s (k + 1) _ (by omega) (fit_next hf (by omega)) hg
/-- What is closed, and below, is below the closed form; and there is one. -/
theorem closed_ge {n : Nat} (hn : n ≤ 8) {E M : Mat} (hE : ∀ i j, i ≤ n → j ≤ n → FB (E i j)) (ht : Tri n E (n + 1)) (h1 : ∀ i, i ≤ n → E i i = 1) (hf : Fit n 1073741824 M) (hle : ∀ i j, i ≤ n → j ≤ n → E i j ≤ M i j) :
    ∃ m', closed n M = some m' ∧ ∀ i j, i ≤ n → j ≤ n → E i j ≤ m' i j := closeP_ge hn hE ht h1 (n + 1) 0 M (by omega) (by simpa using hf) hle

theorem wid_cases {a : Int} (h : rightB a = true) : (a = 2147483647 ∧ wid a = none62) ∨ (a ≠ 2147483647 ∧ wid a = a ∧ -536870912 ≤ a ∧ a ≤ 536870913) := by
  by_cases e : a = 2147483647
  · exact .inl ⟨e, by unfold wid; rw [if_pos e]⟩
  · have := rightB_bd h e
    exact .inr ⟨e, by unfold wid; rw [if_neg e], this.1, this.2⟩
theorem wid_le {a b : Int} (ha : rightB a = true) (hb : rightB b = true) : wid a ≤ wid b ↔ a ≤ b := by
  rcases wid_cases ha with ⟨h1, h2⟩ | ⟨h1, h2, h3, h4⟩ <;> rcases wid_cases hb with ⟨h5, h6⟩ | ⟨h5, h6, h7, h8⟩ <;> rw [h2, h6] <;> unfold none62 <;> omega
/-- What Of tells of cells that may be. -/
inductive OfIs (n : Nat) (X : Mat) : Option Mat × Int → Prop
  | empty (h : closed n (widW X) = none) : OfIs n X (some (fun _ _ => 0), 0)
  | full (C Y : Mat) (h : closed n (widW X) = some C) (hc : Closed n (widW X) C) (hy : ClosedZ n Y) (he : ∀ i j, i ≤ n → j ≤ n → widW Y i j = C i j) (hle : ∀ i j, i ≤ n → j ≤ n → Y i j ≤ X i j) : OfIs n X (some Y, 0)
  | over (C : Mat) (h : closed n (widW X) = some C) (hc : Closed n (widW X) C) : OfIs n X (none, 10)
theorem of_is {n : Nat} {X : Mat} (hn : n ≤ 8) (h : OkM n X) : OfIs n X (ofP n (flat n X)) := by
  rw [ofP_wid hn h]
  unfold zoneP
  cases hc : closed n (widW X) with
  | none => exact .empty hc
  | some C =>
    have hcl := closed_closed hn h.fit hc
    simp only
    by_cases ha : allR n C
    · rw [if_pos ha]
      have hz := closed_of h.wtop ha hcl
      have he : ∀ i j, i ≤ n → j ≤ n → widW (narM n C) i j = C i j := fun i j hi hj => by
        unfold widW narM
        rw [if_pos ⟨hi, hj⟩]
        exact wid_nar (ha i hi j hj)
      refine .full C _ hc hcl hz he fun i j hi hj => ?_
      refine (wid_le (hz.full.right i j hi hj) (h.right i j hi hj)).1 ?_
      have h1 := he i j hi hj
      have h2 := hcl.le i j
      unfold widW at h1 h2
      omega
    · rw [if_neg ha]
      exact .over C hc hcl
theorem nar_agree {n : Nat} {U : Mat} (hn : n ≤ 8) (h : ClosedZ n U) : Agree n (narM n (widW U)) U := fun i j hi hj => (ofP_closed hn h).2 i j hi hj
theorem nar_closed {n : Nat} {U : Mat} (hn : n ≤ 8) (h : ClosedZ n U) : ClosedZ n (narM n (widW U)) := h.congr fun i j hi hj => (nar_agree hn h i j hi hj).symm
/-- Of cells that are, in range, a closed zone's. -/
theorem of_same {n : Nat} {X U : Mat} (hn : n ≤ 8) (h : ClosedZ n U) (ha : Agree n X U) : ofP n (flat n X) = (some (narM n (widW U)), 0) := by
  rw [flat_congr ha]; exact (ofP_closed hn h).1
theorem nar_same {n : Nat} {U V : Mat} (h : Agree n U V) : narM n (widW U) = narM n (widW V) := narM_agree fun i j hi hj => by unfold widW; rw [h i j hi hj]
theorem ClosedZ.notEmpty {n : Nat} {m : Mat} (h : ClosedZ n m) : emptyP (some (n, m)) = false := decide_eq_false (by rw [h.full.one 0 (Nat.zero_le _)]; omega)
theorem ClosedZ.fb {n : Nat} {m : Mat} (h : ClosedZ n m) {i j : Nat} (hi : i ≤ n) (hj : j ≤ n) : FB (widW m i j) := right_fb (h.full.right i j hi hj)
theorem ClosedZ.wone {n : Nat} {m : Mat} (h : ClosedZ n m) {i : Nat} (hi : i ≤ n) : widW m i i = 1 := by unfold widW; rw [h.full.one i hi]; decide
theorem ClosedZ.wtop {n : Nat} {m : Mat} (h : ClosedZ n m) {j : Nat} (hj : j ≤ n) : widW m 0 j ≤ 1 := h.full.ok.wtop j hj
/-- What is no stricter than a step back to the zero clock. -/
theorem ClosedZ.to0 {n : Nat} {m : Mat} (h : ClosedZ n m) {i j : Nat} (hi : i ≤ n) (hj : j ≤ n) : widW m i j ≤ widW m i 0 := by
  have h1 := h.tri 0 (by omega) i j hi hj
  have h2 := wsum_le (h.fb hi (Nat.zero_le _)) (h.fb hi (Nat.zero_le _)) (h.fb (Nat.zero_le _) hj) (b' := 1) (.inr (by omega)) (Int.le_refl _) (h.wtop hj)
  rw [wsum_one_right] at h2
  omega
theorem ClosedZ.from0 {n : Nat} {m : Mat} (h : ClosedZ n m) {i j : Nat} (hi : i ≤ n) (hj : j ≤ n) : widW m 0 j ≤ widW m i j := by
  have h1 := h.tri i (by omega) 0 j (Nat.zero_le _) hj
  have h2 := wsum_le (h.fb (Nat.zero_le _) hi) (a' := 1) (.inr (by omega)) (h.fb hi hj) (h.fb hi hj) (h.wtop hi) (Int.le_refl _)
  rw [wsum_one_left] at h2
  omega
theorem ClosedZ.col0 {n : Nat} {m : Mat} (h : ClosedZ n m) {i : Nat} (hi : i ≤ n) : 1 ≤ widW m i 0 := by
  have := h.to0 hi hi
  rw [h.wone hi] at this
  exact this

/-! ### Up -/
def upM (m : Mat) : Mat := fun i j => if j = 0 ∧ i ≠ 0 then 2147483647 else m i j
theorem upUp_cell (m : Mat) (i j : Nat) : ∀ p, upUp m p i j = if j = 0 ∧ 1 ≤ i ∧ i < p then 2147483647 else m i j
  | 0 => by rw [if_neg (by omega)]; rfl
  | p + 1 => by
    unfold upUp
    split
    · rw [upUp_cell m i j p]
      split <;> split <;> first | rfl | (exfalso; omega)
    · unfold upd
      rw [upUp_cell m i j p]
      split <;> split <;> (try split) <;> first | rfl | (exfalso; omega)
theorem up_closed {n : Nat} {m : Mat} (h : ClosedZ n m) : ClosedZ n (upM m) := by
  have hr : RightM n (upM m) := fun i j hi hj => by
    unfold upM; split
    · decide
    · exact h.full.right i j hi hj
  refine ⟨⟨hr, fun i hi => ?_, fun j hj => ?_⟩, fun l hl i j hi hj => ?_⟩
  · unfold upM; rw [if_neg (by omega)]; exact h.full.one i hi
  · unfold upM; rw [if_neg (by omega)]; exact h.full.top j hj
  · have hl' : l ≤ n := by omega
    have hfb : FB (widW (upM m) i j) := right_fb (hr i j hi hj)
    have hinf : wid 2147483647 = none62 := by decide
    by_cases e1 : l = 0 ∧ i ≠ 0
    · have : widW (upM m) i l = none62 := by unfold widW upM; rw [if_pos e1, hinf]
      rw [this, wsum_none_left]; exact hfb.le
    · by_cases e2 : j = 0 ∧ l ≠ 0
      · have : widW (upM m) l j = none62 := by unfold widW upM; rw [if_pos e2, hinf]
        rw [this, wsum_none_right]; exact hfb.le
      · have h1 : widW (upM m) i l = widW m i l := by unfold widW upM; rw [if_neg e1]
        have h2 : widW (upM m) l j = widW m l j := by unfold widW upM; rw [if_neg e2]
        have h3 : widW (upM m) i j = widW m i j := by unfold widW upM; rw [if_neg (by omega)]
        rw [h1, h2, h3]
        exact h.tri l hl i j hi hj
theorem upW_agree {n : Nat} {m : Mat} (h : ClosedZ n m) : Agree n (upW (some (n, m))) (upM m) := fun i j hi hj => by
  have e : upW (some (n, m)) = upUp (openW (some (n, m))) (n + 1) := by unfold upW; rw [if_neg (by simp [h.notEmpty])]; rfl
  rw [e, (open_agree n m).up (n + 1) i j hi hj, upUp_cell]
  unfold upM
  split <;> split <;> first | rfl | (exfalso; omega)
theorem incl_of {n : Nat} {m o : Mat} (h : ∀ i j, i ≤ n → j ≤ n → o i j ≤ m i j) : inclM n m o = true := decide_eq_true (.inr fun i hi j hj => h i j hi hj)
theorem incl_zero (n : Nat) (m : Mat) : inclM n m (fun _ _ => 0) = true := decide_eq_true (.inl (by decide))
theorem up_twice {n : Nat} {m : Mat} (hn : n ≤ 8) (h : m = (fun _ _ => 0) ∨ ClosedZ n m) :
    ∃ a, ofP n (flat n (upW (some (n, m)))) = (some a, 0) ∧ ofP n (flat n (upW (some (n, a)))) = (some a, 0) ∧ inclM n a m = true := by
  rcases h with rfl | h
  · exact ⟨_, up_zero n hn, up_zero n hn, incl_zero n _⟩
  · have hc := up_closed h
    refine ⟨_, of_same hn hc (upW_agree h), ?_, ?_⟩
    · have hcc := nar_closed hn hc
      rw [of_same hn (up_closed hcc) (upW_agree hcc)]
      refine Prod.ext (congrArg some (nar_same fun i j hi hj => ?_)) rfl
      have := nar_agree hn hc i j hi hj
      unfold upM at this ⊢
      split
      · rfl
      · rename_i hij
        rw [if_neg hij] at this
        exact this
    · refine incl_of fun i j hi hj => ?_
      rw [nar_agree hn hc i j hi hj]
      unfold upM
      split
      · exact (right_hi (h.full.right i j hi hj)).2
      · exact Int.le_refl _

/-! ### Down -/
theorem downIn_other {m : Mat} {i a b : Nat} (h : a ≠ 0 ∨ b ≠ i) : ∀ j, downIn m i j a b = m a b
  | 0 => rfl
  | j + 1 => by
    unfold downIn
    split
    · exact downIn_other h j
    · unfold lessM upd
      rw [if_neg (by omega)]
      exact downIn_other h j
theorem downIn_val {m : Mat} {i : Nat} : ∀ j, downIn m i j 0 i ≤ m 0 i ∧ (∀ q, 1 ≤ q → q < j → downIn m i j 0 i ≤ m q i) ∧ (downIn m i j 0 i = m 0 i ∨ ∃ q, 1 ≤ q ∧ q < j ∧ downIn m i j 0 i = m q i)
  | 0 => ⟨Int.le_refl _, fun q h1 h2 => by omega, .inl rfl⟩
  | j + 1 => by
    obtain ⟨h1, h2, h3⟩ := downIn_val (m := m) (i := i) j
    unfold downIn
    split
    · subst j
      exact ⟨h1, fun q a b => by omega, .inl (by rcases h3 with h | ⟨q, a, b, _⟩; exact h; omega)⟩
    · rename_i hj
      have e : lessM (downIn m i j) 0 i (downIn m i j j i) 0 i = min (downIn m i j 0 i) (m j i) := by
        unfold lessM upd
        rw [if_pos ⟨rfl, rfl⟩, downIn_other (.inl hj)]
      rw [e]
      refine ⟨by omega, fun q a b => ?_, ?_⟩
      · by_cases e2 : q = j
        · subst e2; omega
        · have := h2 q a (by omega); omega
      · rcases Int.le_total (downIn m i j 0 i) (m j i) with hle | hle
        · rw [Int.min_eq_left hle]
          rcases h3 with h | ⟨q, a, b, c⟩
          · exact .inl h
          · exact .inr ⟨q, a, by omega, c⟩
        · rw [Int.min_eq_right hle]
          exact .inr ⟨j, by omega, by omega, rfl⟩
theorem downUp_other {n : Nat} {m : Mat} {a b : Nat} (h : a ≠ 0 ∨ b = 0) : ∀ p, downUp n m p a b = m a b
  | 0 => rfl
  | p + 1 => by
    unfold downUp
    split
    · exact downUp_other h p
    · rw [downIn_other (by omega)]
      unfold upd
      rw [if_neg (by omega)]
      exact downUp_other h p
theorem downUp_val {n : Nat} {m : Mat} {j : Nat} (h1 : 1 ≤ j) (hj : j ≤ n) (hd : m j j = 1) : ∀ p, j < p → (∀ q, 1 ≤ q → q ≤ n → downUp n m p 0 j ≤ m q j) ∧ ∃ q, 1 ≤ q ∧ q ≤ n ∧ downUp n m p 0 j = m q j
  | 0, h => by omega
  | p + 1, h => by
    unfold downUp
    rw [if_neg (by omega)]
    by_cases e : j = p
    · subst e
      have hq : ∀ q, 1 ≤ q → upd (downUp n m j) 0 j 1 q j = m q j := fun q hq => by
        unfold upd
        rw [if_neg (by omega)]
        exact downUp_other (.inl (by omega)) j
      obtain ⟨a, b, c⟩ := downIn_val (m := upd (downUp n m j) 0 j 1) (i := j) (n + 1)
      have h0 : upd (downUp n m j) 0 j 1 0 j = 1 := by unfold upd; rw [if_pos ⟨rfl, rfl⟩]
      refine ⟨fun q x y => by rw [← hq q x]; exact b q x (by omega), ?_⟩
      rcases c with c | ⟨q, x, y, c⟩
      · exact ⟨j, h1, hj, by rw [c, h0, hd]⟩
      · exact ⟨q, x, by omega, by rw [c, hq q x]⟩
    · have e2 : downIn (upd (downUp n m p) 0 p 1) p (n + 1) 0 j = downUp n m p 0 j := by
        rw [downIn_other (.inr e)]
        unfold upd
        rw [if_neg (by omega)]
      rw [e2]
      exact downUp_val h1 hj hd p (by omega)
def downM (n : Nat) (m : Mat) : Mat := downUp n m (n + 1)
theorem downM_other {n : Nat} {m : Mat} {a b : Nat} (h : a ≠ 0 ∨ b = 0) : downM n m a b = m a b := downUp_other h _
theorem downM_val {n : Nat} {m : Mat} {j : Nat} (h1 : 1 ≤ j) (hj : j ≤ n) (hd : m j j = 1) : (∀ q, 1 ≤ q → q ≤ n → downM n m 0 j ≤ m q j) ∧ ∃ q, 1 ≤ q ∧ q ≤ n ∧ downM n m 0 j = m q j := downUp_val h1 hj hd _ (by omega)
theorem down_closed {n : Nat} {m : Mat} (h : ClosedZ n m) : ClosedZ n (downM n m) := by
  have hr : RightM n (downM n m) := fun i j hi hj => by
    by_cases e : i ≠ 0 ∨ j = 0
    · rw [downM_other e]; exact h.full.right i j hi hj
    · have e1 : i = 0 := by omega
      subst e1
      obtain ⟨_, q, a, b, c⟩ := downM_val (m := m) (j := j) (by omega) hj (h.full.one j hj)
      rw [c]; exact h.full.right q j b hj
  refine ⟨⟨hr, fun i hi => ?_, fun j hj => ?_⟩, fun l hl i j hi hj => ?_⟩
  · rw [downM_other (by omega)]; exact h.full.one i hi
  · by_cases e : j = 0
    · subst e; rw [downM_other (.inr rfl), h.full.one 0 (Nat.zero_le _)]; exact Int.le_refl _
    · have := (downM_val (m := m) (j := j) (by omega) hj (h.full.one j hj)).1 j (by omega) hj
      rw [h.full.one j hj] at this; exact this
  · have hl' : l ≤ n := by omega
    have heq : ∀ a b, a ≠ 0 ∨ b = 0 → widW (downM n m) a b = widW m a b := fun a b hab => by unfold widW; rw [downM_other hab]
    by_cases hi0 : i ≠ 0
    · rw [heq i j (.inl hi0), heq i l (.inl hi0)]
      by_cases hl0 : l ≠ 0 ∨ j = 0
      · rw [heq l j hl0]; exact h.tri l hl i j hi hj
      · have : l = 0 := by omega
        subst this
        obtain ⟨_, q, a, b, c⟩ := downM_val (m := m) (j := j) (by omega) hj (h.full.one j hj)
        have e : widW (downM n m) 0 j = widW m q j := by unfold widW; rw [c]
        rw [e]
        have t1 := h.tri q (by omega) i j hi hj
        have t2 := wsum_le (h.fb hi b) (h.fb hi (Nat.zero_le _)) (h.fb b hj) (h.fb b hj) (h.to0 hi b) (Int.le_refl _)
        omega
    · have : i = 0 := by omega
      subst this
      by_cases hj0 : j = 0
      · subst hj0
        rw [heq 0 0 (.inr rfl), heq l 0 (.inr rfl), h.wone (Nat.zero_le _)]
        by_cases hl0 : l = 0
        · subst hl0; rw [heq 0 0 (.inr rfl), h.wone (Nat.zero_le _)]; decide
        · obtain ⟨_, q, a, b, c⟩ := downM_val (m := m) (j := l) (by omega) hl' (h.full.one l hl')
          have e : widW (downM n m) 0 l = widW m q l := by unfold widW; rw [c]
          rw [e]
          have t1 := h.tri l hl q 0 b (Nat.zero_le _)
          have t2 := h.col0 b
          omega
      · obtain ⟨u, q0, a0, b0, c0⟩ := downM_val (m := m) (j := j) (by omega) hj (h.full.one j hj)
        by_cases hl0 : l = 0
        · subst hl0
          rw [heq 0 0 (.inr rfl), h.wone (Nat.zero_le _), wsum_one_left]
          exact Int.le_refl _
        · obtain ⟨_, q, a, b, c⟩ := downM_val (m := m) (j := l) (by omega) hl' (h.full.one l hl')
          have e : widW (downM n m) 0 l = widW m q l := by unfold widW; rw [c]
          rw [e, heq l j (.inl hl0)]
          have t1 := h.tri l hl q j b hj
          have t2 := (wid_le (hr 0 j (Nat.zero_le _) hj) (h.full.right q j b hj)).2 (u q a b)
          unfold widW at t1 ⊢
          omega
theorem downW_agree {n : Nat} {m : Mat} (h : ClosedZ n m) : Agree n (downW (some (n, m))) (downM n m) := fun i j hi hj => by
  have e : downW (some (n, m)) = downUp n (openW (some (n, m))) (n + 1) := by unfold downW; rw [if_neg (by simp [h.notEmpty])]; rfl
  rw [e, (open_agree n m).down (n + 1) (Nat.le_refl _) i j hi hj]
  rfl
theorem down_idem {n : Nat} {m D : Mat} (h : ClosedZ n m) (hD : Agree n D (downM n m)) : Agree n (downM n D) (downM n m) := fun i j hi hj => by
  by_cases e : i ≠ 0 ∨ j = 0
  · rw [downM_other e]; exact hD i j hi hj
  · have e1 : i = 0 := by omega
    subst e1
    have hdd : D j j = 1 := by rw [hD j j hj hj, downM_other (by omega)]; exact h.full.one j hj
    obtain ⟨u, q, a, b, c⟩ := downM_val (m := m) (j := j) (by omega) hj (h.full.one j hj)
    obtain ⟨u', q', a', b', c'⟩ := downM_val (m := D) (j := j) (by omega) hj hdd
    have x1 := u q' a' b'
    have x2 := u' q a b
    have e2 : D q' j = m q' j := (hD q' j b' hj).trans (downM_other (.inl (Nat.pos_iff_ne_zero.1 a')))
    have e3 : D q j = m q j := (hD q j b hj).trans (downM_other (.inl (Nat.pos_iff_ne_zero.1 a)))
    omega
theorem down_twice {n : Nat} {m : Mat} (hn : n ≤ 8) (h : m = (fun _ _ => 0) ∨ ClosedZ n m) :
    ∃ a, ofP n (flat n (downW (some (n, m)))) = (some a, 0) ∧ ofP n (flat n (downW (some (n, a)))) = (some a, 0) ∧ inclM n a m = true := by
  rcases h with rfl | h
  · exact ⟨_, down_zero n hn, down_zero n hn, incl_zero n _⟩
  · have hc := down_closed h
    refine ⟨_, of_same hn hc (downW_agree h), ?_, ?_⟩
    · have hcc := nar_closed hn hc
      rw [of_same hn (down_closed hcc) (downW_agree hcc)]
      exact Prod.ext (congrArg some (nar_same (down_idem h (nar_agree hn hc)))) rfl
    · refine incl_of fun i j hi hj => ?_
      rw [nar_agree hn hc i j hi hj]
      by_cases e : i ≠ 0 ∨ j = 0
      · rw [downM_other e]; exact Int.le_refl _
      · have e1 : i = 0 := by omega
        subst e1
        obtain ⟨_, q, a, b, c⟩ := downM_val (m := m) (j := j) (by omega) hj (h.full.one j hj)
        rw [c]
        exact (wid_le (h.full.right 0 j hi hj) (h.full.right q j b hj)).1 (h.from0 b hj)

end Go.Proofs.YtmelblnflalanaaGreat
