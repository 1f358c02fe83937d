/- Texts of ours, laid together: Pu, Uf, Pb, Ba, Bs, Bc, Bd, Po, Uw, Uu. -/
import Derived.WalkKit
import Derived.Deep.RegionWith
import Derived.Deep.RegionHeld3
import Derived.Laws.Rows
import Derived.Laws.CopyOwn
import Derived.Test.YtmelblnflalanaaMg7
/- The closed form is the greatest closed one below; time that passes twice: plain. -/
namespace Go.Proofs.Ytmelblnflalanaa
set_option linter.unusedVariables false
set_option linter.unusedSimpArgs false

theorem fw_ge {n k : Nat} {m E : Mat} (hk : k ≤ n) (hE : ∀ i j, i ≤ n → j ≤ n → FB (E i j)) (hm : ∀ i j, i ≤ n → j ≤ n → FB (m i j)) (ht : Tri n E (n + 1)) (hle : ∀ i j, i ≤ n → j ≤ n → E i j ≤ m i j) :
    ∀ i j, i ≤ n → j ≤ n → E i j ≤ fw k n m i j := fun i j hi hj => by
  have h1 := hle i j hi hj
  have h2 := ht k (by omega) i j hi hj
  have h3 := wsum_le (hE i k hi hk) (hm i k hi hk) (hE k j hk hj) (hm k j hk hj) (hle i k hi hk) (hle k j hk hj)
  unfold fw
  rw [if_pos ⟨hi, hj⟩]
  omega
theorem closeP_ge {n : Nat} (hn : n ≤ 8) {E : Mat} (hE : ∀ i j, i ≤ n → j ≤ n → FB (E i j)) (ht : Tri n E (n + 1)) (h1 : ∀ i, i ≤ n → E i i = 1) :
    ∀ s k m, k + s = n + 1 → Fit n (1073741824 * 4 ^ k) m → (∀ i j, i ≤ n → j ≤ n → E i j ≤ m i j) → ∃ m', closeP n s k m = some m' ∧ ∀ i j, i ≤ n → j ≤ n → E i j ≤ m' i j
  | 0, k, m, _, _, h => ⟨m, rfl, h⟩
  | s + 1, k, m, hk, hf, h => by
    have hg := fw_ge (show k ≤ n by omega) hE (fun i j hi hj => half_fb (fit_bd hf (by omega) i j hi hj)) ht h
    unfold closeP
    rw [if_pos (fun i hi => by have := hg i i hi hi; rw [h1 i hi] at this; exact this)]
    exact closeP_ge hn hE ht h1 s (k + 1) _ (by omega) (fit_next hf (by omega)) hg
/-- What is closed, and below, is below the closed form; and there is one. -/
theorem closed_ge {n : Nat} (hn : n ≤ 8) {E M : Mat} (hE : ∀ i j, i ≤ n → j ≤ n → FB (E i j)) (ht : Tri n E (n + 1)) (h1 : ∀ i, i ≤ n → E i i = 1) (hf : Fit n 1073741824 M) (hle : ∀ i j, i ≤ n → j ≤ n → E i j ≤ M i j) :
    ∃ m', closed n M = some m' ∧ ∀ i j, i ≤ n → j ≤ n → E i j ≤ m' i j := closeP_ge hn hE ht h1 (n + 1) 0 M (by omega) (by simpa using hf) hle

theorem wid_cases {a : Int} (h : rightB a = true) : (a = 2147483647 ∧ wid a = none62) ∨ (a ≠ 2147483647 ∧ wid a = a ∧ -536870912 ≤ a ∧ a ≤ 536870913) := by
  by_cases e : a = 2147483647
  · exact .inl ⟨e, by unfold wid; rw [if_pos e]⟩
  · have := rightB_bd h e
    exact .inr ⟨e, by unfold wid; rw [if_neg e], this.1, this.2⟩
theorem wid_le {a b : Int} (ha : rightB a = true) (hb : rightB b = true) : wid a ≤ wid b ↔ a ≤ b := by
  rcases wid_cases ha with ⟨h1, h2⟩ | ⟨h1, h2, h3, h4⟩ <;> rcases wid_cases hb with ⟨h5, h6⟩ | ⟨h5, h6, h7, h8⟩ <;> rw [h2, h6] <;> unfold none62 <;> omega
/-- What Of tells of cells that may be. -/
inductive OfIs (n : Nat) (X : Mat) : Option Mat × Int → Prop
  | empty (h : closed n (widW X) = none) : OfIs n X (some (fun _ _ => 0), 0)
  | full (C Y : Mat) (h : closed n (widW X) = some C) (hc : Closed n (widW X) C) (hy : ClosedZ n Y) (he : ∀ i j, i ≤ n → j ≤ n → widW Y i j = C i j) (hle : ∀ i j, i ≤ n → j ≤ n → Y i j ≤ X i j) : OfIs n X (some Y, 0)
  | over (C : Mat) (h : closed n (widW X) = some C) (hc : Closed n (widW X) C) : OfIs n X (none, 10)
theorem of_is {n : Nat} {X : Mat} (hn : n ≤ 8) (h : OkM n X) : OfIs n X (ofP n (flat n X)) := by
  rw [ofP_wid hn h]
  unfold zoneP
  cases hc : closed n (widW X) with
  | none => exact .empty hc
  | some C =>
    have hcl := closed_closed hn h.fit hc
    simp only
    by_cases ha : allR n C
    · rw [if_pos ha]
      have hz := closed_of h.wtop ha hcl
      have he : ∀ i j, i ≤ n → j ≤ n → widW (narM n C) i j = C i j := fun i j hi hj => by
        unfold widW narM
        rw [if_pos ⟨hi, hj⟩]
        exact wid_nar (ha i hi j hj)
      refine .full C _ hc hcl hz he fun i j hi hj => ?_
      refine (wid_le (hz.full.right i j hi hj) (h.right i j hi hj)).1 ?_
      have h1 := he i j hi hj
      have h2 := hcl.le i j
      unfold widW at h1 h2
      omega
    · rw [if_neg ha]
      exact .over C hc hcl
theorem nar_agree {n : Nat} {U : Mat} (hn : n ≤ 8) (h : ClosedZ n U) : Agree n (narM n (widW U)) U := fun i j hi hj => (ofP_closed hn h).2 i j hi hj
theorem nar_closed {n : Nat} {U : Mat} (hn : n ≤ 8) (h : ClosedZ n U) : ClosedZ n (narM n (widW U)) := h.congr fun i j hi hj => (nar_agree hn h i j hi hj).symm
/-- Of cells that are, in range, a closed zone's. -/
theorem of_same {n : Nat} {X U : Mat} (hn : n ≤ 8) (h : ClosedZ n U) (ha : Agree n X U) : ofP n (flat n X) = (some (narM n (widW U)), 0) := by
  rw [flat_congr ha]; exact (ofP_closed hn h).1
theorem nar_same {n : Nat} {U V : Mat} (h : Agree n U V) : narM n (widW U) = narM n (widW V) := narM_agree fun i j hi hj => by unfold widW; rw [h i j hi hj]
theorem ClosedZ.notEmpty {n : Nat} {m : Mat} (h : ClosedZ n m) : emptyP (some (n, m)) = false := decide_eq_false (by rw [h.full.one 0 (Nat.zero_le _)]; omega)
theorem ClosedZ.fb {n : Nat} {m : Mat} (h : ClosedZ n m) {i j : Nat} (hi : i ≤ n) (hj : j ≤ n) : FB (widW m i j) := right_fb (h.full.right i j hi hj)
theorem ClosedZ.wone {n : Nat} {m : Mat} (h : ClosedZ n m) {i : Nat} (hi : i ≤ n) : widW m i i = 1 := by unfold widW; rw [h.full.one i hi]; decide
theorem ClosedZ.wtop {n : Nat} {m : Mat} (h : ClosedZ n m) {j : Nat} (hj : j ≤ n) : widW m 0 j ≤ 1 := h.full.ok.wtop j hj
/-- What is no stricter than a step back to the zero clock. -/
theorem ClosedZ.to0 {n : Nat} {m : Mat} (h : ClosedZ n m) {i j : Nat} (hi : i ≤ n) (hj : j ≤ n) : widW m i j ≤ widW m i 0 := by
  have h1 := h.tri 0 (by omega) i j hi hj
  have h2 := wsum_le (h.fb hi (Nat.zero_le _)) (h.fb hi (Nat.zero_le _)) (h.fb (Nat.zero_le _) hj) (b' := 1) (.inr (by omega)) (Int.le_refl _) (h.wtop hj)
  rw [wsum_one_right] at h2
  omega
theorem ClosedZ.from0 {n : Nat} {m : Mat} (h : ClosedZ n m) {i j : Nat} (hi : i ≤ n) (hj : j ≤ n) : widW m 0 j ≤ widW m i j := by
  have h1 := h.tri i (by omega) 0 j (Nat.zero_le _) hj
  have h2 := wsum_le (h.fb (Nat.zero_le _) hi) (a' := 1) (.inr (by omega)) (h.fb hi hj) (h.fb hi hj) (h.wtop hi) (Int.le_refl _)
  rw [wsum_one_left] at h2
  omega
theorem ClosedZ.col0 {n : Nat} {m : Mat} (h : ClosedZ n m) {i : Nat} (hi : i ≤ n) : 1 ≤ widW m i 0 := by
  have := h.to0 hi hi
  rw [h.wone hi] at this
  exact this

/-! ### Up -/
def upM (m : Mat) : Mat := fun i j => if j = 0 ∧ i ≠ 0 then 2147483647 else m i j
theorem upUp_cell (m : Mat) (i j : Nat) : ∀ p, upUp m p i j = if j = 0 ∧ 1 ≤ i ∧ i < p then 2147483647 else m i j
  | 0 => by rw [if_neg (by omega)]; rfl
  | p + 1 => by
    unfold upUp
    split
    · rw [upUp_cell m i j p]
      split <;> split <;> first | rfl | (exfalso; omega)
    · unfold upd
      rw [upUp_cell m i j p]
      split <;> split <;> (try split) <;> first | rfl | (exfalso; omega)
theorem up_closed {n : Nat} {m : Mat} (h : ClosedZ n m) : ClosedZ n (upM m) := by
  have hr : RightM n (upM m) := fun i j hi hj => by
    unfold upM; split
    · decide
    · exact h.full.right i j hi hj
  refine ⟨⟨hr, fun i hi => ?_, fun j hj => ?_⟩, fun l hl i j hi hj => ?_⟩
  · unfold upM; rw [if_neg (by omega)]; exact h.full.one i hi
  · unfold upM; rw [if_neg (by omega)]; exact h.full.top j hj
  · have hl' : l ≤ n := by omega
    have hfb : FB (widW (upM m) i j) := right_fb (hr i j hi hj)
    have hinf : wid 2147483647 = none62 := by decide
    by_cases e1 : l = 0 ∧ i ≠ 0
    · have : widW (upM m) i l = none62 := by unfold widW upM; rw [if_pos e1, hinf]
      rw [this, wsum_none_left]; exact hfb.le
    · by_cases e2 : j = 0 ∧ l ≠ 0
      · have : widW (upM m) l j = none62 := by unfold widW upM; rw [if_pos e2, hinf]
        rw [this, wsum_none_right]; exact hfb.le
      · have h1 : widW (upM m) i l = widW m i l := by unfold widW upM; rw [if_neg e1]
        have h2 : widW (upM m) l j = widW m l j := by unfold widW upM; rw [if_neg e2]
        have h3 : widW (upM m) i j = widW m i j := by unfold widW upM; rw [if_neg (by omega)]
        rw [h1, h2, h3]
        exact h.tri l hl i j hi hj
theorem upW_agree {n : Nat} {m : Mat} (h : ClosedZ n m) : Agree n (upW (some (n, m))) (upM m) := fun i j hi hj => by
  have e : upW (some (n, m)) = upUp (openW (some (n, m))) (n + 1) := by unfold upW; rw [if_neg (by simp [h.notEmpty])]; rfl
  rw [e, (open_agree n m).up (n + 1) i j hi hj, upUp_cell]
  unfold upM
  split <;> split <;> first | rfl | (exfalso; omega)
theorem incl_of {n : Nat} {m o : Mat} (h : ∀ i j, i ≤ n → j ≤ n → o i j ≤ m i j) : inclM n m o = true := decide_eq_true (.inr fun i hi j hj => h i j hi hj)
theorem incl_zero (n : Nat) (m : Mat) : inclM n m (fun _ _ => 0) = true := decide_eq_true (.inl (by decide))
theorem up_twice {n : Nat} {m : Mat} (hn : n ≤ 8) (h : m = (fun _ _ => 0) ∨ ClosedZ n m) :
    ∃ a, ofP n (flat n (upW (some (n, m)))) = (some a, 0) ∧ ofP n (flat n (upW (some (n, a)))) = (some a, 0) ∧ inclM n a m = true := by
  rcases h with rfl | h
  · exact ⟨_, up_zero n hn, up_zero n hn, incl_zero n _⟩
  · have hc := up_closed h
    refine ⟨_, of_same hn hc (upW_agree h), ?_, ?_⟩
    · have hcc := nar_closed hn hc
      rw [of_same hn (up_closed hcc) (upW_agree hcc)]
      refine Prod.ext (congrArg some (nar_same fun i j hi hj => ?_)) rfl
      have := nar_agree hn hc i j hi hj
      unfold upM at this ⊢
      split
      · rfl
      · rename_i hij
        rw [if_neg hij] at this
        exact this
    · refine incl_of fun i j hi hj => ?_
      rw [nar_agree hn hc i j hi hj]
      unfold upM
      split
      · exact (right_hi (h.full.right i j hi hj)).2
      · exact Int.le_refl _

/-! ### Down -/
theorem downIn_other {m : Mat} {i a b : Nat} (h : a ≠ 0 ∨ b ≠ i) : ∀ j, downIn m i j a b = m a b
  | 0 => rfl
  | j + 1 => by
    unfold downIn
    split
    · exact downIn_other h j
    · unfold lessM upd
      rw [if_neg (by omega)]
      exact downIn_other h j
theorem downIn_val {m : Mat} {i : Nat} : ∀ j, downIn m i j 0 i ≤ m 0 i ∧ (∀ q, 1 ≤ q → q < j → downIn m i j 0 i ≤ m q i) ∧ (downIn m i j 0 i = m 0 i ∨ ∃ q, 1 ≤ q ∧ q < j ∧ downIn m i j 0 i = m q i)
  | 0 => ⟨Int.le_refl _, fun q h1 h2 => by omega, .inl rfl⟩
  | j + 1 => by
    obtain ⟨h1, h2, h3⟩ := downIn_val (m := m) (i := i) j
    unfold downIn
    split
    · subst j
      exact ⟨h1, fun q a b => by omega, .inl (by rcases h3 with h | ⟨q, a, b, _⟩; exact h; omega)⟩
    · rename_i hj
      have e : lessM (downIn m i j) 0 i (downIn m i j j i) 0 i = min (downIn m i j 0 i) (m j i) := by
        unfold lessM upd
        rw [if_pos ⟨rfl, rfl⟩, downIn_other (.inl hj)]
      rw [e]
      refine ⟨by omega, fun q a b => ?_, ?_⟩
      · by_cases e2 : q = j
        · subst e2; omega
        · have := h2 q a (by omega); omega
      · rcases Int.le_total (downIn m i j 0 i) (m j i) with hle | hle
        · rw [Int.min_eq_left hle]
          rcases h3 with h | ⟨q, a, b, c⟩
          · exact .inl h
          · exact .inr ⟨q, a, by omega, c⟩
        · rw [Int.min_eq_right hle]
          exact .inr ⟨j, by omega, by omega, rfl⟩
theorem downUp_other {n : Nat} {m : Mat} {a b : Nat} (h : a ≠ 0 ∨ b = 0) : ∀ p, downUp n m p a b = m a b
  | 0 => rfl
  | p + 1 => by
    unfold downUp
    split
    · exact downUp_other h p
    · rw [downIn_other (by omega)]
      unfold upd
      rw [if_neg (by omega)]
      exact downUp_other h p
theorem downUp_val {n : Nat} {m : Mat} {j : Nat} (h1 : 1 ≤ j) (hj : j ≤ n) (hd : m j j = 1) : ∀ p, j < p → (∀ q, 1 ≤ q → q ≤ n → downUp n m p 0 j ≤ m q j) ∧ ∃ q, 1 ≤ q ∧ q ≤ n ∧ downUp n m p 0 j = m q j
  | 0, h => by omega
  | p + 1, h => by
    unfold downUp
    rw [if_neg (by omega)]
    by_cases e : j = p
    · subst e
      have hq : ∀ q, 1 ≤ q → upd (downUp n m j) 0 j 1 q j = m q j := fun q hq => by
        unfold upd
        rw [if_neg (by omega)]
        exact downUp_other (.inl (by omega)) j
      obtain ⟨a, b, c⟩ := downIn_val (m := upd (downUp n m j) 0 j 1) (i := j) (n + 1)
      have h0 : upd (downUp n m j) 0 j 1 0 j = 1 := by unfold upd; rw [if_pos ⟨rfl, rfl⟩]
      refine ⟨fun q x y => by rw [← hq q x]; exact b q x (by omega), ?_⟩
      rcases c with c | ⟨q, x, y, c⟩
      · exact ⟨j, h1, hj, by rw [c, h0, hd]⟩
      · exact ⟨q, x, by omega, by rw [c, hq q x]⟩
    · have e2 : downIn (upd (downUp n m p) 0 p 1) p (n + 1) 0 j = downUp n m p 0 j := by
        rw [downIn_other (.inr e)]
        unfold upd
        rw [if_neg (by omega)]
      rw [e2]
      exact downUp_val h1 hj hd p (by omega)
def downM (n : Nat) (m : Mat) : Mat := downUp n m (n + 1)
theorem downM_other {n : Nat} {m : Mat} {a b : Nat} (h : a ≠ 0 ∨ b = 0) : downM n m a b = m a b := downUp_other h _
theorem downM_val {n : Nat} {m : Mat} {j : Nat} (h1 : 1 ≤ j) (hj : j ≤ n) (hd : m j j = 1) : (∀ q, 1 ≤ q → q ≤ n → downM n m 0 j ≤ m q j) ∧ ∃ q, 1 ≤ q ∧ q ≤ n ∧ downM n m 0 j = m q j := downUp_val h1 hj hd _ (by omega)
theorem down_closed {n : Nat} {m : Mat} (h : ClosedZ n m) : ClosedZ n (downM n m) := by
  have hr : RightM n (downM n m) := fun i j hi hj => by
    by_cases e : i ≠ 0 ∨ j = 0
    · rw [downM_other e]; exact h.full.right i j hi hj
    · have e1 : i = 0 := by omega
      subst e1
      obtain ⟨_, q, a, b, c⟩ := downM_val (m := m) (j := j) (by omega) hj (h.full.one j hj)
      rw [c]; exact h.full.right q j b hj
  refine ⟨⟨hr, fun i hi => ?_, fun j hj => ?_⟩, fun l hl i j hi hj => ?_⟩
  · rw [downM_other (by omega)]; exact h.full.one i hi
  · by_cases e : j = 0
    · subst e; rw [downM_other (.inr rfl), h.full.one 0 (Nat.zero_le _)]; exact Int.le_refl _
    · have := (downM_val (m := m) (j := j) (by omega) hj (h.full.one j hj)).1 j (by omega) hj
      rw [h.full.one j hj] at this; exact this
  · have hl' : l ≤ n := by omega
    have heq : ∀ a b, a ≠ 0 ∨ b = 0 → widW (downM n m) a b = widW m a b := fun a b hab => by unfold widW; rw [downM_other hab]
    by_cases hi0 : i ≠ 0
    · rw [heq i j (.inl hi0), heq i l (.inl hi0)]
      by_cases hl0 : l ≠ 0 ∨ j = 0
      · rw [heq l j hl0]; exact h.tri l hl i j hi hj
      · have : l = 0 := by omega
        subst this
        obtain ⟨_, q, a, b, c⟩ := downM_val (m := m) (j := j) (by omega) hj (h.full.one j hj)
        have e : widW (downM n m) 0 j = widW m q j := by unfold widW; rw [c]
        rw [e]
        have t1 := h.tri q (by omega) i j hi hj
        have t2 := wsum_le (h.fb hi b) (h.fb hi (Nat.zero_le _)) (h.fb b hj) (h.fb b hj) (h.to0 hi b) (Int.le_refl _)
        omega
    · have : i = 0 := by omega
      subst this
      by_cases hj0 : j = 0
      · subst hj0
        rw [heq 0 0 (.inr rfl), heq l 0 (.inr rfl), h.wone (Nat.zero_le _)]
        by_cases hl0 : l = 0
        · subst hl0; rw [heq 0 0 (.inr rfl), h.wone (Nat.zero_le _)]; decide
        · obtain ⟨_, q, a, b, c⟩ := downM_val (m := m) (j := l) (by omega) hl' (h.full.one l hl')
          have e : widW (downM n m) 0 l = widW m q l := by unfold widW; rw [c]
          rw [e]
          have t1 := h.tri l hl q 0 b (Nat.zero_le _)
          have t2 := h.col0 b
          omega
      · obtain ⟨u, q0, a0, b0, c0⟩ := downM_val (m := m) (j := j) (by omega) hj (h.full.one j hj)
        by_cases hl0 : l = 0
        · subst hl0
          rw [heq 0 0 (.inr rfl), h.wone (Nat.zero_le _), wsum_one_left]
          exact Int.le_refl _
        · obtain ⟨_, q, a, b, c⟩ := downM_val (m := m) (j := l) (by omega) hl' (h.full.one l hl')
          have e : widW (downM n m) 0 l = widW m q l := by unfold widW; rw [c]
          rw [e, heq l j (.inl hl0)]
          have t1 := h.tri l hl q j b hj
          have t2 := (wid_le (hr 0 j (Nat.zero_le _) hj) (h.full.right q j b hj)).2 (u q a b)
          unfold widW at t1 ⊢
          omega
theorem downW_agree {n : Nat} {m : Mat} (h : ClosedZ n m) : Agree n (downW (some (n, m))) (downM n m) := fun i j hi hj => by
  have e : downW (some (n, m)) = downUp n (openW (some (n, m))) (n + 1) := by unfold downW; rw [if_neg (by simp [h.notEmpty])]; rfl
  rw [e, (open_agree n m).down (n + 1) (Nat.le_refl _) i j hi hj]
  rfl
theorem down_idem {n : Nat} {m D : Mat} (h : ClosedZ n m) (hD : Agree n D (downM n m)) : Agree n (downM n D) (downM n m) := fun i j hi hj => by
  by_cases e : i ≠ 0 ∨ j = 0
  · rw [downM_other e]; exact hD i j hi hj
  · have e1 : i = 0 := by omega
    subst e1
    have hdd : D j j = 1 := by rw [hD j j hj hj, downM_other (by omega)]; exact h.full.one j hj
    obtain ⟨u, q, a, b, c⟩ := downM_val (m := m) (j := j) (by omega) hj (h.full.one j hj)
    obtain ⟨u', q', a', b', c'⟩ := downM_val (m := D) (j := j) (by omega) hj hdd
    have x1 := u q' a' b'
    have x2 := u' q a b
    have e2 : D q' j = m q' j := (hD q' j b' hj).trans (downM_other (.inl (Nat.pos_iff_ne_zero.1 a')))
    have e3 : D q j = m q j := (hD q j b hj).trans (downM_other (.inl (Nat.pos_iff_ne_zero.1 a)))
    omega
theorem down_twice {n : Nat} {m : Mat} (hn : n ≤ 8) (h : m = (fun _ _ => 0) ∨ ClosedZ n m) :
    ∃ a, ofP n (flat n (downW (some (n, m)))) = (some a, 0) ∧ ofP n (flat n (downW (some (n, a)))) = (some a, 0) ∧ inclM n a m = true := by
  rcases h with rfl | h
  · exact ⟨_, down_zero n hn, down_zero n hn, incl_zero n _⟩
  · have hc := down_closed h
    refine ⟨_, of_same hn hc (downW_agree h), ?_, ?_⟩
    · have hcc := nar_closed hn hc
      rw [of_same hn (down_closed hcc) (downW_agree hcc)]
      exact Prod.ext (congrArg some (nar_same (down_idem h (nar_agree hn hc)))) rfl
    · refine incl_of fun i j hi hj => ?_
      rw [nar_agree hn hc i j hi hj]
      by_cases e : i ≠ 0 ∨ j = 0
      · rw [downM_other e]; exact Int.le_refl _
      · have e1 : i = 0 := by omega
        subst e1
        obtain ⟨_, q, a, b, c⟩ := downM_val (m := m) (j := j) (by omega) hj (h.full.one j hj)
        rw [c]
        exact (wid_le (h.full.right 0 j hi hj) (h.full.right q j b hj)).1 (h.from0 b hj)

end Go.Proofs.Ytmelblnflalanaa

/- Clocks that are any. -/
namespace Go.Proofs.Ytmelblnflalanaa
open Go Go.RowKit
set_option linter.unusedVariables false
set_option linter.unusedSimpArgs false
attribute [local go_sem] min_ints max_ints

/-- Cells that say nothing of the first p of some clocks. -/
def freeUp (M : Mat) (n : Nat) (l : List Int) : Nat → Mat
  | 0 => M
  | p + 1 => forgetUp (l.getD p 0).toNat (freeUp M n l p) (n + 1)
/-- The cells behind Free. -/
def freeW (z : Option (Nat × Mat)) (l : List Int) : Mat := if emptyP z then openW z else freeUp (openW z) (dimN z) l l.length
/-- What Free answers of a zone. -/
def freeP (n : Nat) (m : Mat) (l : List Int) : Option Mat × Int := if l.all (isB n) = true then ofP n (flat n (freeW (some (n, m)) l)) else (none, 12)
theorem rng_free {n : Nat} {M : Mat} {l : List Int} (h : Rng n M) (hc : l.all (isB n) = true) : ∀ p, p ≤ l.length → Rng n (freeUp M n l p)
  | 0, _ => h
  | p + 1, hp => by
    have a := (all_getD l (isB n) 0).1 hc p (by omega)
    unfold isB at a
    simp only [decide_eq_true_eq] at a
    exact rng_forget (rng_free h hc p (by omega)) _ (by omega) _ (Nat.le_refl _)

set_option maxHeartbeats 1000000 in
set_option maxRecDepth 100000 in
theorem free_none (l : Value) (w : World) : Calls Try.prog 47 #[.pointer none, l] w fun e w' => e = .returned (.tuple #[.pointer none, .int .i64 1]) ∧ w = w' := by
  go_enter Try.func47, Try.ntmps47
  go_wp2
  go_ret2
  exact ⟨rfl, rfl⟩

set_option maxHeartbeats 2000000 in
set_option maxRecDepth 100000 in
theorem free_zone (v : Value) (n : Nat) (m : Mat) (A : Option Addr) (c : Nat) (l : List Int) (w : World) (h : ZoneV 109 w v (some (n, m))) (hI : Ints w .i64 A l) (hmax : l.length ≤ 4611686018427387904) :
    Calls Try.prog 47 #[v, .slice A l.length c] w (MakesZ w n (freeP n m l)) := by
  have HI := Lib.hid hI
  have HZ := Lib.hid h
  obtain ⟨b, rfl, hn, hr, hm⟩ := h
  have hl : (cellsP (some (n, m))).length ≤ 81 := cellsP_short _ fun k m' e => by simp at e; omega
  have HO := Lib.hid (fun w h => oopen_any (.pointer (some ⟨b, 0, none⟩)) (some (n, m)) w h hn hl)
  have HRG := Lib.hid (rng_open hr)
  have HSH := Lib.hid (fun c m' w h hk => shut_any c n m' w hn h hk)
  have HIS := Lib.hid (fun x w => is_any n x w)
  have HM := Lib.hid hm
  clear hm hl hr hI
  go_enter Try.func47, Try.ntmps47
  go_wp2_with fail
  refine (HO.out _ HZ.out).mono ?_
  obtain ⟨M, hM⟩ : ∃ M, M = openW (some (n, m)) := ⟨_, rfl⟩
  rintro e w1 ⟨rfl, hb, hw⟩
  have HK1 := Lib.hid (show KW w n M w1 from ⟨hb, by rw [hM]; exact hw⟩)
  rw [← hM] at HRG
  have HMM := Lib.hid hM
  clear hb hw HO HZ hM
  go_wp2
  go_loopg [17] l.length (fun g v wr => ∃ p : Nat, v = .int .i64 p ∧ Hid (KW w n M wr) ∧ Hid (p ≤ l.length ∧ g + p = l.length ∧ ∀ q, q < p → isB n (l.getD q 0) = true))
  case atStart => exact ⟨0, by simp, HK1.out, by omega, by omega, fun q h => by omega⟩
  case round =>
    clear HK1
    obtain ⟨p, rfl, HR, HG⟩ := hrel
    by_cases hp : p < l.length
    · obtain ⟨b', off, rfl, c1⟩ := HI.out.below HR.out.1 p hp
      obtain ⟨x, hx⟩ : ∃ x, x = l.getD p 0 := ⟨_, rfl⟩
      rw [← hx] at c1
      have HX := Lib.hid hx
      have c0 := HR.out.2.head
      have hbw := HR.out.2.lt
      clear hx
      by_cases r1 : isB n x = true
      · have R1 := Lib.hid r1
        clear r1
        go_wp2_with fail
        refine (HIS.out _ _).mono ?_
        rw [R1.out]
        rintro e w3 ⟨rfl, hb⟩
        have HF := Lib.hid (HR.out.step hb)
        clear hb
        go_wp2
        go_roundg (gk - 1)
        case measure => have h := HG.out; omega
        case rel =>
          refine ⟨p + 1, by go_num, HF.out, by omega, by have h := HG.out; omega, fun q hq => ?_⟩
          by_cases e : q = p
          · subst e; rw [← HX.out]; exact R1.out
          · exact HG.out.2.2 q (by omega)
      · have R1 := Lib.hid (Bool.eq_false_iff.2 r1)
        have hE : freeP n m l = (none, 12) := by
          unfold freeP
          rw [if_neg]
          intro ha
          have := (all_getD l (isB n) 0).1 ha p hp
          rw [← HX.out] at this
          exact r1 this
        have HE := Lib.hid hE
        clear r1 hE
        go_wp2_with fail
        refine (HIS.out _ _).mono ?_
        rw [R1.out]
        rintro e w3 ⟨rfl, hb⟩
        have HF := Lib.hid (HR.out.step hb)
        clear hb
        go_wp2
        go_ret2
        rw [HE.out]
        exact ⟨HF.out.1, .pointer none, rfl, rfl⟩
    · have e : p = l.length := by have := HG.out.1; omega
      subst e
      have hall : l.all (isB n) = true := (all_getD l (isB n) 0).2 HG.out.2.2
      have HALL := Lib.hid hall
      have HR0 := Lib.hid HR.out
      have HE := Lib.hid (show freeP n m l = ofP n (flat n (freeW (some (n, m)) l)) by unfold freeP; rw [hall]; rfl)
      clear hall HG HR
      go_wp2_with fail
      refine (oempty_any b n m _ (by exact HM.out.later HR0.out.1)).mono ?_
      cases he : emptyP (some (n, m)) with
      | true =>
        have HEQ := Lib.hid (show freeW (some (n, m)) l = M by unfold freeW; rw [if_pos he]; exact HMM.out.symm)
        clear he
        rintro e w2 ⟨rfl, rfl⟩
        go_wp2_with fail
        refine (HSH.out _ _ _ HR0.out.2 HRG.out).mono ?_
        rintro e w2 hz
        have HZ2 := Lib.hid hz
        obtain ⟨hb, v, rfl, hv⟩ := hz
        have HB2 := Lib.hid (HR0.out.1.trans (hb.mono HR0.out.1.size))
        clear hb hv
        go_wp2
        go_ret2
        rw [HE.out, HEQ.out]
        exact ⟨HB2.out, HZ2.out.2⟩
      | false =>
        have HEQ := Lib.hid (show freeW (some (n, m)) l = freeUp M n l l.length by unfold freeW; rw [if_neg (by simp [he]), ← HMM.out]; rfl)
        clear he
        rintro e w2 ⟨rfl, rfl⟩
        go_wp2
        go_loopg [34] l.length (fun g v wr => ∃ p : Nat, v = .int .i64 p ∧ Hid (KW w n (freeUp M n l p) wr) ∧ Hid (p ≤ l.length ∧ g + p = l.length))
        case atStart => exact ⟨0, by simp, HR0.out, by omega, by omega⟩
        case round =>
          clear HR0
          obtain ⟨p, rfl, HR, HG⟩ := hrel
          by_cases hp : p < l.length
          · obtain ⟨b', off, rfl, c1⟩ := HI.out.below HR.out.1 p hp
            have hcl := (all_getD l (isB n) 0).1 HALL.out p hp
            have HUP := Lib.hid (show freeUp M n l (p + 1) = forgetUp (l.getD p 0).toNat (freeUp M n l p) (n + 1) from rfl)
            obtain ⟨x, hx⟩ : ∃ x, x = l.getD p 0 := ⟨_, rfl⟩
            rw [← hx] at c1 hcl HUP
            clear hx
            have hcl2 : 1 ≤ x ∧ x ≤ n := by
              unfold isB at hcl
              simpa only [decide_eq_true_eq] using hcl
            obtain ⟨a, rfl⟩ : ∃ a : Nat, x = a := ⟨x.toNat, by omega⟩
            rw [Int.toNat_natCast] at HUP
            have ha9 : a ≤ n := by omega
            clear hcl hcl2
            go_wp2_with fail
            refine (forget_any _ n a _ _ hn ha9 HR.out.2).mono ?_
            rintro e w3 ⟨rfl, ho, hm⟩
            have HN := Lib.hid (HR.out.only ho hm)
            rw [← HUP.out] at HN
            clear ho hm
            go_wp2
            go_roundg (gk - 1)
            case measure => have h := HG.out; omega
            case rel => exact ⟨p + 1, by go_num, HN.out, by omega, by have h := HG.out; omega⟩
          · have e : p = l.length := by have := HG.out.1; omega
            subst e
            go_wp2_with fail
            refine (HSH.out _ _ _ HR.out.2 (rng_free HRG.out HALL.out _ (Nat.le_refl _))).mono ?_
            rintro e w2 hz
            have HZ2 := Lib.hid hz
            obtain ⟨hb, v, rfl, hv⟩ := hz
            have HB3 := Lib.hid (HR.out.1.trans (hb.mono HR.out.1.size))
            clear hb hv
            go_wp2
            go_ret2
            rw [HE.out, HEQ.out]
            exact ⟨HB3.out, HZ2.out.2⟩

end Go.Proofs.Ytmelblnflalanaa

/- Bounds: their numbers, sums and opposites: plain. -/
namespace Go.Proofs.Ytmelblnflalanaa
open Go Go.RowKit
set_option linter.unusedVariables false
set_option linter.unusedSimpArgs false

/-- Is a bound finite, and right? -/
def someB (b : Int) : Bool := rightB b && decide (b ≠ 2147483647)
/-- The bound of a number, or the error. -/
def ofB (v : Int) (r : Bool) : Int × Int := if v < -268435456 ∨ 268435456 < v then (0, 10) else (2 * v + (if r then 1 else 0), 0)
/-- Is one of the first p without a bound? Are all reached? Their sum, as the machine reckons. -/
def infUp (l : List Int) : Nat → Bool
  | 0 => false
  | p + 1 => infUp l p || decide (l.getD p 0 = 2147483647)
def redUp (l : List Int) : Nat → Bool
  | 0 => true
  | p + 1 => redUp l p && decide (l.getD p 0 % 2 = 1)
def sumUp (l : List Int) : Nat → Int
  | 0 => 0
  | p + 1 => wrap64 (sumUp l p + l.getD p 0 / 2)
/-- The bound of the sum of all, or the error. -/
def sumP (l : List Int) : Int × Int := if l.all rightB then (if infUp l l.length then (2147483647, 0) else ofB (sumUp l l.length) (redUp l l.length)) else (0, 7)
theorem infUp_no {l : List Int} : ∀ {N}, infUp l N = false → ∀ q, q < N → l.getD q 0 ≠ 2147483647
  | 0, _, q, hq => by omega
  | N + 1, h, q, hq => by
    simp only [infUp, Bool.or_eq_false_iff, decide_eq_false_iff_not] at h
    by_cases e : q = N
    · subst e; exact h.2
    · exact infUp_no h.1 q (by omega)

/-- What Not tells. -/
def notP (b : Int) : Int × Int := if someB b then ofB (-(b / 2)) (!decide (b % 2 = 1)) else if rightB b then (0, 4) else (0, 7)

/-- A bound's number, and whether it is reached; 0 and no if it has none. -/
def numB (b : Int) : Int := if someB b then b / 2 else 0
def redB (b : Int) : Bool := someB b && decide (b % 2 = 1)
/-- The sum of the first p, as it is reckoned in one pass. -/
def sumAll (l : List Int) : Nat → Int
  | 0 => 0
  | p + 1 => wrap64 (sumAll l p + numB (l.getD p 0))
def redAll (l : List Int) : Nat → Bool
  | 0 => true
  | p + 1 => redAll l p && redB (l.getD p 0)
def badUp (l : List Int) : Nat → Bool
  | 0 => false
  | p + 1 => badUp l p || !rightB (l.getD p 0)
theorem badUp_all (l : List Int) : ∀ p, p ≤ l.length → badUp l p = !(l.take p).all rightB
  | 0, _ => rfl
  | p + 1, h => by
    have e : l.take (p + 1) = l.take p ++ [l.getD p 0] := by
      rw [List.take_succ_eq_append_getElem (by omega), List.getD_eq_getElem?_getD, List.getElem?_eq_getElem (by omega)]
      rfl
    rw [badUp, badUp_all l p (by omega), e, List.all_append]
    simp
theorem bad_all (l : List Int) : badUp l l.length = !l.all rightB := by
  rw [badUp_all l _ (Nat.le_refl _), List.take_length]
theorem same_up {l : List Int} : ∀ p, (∀ q, q < p → someB (l.getD q 0) = true) → sumAll l p = sumUp l p ∧ redAll l p = redUp l p
  | 0, _ => ⟨rfl, rfl⟩
  | p + 1, h => by
    obtain ⟨h1, h2⟩ := same_up p fun q hq => h q (by omega)
    have h3 := h p (by omega)
    exact ⟨by rw [sumAll, sumUp, h1, numB, if_pos h3], by rw [redAll, redUp, h2, redB, h3, Bool.true_and]⟩
theorem getD_right {l : List Int} (h : l.all rightB = true) (q : Nat) (hq : q < l.length) : rightB (l.getD q 0) = true := by
  rw [List.getD_eq_getElem?_getD, List.getElem?_eq_getElem hq]
  exact List.all_eq_true.1 h _ (List.getElem_mem hq)
/-- The answer, out of what one pass gathers. -/
def sumR (v : Int) (r i x : Bool) : Int × Int := if x then (0, 7) else if i then (2147483647, 0) else ofB v r
theorem sum_pass (l : List Int) : sumP l = sumR (sumAll l l.length) (redAll l l.length) (infUp l l.length) (badUp l l.length) := by
  unfold sumP sumR
  rw [bad_all]
  by_cases h : l.all rightB = true
  · rw [if_pos h, h]
    simp only [Bool.not_true, Bool.false_eq_true, if_false]
    by_cases i : infUp l l.length = true
    · rw [if_pos i, if_pos i]
    · rw [if_neg i, if_neg i]
      have := same_up (l := l) l.length fun q hq => by
        unfold someB
        rw [getD_right h q hq, decide_eq_true (infUp_no (by simpa using i) q hq)]
        rfl
      rw [this.1, this.2]
  · rw [if_neg h]
    simp [h]

/-- Does a fraction keep a bound? -/
def keepsB (b x d : Int) : Bool := decide (1 ≤ d ∧ (b = 2147483647 ∨ (someB b = true ∧ x < b / 2 * d + b % 2)))

end Go.Proofs.Ytmelblnflalanaa

/- Bounds: made, AtMost, LessThan, Value. -/
namespace Go.Proofs.Ytmelblnflalanaa
open Go Go.RowKit
set_option linter.unusedVariables false
set_option linter.unusedSimpArgs false

set_option maxRecDepth 100000 in
set_option maxHeartbeats 1000000 in
theorem made_any (v : Int) (r : Bool) (w : World) : Calls Try.prog 94 #[.int .i64 v, .bool r] w fun e w' => e = .returned (.tuple #[.int .i32 (ofB v r).1, .int .i64 (ofB v r).2]) ∧ w = w' := by
  by_cases a : v < -268435456
  · have e : ofB v r = (0, 10) := if_pos (.inl a)
    rw [e]
    have d : decide (v < -268435456) = true := decide_eq_true a
    clear e
    go_enter Try.func94, Try.ntmps94
    go_wp2
    go_ret2
    exact ⟨rfl, rfl⟩
  · have d : decide (v < -268435456) = false := decide_eq_false a
    by_cases b : 268435456 < v
    · have e : ofB v r = (0, 10) := if_pos (.inr b)
      rw [e]
      clear e
      go_enter Try.func94, Try.ntmps94
      go_wp2
      go_ret2
      exact ⟨rfl, rfl⟩
    · have e : ofB v r = (2 * v + (if r then 1 else 0), 0) := if_neg (by omega)
      rw [e]
      have d2 : decide (268435456 < v) = false := decide_eq_false b
      have g0 : IntKind.i64.wrap (2 * v) = 2 * v := IntWalk.i64_in _ (by omega)
      have g1 : IntKind.i32.wrap (2 * v) = 2 * v := by rw [IntKind.wrap_i32]; omega
      have g2 : IntKind.i32.wrap (2 * v + 1) = 2 * v + 1 := by rw [IntKind.wrap_i32]; omega
      clear e
      cases r with
      | false =>
        go_enter Try.func94, Try.ntmps94
        go_wp2
        go_ret2
        exact ⟨by simp [g1], rfl⟩
      | true =>
        go_enter Try.func94, Try.ntmps94
        go_wp2
        go_ret2
        exact ⟨by simp [g2], rfl⟩

/-- A function that hands on what made answers. -/
def Makes (r : Int × Int) (w : World) (e : Ending) (w' : World) : Prop := e = .returned (.tuple #[.int .i32 r.1, .int .i64 r.2]) ∧ w = w'


theorem i32_and1 (x : Int) : bits .and .i32 x 1 = x % 2 := by
  have e1 : bits .and .i32 x 1 = IntKind.i32.wrap ((BitVec.ofInt 32 x).toNat &&& 1 : Nat) := by rfl
  rw [e1, Nat.and_one_is_mod, BitVec.toNat_ofInt, IntKind.wrap_i32]
  omega

set_option maxRecDepth 100000 in
set_option maxHeartbeats 1000000 in
theorem value_yes (b : Int) (w : World) (h : someB b = true) :
    Calls Try.prog 52 #[.int .i32 b] w fun e w' => e = .returned (.tuple #[.int .i64 (b / 2), .bool (decide (b % 2 = 1)), .bool true]) ∧ w = w' := by
  obtain ⟨hr, hn⟩ : rightB b = true ∧ b ≠ 2147483647 := by simpa [someB] using h
  have hb := rightB_bd hr hn
  have t0 : (b == 2147483647) = false := by simp [hn]
  have HR := Lib.hid hr
  clear h hr hn
  go_enter Try.func52, Try.ntmps52
  go_wp2_with fail
  refine (right_yes b _ HR.out).mono ?_
  rintro e w' ⟨rfl, rfl⟩
  go_wp2
  go_ret3
  refine ⟨?_, rfl⟩
  rw [i32_and1]
  by_cases e : b % 2 = 1 <;> simp [e]
set_option maxRecDepth 100000 in
set_option maxHeartbeats 1000000 in
theorem value_no (b : Int) (w : World) (h : someB b = false) :
    Calls Try.prog 52 #[.int .i32 b] w fun e w' => e = .returned (.tuple #[.int .i64 0, .bool false, .bool false]) ∧ w = w' := by
  by_cases hn : b = 2147483647
  · subst hn
    clear h
    go_enter Try.func52, Try.ntmps52
    go_wp2
    go_ret3
    exact ⟨rfl, rfl⟩
  · have t0 : (b == 2147483647) = false := by simp [hn]
    have hr : rightB b = false := by simpa [someB, hn] using h
    have HR := Lib.hid hr
    clear h hn hr
    go_enter Try.func52, Try.ntmps52
    go_wp2_with fail
    refine (right_no b _ HR.out).mono ?_
    rintro e w' ⟨rfl, rfl⟩
    go_wp2
    go_ret3
    exact ⟨rfl, rfl⟩

end Go.Proofs.Ytmelblnflalanaa

/- One bound more in a sum. -/
namespace Go.Proofs.Ytmelblnflalanaa
open Go Go.RowKit
set_option linter.unusedVariables false
set_option linter.unusedSimpArgs false

/-- A sum under way, as the machine holds it. -/
def tot (v : Int) (r i x : Bool) : Array Value := #[.int .i64 v, .bool r, .bool i, .bool x]
/-- One bound more. -/
def SumEnds (w : World) (v : Int) (r i x : Bool) (e : Ending) (w' : World) : Prop := e = .returned (.agg (tot v r i x)) ∧ Below w.heap.size w w'

theorem two_new {w : World} {a b : Array Value} {t : TypeId} : Below w.heap.size w ((w.alloc (.cells a t)).alloc (.cells b t)) :=
  ((Below.refl _ w).alloc (Nat.le_refl _) _).alloc (by simp) _

set_option maxRecDepth 100000 in
set_option maxHeartbeats 1000000 in
theorem sum1_some (v : Int) (r i x : Bool) (b : Int) (w : World) (h : someB b = true) :
    Calls Try.prog 93 #[.agg (tot v r i x), .int .i32 b] w (SumEnds w (wrap64 (v + b / 2)) (r && decide (b % 2 = 1)) i x) := by
  obtain ⟨hr, hn⟩ : rightB b = true ∧ b ≠ 2147483647 := by simpa [someB] using h
  have t0 : (b == 2147483647) = false := by simp [hn]
  have t1 : (b != 2147483647) = true := by simp [hn]
  have HV := Lib.hid (fun w => value_yes b w h)
  obtain ⟨q, hq⟩ : ∃ q, q = b / 2 := ⟨_, rfl⟩
  obtain ⟨z, hz⟩ : ∃ z, z = decide (b % 2 = 1) := ⟨_, rfl⟩
  rw [← hq, ← hz] at HV ⊢
  clear hq hz h hr hn
  unfold tot
  cases r <;> cases i <;> cases x
  all_goals
    go_enter Try.func93, Try.ntmps93
    go_wp2_with fail
    refine (HV.out _).mono ?_
    rintro e w' ⟨rfl, rfl⟩
    go_wp2
    refine bodyPost_ret (results_cell_row (fn := Try.f93) rfl _ _ (w.heap.size + 1) _ _ _ _ rfl (heap_alloc2_new _ _ _) Try.underlying154 rfl (by kernel_rfl)) rfl ?_
    exact ⟨rfl, two_new⟩

set_option maxRecDepth 100000 in
set_option maxHeartbeats 1000000 in
theorem sum1_inf (v : Int) (r i x : Bool) (w : World) :
    Calls Try.prog 93 #[.agg (tot v r i x), .int .i32 2147483647] w (SumEnds w (wrap64 v) false true x) := by
  have HV := Lib.hid (fun w => value_no 2147483647 w (by decide))
  unfold tot
  cases r <;> cases i <;> cases x
  all_goals
    go_enter Try.func93, Try.ntmps93
    go_wp2_with fail
    refine (HV.out _).mono ?_
    rintro e w' ⟨rfl, rfl⟩
    go_wp2
    refine bodyPost_ret (results_cell_row (fn := Try.f93) rfl _ _ (w.heap.size + 1) _ _ _ _ rfl (heap_alloc2_new _ _ _) Try.underlying154 rfl (by kernel_rfl)) rfl ?_
    exact ⟨rfl, two_new⟩

set_option maxRecDepth 100000 in
set_option maxHeartbeats 1000000 in
theorem sum1_bad (v : Int) (r i x : Bool) (b : Int) (w : World) (h : rightB b = false) :
    Calls Try.prog 93 #[.agg (tot v r i x), .int .i32 b] w (SumEnds w (wrap64 v) false i true) := by
  have hn : b ≠ 2147483647 := by rintro rfl; exact absurd h (by decide)
  have t0 : (b == 2147483647) = false := by simp [hn]
  have t1 : (b != 2147483647) = true := by simp [hn]
  have HV := Lib.hid (fun w => value_no b w (by simp [someB, h]))
  clear h hn
  unfold tot
  cases r <;> cases i <;> cases x
  all_goals
    go_enter Try.func93, Try.ntmps93
    go_wp2_with fail
    refine (HV.out _).mono ?_
    rintro e w' ⟨rfl, rfl⟩
    go_wp2
    refine bodyPost_ret (results_cell_row (fn := Try.f93) rfl _ _ (w.heap.size + 1) _ _ _ _ rfl (heap_alloc2_new _ _ _) Try.underlying154 rfl (by kernel_rfl)) rfl ?_
    exact ⟨rfl, two_new⟩

theorem sum1_any (v : Int) (r i x : Bool) (b : Int) (w : World) (hv : wrap64 v = v) :
    Calls Try.prog 93 #[.agg (tot v r i x), .int .i32 b] w (SumEnds w (wrap64 (v + numB b)) (r && redB b) (i || decide (b = 2147483647)) (x || !rightB b)) := by
  by_cases h : someB b = true
  · obtain ⟨hr, hn⟩ : rightB b = true ∧ b ≠ 2147483647 := by simpa [someB] using h
    have := sum1_some v r i x b w h
    simpa [numB, redB, h, hr, hn] using this
  · have h : someB b = false := by simpa using h
    by_cases hn : b = 2147483647
    · subst hn
      have := sum1_inf v r i x w
      have e : rightB 2147483647 = true := by decide
      simpa [numB, redB, h, e] using this
    · have hr : rightB b = false := by simpa [someB, hn] using h
      have := sum1_bad v r i x b w hr
      simpa [numB, redB, h, hr, hn] using this

end Go.Proofs.Ytmelblnflalanaa

/- The sums of bounds. -/
namespace Go.Proofs.Ytmelblnflalanaa
open Go Go.RowKit
set_option linter.unusedVariables false
set_option linter.unusedSimpArgs false

/-- What the fold holds behind p bounds. -/
def totUp (l : List Int) (p : Nat) : Array Value := tot (sumAll l p) (redAll l p) (infUp l p) (badUp l p)
def FoldR (w0 : World) (l : List Int) (p : Nat) (wr : World) : Prop :=
  Below w0.heap.size w0 wr ∧ wr.heap[w0.heap.size]? = some (.cells (totUp l p) 154) ∧ wr.heap[w0.heap.size + 1]? = some (.cells (tot 0 false false false) 154)
theorem totUp_info (l : List Int) (p : Nat) : (Try.prog.info? 154).map (·.size) = some (totUp l p).size := by
  have h : (Try.prog.info? 154).map (·.size) = some 4 := by kernel_rfl
  exact h
theorem totUp_all (l : List Int) (p : Nat) : (totUp l p).all (·.oneCell') = true := by simp [totUp, tot, Value.oneCell']
theorem totUp_old (l : List Int) (p q : Nat) : (totUp l p).size = (totUp l q).size := by simp [totUp, tot]
theorem tot_old (l : List Int) (q : Nat) : (tot 0 false false false).size = (totUp l q).size := by simp [totUp, tot]
theorem lt_of_heap {w : World} {g : Nat} {o : Obj} (h : w.heap[g]? = some o) : g < w.heap.size := by
  by_cases c : g < w.heap.size
  · exact c
  · rw [Array.getElem?_eq_none (by omega)] at h; cases h
theorem wrap_sum (l : List Int) : ∀ p, wrap64 (sumAll l p) = sumAll l p
  | 0 => by show wrap64 0 = 0; decide +kernel
  | p + 1 => by unfold sumAll wrap64; omega
theorem FoldR.store {w0 wr w' : World} {l : List Int} {p : Nat} (h : FoldR w0 l p wr) (hb : Below wr.heap.size wr w') : FoldR w0 l p w' :=
  ⟨h.1.trans (hb.mono h.1.size), (hb.block _ (lt_of_heap h.2.1)).trans h.2.1, (hb.block _ (lt_of_heap h.2.2)).trans h.2.2⟩
theorem FoldR.next {w0 wr : World} {l : List Int} {p : Nat} (h : FoldR w0 l p wr) : FoldR w0 l (p + 1) (wr.setRow w0.heap.size (totUp l (p + 1))) :=
  ⟨below_setRow h.1 (Nat.le_refl _) _, setRow_heap _ _ _ _ _ _ h.2.1, by rw [setRow_other _ _ _ _ (by omega)]; exact h.2.2⟩

set_option maxRecDepth 100000 in
set_option maxHeartbeats 1000000 in
theorem fold_total (A : Option Addr) (c : Nat) (l : List Int) (w : World) (hI : Ints w .i32 A l) (hmax : l.length ≤ 4611686018427387904) :
    Calls Try.prog 92 #[.agg (tot 0 true false false), .slice A l.length c, .func (.func 93) #[] #[]] w fun e w' => e = .returned (.agg (totUp l l.length)) ∧ Below w.heap.size w w' := by
  have HI := Lib.hid hI
  clear hI
  unfold tot
  go_enter Try.func92, Try.ntmps92
  go_wp2
  go_loopg [11] l.length (fun g v wr => ∃ p : Nat, v = .int .i64 p ∧ FoldR w l p wr ∧ Hid (p ≤ l.length ∧ g + p = l.length))
  case atStart => exact ⟨0, by simp, ⟨two_new, (heap_alloc_old _ _ (by simp)).trans (heap_alloc_new _ _), heap_alloc2_new _ _ _⟩, by omega, by omega⟩
  case round =>
    obtain ⟨p, rfl, hF, HG⟩ := hrel
    have HF := Lib.hid hF
    clear hF
    by_cases hp : p < l.length
    · obtain ⟨b, off, rfl, hc⟩ := (HI.out.below HF.out.1) p hp
      obtain ⟨x, hx⟩ : ∃ x, x = l.getD p 0 := ⟨_, rfl⟩
      rw [← hx] at hc
      have HX := Lib.hid hx
      clear hx
      go_wp2_with (refine wpList_load_row rfl 154 _ rfl w.heap.size rfl 154 _ (0, 0) _ HF.out.2.1 Try.underlying154 rfl (by kernel_rfl) ?_)
      refine (sum1_any (sumAll l p) (redAll l p) (infUp l p) (badUp l p) x _ (wrap_sum l p)).mono ?_
      rw [show SumEnds wr (wrap64 (sumAll l p + numB x)) (redAll l p && redB x) (infUp l p || decide (x = 2147483647)) (badUp l p || !rightB x) = SumEnds wr (sumAll l (p + 1)) (redAll l (p + 1)) (infUp l (p + 1)) (badUp l (p + 1)) by rw [HX.out]; rfl]
      rintro e w' ⟨rfl, hb⟩
      rw [show tot (sumAll l (p + 1)) (redAll l (p + 1)) (infUp l (p + 1)) (badUp l (p + 1)) = totUp l (p + 1) from rfl]
      have HF1 := Lib.hid (HF.out.store hb)
      clear hb HF hc
      go_wp2_with (refine wpList_store_row rfl 154 _ _ rfl w.heap.size _ rfl rfl 154 _ HF1.out.2.1 (totUp_info l (p + 1)) (totUp_old l _ _) (totUp_all l (p + 1)) ?_)
      go_roundg (gk - 1)
      case measure => have h := HG.out; omega
      case rel => exact ⟨p + 1, by go_num, HF1.out.next, by omega, by have h := HG.out; omega⟩
    · have e : p = l.length := by have := HG.out.1; omega
      subst e
      go_wp2_with (first | (refine wpList_load_row rfl 154 _ rfl w.heap.size rfl 154 _ (0, 0) _ HF.out.2.1 Try.underlying154 rfl (by kernel_rfl) ?_) | (refine wpList_store_row rfl 154 _ _ rfl (w.heap.size + 1) _ rfl rfl 154 _ HF.out.2.2 (totUp_info l l.length) (tot_old l _) (totUp_all l l.length) ?_))
      refine bodyPost_ret (results_cell_row (fn := Try.f92) rfl _ _ (w.heap.size + 1) _ _ _ _ rfl (setRow_heap _ _ _ _ _ _ HF.out.2.2) Try.underlying154 rfl (by kernel_rfl)) rfl ?_
      exact ⟨rfl, below_setRow HF.out.1 (by omega) _⟩

end Go.Proofs.Ytmelblnflalanaa

/- Sum, Add, Not of the program. -/
namespace Go.Proofs.Ytmelblnflalanaa
open Go Go.RowKit
set_option linter.unusedVariables false
set_option linter.unusedSimpArgs false

/-- A bound and an error, in a world with new blocks. -/
def Gives (w : World) (r : Int × Int) (e : Ending) (w' : World) : Prop := e = .returned (.tuple #[.int .i32 r.1, .int .i64 r.2]) ∧ Below w.heap.size w w'

set_option maxRecDepth 100000 in
set_option maxHeartbeats 1000000 in
theorem sum_any (A : Option Addr) (c : Nat) (l : List Int) (w : World) (hI : Ints w .i32 A l) (hmax : l.length ≤ 4611686018427387904) :
    Calls Try.prog 85 #[.slice A l.length c] w (Gives w (sumP l)) := by
  have HF := Lib.hid (fun w hI => fold_total A c l w hI hmax)
  have HI := Lib.hid hI
  rw [sum_pass]
  unfold totUp tot at HF
  obtain ⟨v, hv⟩ : ∃ v, v = sumAll l l.length := ⟨_, rfl⟩
  obtain ⟨r, hr⟩ : ∃ v, v = redAll l l.length := ⟨_, rfl⟩
  obtain ⟨i, hi⟩ : ∃ v, v = infUp l l.length := ⟨_, rfl⟩
  obtain ⟨x, hx⟩ : ∃ v, v = badUp l l.length := ⟨_, rfl⟩
  rw [← hv, ← hr, ← hi, ← hx] at HF ⊢
  clear hI hv hr hi hx
  go_enter Try.func85, Try.ntmps85
  go_wp2_with fail
  refine (HF.out _ HI.out).mono ?_
  rintro e w1 ⟨rfl, hb⟩
  have HB := Lib.hid hb
  clear hb
  have hnew : ∀ (o : Obj), Below w.heap.size w (w1.alloc o) := fun o => HB.out.alloc HB.out.size o
  have HN := Lib.hid hnew
  clear hnew
  cases x with
  | true =>
    rw [show sumR v r i true = (0, 7) from rfl]
    go_wp2
    go_ret2
    exact ⟨rfl, HN.out _⟩
  | false =>
    cases i with
    | true =>
      rw [show sumR v r true false = (2147483647, 0) from rfl]
      go_wp2
      go_ret2
      exact ⟨rfl, HN.out _⟩
    | false =>
      rw [show sumR v r false false = ofB v r from rfl]
      go_wp2_with fail
      refine (made_any v r _).mono ?_
      rintro e w' ⟨rfl, rfl⟩
      go_wp2
      go_ret2
      exact ⟨rfl, HN.out _⟩

/-- Two or three bounds in a block that was just laid. -/
theorem ints_two (w : World) (e : TypeId) (a b : Int) : Ints (w.alloc (.cells #[.int .i32 a, .int .i32 b] e (0, 0))) .i32 (some ⟨w.heap.size, 0, none⟩) [a, b] := by
  exact RowAt.ints (e := e) ⟨#[.int .i32 a, .int .i32 b], heap_alloc_new _ _, by simp [vals]⟩
theorem ints_three (w : World) (e : TypeId) (a b c : Int) : Ints (w.alloc (.cells #[.int .i32 a, .int .i32 b, .int .i32 c] e (0, 0))) .i32 (some ⟨w.heap.size, 0, none⟩) [a, b, c] := by
  exact RowAt.ints (e := e) ⟨#[.int .i32 a, .int .i32 b, .int .i32 c], heap_alloc_new _ _, by simp [vals]⟩
theorem Gives.on {w w1 : World} {r : Int × Int} {e : Ending} {w' : World} (h : Gives w1 r e w') (hb : Below w.heap.size w w1) : Gives w r e w' := ⟨h.1, hb.trans (h.2.mono hb.size)⟩

set_option maxRecDepth 100000 in
set_option maxHeartbeats 1000000 in
theorem add_any (a b : Int) (w : World) : Calls Try.prog 69 #[.int .i32 a, .int .i32 b] w (Gives w (sumP [a, b])) := by
  have HJ := Lib.hid (ints_two w 52 a b)
  have HB := Lib.hid ((Below.refl w.heap.size w).alloc (Nat.le_refl _) (.cells #[.int .i32 a, .int .i32 b] 52))
  obtain ⟨r, hr⟩ : ∃ r, r = sumP [a, b] := ⟨_, rfl⟩
  have HS := Lib.hid (fun w' hI => sum_any (some ⟨w.heap.size, 0, none⟩) 2 [a, b] w' hI (by simp))
  rw [← hr] at HS ⊢
  clear hr
  go_enter Try.func69, Try.ntmps69
  go_wp2_with fail
  refine (HS.out _ HJ.out).mono ?_
  intro e w1 hg
  have HG := Lib.hid (hg.on HB.out)
  obtain ⟨rfl, _⟩ := hg
  go_wp2
  go_ret2
  exact ⟨rfl, HG.out.2⟩

theorem notP_yes {b : Int} (h : someB b = true) : notP b = ofB (-(b / 2)) (!decide (b % 2 = 1)) := by unfold notP; rw [if_pos h]
end Go.Proofs.Ytmelblnflalanaa

/- Sums of bounds in any order: plain. -/
namespace Go.Proofs.Ytmelblnflalanaa
open Go Go.RowKit
set_option linter.unusedVariables false
set_option linter.unusedSimpArgs false

theorem inf_right : rightB 2147483647 = true := by decide +kernel
theorem fin_some {a : Int} (h : rightB a = true) (h' : a ≠ 2147483647) : someB a = true := by simp [someB, h, h']
theorem sum_bad {l : List Int} (h : ¬ l.all rightB = true) : sumP l = (0, 7) := by unfold sumP; rw [if_neg h]
theorem sum_two {a b : Int} (ha : rightB a = true) (hb : rightB b = true) (ha' : a ≠ 2147483647) (hb' : b ≠ 2147483647) :
    sumP [a, b] = ofB (a / 2 + b / 2) (decide (a % 2 = 1) && decide (b % 2 = 1)) := by
  have h1 := rightB_bd ha ha'
  have h2 := rightB_bd hb hb'
  have e0 : infUp [a, b] 2 = false := by simp [infUp, ha', hb']
  have e1 : redUp [a, b] 2 = (decide (a % 2 = 1) && decide (b % 2 = 1)) := by simp [redUp]
  have e2 : sumUp [a, b] 2 = a / 2 + b / 2 := by simp [sumUp, wrap64]; omega
  unfold sumP
  rw [if_pos (by simp [ha, hb])]
  show (if infUp [a, b] 2 = true then _ else ofB (sumUp [a, b] 2) (redUp [a, b] 2)) = _
  rw [e0, e1, e2]
  rfl
theorem sum_two_inf {a b : Int} (ha : rightB a = true) (hb : rightB b = true) (h : a = 2147483647 ∨ b = 2147483647) : sumP [a, b] = (2147483647, 0) := by
  have e0 : infUp [a, b] 2 = true := by rcases h with h | h <;> simp [infUp, h]
  unfold sumP
  rw [if_pos (by simp [ha, hb])]
  show (if infUp [a, b] 2 = true then _ else _) = _
  rw [e0]
  rfl
theorem sum_three {a b c : Int} (ha : rightB a = true) (hb : rightB b = true) (hc : rightB c = true) (ha' : a ≠ 2147483647) (hb' : b ≠ 2147483647) (hc' : c ≠ 2147483647) :
    sumP [a, b, c] = ofB (a / 2 + b / 2 + c / 2) (decide (a % 2 = 1) && decide (b % 2 = 1) && decide (c % 2 = 1)) := by
  have h1 := rightB_bd ha ha'
  have h2 := rightB_bd hb hb'
  have h3 := rightB_bd hc hc'
  have e0 : infUp [a, b, c] 3 = false := by simp [infUp, ha', hb', hc']
  have e1 : redUp [a, b, c] 3 = (decide (a % 2 = 1) && decide (b % 2 = 1) && decide (c % 2 = 1)) := by simp [redUp]
  have e2 : sumUp [a, b, c] 3 = a / 2 + b / 2 + c / 2 := by simp [sumUp, wrap64]; omega
  unfold sumP
  rw [if_pos (by simp [ha, hb, hc])]
  show (if infUp [a, b, c] 3 = true then _ else ofB (sumUp [a, b, c] 3) (redUp [a, b, c] 3)) = _
  rw [e0, e1, e2]
  rfl
theorem sum_three_inf {a b c : Int} (ha : rightB a = true) (hb : rightB b = true) (hc : rightB c = true) (h : a = 2147483647 ∨ b = 2147483647 ∨ c = 2147483647) : sumP [a, b, c] = (2147483647, 0) := by
  have e0 : infUp [a, b, c] 3 = true := by rcases h with h | h | h <;> simp [infUp, h]
  unfold sumP
  rw [if_pos (by simp [ha, hb, hc])]
  show (if infUp [a, b, c] 3 = true then _ else _) = _
  rw [e0]
  rfl
/-- A bound that was made. -/
theorem ofB_ok {v : Int} {r : Bool} (h : (ofB v r).2 = 0) : -268435456 ≤ v ∧ v ≤ 268435456 ∧ (ofB v r).1 / 2 = v ∧ decide ((ofB v r).1 % 2 = 1) = r ∧ rightB (ofB v r).1 = true ∧ (ofB v r).1 ≠ 2147483647 := by
  unfold ofB at h ⊢
  by_cases c : v < -268435456 ∨ 268435456 < v
  · rw [if_pos c] at h; cases h
  · rw [if_neg c]
    cases r
    · have e : decide ((2 * v + 0) % 2 = 1) = false := decide_eq_false (by omega)
      refine ⟨by omega, by omega, ?_, e, ?_, ?_⟩
      · show (2 * v + 0) / 2 = v; omega
      · exact decide_eq_true (.inr (by show _ ≤ 2 * v + 0 ∧ 2 * v + 0 ≤ _; omega))
      · show 2 * v + 0 ≠ _; omega
    · have e : decide ((2 * v + 1) % 2 = 1) = true := decide_eq_true (by omega)
      refine ⟨by omega, by omega, ?_, e, ?_, ?_⟩
      · show (2 * v + 1) / 2 = v; omega
      · exact decide_eq_true (.inr (by show _ ≤ 2 * v + 1 ∧ 2 * v + 1 ≤ _; omega))
      · show 2 * v + 1 ≠ _; omega

theorem sum_comm2 (a b : Int) : sumP [a, b] = sumP [b, a] := by
  by_cases h : rightB a = true ∧ rightB b = true
  · by_cases i : a = 2147483647 ∨ b = 2147483647
    · rw [sum_two_inf h.1 h.2 i, sum_two_inf h.2 h.1 i.symm]
    · rw [sum_two h.1 h.2 (fun e => i (.inl e)) (fun e => i (.inr e)), sum_two h.2 h.1 (fun e => i (.inr e)) (fun e => i (.inl e)), Int.add_comm, Bool.and_comm]
  · rw [sum_bad (by simpa using fun x y => h ⟨x, y⟩), sum_bad (by simpa using fun x y => h ⟨y, x⟩)]
/-- What is known where a sum could be made. -/
theorem sum_ok {a b : Int} (h : (sumP [a, b]).2 = 0) : rightB a = true ∧ rightB b = true := by
  by_cases c : rightB a = true ∧ rightB b = true
  · exact c
  · rw [sum_bad (by simpa using fun x y => c ⟨x, y⟩)] at h; cases h
theorem sum_assoc {a b c : Int} (h1 : (sumP [a, b]).2 = 0) (h2 : (sumP [b, c]).2 = 0) : sumP [(sumP [a, b]).1, c] = sumP [a, b, c] ∧ sumP [a, (sumP [b, c]).1] = sumP [a, b, c] := by
  obtain ⟨ha, hb⟩ := sum_ok h1
  obtain ⟨_, hc⟩ := sum_ok h2
  by_cases ia : a = 2147483647
  · subst ia
    rw [sum_three_inf ha hb hc (.inl rfl), sum_two_inf ha hb (.inl rfl)]
    refine ⟨sum_two_inf inf_right hc (.inl rfl), sum_two_inf ha ?_ (.inl rfl)⟩
    by_cases i : b = 2147483647 ∨ c = 2147483647
    · rw [sum_two_inf hb hc i]; exact inf_right
    · rw [sum_two hb hc (fun e => i (.inl e)) (fun e => i (.inr e))] at h2 ⊢
      exact (ofB_ok h2).2.2.2.2.1
  · by_cases ic : c = 2147483647
    · subst ic
      rw [sum_three_inf ha hb hc (.inr (.inr rfl)), sum_two_inf hb hc (.inr rfl)]
      refine ⟨sum_two_inf ?_ hc (.inr rfl), sum_two_inf ha inf_right (.inr rfl)⟩
      by_cases i : b = 2147483647
      · rw [sum_two_inf ha hb (.inr i)]; exact inf_right
      · rw [sum_two ha hb ia i] at h1 ⊢
        exact (ofB_ok h1).2.2.2.2.1
    · by_cases ib : b = 2147483647
      · subst ib
        rw [sum_three_inf ha hb hc (.inr (.inl rfl)), sum_two_inf hb hc (.inl rfl), sum_two_inf ha hb (.inr rfl)]
        exact ⟨sum_two_inf inf_right hc (.inl rfl), by first | rfl | exact sum_two_inf ha inf_right (.inr rfl)⟩
      · rw [sum_three ha hb hc ia ib ic]
        rw [sum_two ha hb ia ib] at h1 ⊢
        rw [sum_two hb hc ib ic] at h2 ⊢
        obtain ⟨_, _, x1, x2, x3, x4⟩ := ofB_ok h1
        obtain ⟨_, _, y1, y2, y3, y4⟩ := ofB_ok h2
        rw [sum_two x3 hc x4 ic, sum_two ha y3 ia y4, x1, x2, y1, y2, Int.add_assoc, Bool.and_assoc]
        exact ⟨rfl, rfl⟩

end Go.Proofs.Ytmelblnflalanaa

/- From where a clock is set to a number, where the clock's own bounds may not be. -/
namespace Go.Proofs.Ytmelblnflalanaa
open Go Go.RowKit
set_option linter.unusedVariables false
set_option linter.unusedSimpArgs false
attribute [local go_sem] min_ints max_ints

/-- The first p clocks, with what the clock c is to be. -/
def wideUp (M : Mat) (c : Nat) (k : Int) : Nat → Mat × Int
  | 0 => (M, 0)
  | p + 1 =>
    if p = 0 ∨ p = c then wideUp M c k p else
    if (wideUp M c k p).2 ≠ 0 then wideUp M c k p else
    if (sumP [(wideUp M c k p).1 p c, 2 * k + 1]).2 ≠ 0 ∧ (wideUp M c k p).1 p 0 = 2147483647 then ((wideUp M c k p).1, (sumP [(wideUp M c k p).1 p c, 2 * k + 1]).2) else
    let Y := if (sumP [(wideUp M c k p).1 p c, 2 * k + 1]).2 = 0 then lessM (wideUp M c k p).1 p 0 (sumP [(wideUp M c k p).1 p c, 2 * k + 1]).1 else (wideUp M c k p).1
    if (sumP [-2 * k + 1, Y c p]).2 ≠ 0 then (Y, (sumP [-2 * k + 1, Y c p]).2) else (lessM Y 0 p (sumP [-2 * k + 1, Y c p]).1, 0)
/-- What unsetWide answers. -/
def wideP (n : Nat) (M : Mat) (c : Nat) (k : Int) : Option Mat × Int := if (wideUp M c k (n + 1)).2 = 0 then ofP n (flat n (forgetUp c (wideUp M c k (n + 1)).1 (n + 1))) else (none, (wideUp M c k (n + 1)).2)
theorem sumP_rng (a b : Int) : -2147483648 ≤ (sumP [a, b]).1 ∧ (sumP [a, b]).1 ≤ 2147483647 := by
  unfold sumP
  split
  · split
    · simp
    · unfold ofB
      split
      · simp
      · simp only
        split <;> omega
  · simp
theorem rng_wide {n : Nat} {M : Mat} (h : Rng n M) (c : Nat) (k : Int) : ∀ p, p ≤ n + 1 → Rng n (wideUp M c k p).1
  | 0, _ => h
  | p + 1, hp => by
    have ih := rng_wide h c k p (by omega)
    unfold wideUp
    split
    · exact ih
    · split
      · exact ih
      · split
        · exact ih
        · have s1 := sumP_rng ((wideUp M c k p).1 p c) (2 * k + 1)
          have hY : Rng n (if (sumP [(wideUp M c k p).1 p c, 2 * k + 1]).2 = 0 then lessM (wideUp M c k p).1 p 0 (sumP [(wideUp M c k p).1 p c, 2 * k + 1]).1 else (wideUp M c k p).1) := by
            split
            · exact rng_less ih p 0 (by omega) (by omega) _ s1.1 s1.2
            · exact ih
          simp only
          generalize (if (sumP [(wideUp M c k p).1 p c, 2 * k + 1]).2 = 0 then lessM (wideUp M c k p).1 p 0 (sumP [(wideUp M c k p).1 p c, 2 * k + 1]).1 else (wideUp M c k p).1) = Y at *
          split
          · exact hY
          · have s2 := sumP_rng (-2 * k + 1) (Y c p)
            exact rng_less hY 0 p (by omega) (by omega) _ s2.1 s2.2
theorem wide_stays {M : Mat} {c : Nat} {k : Int} {p : Nat} (h : (wideUp M c k p).2 ≠ 0) : ∀ d, wideUp M c k (p + d) = wideUp M c k p
  | 0 => rfl
  | d + 1 => by
    rw [← Nat.add_assoc, wideUp, wide_stays h d]
    split
    · rfl
    · rfl
theorem wide_ends {n : Nat} {M : Mat} {c : Nat} {k : Int} {p : Nat} (hp : p ≤ n + 1) (h : (wideUp M c k p).2 ≠ 0) : wideP n M c k = (none, (wideUp M c k p).2) := by
  have e := wide_stays h (n + 1 - p)
  rw [show p + (n + 1 - p) = n + 1 by omega] at e
  unfold wideP
  rw [e, if_neg h]

set_option maxHeartbeats 2000000 in
set_option maxRecDepth 100000 in
theorem unset_wide (v : Value) (n : Nat) (m : Mat) (c : Nat) (k : Int) (w : World) (h : ZoneV 109 w v (some (n, m))) (hc : 1 ≤ c ∧ c ≤ n) (hk : 0 ≤ k ∧ k ≤ 1048576) :
    Calls Try.prog 46 #[v, .int .i64 c, .int .i64 k] w (MakesZ w n (wideP n (openW (some (n, m))) c k)) := by
  have HZ := Lib.hid h
  obtain ⟨b, rfl, hn, hr, hm⟩ := h
  have hl : (cellsP (some (n, m))).length ≤ 81 := cellsP_short _ fun k m' e => by simp at e; omega
  have HO := Lib.hid (fun w h => oopen_any (.pointer (some ⟨b, 0, none⟩)) (some (n, m)) w h hn hl)
  have HRG := Lib.hid (rng_open hr)
  have HSH := Lib.hid (fun c m' w h hk => shut_any c n m' w hn h hk)
  have HAD := Lib.hid (fun a b w => add_any a b w)
  have g1 : IntKind.i64.wrap (2 * k) = 2 * k := IntWalk.i64_in _ (by omega)
  have g2 : IntKind.i64.wrap (2 * k + 1) = 2 * k + 1 := IntWalk.i64_in _ (by omega)
  have g3 : IntKind.i64.wrap (-2 * k) = -2 * k := IntWalk.i64_in _ (by omega)
  have g4 : IntKind.i64.wrap (-2 * k + 1) = -2 * k + 1 := IntWalk.i64_in _ (by omega)
  have g5 : IntKind.i32.wrap (2 * k + 1) = 2 * k + 1 := by rw [IntKind.wrap_i32]; omega
  have g6 : IntKind.i32.wrap (-2 * k + 1) = -2 * k + 1 := by rw [IntKind.wrap_i32]; omega
  clear hm hl hr
  go_enter Try.func46, Try.ntmps46
  go_wp2_with fail
  refine (HO.out _ HZ.out).mono ?_
  obtain ⟨M, hM⟩ : ∃ M, M = openW (some (n, m)) := ⟨_, rfl⟩
  rintro e w1 ⟨rfl, hb, hw⟩
  have HK1 := Lib.hid (show KW w n M w1 from ⟨hb, by rw [hM]; exact hw⟩)
  rw [← hM] at HRG
  have HMM := Lib.hid hM
  clear hb hw HO HZ hM
  go_wp2
  obtain ⟨K, hK⟩ : ∃ K, K = 2 * k + 1 := ⟨_, rfl⟩
  obtain ⟨J, hJ⟩ : ∃ J, J = -2 * k + 1 := ⟨_, rfl⟩
  have HKJ := Lib.hid (And.intro hK hJ)
  rw [← hK, ← hJ]
  clear hK hJ
  go_loopg [11] n (fun g v wr => ∃ p : Nat, v = .int .i64 p ∧ Hid (KW w n (wideUp M c k p).1 wr) ∧ Hid (1 ≤ p ∧ p ≤ n + 1 ∧ g + p = n + 1 ∧ (wideUp M c k p).2 = 0))
  case atStart => exact ⟨1, by simp, HK1.out, by omega, by omega, by omega, rfl⟩
  case round =>
    clear HK1
    obtain ⟨p, rfl, HR, HG⟩ := hrel
    have c0 := HR.out.2.head
    have hlt := HR.out.2.lt
    by_cases hp : p ≤ n
    · have hpi : (p : Int) ≤ (n : Int) := by omega
      have hp9 : (p : Int) < 9 := by omega
      have hc9 : (c : Int) < 9 := by omega
      by_cases hpc : p = c
      · subst hpc
        have HN := Lib.hid (show KW w n (wideUp M p k (p + 1)).1 wr ∧ (wideUp M p k (p + 1)).2 = 0 by rw [wideUp, if_pos (.inr rfl)]; exact ⟨HR.out, HG.out.2.2.2⟩)
        go_wp2
        go_roundg (gk - 1)
        case measure => have h := HG.out; omega
        case rel => exact ⟨p + 1, by go_num, HN.out.1, by omega, by omega, by have h := HG.out; omega, HN.out.2⟩
      · have t0 : ((p : Int) == (c : Int)) = false := by simp; omega
        have HEQ := Lib.hid (show wideUp M c k (p + 1) = _ from by
          rw [wideUp, if_neg (by have := HG.out.1; omega), if_neg (by rw [HG.out.2.2.2]; simp), ← HKJ.out.1, ← HKJ.out.2])
        obtain ⟨X, hX⟩ : ∃ X, X = (wideUp M c k p).1 := ⟨_, rfl⟩
        rw [← hX] at HEQ HR
        have c1 := HR.out.2.cell p c (by omega) (by omega)
        have c2 := HR.out.2.cell p 0 (by omega) (by omega)
        simp only [Nat.add_zero] at c2
        have HGX := Lib.hid (fun (e : Mat × Int) (he : wideUp M c k (p + 1) = e) (h : e.2 ≠ 0) => show wideP n M c k = (none, e.2) by
          have := wide_ends (n := n) (M := M) (c := c) (k := k) (p := p + 1) (by omega) (by rw [he]; exact h)
          rw [he] at this; exact this)
        obtain ⟨x, hx⟩ : ∃ x, x = X p c := ⟨_, rfl⟩
        obtain ⟨y, hy⟩ : ∃ y, y = X p 0 := ⟨_, rfl⟩
        rw [← hx] at c1
        rw [← hy] at c2
        rw [← hx, ← hy] at HEQ
        clear hx hy hX hpc
        go_wp2_with fail
        refine (HAD.out _ _ _).mono ?_
        obtain ⟨s, hs⟩ : ∃ s, s = sumP [x, K] := ⟨_, rfl⟩
        rw [← hs] at HEQ ⊢
        clear hs
        obtain ⟨sv, se⟩ := s
        rintro e w3 ⟨rfl, hb⟩
        have HR3 := Lib.hid (HR.out.step hb)
        have c2' := (hb.cell (p := ⟨w.heap.size, 1 + p * 9, none⟩) (World.block_lt_of_cell? wr _ c2)).trans c2
        have c0' := HR3.out.2.head
        clear hb HR c0 c1 c2 hlt
        simp only at HEQ
        by_cases hse : se = 0
        · subst hse
          rw [if_neg (by simp), if_pos rfl] at HEQ
          go_wp2_with fail
          refine (less_any w.heap.size p 0 n X sv _ (by omega) (by omega) HR3.out.2).mono ?_
          rintro e w4 ⟨rfl, ho, hm⟩
          have HR4 := Lib.hid (HR3.out.only ho hm)
          clear ho hm HR3 c0' c2'
          obtain ⟨Y, hY⟩ : ∃ Y, Y = lessM X p 0 sv := ⟨_, rfl⟩
          rw [← hY] at HEQ HR4
          clear hY
          have c3 := HR4.out.2.cell c p (by omega) (by omega)
          obtain ⟨z, hz⟩ : ∃ z, z = Y c p := ⟨_, rfl⟩
          rw [← hz] at c3 HEQ
          clear hz
          go_wp2_with fail
          refine (HAD.out _ _ _).mono ?_
          obtain ⟨s, hs⟩ : ∃ s, s = sumP [J, z] := ⟨_, rfl⟩
          rw [← hs] at HEQ ⊢
          clear hs
          obtain ⟨tv, te⟩ := s
          rintro e w5 ⟨rfl, hb⟩
          have HR5 := Lib.hid (HR4.out.step hb)
          clear hb HR4 c3
          simp only at HEQ
          by_cases hte : te = 0
          · subst hte
            rw [if_neg (by simp)] at HEQ
            go_wp2_with fail
            refine (less_any w.heap.size 0 p n Y tv _ (by omega) (by omega) HR5.out.2).mono ?_
            rintro e w6 ⟨rfl, ho, hm⟩
            have HN := Lib.hid (show KW w n (wideUp M c k (p + 1)).1 w6 ∧ (wideUp M c k (p + 1)).2 = 0 by rw [HEQ.out]; exact ⟨HR5.out.only ho hm, rfl⟩)
            clear ho hm HR5
            go_wp2
            go_roundg (gk - 1)
            case measure => have h := HG.out; omega
            case rel => exact ⟨p + 1, by go_num, HN.out.1, by omega, by omega, by have h := HG.out; omega, HN.out.2⟩
          · rw [if_pos hte] at HEQ
            have t1 : (te != 0) = true := by simp [hte]
            have HE := Lib.hid (HGX.out _ HEQ.out hte)
            clear hte
            go_wp2
            go_ret2
            rw [← HMM.out, HE.out]
            exact ⟨HR5.out.1, .pointer none, rfl, rfl⟩
        · have t1 : (se != 0) = true := by simp [hse]
          have t2 : (se == 0) = false := by simp [hse]
          by_cases hy : y = 2147483647
          · subst hy
            rw [if_pos ⟨hse, rfl⟩] at HEQ
            have HE := Lib.hid (HGX.out _ HEQ.out hse)
            clear hse
            go_wp2
            go_ret2
            rw [← HMM.out, HE.out]
            exact ⟨HR3.out.1, .pointer none, rfl, rfl⟩
          · have t3 : (y == 2147483647) = false := by simp [hy]
            rw [if_neg (fun h => hy h.2), if_neg hse] at HEQ
            have c3 := HR3.out.2.cell c p (by omega) (by omega)
            obtain ⟨z, hz⟩ : ∃ z, z = X c p := ⟨_, rfl⟩
            rw [← hz] at c3 HEQ
            clear hz hse hy
            go_wp2_with fail
            refine (HAD.out _ _ _).mono ?_
            obtain ⟨s, hs⟩ : ∃ s, s = sumP [J, z] := ⟨_, rfl⟩
            rw [← hs] at HEQ ⊢
            clear hs
            obtain ⟨tv, te⟩ := s
            rintro e w5 ⟨rfl, hb⟩
            have HR5 := Lib.hid (HR3.out.step hb)
            clear hb HR3 c3 c2' c0'
            simp only at HEQ
            by_cases hte : te = 0
            · subst hte
              rw [if_neg (by simp)] at HEQ
              go_wp2_with fail
              refine (less_any w.heap.size 0 p n X tv _ (by omega) (by omega) HR5.out.2).mono ?_
              rintro e w6 ⟨rfl, ho, hm⟩
              have HN := Lib.hid (show KW w n (wideUp M c k (p + 1)).1 w6 ∧ (wideUp M c k (p + 1)).2 = 0 by rw [HEQ.out]; exact ⟨HR5.out.only ho hm, rfl⟩)
              clear ho hm HR5
              go_wp2
              go_roundg (gk - 1)
              case measure => have h := HG.out; omega
              case rel => exact ⟨p + 1, by go_num, HN.out.1, by omega, by omega, by have h := HG.out; omega, HN.out.2⟩
            · rw [if_pos hte] at HEQ
              have t4 : (te != 0) = true := by simp [hte]
              have HE := Lib.hid (HGX.out _ HEQ.out hte)
              clear hte
              go_wp2
              go_ret2
              rw [← HMM.out, HE.out]
              exact ⟨HR5.out.1, .pointer none, rfl, rfl⟩
    · have e : p = n + 1 := by have := HG.out; omega
      subst e
      have hpi : ¬ (((n + 1 : Nat) : Int) ≤ (n : Int)) := by omega
      have HE := Lib.hid (show wideP n M c k = ofP n (flat n (forgetUp c (wideUp M c k (n + 1)).1 (n + 1))) by unfold wideP; rw [if_pos HG.out.2.2.2])
      have hrng := rng_wide HRG.out c k (n + 1) (Nat.le_refl _)
      obtain ⟨X, hX⟩ : ∃ X, X = (wideUp M c k (n + 1)).1 := ⟨_, rfl⟩
      rw [← hX] at hrng HE HR
      have HRX := Lib.hid (rng_forget hrng c (by omega) (n + 1) (Nat.le_refl _))
      clear hX hrng HG
      go_wp2_with fail
      refine (forget_any _ n c _ _ hn hc.2 HR.out.2).mono ?_
      rintro e w3 ⟨rfl, ho, hm⟩
      have HN := Lib.hid (HR.out.only ho hm)
      clear ho hm HR c0 hlt
      go_wp2_with fail
      refine (HSH.out _ _ _ HN.out.2 HRX.out).mono ?_
      rintro e w2 hz
      have HZ2 := Lib.hid hz
      obtain ⟨hb, v, rfl, hv⟩ := hz
      have HB3 := Lib.hid (HN.out.1.trans (hb.mono HN.out.1.size))
      clear hb hv
      go_wp2
      go_ret2
      rw [← HMM.out, HE.out]
      exact ⟨HB3.out, HZ2.out.2⟩

end Go.Proofs.Ytmelblnflalanaa

/- From where a clock is set to a number. -/
namespace Go.Proofs.Ytmelblnflalanaa
open Go Go.RowKit
set_option linter.unusedVariables false
set_option linter.unusedSimpArgs false
attribute [local go_sem] min_ints max_ints

/-- The cells when clock c is k. -/
def tieW (M : Mat) (c : Nat) (k : Int) : Mat := lessM (lessM M c 0 (2 * k + 1)) 0 c (-2 * k + 1)
/-- What Unset answers of a zone, where the clock and the number are right. -/
def unsetP (n : Nat) (m : Mat) (c : Nat) (k : Int) : Option Mat × Int :=
  if emptyP (some (n, m)) then ofP n (flat n (openW (some (n, m)))) else
  match (ofP n (flat n (tieW (openW (some (n, m))) c k))).1 with
  | some y => freeP n y [(c : Int)]
  | none => wideP n (openW (some (n, m))) c k
theorem ofP_cases (n : Nat) (cells : List Int) : (∃ a, ofP n cells = (some a, 0)) ∨ ∃ e, e ≠ 0 ∧ ofP n cells = (none, e) := by
  unfold ofP
  split
  · split
    · split
      · unfold zoneP
        split
        · exact .inl ⟨_, rfl⟩
        · split
          · exact .inl ⟨_, rfl⟩
          · exact .inr ⟨_, by decide, rfl⟩
      · exact .inr ⟨_, by decide, rfl⟩
    · exact .inr ⟨_, by decide, rfl⟩
  · exact .inr ⟨_, by decide, rfl⟩
theorem ints_one (w : World) (e : TypeId) (a : Int) : Ints (w.alloc (.cells #[.int .i64 a] e (0, 0))) .i64 (some ⟨w.heap.size, 0, none⟩) [a] := fun j hj => by
  have h0 : j = 0 := by simpa using hj
  subst h0
  refine ⟨w.heap.size, 0, rfl, ?_⟩
  have h1 := heap_alloc_new w (.cells #[.int .i64 a] e (0, 0))
  unfold World.cell?
  rw [h1]; rfl

set_option maxHeartbeats 1000000 in
set_option maxRecDepth 100000 in
theorem unset_wrong (v : Value) (z : Option (Nat × Mat)) (c k : Int) (w : World) (h : ZoneV 109 w v z) (he : setE z c k ≠ 0) :
    Calls Try.prog 16 #[v, .int .i64 c, .int .i64 k] w fun e w' => e = .returned (.tuple #[.pointer none, .int .i64 (setE z c k)]) ∧ Below w.heap.size w w' := by
  have HS := Lib.hid (fun w h => oset_any v z c k w h)
  have HZ := Lib.hid h
  obtain ⟨r, hr⟩ : ∃ r, r = setE z c k := ⟨_, rfl⟩
  rw [← hr] at HS he ⊢
  have t1 : (r != 0) = true := by simp [he]
  clear hr he h
  go_enter Try.func16, Try.ntmps16
  go_wp2_with fail
  refine (HS.out _ HZ.out).mono ?_
  rintro e w1 ⟨rfl, hb⟩
  have HB := Lib.hid hb
  clear hb
  go_wp2
  go_ret2
  exact ⟨rfl, HB.out⟩

set_option maxHeartbeats 1000000 in
set_option maxRecDepth 100000 in
theorem unset_right (v : Value) (n : Nat) (m : Mat) (c : Nat) (k : Int) (w : World) (h : ZoneV 109 w v (some (n, m))) (hc : 1 ≤ c ∧ c ≤ n) (hk : 0 ≤ k ∧ k ≤ 1048576) :
    Calls Try.prog 16 #[v, .int .i64 c, .int .i64 k] w (MakesZ w n (unsetP n m c k)) := by
  have hz : setE (some (n, m)) c k = 0 := by
    show (if isB n c = true then (if 0 ≤ k ∧ k ≤ 1048576 then (0 : Int) else 13) else 12) = 0
    rw [if_pos (show isB n c = true from decide_eq_true (by omega)), if_pos hk]
  have HS := Lib.hid (fun w h => oset_any v (some (n, m)) c k w h)
  rw [hz] at HS
  have HZ := Lib.hid h
  have HWD := Lib.hid (fun w h => unset_wide v n m c k w h hc hk)
  obtain ⟨b, rfl, hn, hr, hm⟩ := h
  have hl : (cellsP (some (n, m))).length ≤ 81 := cellsP_short _ fun k m' e => by simp at e; omega
  have HO := Lib.hid (fun w h => oopen_any (.pointer (some ⟨b, 0, none⟩)) (some (n, m)) w h hn hl)
  have HRG := Lib.hid (rng_open hr)
  have HSH := Lib.hid (fun c m' w h hk => shut_any c n m' w hn h hk)
  have HFR := Lib.hid (fun v y A l w h hI hl => free_zone v n y A 1 l w h hI hl)
  have g1 : IntKind.i64.wrap (2 * k) = 2 * k := IntWalk.i64_in _ (by omega)
  have g2 : IntKind.i64.wrap (2 * k + 1) = 2 * k + 1 := IntWalk.i64_in _ (by omega)
  have g3 : IntKind.i64.wrap (-2 * k) = -2 * k := IntWalk.i64_in _ (by omega)
  have g4 : IntKind.i64.wrap (-2 * k + 1) = -2 * k + 1 := IntWalk.i64_in _ (by omega)
  have g5 : IntKind.i32.wrap (2 * k + 1) = 2 * k + 1 := by rw [IntKind.wrap_i32]; omega
  have g6 : IntKind.i32.wrap (-2 * k + 1) = -2 * k + 1 := by rw [IntKind.wrap_i32]; omega
  clear hm hl hr hz
  go_enter Try.func16, Try.ntmps16
  go_wp2_with fail
  refine (HS.out _ HZ.out).mono ?_
  rintro e w0 ⟨rfl, hb⟩
  have HB0 := Lib.hid hb
  have HZ0 := Lib.hid (HZ.out.below hb)
  clear hb HZ
  go_wp2_with fail
  refine (HO.out _ HZ0.out).mono ?_
  rintro e w1 ⟨rfl, hb, hw⟩
  have HB1 := Lib.hid (HB0.out.trans (hb.mono HB0.out.size))
  have HW1 := Lib.hid (show MatAt w1 w0.heap.size 71 .i32 n (openW (some (n, m))) from hw)
  have HZ1 := Lib.hid (HZ0.out.below hb)
  have HW0 := Lib.hid HB0.out.size
  have HBW := Lib.hid hb
  clear hb hw HO
  go_wp2_with fail
  refine (oempty_any b n m _ (by obtain ⟨b', e, _, _, h⟩ := HZ1.out; cases e; exact h)).mono ?_
  cases he : emptyP (some (n, m)) with
  | true =>
    have HEQ := Lib.hid (show unsetP n m c k = ofP n (flat n (openW (some (n, m)))) by unfold unsetP; rw [if_pos he])
    rintro e w2 ⟨rfl, rfl⟩
    go_wp2_with fail
    refine (HSH.out _ _ _ HW1.out HRG.out).mono ?_
    rintro e w2 hz
    have HZ2 := Lib.hid hz
    obtain ⟨hb, v, rfl, hv⟩ := hz
    have HB2 := Lib.hid (HB1.out.trans (hb.mono HB1.out.size))
    clear hb hv
    go_wp2
    go_ret2
    rw [HEQ.out]
    exact ⟨HB2.out, HZ2.out.2⟩
  | false =>
    obtain ⟨M, hM⟩ : ∃ M, M = openW (some (n, m)) := ⟨_, rfl⟩
    have HEQ := Lib.hid (show unsetP n m c k = match (ofP n (flat n (tieW M c k))).1 with
      | some y => freeP n y [(c : Int)]
      | none => wideP n M c k by unfold unsetP; rw [if_neg (by simp [he]), hM])
    rintro e w2 ⟨rfl, rfl⟩
    rw [← hM] at HW1 HRG HWD
    clear hM he
    go_wp2_with fail
    refine (less_any _ c 0 n _ (2 * k + 1) _ (by omega) (by omega) HW1.out).mono ?_
    rintro e w4 ⟨rfl, ho, hm4⟩
    have HO4 := Lib.hid ho
    have HW4 := Lib.hid hm4
    clear ho hm4
    go_wp2_with fail
    refine (less_any _ 0 c n _ (-2 * k + 1) _ (by omega) (by omega) HW4.out).mono ?_
    rintro e w5 ⟨rfl, ho, hm5⟩
    have HW5 := Lib.hid (show MatAt w5 w0.heap.size 71 .i32 n (tieW M c k) from hm5)
    have HB5 := Lib.hid (HB1.out.trans ((HO4.out.trans ho).below HW0.out HB1.out.size))
    have HZ5 := Lib.hid (HZ0.out.below (HBW.out.trans ((HO4.out.trans ho).below (Nat.le_refl _) HBW.out.size)))
    have HR5 := Lib.hid (show Rng n (tieW M c k) from rng_less (rng_less HRG.out c 0 (by omega) (by omega) _ (by omega) (by omega)) 0 c (by omega) (by omega) _ (by omega) (by omega))
    clear ho hm5 HW1 HO4 HW4 HZ1 HB1 HBW
    go_wp2_with fail
    refine (HSH.out _ _ _ HW5.out HR5.out).mono ?_
    rcases ofP_cases n (flat n (tieW M c k)) with ⟨y, hy⟩ | ⟨r, hr0, hy⟩
    · rw [hy] at HEQ ⊢
      rintro e w2 ⟨hb, v, rfl, hv⟩
      have HB6 := Lib.hid (HB5.out.trans (hb.mono HB5.out.size))
      have HV := Lib.hid (show ZoneV 109 w2 v (some (n, y)) from hv)
      clear hb hv hy
      have HI1 := Lib.hid (ints_one w2 3 (c : Int))
      have HV1 := Lib.hid (fun o => HV.out.below ((Below.refl w2.heap.size w2).alloc (Nat.le_refl _) o))
      have HB7 := Lib.hid (fun o => HB6.out.alloc HB6.out.size o)
      go_wp2_with fail
      refine (HFR.out _ y _ [(c : Int)] _ (by exact HV1.out _) HI1.out (by simp)).mono ?_
      rintro e w3 hz
      have HZ2 := Lib.hid hz
      obtain ⟨hb, v, rfl, hv⟩ := hz
      have HB8 := Lib.hid ((HB7.out _).trans (hb.mono (HB7.out _).size))
      clear hb hv
      go_wp2
      go_ret2
      rw [HEQ.out]
      exact ⟨HB8.out, HZ2.out.2⟩
    · rw [hy] at HEQ ⊢
      rintro e w2 ⟨hb, v', rfl, hv⟩
      have HB6 := Lib.hid (HB5.out.trans (hb.mono HB5.out.size))
      have HZ6 := Lib.hid (HZ5.out.below hb)
      have t1 : (r != 0) = true := by simp [hr0]
      clear hb hv hy hr0
      go_wp2_with fail
      refine (HWD.out _ HZ6.out).mono ?_
      rintro e w3 hz
      have HZ2 := Lib.hid hz
      obtain ⟨hb, v, rfl, hv⟩ := hz
      have HB8 := Lib.hid (HB6.out.trans (hb.mono HB6.out.size))
      clear hb hv
      go_wp2
      go_ret2
      rw [HEQ.out]
      exact ⟨HB8.out, HZ2.out.2⟩

end Go.Proofs.Ytmelblnflalanaa
