/- Texts of ours, laid together: Pu, Uf, Uw, Uu, Pv, Pn. -/
import Derived.Test.YtidcnlecgcobmaaDoorMg12
/- The closed form is the greatest closed one below; time that passes twice: plain. -/
namespace Go.Proofs.YtidcnlecgcobmaaDoor
set_option linter.unusedVariables false
set_option linter.unusedSimpArgs false

theorem fw_ge {n k : Nat} {m E : Mat} (hk : k ≤ n) (hE : ∀ i j, i ≤ n → j ≤ n → FB (E i j)) (hm : ∀ i j, i ≤ n → j ≤ n → FB (m i j)) (ht : Tri n E (n + 1)) (hle : ∀ i j, i ≤ n → j ≤ n → E i j ≤ m i j) :
    ∀ i j, i ≤ n → j ≤ n → E i j ≤ fw k n m i j := fun i j hi hj => by
  have h1 := hle i j hi hj
  have h2 := ht k (by omega) i j hi hj
  have h3 := wsum_le (hE i k hi hk) (hm i k hi hk) (hE k j hk hj) (hm k j hk hj) (hle i k hi hk) (hle k j hk hj)
  unfold fw
  rw [if_pos ⟨hi, hj⟩]
  omega
theorem closeP_ge {n : Nat} (hn : n ≤ 8) {E : Mat} (hE : ∀ i j, i ≤ n → j ≤ n → FB (E i j)) (ht : Tri n E (n + 1)) (h1 : ∀ i, i ≤ n → E i i = 1) :
    ∀ s k m, k + s = n + 1 → Fit n (1073741824 * 4 ^ k) m → (∀ i j, i ≤ n → j ≤ n → E i j ≤ m i j) → ∃ m', closeP n s k m = some m' ∧ ∀ i j, i ≤ n → j ≤ n → E i j ≤ m' i j
  | 0, k, m, _, _, h => ⟨m, rfl, h⟩
  | s + 1, k, m, hk, hf, h => by
    have hg := fw_ge (show k ≤ n by omega) hE (fun i j hi hj => half_fb (fit_bd hf (by omega) i j hi hj)) ht h
    unfold closeP
    rw [if_pos (fun i hi => by have := hg i i hi hi; rw [h1 i hi] at this; exact this)]
    exact closeP_ge hn hE ht h1 s (k + 1) _ (by omega) (fit_next hf (by omega)) hg
/-- What is closed, and below, is below the closed form; and there is one. -/
theorem closed_ge {n : Nat} (hn : n ≤ 8) {E M : Mat} (hE : ∀ i j, i ≤ n → j ≤ n → FB (E i j)) (ht : Tri n E (n + 1)) (h1 : ∀ i, i ≤ n → E i i = 1) (hf : Fit n 1073741824 M) (hle : ∀ i j, i ≤ n → j ≤ n → E i j ≤ M i j) :
    ∃ m', closed n M = some m' ∧ ∀ i j, i ≤ n → j ≤ n → E i j ≤ m' i j := closeP_ge hn hE ht h1 (n + 1) 0 M (by omega) (by simpa using hf) hle

theorem wid_cases {a : Int} (h : rightB a = true) : (a = 2147483647 ∧ wid a = none62) ∨ (a ≠ 2147483647 ∧ wid a = a ∧ -536870912 ≤ a ∧ a ≤ 536870913) := by
  by_cases e : a = 2147483647
  · exact .inl ⟨e, by unfold wid; rw [if_pos e]⟩
  · have := rightB_bd h e
    exact .inr ⟨e, by unfold wid; rw [if_neg e], this.1, this.2⟩
theorem wid_le {a b : Int} (ha : rightB a = true) (hb : rightB b = true) : wid a ≤ wid b ↔ a ≤ b := by
  rcases wid_cases ha with ⟨h1, h2⟩ | ⟨h1, h2, h3, h4⟩ <;> rcases wid_cases hb with ⟨h5, h6⟩ | ⟨h5, h6, h7, h8⟩ <;> rw [h2, h6] <;> unfold none62 <;> omega
/-- What Of tells of cells that may be. -/
inductive OfIs (n : Nat) (X : Mat) : Option Mat × Int → Prop
  | empty (h : closed n (widW X) = none) : OfIs n X (some (fun _ _ => 0), 0)
  | full (C Y : Mat) (h : closed n (widW X) = some C) (hc : Closed n (widW X) C) (hy : ClosedZ n Y) (he : ∀ i j, i ≤ n → j ≤ n → widW Y i j = C i j) (hle : ∀ i j, i ≤ n → j ≤ n → Y i j ≤ X i j) : OfIs n X (some Y, 0)
  | over (C : Mat) (h : closed n (widW X) = some C) (hc : Closed n (widW X) C) : OfIs n X (none, 10)
theorem of_is {n : Nat} {X : Mat} (hn : n ≤ 8) (h : OkM n X) : OfIs n X (ofP n (flat n X)) := by
  rw [ofP_wid hn h]
  unfold zoneP
  cases hc : closed n (widW X) with
  | none => exact .empty hc
  | some C =>
    have hcl := closed_closed hn h.fit hc
    simp only
    by_cases ha : allR n C
    · rw [if_pos ha]
      have hz := closed_of h.wtop ha hcl
      have he : ∀ i j, i ≤ n → j ≤ n → widW (narM n C) i j = C i j := fun i j hi hj => by
        unfold widW narM
        rw [if_pos ⟨hi, hj⟩]
        exact wid_nar (ha i hi j hj)
      refine .full C _ hc hcl hz he fun i j hi hj => ?_
      refine (wid_le (hz.full.right i j hi hj) (h.right i j hi hj)).1 ?_
      have h1 := he i j hi hj
      have h2 := hcl.le i j
      unfold widW at h1 h2
      omega
    · rw [if_neg ha]
      exact .over C hc hcl
theorem nar_agree {n : Nat} {U : Mat} (hn : n ≤ 8) (h : ClosedZ n U) : Agree n (narM n (widW U)) U := fun i j hi hj => (ofP_closed hn h).2 i j hi hj
theorem nar_closed {n : Nat} {U : Mat} (hn : n ≤ 8) (h : ClosedZ n U) : ClosedZ n (narM n (widW U)) := h.congr fun i j hi hj => (nar_agree hn h i j hi hj).symm
/-- Of cells that are, in range, a closed zone's. -/
theorem of_same {n : Nat} {X U : Mat} (hn : n ≤ 8) (h : ClosedZ n U) (ha : Agree n X U) : ofP n (flat n X) = (some (narM n (widW U)), 0) := by
  rw [flat_congr ha]; exact (ofP_closed hn h).1
theorem nar_same {n : Nat} {U V : Mat} (h : Agree n U V) : narM n (widW U) = narM n (widW V) := narM_agree fun i j hi hj => by unfold widW; rw [h i j hi hj]
theorem ClosedZ.notEmpty {n : Nat} {m : Mat} (h : ClosedZ n m) : emptyP (some (n, m)) = false := decide_eq_false (by rw [h.full.one 0 (Nat.zero_le _)]; omega)
theorem ClosedZ.fb {n : Nat} {m : Mat} (h : ClosedZ n m) {i j : Nat} (hi : i ≤ n) (hj : j ≤ n) : FB (widW m i j) := right_fb (h.full.right i j hi hj)
theorem ClosedZ.wone {n : Nat} {m : Mat} (h : ClosedZ n m) {i : Nat} (hi : i ≤ n) : widW m i i = 1 := by unfold widW; rw [h.full.one i hi]; decide
theorem ClosedZ.wtop {n : Nat} {m : Mat} (h : ClosedZ n m) {j : Nat} (hj : j ≤ n) : widW m 0 j ≤ 1 := h.full.ok.wtop j hj
/-- What is no stricter than a step back to the zero clock. -/
theorem ClosedZ.to0 {n : Nat} {m : Mat} (h : ClosedZ n m) {i j : Nat} (hi : i ≤ n) (hj : j ≤ n) : widW m i j ≤ widW m i 0 := by
  have h1 := h.tri 0 (by omega) i j hi hj
  have h2 := wsum_le (h.fb hi (Nat.zero_le _)) (h.fb hi (Nat.zero_le _)) (h.fb (Nat.zero_le _) hj) (b' := 1) (.inr (by omega)) (Int.le_refl _) (h.wtop hj)
  rw [wsum_one_right] at h2
  omega
theorem ClosedZ.from0 {n : Nat} {m : Mat} (h : ClosedZ n m) {i j : Nat} (hi : i ≤ n) (hj : j ≤ n) : widW m 0 j ≤ widW m i j := by
  have h1 := h.tri i (by omega) 0 j (Nat.zero_le _) hj
  have h2 := wsum_le (h.fb (Nat.zero_le _) hi) (a' := 1) (.inr (by omega)) (h.fb hi hj) (h.fb hi hj) (h.wtop hi) (Int.le_refl _)
  rw [wsum_one_left] at h2
  omega
theorem ClosedZ.col0 {n : Nat} {m : Mat} (h : ClosedZ n m) {i : Nat} (hi : i ≤ n) : 1 ≤ widW m i 0 := by
  have := h.to0 hi hi
  rw [h.wone hi] at this
  exact this

/-! ### Up -/
def upM (m : Mat) : Mat := fun i j => if j = 0 ∧ i ≠ 0 then 2147483647 else m i j
theorem upUp_cell (m : Mat) (i j : Nat) : ∀ p, upUp m p i j = if j = 0 ∧ 1 ≤ i ∧ i < p then 2147483647 else m i j
  | 0 => by rw [if_neg (by omega)]; rfl
  | p + 1 => by
    unfold upUp
    split
    · rw [upUp_cell m i j p]
      split <;> split <;> first | rfl | (exfalso; omega)
    · unfold upd
      rw [upUp_cell m i j p]
      split <;> split <;> (try split) <;> first | rfl | (exfalso; omega)
theorem up_closed {n : Nat} {m : Mat} (h : ClosedZ n m) : ClosedZ n (upM m) := by
  have hr : RightM n (upM m) := fun i j hi hj => by
    unfold upM; split
    · decide
    · exact h.full.right i j hi hj
  refine ⟨⟨hr, fun i hi => ?_, fun j hj => ?_⟩, fun l hl i j hi hj => ?_⟩
  · unfold upM; rw [if_neg (by omega)]; exact h.full.one i hi
  · unfold upM; rw [if_neg (by omega)]; exact h.full.top j hj
  · have hl' : l ≤ n := by omega
    have hfb : FB (widW (upM m) i j) := right_fb (hr i j hi hj)
    have hinf : wid 2147483647 = none62 := by decide
    by_cases e1 : l = 0 ∧ i ≠ 0
    · have : widW (upM m) i l = none62 := by unfold widW upM; rw [if_pos e1, hinf]
      rw [this, wsum_none_left]; exact hfb.le
    · by_cases e2 : j = 0 ∧ l ≠ 0
      · have : widW (upM m) l j = none62 := by unfold widW upM; rw [if_pos e2, hinf]
        rw [this, wsum_none_right]; exact hfb.le
      · have h1 : widW (upM m) i l = widW m i l := by unfold widW upM; rw [if_neg e1]
        have h2 : widW (upM m) l j = widW m l j := by unfold widW upM; rw [if_neg e2]
        have h3 : widW (upM m) i j = widW m i j := by unfold widW upM; rw [if_neg (by omega)]
        rw [h1, h2, h3]
        exact h.tri l hl i j hi hj
theorem upW_agree {n : Nat} {m : Mat} (h : ClosedZ n m) : Agree n (upW (some (n, m))) (upM m) := fun i j hi hj => by
  have e : upW (some (n, m)) = upUp (openW (some (n, m))) (n + 1) := by unfold upW; rw [if_neg (by simp [h.notEmpty])]; rfl
  rw [e, (open_agree n m).up (n + 1) i j hi hj, upUp_cell]
  unfold upM
  split <;> split <;> first | rfl | (exfalso; omega)
theorem incl_of {n : Nat} {m o : Mat} (h : ∀ i j, i ≤ n → j ≤ n → o i j ≤ m i j) : inclM n m o = true := decide_eq_true (.inr fun i hi j hj => h i j hi hj)
theorem incl_zero (n : Nat) (m : Mat) : inclM n m (fun _ _ => 0) = true := decide_eq_true (.inl (by decide))
theorem up_twice {n : Nat} {m : Mat} (hn : n ≤ 8) (h : m = (fun _ _ => 0) ∨ ClosedZ n m) :
    ∃ a, ofP n (flat n (upW (some (n, m)))) = (some a, 0) ∧ ofP n (flat n (upW (some (n, a)))) = (some a, 0) ∧ inclM n a m = true := by
  rcases h with rfl | h
  · exact ⟨_, up_zero n hn, up_zero n hn, incl_zero n _⟩
  · have hc := up_closed h
    refine ⟨_, of_same hn hc (upW_agree h), ?_, ?_⟩
    · have hcc := nar_closed hn hc
      rw [of_same hn (up_closed hcc) (upW_agree hcc)]
      refine Prod.ext (congrArg some (nar_same fun i j hi hj => ?_)) rfl
      have := nar_agree hn hc i j hi hj
      unfold upM at this ⊢
      split
      · rfl
      · rename_i hij
        rw [if_neg hij] at this
        exact this
    · refine incl_of fun i j hi hj => ?_
      rw [nar_agree hn hc i j hi hj]
      unfold upM
      split
      · exact (right_hi (h.full.right i j hi hj)).2
      · exact Int.le_refl _

/-! ### Down -/
theorem downIn_other {m : Mat} {i a b : Nat} (h : a ≠ 0 ∨ b ≠ i) : ∀ j, downIn m i j a b = m a b
  | 0 => rfl
  | j + 1 => by
    unfold downIn
    split
    · exact downIn_other h j
    · unfold lessM upd
      rw [if_neg (by omega)]
      exact downIn_other h j
theorem downIn_val {m : Mat} {i : Nat} : ∀ j, downIn m i j 0 i ≤ m 0 i ∧ (∀ q, 1 ≤ q → q < j → downIn m i j 0 i ≤ m q i) ∧ (downIn m i j 0 i = m 0 i ∨ ∃ q, 1 ≤ q ∧ q < j ∧ downIn m i j 0 i = m q i)
  | 0 => ⟨Int.le_refl _, fun q h1 h2 => by omega, .inl rfl⟩
  | j + 1 => by
    obtain ⟨h1, h2, h3⟩ := downIn_val (m := m) (i := i) j
    unfold downIn
    split
    · subst j
      exact ⟨h1, fun q a b => by omega, .inl (by rcases h3 with h | ⟨q, a, b, _⟩; exact h; omega)⟩
    · rename_i hj
      have e : lessM (downIn m i j) 0 i (downIn m i j j i) 0 i = min (downIn m i j 0 i) (m j i) := by
        unfold lessM upd
        rw [if_pos ⟨rfl, rfl⟩, downIn_other (.inl hj)]
      rw [e]
      refine ⟨by omega, fun q a b => ?_, ?_⟩
      · by_cases e2 : q = j
        · subst e2; omega
        · have := h2 q a (by omega); omega
      · rcases Int.le_total (downIn m i j 0 i) (m j i) with hle | hle
        · rw [Int.min_eq_left hle]
          rcases h3 with h | ⟨q, a, b, c⟩
          · exact .inl h
          · exact .inr ⟨q, a, by omega, c⟩
        · rw [Int.min_eq_right hle]
          exact .inr ⟨j, by omega, by omega, rfl⟩
theorem downUp_other {n : Nat} {m : Mat} {a b : Nat} (h : a ≠ 0 ∨ b = 0) : ∀ p, downUp n m p a b = m a b
  | 0 => rfl
  | p + 1 => by
    unfold downUp
    split
    · exact downUp_other h p
    · rw [downIn_other (by omega)]
      unfold upd
      rw [if_neg (by omega)]
      exact downUp_other h p
theorem downUp_val {n : Nat} {m : Mat} {j : Nat} (h1 : 1 ≤ j) (hj : j ≤ n) (hd : m j j = 1) : ∀ p, j < p → (∀ q, 1 ≤ q → q ≤ n → downUp n m p 0 j ≤ m q j) ∧ ∃ q, 1 ≤ q ∧ q ≤ n ∧ downUp n m p 0 j = m q j
  | 0, h => by omega
  | p + 1, h => by
    unfold downUp
    rw [if_neg (by omega)]
    by_cases e : j = p
    · subst e
      have hq : ∀ q, 1 ≤ q → upd (downUp n m j) 0 j 1 q j = m q j := fun q hq => by
        unfold upd
        rw [if_neg (by omega)]
        exact downUp_other (.inl (by omega)) j
      obtain ⟨a, b, c⟩ := downIn_val (m := upd (downUp n m j) 0 j 1) (i := j) (n + 1)
      have h0 : upd (downUp n m j) 0 j 1 0 j = 1 := by unfold upd; rw [if_pos ⟨rfl, rfl⟩]
      refine ⟨fun q x y => by rw [← hq q x]; exact b q x (by omega), ?_⟩
      rcases c with c | ⟨q, x, y, c⟩
      · exact ⟨j, h1, hj, by rw [c, h0, hd]⟩
      · exact ⟨q, x, by omega, by rw [c, hq q x]⟩
    · have e2 : downIn (upd (downUp n m p) 0 p 1) p (n + 1) 0 j = downUp n m p 0 j := by
        rw [downIn_other (.inr e)]
        unfold upd
        rw [if_neg (by omega)]
      rw [e2]
      exact downUp_val h1 hj hd p (by omega)
def downM (n : Nat) (m : Mat) : Mat := downUp n m (n + 1)
theorem downM_other {n : Nat} {m : Mat} {a b : Nat} (h : a ≠ 0 ∨ b = 0) : downM n m a b = m a b := downUp_other h _
theorem downM_val {n : Nat} {m : Mat} {j : Nat} (h1 : 1 ≤ j) (hj : j ≤ n) (hd : m j j = 1) : (∀ q, 1 ≤ q → q ≤ n → downM n m 0 j ≤ m q j) ∧ ∃ q, 1 ≤ q ∧ q ≤ n ∧ downM n m 0 j = m q j := downUp_val h1 hj hd _ (by omega)
theorem down_closed {n : Nat} {m : Mat} (h : ClosedZ n m) : ClosedZ n (downM n m) := by
  have hr : RightM n (downM n m) := fun i j hi hj => by
    by_cases e : i ≠ 0 ∨ j = 0
    · rw [downM_other e]; exact h.full.right i j hi hj
    · have e1 : i = 0 := by omega
      subst e1
      obtain ⟨_, q, a, b, c⟩ := downM_val (m := m) (j := j) (by omega) hj (h.full.one j hj)
      rw [c]; exact h.full.right q j b hj
  refine ⟨⟨hr, fun i hi => ?_, fun j hj => ?_⟩, fun l hl i j hi hj => ?_⟩
  · rw [downM_other (by omega)]; exact h.full.one i hi
  · by_cases e : j = 0
    · subst e; rw [downM_other (.inr rfl), h.full.one 0 (Nat.zero_le _)]; exact Int.le_refl _
    · have := (downM_val (m := m) (j := j) (by omega) hj (h.full.one j hj)).1 j (by omega) hj
      rw [h.full.one j hj] at this; exact this
  · have hl' : l ≤ n := by omega
    have heq : ∀ a b, a ≠ 0 ∨ b = 0 → widW (downM n m) a b = widW m a b := fun a b hab => by unfold widW; rw [downM_other hab]
    by_cases hi0 : i ≠ 0
    · rw [heq i j (.inl hi0), heq i l (.inl hi0)]
      by_cases hl0 : l ≠ 0 ∨ j = 0
      · rw [heq l j hl0]; exact h.tri l hl i j hi hj
      · have : l = 0 := by omega
        subst this
        obtain ⟨_, q, a, b, c⟩ := downM_val (m := m) (j := j) (by omega) hj (h.full.one j hj)
        have e : widW (downM n m) 0 j = widW m q j := by unfold widW; rw [c]
        rw [e]
        have t1 := h.tri q (by omega) i j hi hj
        have t2 := wsum_le (h.fb hi b) (h.fb hi (Nat.zero_le _)) (h.fb b hj) (h.fb b hj) (h.to0 hi b) (Int.le_refl _)
        omega
    · have : i = 0 := by omega
      subst this
      by_cases hj0 : j = 0
      · subst hj0
        rw [heq 0 0 (.inr rfl), heq l 0 (.inr rfl), h.wone (Nat.zero_le _)]
        by_cases hl0 : l = 0
        · subst hl0; rw [heq 0 0 (.inr rfl), h.wone (Nat.zero_le _)]; decide
        · obtain ⟨_, q, a, b, c⟩ := downM_val (m := m) (j := l) (by omega) hl' (h.full.one l hl')
          have e : widW (downM n m) 0 l = widW m q l := by unfold widW; rw [c]
          rw [e]
          have t1 := h.tri l hl q 0 b (Nat.zero_le _)
          have t2 := h.col0 b
          omega
      · obtain ⟨u, q0, a0, b0, c0⟩ := downM_val (m := m) (j := j) (by omega) hj (h.full.one j hj)
        by_cases hl0 : l = 0
        · subst hl0
          rw [heq 0 0 (.inr rfl), h.wone (Nat.zero_le _), wsum_one_left]
          exact Int.le_refl _
        · obtain ⟨_, q, a, b, c⟩ := downM_val (m := m) (j := l) (by omega) hl' (h.full.one l hl')
          have e : widW (downM n m) 0 l = widW m q l := by unfold widW; rw [c]
          rw [e, heq l j (.inl hl0)]
          have t1 := h.tri l hl q j b hj
          have t2 := (wid_le (hr 0 j (Nat.zero_le _) hj) (h.full.right q j b hj)).2 (u q a b)
          unfold widW at t1 ⊢
          omega
theorem downW_agree {n : Nat} {m : Mat} (h : ClosedZ n m) : Agree n (downW (some (n, m))) (downM n m) := fun i j hi hj => by
  have e : downW (some (n, m)) = downUp n (openW (some (n, m))) (n + 1) := by unfold downW; rw [if_neg (by simp [h.notEmpty])]; rfl
  rw [e, (open_agree n m).down (n + 1) (Nat.le_refl _) i j hi hj]
  rfl
theorem down_idem {n : Nat} {m D : Mat} (h : ClosedZ n m) (hD : Agree n D (downM n m)) : Agree n (downM n D) (downM n m) := fun i j hi hj => by
  by_cases e : i ≠ 0 ∨ j = 0
  · rw [downM_other e]; exact hD i j hi hj
  · have e1 : i = 0 := by omega
    subst e1
    have hdd : D j j = 1 := by rw [hD j j hj hj, downM_other (by omega)]; exact h.full.one j hj
    obtain ⟨u, q, a, b, c⟩ := downM_val (m := m) (j := j) (by omega) hj (h.full.one j hj)
    obtain ⟨u', q', a', b', c'⟩ := downM_val (m := D) (j := j) (by omega) hj hdd
    have x1 := u q' a' b'
    have x2 := u' q a b
    have e2 : D q' j = m q' j := (hD q' j b' hj).trans (downM_other (.inl (Nat.pos_iff_ne_zero.1 a')))
    have e3 : D q j = m q j := (hD q j b hj).trans (downM_other (.inl (Nat.pos_iff_ne_zero.1 a)))
    omega
theorem down_twice {n : Nat} {m : Mat} (hn : n ≤ 8) (h : m = (fun _ _ => 0) ∨ ClosedZ n m) :
    ∃ a, ofP n (flat n (downW (some (n, m)))) = (some a, 0) ∧ ofP n (flat n (downW (some (n, a)))) = (some a, 0) ∧ inclM n a m = true := by
  rcases h with rfl | h
  · exact ⟨_, down_zero n hn, down_zero n hn, incl_zero n _⟩
  · have hc := down_closed h
    refine ⟨_, of_same hn hc (downW_agree h), ?_, ?_⟩
    · have hcc := nar_closed hn hc
      rw [of_same hn (down_closed hcc) (downW_agree hcc)]
      exact Prod.ext (congrArg some (nar_same (down_idem h (nar_agree hn hc)))) rfl
    · refine incl_of fun i j hi hj => ?_
      rw [nar_agree hn hc i j hi hj]
      by_cases e : i ≠ 0 ∨ j = 0
      · rw [downM_other e]; exact Int.le_refl _
      · have e1 : i = 0 := by omega
        subst e1
        obtain ⟨_, q, a, b, c⟩ := downM_val (m := m) (j := j) (by omega) hj (h.full.one j hj)
        rw [c]
        exact (wid_le (h.full.right 0 j hi hj) (h.full.right q j b hj)).1 (h.from0 b hj)

end Go.Proofs.YtidcnlecgcobmaaDoor

/- Clocks that are any. -/
namespace Go.Proofs.YtidcnlecgcobmaaDoor
open Go Go.RowKit
set_option linter.unusedVariables false
set_option linter.unusedSimpArgs false
attribute [local go_sem] min_ints max_ints

/-- Cells that say nothing of the first p of some clocks. -/
def freeUp (M : Mat) (n : Nat) (l : List Int) : Nat → Mat
  | 0 => M
  | p + 1 => forgetUp (l.getD p 0).toNat (freeUp M n l p) (n + 1)
/-- The cells behind Free. -/
def freeW (z : Option (Nat × Mat)) (l : List Int) : Mat := if emptyP z then openW z else freeUp (openW z) (dimN z) l l.length
/-- What Free answers of a zone. -/
def freeP (n : Nat) (m : Mat) (l : List Int) : Option Mat × Int := if l.all (isB n) = true then ofP n (flat n (freeW (some (n, m)) l)) else (none, 12)
theorem rng_free {n : Nat} {M : Mat} {l : List Int} (h : Rng n M) (hc : l.all (isB n) = true) : ∀ p, p ≤ l.length → Rng n (freeUp M n l p)
  | 0, _ => h
  | p + 1, hp => by
    have a := (all_getD l (isB n) 0).1 hc p (by omega)
    unfold isB at a
    simp only [decide_eq_true_eq] at a
    exact rng_forget (rng_free h hc p (by omega)) _ (by omega) _ (Nat.le_refl _)

set_option maxHeartbeats 1000000 in
set_option maxRecDepth 100000 in
theorem free_none (l : Value) (w : World) : Calls Tryd.prog 43 #[.pointer none, l] w fun e w' => e = .returned (.tuple #[.pointer none, .int .i64 1]) ∧ w = w' := by
  go_enter Tryd.func43, Tryd.ntmps43
  go_wp2
  go_ret2
  exact ⟨rfl, rfl⟩

set_option maxHeartbeats 2000000 in
set_option maxRecDepth 100000 in
theorem free_zone (v : Value) (n : Nat) (m : Mat) (A : Option Addr) (c : Nat) (l : List Int) (w : World) (h : ZoneV 126 w v (some (n, m))) (hI : Ints w .i64 A l) (hmax : l.length ≤ 4611686018427387904) :
    Calls Tryd.prog 43 #[v, .slice A l.length c] w (MakesZ w n (freeP n m l)) := by
  have HI := Lib.hid hI
  have HZ := Lib.hid h
  obtain ⟨b, rfl, hn, hr, hm⟩ := h
  have hl : (cellsP (some (n, m))).length ≤ 81 := cellsP_short _ fun k m' e => by simp at e; omega
  have HO := Lib.hid (fun w h => oopen_any (.pointer (some ⟨b, 0, none⟩)) (some (n, m)) w h hn hl)
  have HRG := Lib.hid (rng_open hr)
  have HSH := Lib.hid (fun c m' w h hk => shut_any c n m' w hn h hk)
  have HIS := Lib.hid (fun x w => is_any n x w)
  have HM := Lib.hid hm
  clear hm hl hr hI
  go_enter Tryd.func43, Tryd.ntmps43
  go_wp2_with fail
  refine (HO.out _ HZ.out).mono ?_
  obtain ⟨M, hM⟩ : ∃ M, M = openW (some (n, m)) := ⟨_, rfl⟩
  rintro e w1 ⟨rfl, hb, hw⟩
  have HK1 := Lib.hid (show KW w n M w1 from ⟨hb, by rw [hM]; exact hw⟩)
  rw [← hM] at HRG
  have HMM := Lib.hid hM
  clear hb hw HO HZ hM
  go_wp2
  go_loopg [17] l.length (fun g v wr => ∃ p : Nat, v = .int .i64 p ∧ Hid (KW w n M wr) ∧ Hid (p ≤ l.length ∧ g + p = l.length ∧ ∀ q, q < p → isB n (l.getD q 0) = true))
  case atStart => exact ⟨0, by simp, HK1.out, by omega, by omega, fun q h => by omega⟩
  case round =>
    clear HK1
    obtain ⟨p, rfl, HR, HG⟩ := hrel
    by_cases hp : p < l.length
    · obtain ⟨b', off, rfl, c1⟩ := HI.out.below HR.out.1 p hp
      obtain ⟨x, hx⟩ : ∃ x, x = l.getD p 0 := ⟨_, rfl⟩
      rw [← hx] at c1
      have HX := Lib.hid hx
      have c0 := HR.out.2.head
      have hbw := HR.out.2.lt
      clear hx
      by_cases r1 : isB n x = true
      · have R1 := Lib.hid r1
        clear r1
        go_wp2_with fail
        refine (HIS.out _ _).mono ?_
        rw [R1.out]
        rintro e w3 ⟨rfl, hb⟩
        have HF := Lib.hid (HR.out.step hb)
        clear hb
        go_wp2
        go_roundg (gk - 1)
        case measure => have h := HG.out; omega
        case rel =>
          refine ⟨p + 1, by go_num, HF.out, by omega, by have h := HG.out; omega, fun q hq => ?_⟩
          by_cases e : q = p
          · subst e; rw [← HX.out]; exact R1.out
          · exact HG.out.2.2 q (by omega)
      · have R1 := Lib.hid (Bool.eq_false_iff.2 r1)
        have hE : freeP n m l = (none, 12) := by
          unfold freeP
          rw [if_neg]
          intro ha
          have := (all_getD l (isB n) 0).1 ha p hp
          rw [← HX.out] at this
          exact r1 this
        have HE := Lib.hid hE
        clear r1 hE
        go_wp2_with fail
        refine (HIS.out _ _).mono ?_
        rw [R1.out]
        rintro e w3 ⟨rfl, hb⟩
        have HF := Lib.hid (HR.out.step hb)
        clear hb
        go_wp2
        go_ret2
        rw [HE.out]
        exact ⟨HF.out.1, .pointer none, rfl, rfl⟩
    · have e : p = l.length := by have := HG.out.1; omega
      subst e
      have hall : l.all (isB n) = true := (all_getD l (isB n) 0).2 HG.out.2.2
      have HALL := Lib.hid hall
      have HR0 := Lib.hid HR.out
      have HE := Lib.hid (show freeP n m l = ofP n (flat n (freeW (some (n, m)) l)) by unfold freeP; rw [hall]; rfl)
      clear hall HG HR
      go_wp2_with fail
      refine (oempty_any b n m _ (by exact HM.out.later HR0.out.1)).mono ?_
      cases he : emptyP (some (n, m)) with
      | true =>
        have HEQ := Lib.hid (show freeW (some (n, m)) l = M by unfold freeW; rw [if_pos he]; exact HMM.out.symm)
        clear he
        rintro e w2 ⟨rfl, rfl⟩
        go_wp2_with fail
        refine (HSH.out _ _ _ HR0.out.2 HRG.out).mono ?_
        rintro e w2 hz
        have HZ2 := Lib.hid hz
        obtain ⟨hb, v, rfl, hv⟩ := hz
        have HB2 := Lib.hid (HR0.out.1.trans (hb.mono HR0.out.1.size))
        clear hb hv
        go_wp2
        go_ret2
        rw [HE.out, HEQ.out]
        exact ⟨HB2.out, HZ2.out.2⟩
      | false =>
        have HEQ := Lib.hid (show freeW (some (n, m)) l = freeUp M n l l.length by unfold freeW; rw [if_neg (by simp [he]), ← HMM.out]; rfl)
        clear he
        rintro e w2 ⟨rfl, rfl⟩
        go_wp2
        go_loopg [34] l.length (fun g v wr => ∃ p : Nat, v = .int .i64 p ∧ Hid (KW w n (freeUp M n l p) wr) ∧ Hid (p ≤ l.length ∧ g + p = l.length))
        case atStart => exact ⟨0, by simp, HR0.out, by omega, by omega⟩
        case round =>
          clear HR0
          obtain ⟨p, rfl, HR, HG⟩ := hrel
          by_cases hp : p < l.length
          · obtain ⟨b', off, rfl, c1⟩ := HI.out.below HR.out.1 p hp
            have hcl := (all_getD l (isB n) 0).1 HALL.out p hp
            have HUP := Lib.hid (show freeUp M n l (p + 1) = forgetUp (l.getD p 0).toNat (freeUp M n l p) (n + 1) from rfl)
            obtain ⟨x, hx⟩ : ∃ x, x = l.getD p 0 := ⟨_, rfl⟩
            rw [← hx] at c1 hcl HUP
            clear hx
            have hcl2 : 1 ≤ x ∧ x ≤ n := by
              unfold isB at hcl
              simpa only [decide_eq_true_eq] using hcl
            obtain ⟨a, rfl⟩ : ∃ a : Nat, x = a := ⟨x.toNat, by omega⟩
            rw [Int.toNat_natCast] at HUP
            have ha9 : a ≤ n := by omega
            clear hcl hcl2
            go_wp2_with fail
            refine (forget_any _ n a _ _ hn ha9 HR.out.2).mono ?_
            rintro e w3 ⟨rfl, ho, hm⟩
            have HN := Lib.hid (HR.out.only ho hm)
            rw [← HUP.out] at HN
            clear ho hm
            go_wp2
            go_roundg (gk - 1)
            case measure => have h := HG.out; omega
            case rel => exact ⟨p + 1, by go_num, HN.out, by omega, by have h := HG.out; omega⟩
          · have e : p = l.length := by have := HG.out.1; omega
            subst e
            go_wp2_with fail
            refine (HSH.out _ _ _ HR.out.2 (rng_free HRG.out HALL.out _ (Nat.le_refl _))).mono ?_
            rintro e w2 hz
            have HZ2 := Lib.hid hz
            obtain ⟨hb, v, rfl, hv⟩ := hz
            have HB3 := Lib.hid (HR.out.1.trans (hb.mono HR.out.1.size))
            clear hb hv
            go_wp2
            go_ret2
            rw [HE.out, HEQ.out]
            exact ⟨HB3.out, HZ2.out.2⟩

end Go.Proofs.YtidcnlecgcobmaaDoor

/- From where a clock is set to a number, where the clock's own bounds may not be. -/
namespace Go.Proofs.YtidcnlecgcobmaaDoor
open Go Go.RowKit
set_option linter.unusedVariables false
set_option linter.unusedSimpArgs false
attribute [local go_sem] min_ints max_ints

/-- The first p clocks, with what the clock c is to be. -/
def wideUp (M : Mat) (c : Nat) (k : Int) : Nat → Mat × Int
  | 0 => (M, 0)
  | p + 1 =>
    if p = 0 ∨ p = c then wideUp M c k p else
    if (wideUp M c k p).2 ≠ 0 then wideUp M c k p else
    if (sumP [(wideUp M c k p).1 p c, 2 * k + 1]).2 ≠ 0 ∧ (wideUp M c k p).1 p 0 = 2147483647 then ((wideUp M c k p).1, (sumP [(wideUp M c k p).1 p c, 2 * k + 1]).2) else
    let Y := if (sumP [(wideUp M c k p).1 p c, 2 * k + 1]).2 = 0 then lessM (wideUp M c k p).1 p 0 (sumP [(wideUp M c k p).1 p c, 2 * k + 1]).1 else (wideUp M c k p).1
    if (sumP [-2 * k + 1, Y c p]).2 ≠ 0 then (Y, (sumP [-2 * k + 1, Y c p]).2) else (lessM Y 0 p (sumP [-2 * k + 1, Y c p]).1, 0)
/-- What unsetWide answers. -/
def wideP (n : Nat) (M : Mat) (c : Nat) (k : Int) : Option Mat × Int := if (wideUp M c k (n + 1)).2 = 0 then ofP n (flat n (forgetUp c (wideUp M c k (n + 1)).1 (n + 1))) else (none, (wideUp M c k (n + 1)).2)
theorem sumP_rng (a b : Int) : -2147483648 ≤ (sumP [a, b]).1 ∧ (sumP [a, b]).1 ≤ 2147483647 := by
  unfold sumP
  split
  · split
    · simp
    · unfold ofB
      split
      · simp
      · simp only
        split <;> omega
  · simp
theorem rng_wide {n : Nat} {M : Mat} (h : Rng n M) (c : Nat) (k : Int) : ∀ p, p ≤ n + 1 → Rng n (wideUp M c k p).1
  | 0, _ => h
  | p + 1, hp => by
    have ih := rng_wide h c k p (by omega)
    unfold wideUp
    split
    · exact ih
    · split
      · exact ih
      · split
        · exact ih
        · have s1 := sumP_rng ((wideUp M c k p).1 p c) (2 * k + 1)
          have hY : Rng n (if (sumP [(wideUp M c k p).1 p c, 2 * k + 1]).2 = 0 then lessM (wideUp M c k p).1 p 0 (sumP [(wideUp M c k p).1 p c, 2 * k + 1]).1 else (wideUp M c k p).1) := by
            split
            · exact rng_less ih p 0 (by omega) (by omega) _ s1.1 s1.2
            · exact ih
          simp only
          generalize (if (sumP [(wideUp M c k p).1 p c, 2 * k + 1]).2 = 0 then lessM (wideUp M c k p).1 p 0 (sumP [(wideUp M c k p).1 p c, 2 * k + 1]).1 else (wideUp M c k p).1) = Y at *
          split
          · exact hY
          · have s2 := sumP_rng (-2 * k + 1) (Y c p)
            exact rng_less hY 0 p (by omega) (by omega) _ s2.1 s2.2
theorem wide_stays {M : Mat} {c : Nat} {k : Int} {p : Nat} (h : (wideUp M c k p).2 ≠ 0) : ∀ d, wideUp M c k (p + d) = wideUp M c k p
  | 0 => rfl
  | d + 1 => by
    rw [← Nat.add_assoc, wideUp, wide_stays h d]
    split
    · rfl
    · rfl
theorem wide_ends {n : Nat} {M : Mat} {c : Nat} {k : Int} {p : Nat} (hp : p ≤ n + 1) (h : (wideUp M c k p).2 ≠ 0) : wideP n M c k = (none, (wideUp M c k p).2) := by
  have e := wide_stays h (n + 1 - p)
  rw [show p + (n + 1 - p) = n + 1 by omega] at e
  unfold wideP
  rw [e, if_neg h]

set_option maxHeartbeats 2000000 in
set_option maxRecDepth 100000 in
theorem unset_wide (v : Value) (n : Nat) (m : Mat) (c : Nat) (k : Int) (w : World) (h : ZoneV 126 w v (some (n, m))) (hc : 1 ≤ c ∧ c ≤ n) (hk : 0 ≤ k ∧ k ≤ 1048576) :
    Calls Tryd.prog 92 #[v, .int .i64 c, .int .i64 k] w (MakesZ w n (wideP n (openW (some (n, m))) c k)) := by
  have HZ := Lib.hid h
  obtain ⟨b, rfl, hn, hr, hm⟩ := h
  have hl : (cellsP (some (n, m))).length ≤ 81 := cellsP_short _ fun k m' e => by simp at e; omega
  have HO := Lib.hid (fun w h => oopen_any (.pointer (some ⟨b, 0, none⟩)) (some (n, m)) w h hn hl)
  have HRG := Lib.hid (rng_open hr)
  have HSH := Lib.hid (fun c m' w h hk => shut_any c n m' w hn h hk)
  have HAD := Lib.hid (fun a b w => add_any a b w)
  have g1 : IntKind.i64.wrap (2 * k) = 2 * k := IntWalk.i64_in _ (by omega)
  have g2 : IntKind.i64.wrap (2 * k + 1) = 2 * k + 1 := IntWalk.i64_in _ (by omega)
  have g3 : IntKind.i64.wrap (-2 * k) = -2 * k := IntWalk.i64_in _ (by omega)
  have g4 : IntKind.i64.wrap (-2 * k + 1) = -2 * k + 1 := IntWalk.i64_in _ (by omega)
  have g5 : IntKind.i32.wrap (2 * k + 1) = 2 * k + 1 := by rw [IntKind.wrap_i32]; omega
  have g6 : IntKind.i32.wrap (-2 * k + 1) = -2 * k + 1 := by rw [IntKind.wrap_i32]; omega
  clear hm hl hr
  go_enter Tryd.func92, Tryd.ntmps92
  go_wp2_with fail
  refine (HO.out _ HZ.out).mono ?_
  obtain ⟨M, hM⟩ : ∃ M, M = openW (some (n, m)) := ⟨_, rfl⟩
  rintro e w1 ⟨rfl, hb, hw⟩
  have HK1 := Lib.hid (show KW w n M w1 from ⟨hb, by rw [hM]; exact hw⟩)
  rw [← hM] at HRG
  have HMM := Lib.hid hM
  clear hb hw HO HZ hM
  go_wp2
  obtain ⟨K, hK⟩ : ∃ K, K = 2 * k + 1 := ⟨_, rfl⟩
  obtain ⟨J, hJ⟩ : ∃ J, J = -2 * k + 1 := ⟨_, rfl⟩
  have HKJ := Lib.hid (And.intro hK hJ)
  rw [← hK, ← hJ]
  clear hK hJ
  go_loopg [11] n (fun g v wr => ∃ p : Nat, v = .int .i64 p ∧ Hid (KW w n (wideUp M c k p).1 wr) ∧ Hid (1 ≤ p ∧ p ≤ n + 1 ∧ g + p = n + 1 ∧ (wideUp M c k p).2 = 0))
  case atStart => exact ⟨1, by simp, HK1.out, by omega, by omega, by omega, rfl⟩
  case round =>
    clear HK1
    obtain ⟨p, rfl, HR, HG⟩ := hrel
    have c0 := HR.out.2.head
    have hlt := HR.out.2.lt
    by_cases hp : p ≤ n
    · have hpi : (p : Int) ≤ (n : Int) := by omega
      have hp9 : (p : Int) < 9 := by omega
      have hc9 : (c : Int) < 9 := by omega
      by_cases hpc : p = c
      · subst hpc
        have HN := Lib.hid (show KW w n (wideUp M p k (p + 1)).1 wr ∧ (wideUp M p k (p + 1)).2 = 0 by rw [wideUp, if_pos (.inr rfl)]; exact ⟨HR.out, HG.out.2.2.2⟩)
        go_wp2
        go_roundg (gk - 1)
        case measure => have h := HG.out; omega
        case rel => exact ⟨p + 1, by go_num, HN.out.1, by omega, by omega, by have h := HG.out; omega, HN.out.2⟩
      · have t0 : ((p : Int) == (c : Int)) = false := by simp; omega
        have HEQ := Lib.hid (show wideUp M c k (p + 1) = _ from by
          rw [wideUp, if_neg (by have := HG.out.1; omega), if_neg (by rw [HG.out.2.2.2]; simp), ← HKJ.out.1, ← HKJ.out.2])
        obtain ⟨X, hX⟩ : ∃ X, X = (wideUp M c k p).1 := ⟨_, rfl⟩
        rw [← hX] at HEQ HR
        have c1 := HR.out.2.cell p c (by omega) (by omega)
        have c2 := HR.out.2.cell p 0 (by omega) (by omega)
        simp only [Nat.add_zero] at c2
        have HGX := Lib.hid (fun (e : Mat × Int) (he : wideUp M c k (p + 1) = e) (h : e.2 ≠ 0) => show wideP n M c k = (none, e.2) by
          have := wide_ends (n := n) (M := M) (c := c) (k := k) (p := p + 1) (by omega) (by rw [he]; exact h)
          rw [he] at this; exact this)
        obtain ⟨x, hx⟩ : ∃ x, x = X p c := ⟨_, rfl⟩
        obtain ⟨y, hy⟩ : ∃ y, y = X p 0 := ⟨_, rfl⟩
        rw [← hx] at c1
        rw [← hy] at c2
        rw [← hx, ← hy] at HEQ
        clear hx hy hX hpc
        go_wp2_with fail
        refine (HAD.out _ _ _).mono ?_
        obtain ⟨s, hs⟩ : ∃ s, s = sumP [x, K] := ⟨_, rfl⟩
        rw [← hs] at HEQ ⊢
        clear hs
        obtain ⟨sv, se⟩ := s
        rintro e w3 ⟨rfl, hb⟩
        have HR3 := Lib.hid (HR.out.step hb)
        have c2' := (hb.cell (p := ⟨w.heap.size, 1 + p * 9, none⟩) (World.block_lt_of_cell? wr _ c2)).trans c2
        have c0' := HR3.out.2.head
        clear hb HR c0 c1 c2 hlt
        simp only at HEQ
        by_cases hse : se = 0
        · subst hse
          rw [if_neg (by simp), if_pos rfl] at HEQ
          go_wp2_with fail
          refine (less_any w.heap.size p 0 n X sv _ (by omega) (by omega) HR3.out.2).mono ?_
          rintro e w4 ⟨rfl, ho, hm⟩
          have HR4 := Lib.hid (HR3.out.only ho hm)
          clear ho hm HR3 c0' c2'
          obtain ⟨Y, hY⟩ : ∃ Y, Y = lessM X p 0 sv := ⟨_, rfl⟩
          rw [← hY] at HEQ HR4
          clear hY
          have c3 := HR4.out.2.cell c p (by omega) (by omega)
          obtain ⟨z, hz⟩ : ∃ z, z = Y c p := ⟨_, rfl⟩
          rw [← hz] at c3 HEQ
          clear hz
          go_wp2_with fail
          refine (HAD.out _ _ _).mono ?_
          obtain ⟨s, hs⟩ : ∃ s, s = sumP [J, z] := ⟨_, rfl⟩
          rw [← hs] at HEQ ⊢
          clear hs
          obtain ⟨tv, te⟩ := s
          rintro e w5 ⟨rfl, hb⟩
          have HR5 := Lib.hid (HR4.out.step hb)
          clear hb HR4 c3
          simp only at HEQ
          by_cases hte : te = 0
          · subst hte
            rw [if_neg (by simp)] at HEQ
            go_wp2_with fail
            refine (less_any w.heap.size 0 p n Y tv _ (by omega) (by omega) HR5.out.2).mono ?_
            rintro e w6 ⟨rfl, ho, hm⟩
            have HN := Lib.hid (show KW w n (wideUp M c k (p + 1)).1 w6 ∧ (wideUp M c k (p + 1)).2 = 0 by rw [HEQ.out]; exact ⟨HR5.out.only ho hm, rfl⟩)
            clear ho hm HR5
            go_wp2
            go_roundg (gk - 1)
            case measure => have h := HG.out; omega
            case rel => exact ⟨p + 1, by go_num, HN.out.1, by omega, by omega, by have h := HG.out; omega, HN.out.2⟩
          · rw [if_pos hte] at HEQ
            have t1 : (te != 0) = true := by simp [hte]
            have HE := Lib.hid (HGX.out _ HEQ.out hte)
            clear hte
            go_wp2
            go_ret2
            rw [← HMM.out, HE.out]
            exact ⟨HR5.out.1, .pointer none, rfl, rfl⟩
        · have t1 : (se != 0) = true := by simp [hse]
          have t2 : (se == 0) = false := by simp [hse]
          by_cases hy : y = 2147483647
          · subst hy
            rw [if_pos ⟨hse, rfl⟩] at HEQ
            have HE := Lib.hid (HGX.out _ HEQ.out hse)
            clear hse
            go_wp2
            go_ret2
            rw [← HMM.out, HE.out]
            exact ⟨HR3.out.1, .pointer none, rfl, rfl⟩
          · have t3 : (y == 2147483647) = false := by simp [hy]
            rw [if_neg (fun h => hy h.2), if_neg hse] at HEQ
            have c3 := HR3.out.2.cell c p (by omega) (by omega)
            obtain ⟨z, hz⟩ : ∃ z, z = X c p := ⟨_, rfl⟩
            rw [← hz] at c3 HEQ
            clear hz hse hy
            go_wp2_with fail
            refine (HAD.out _ _ _).mono ?_
            obtain ⟨s, hs⟩ : ∃ s, s = sumP [J, z] := ⟨_, rfl⟩
            rw [← hs] at HEQ ⊢
            clear hs
            obtain ⟨tv, te⟩ := s
            rintro e w5 ⟨rfl, hb⟩
            have HR5 := Lib.hid (HR3.out.step hb)
            clear hb HR3 c3 c2' c0'
            simp only at HEQ
            by_cases hte : te = 0
            · subst hte
              rw [if_neg (by simp)] at HEQ
              go_wp2_with fail
              refine (less_any w.heap.size 0 p n X tv _ (by omega) (by omega) HR5.out.2).mono ?_
              rintro e w6 ⟨rfl, ho, hm⟩
              have HN := Lib.hid (show KW w n (wideUp M c k (p + 1)).1 w6 ∧ (wideUp M c k (p + 1)).2 = 0 by rw [HEQ.out]; exact ⟨HR5.out.only ho hm, rfl⟩)
              clear ho hm HR5
              go_wp2
              go_roundg (gk - 1)
              case measure => have h := HG.out; omega
              case rel => exact ⟨p + 1, by go_num, HN.out.1, by omega, by omega, by have h := HG.out; omega, HN.out.2⟩
            · rw [if_pos hte] at HEQ
              have t4 : (te != 0) = true := by simp [hte]
              have HE := Lib.hid (HGX.out _ HEQ.out hte)
              clear hte
              go_wp2
              go_ret2
              rw [← HMM.out, HE.out]
              exact ⟨HR5.out.1, .pointer none, rfl, rfl⟩
    · have e : p = n + 1 := by have := HG.out; omega
      subst e
      have hpi : ¬ (((n + 1 : Nat) : Int) ≤ (n : Int)) := by omega
      have HE := Lib.hid (show wideP n M c k = ofP n (flat n (forgetUp c (wideUp M c k (n + 1)).1 (n + 1))) by unfold wideP; rw [if_pos HG.out.2.2.2])
      have hrng := rng_wide HRG.out c k (n + 1) (Nat.le_refl _)
      obtain ⟨X, hX⟩ : ∃ X, X = (wideUp M c k (n + 1)).1 := ⟨_, rfl⟩
      rw [← hX] at hrng HE HR
      have HRX := Lib.hid (rng_forget hrng c (by omega) (n + 1) (Nat.le_refl _))
      clear hX hrng HG
      go_wp2_with fail
      refine (forget_any _ n c _ _ hn hc.2 HR.out.2).mono ?_
      rintro e w3 ⟨rfl, ho, hm⟩
      have HN := Lib.hid (HR.out.only ho hm)
      clear ho hm HR c0 hlt
      go_wp2_with fail
      refine (HSH.out _ _ _ HN.out.2 HRX.out).mono ?_
      rintro e w2 hz
      have HZ2 := Lib.hid hz
      obtain ⟨hb, v, rfl, hv⟩ := hz
      have HB3 := Lib.hid (HN.out.1.trans (hb.mono HN.out.1.size))
      clear hb hv
      go_wp2
      go_ret2
      rw [← HMM.out, HE.out]
      exact ⟨HB3.out, HZ2.out.2⟩

end Go.Proofs.YtidcnlecgcobmaaDoor

/- From where a clock is set to a number. -/
namespace Go.Proofs.YtidcnlecgcobmaaDoor
open Go Go.RowKit
set_option linter.unusedVariables false
set_option linter.unusedSimpArgs false
attribute [local go_sem] min_ints max_ints

/-- The cells when clock c is k. -/
def tieW (M : Mat) (c : Nat) (k : Int) : Mat := lessM (lessM M c 0 (2 * k + 1)) 0 c (-2 * k + 1)
/-- What Unset answers of a zone, where the clock and the number are right. -/
def unsetP (n : Nat) (m : Mat) (c : Nat) (k : Int) : Option Mat × Int :=
  if emptyP (some (n, m)) then ofP n (flat n (openW (some (n, m)))) else
  match (ofP n (flat n (tieW (openW (some (n, m))) c k))).1 with
  | some y => freeP n y [(c : Int)]
  | none => wideP n (openW (some (n, m))) c k
theorem ofP_cases (n : Nat) (cells : List Int) : (∃ a, ofP n cells = (some a, 0)) ∨ ∃ e, e ≠ 0 ∧ ofP n cells = (none, e) := by
  unfold ofP
  split
  · split
    · split
      · unfold zoneP
        split
        · exact .inl ⟨_, rfl⟩
        · split
          · exact .inl ⟨_, rfl⟩
          · exact .inr ⟨_, by decide, rfl⟩
      · exact .inr ⟨_, by decide, rfl⟩
    · exact .inr ⟨_, by decide, rfl⟩
  · exact .inr ⟨_, by decide, rfl⟩
theorem ints_one (w : World) (e : TypeId) (a : Int) : Ints (w.alloc (.cells #[.int .i64 a] e (0, 0))) .i64 (some ⟨w.heap.size, 0, none⟩) [a] := fun j hj => by
  have h0 : j = 0 := by simpa using hj
  subst h0
  refine ⟨w.heap.size, 0, rfl, ?_⟩
  have h1 := heap_alloc_new w (.cells #[.int .i64 a] e (0, 0))
  unfold World.cell?
  rw [h1]; rfl

set_option maxHeartbeats 1000000 in
set_option maxRecDepth 100000 in
theorem unset_wrong (v : Value) (z : Option (Nat × Mat)) (c k : Int) (w : World) (h : ZoneV 126 w v z) (he : setE z c k ≠ 0) :
    Calls Tryd.prog 42 #[v, .int .i64 c, .int .i64 k] w fun e w' => e = .returned (.tuple #[.pointer none, .int .i64 (setE z c k)]) ∧ Below w.heap.size w w' := by
  have HS := Lib.hid (fun w h => oset_any v z c k w h)
  have HZ := Lib.hid h
  obtain ⟨r, hr⟩ : ∃ r, r = setE z c k := ⟨_, rfl⟩
  rw [← hr] at HS he ⊢
  have t1 : (r != 0) = true := by simp [he]
  clear hr he h
  go_enter Tryd.func42, Tryd.ntmps42
  go_wp2_with fail
  refine (HS.out _ HZ.out).mono ?_
  rintro e w1 ⟨rfl, hb⟩
  have HB := Lib.hid hb
  clear hb
  go_wp2
  go_ret2
  exact ⟨rfl, HB.out⟩

set_option maxHeartbeats 1000000 in
set_option maxRecDepth 100000 in
theorem unset_right (v : Value) (n : Nat) (m : Mat) (c : Nat) (k : Int) (w : World) (h : ZoneV 126 w v (some (n, m))) (hc : 1 ≤ c ∧ c ≤ n) (hk : 0 ≤ k ∧ k ≤ 1048576) :
    Calls Tryd.prog 42 #[v, .int .i64 c, .int .i64 k] w (MakesZ w n (unsetP n m c k)) := by
  have hz : setE (some (n, m)) c k = 0 := by
    show (if isB n c = true then (if 0 ≤ k ∧ k ≤ 1048576 then (0 : Int) else 13) else 12) = 0
    rw [if_pos (show isB n c = true from decide_eq_true (by omega)), if_pos hk]
  have HS := Lib.hid (fun w h => oset_any v (some (n, m)) c k w h)
  rw [hz] at HS
  have HZ := Lib.hid h
  have HWD := Lib.hid (fun w h => unset_wide v n m c k w h hc hk)
  obtain ⟨b, rfl, hn, hr, hm⟩ := h
  have hl : (cellsP (some (n, m))).length ≤ 81 := cellsP_short _ fun k m' e => by simp at e; omega
  have HO := Lib.hid (fun w h => oopen_any (.pointer (some ⟨b, 0, none⟩)) (some (n, m)) w h hn hl)
  have HRG := Lib.hid (rng_open hr)
  have HSH := Lib.hid (fun c m' w h hk => shut_any c n m' w hn h hk)
  have HFR := Lib.hid (fun v y A l w h hI hl => free_zone v n y A 1 l w h hI hl)
  have g1 : IntKind.i64.wrap (2 * k) = 2 * k := IntWalk.i64_in _ (by omega)
  have g2 : IntKind.i64.wrap (2 * k + 1) = 2 * k + 1 := IntWalk.i64_in _ (by omega)
  have g3 : IntKind.i64.wrap (-2 * k) = -2 * k := IntWalk.i64_in _ (by omega)
  have g4 : IntKind.i64.wrap (-2 * k + 1) = -2 * k + 1 := IntWalk.i64_in _ (by omega)
  have g5 : IntKind.i32.wrap (2 * k + 1) = 2 * k + 1 := by rw [IntKind.wrap_i32]; omega
  have g6 : IntKind.i32.wrap (-2 * k + 1) = -2 * k + 1 := by rw [IntKind.wrap_i32]; omega
  clear hm hl hr hz
  go_enter Tryd.func42, Tryd.ntmps42
  go_wp2_with fail
  refine (HS.out _ HZ.out).mono ?_
  rintro e w0 ⟨rfl, hb⟩
  have HB0 := Lib.hid hb
  have HZ0 := Lib.hid (HZ.out.below hb)
  clear hb HZ
  go_wp2_with fail
  refine (HO.out _ HZ0.out).mono ?_
  rintro e w1 ⟨rfl, hb, hw⟩
  have HB1 := Lib.hid (HB0.out.trans (hb.mono HB0.out.size))
  have HW1 := Lib.hid (show MatAt w1 w0.heap.size 103 .i32 n (openW (some (n, m))) from hw)
  have HZ1 := Lib.hid (HZ0.out.below hb)
  have HW0 := Lib.hid HB0.out.size
  have HBW := Lib.hid hb
  clear hb hw HO
  go_wp2_with fail
  refine (oempty_any b n m _ (by obtain ⟨b', e, _, _, h⟩ := HZ1.out; cases e; exact h)).mono ?_
  cases he : emptyP (some (n, m)) with
  | true =>
    have HEQ := Lib.hid (show unsetP n m c k = ofP n (flat n (openW (some (n, m)))) by unfold unsetP; rw [if_pos he])
    rintro e w2 ⟨rfl, rfl⟩
    go_wp2_with fail
    refine (HSH.out _ _ _ HW1.out HRG.out).mono ?_
    rintro e w2 hz
    have HZ2 := Lib.hid hz
    obtain ⟨hb, v, rfl, hv⟩ := hz
    have HB2 := Lib.hid (HB1.out.trans (hb.mono HB1.out.size))
    clear hb hv
    go_wp2
    go_ret2
    rw [HEQ.out]
    exact ⟨HB2.out, HZ2.out.2⟩
  | false =>
    obtain ⟨M, hM⟩ : ∃ M, M = openW (some (n, m)) := ⟨_, rfl⟩
    have HEQ := Lib.hid (show unsetP n m c k = match (ofP n (flat n (tieW M c k))).1 with
      | some y => freeP n y [(c : Int)]
      | none => wideP n M c k by unfold unsetP; rw [if_neg (by simp [he]), hM])
    rintro e w2 ⟨rfl, rfl⟩
    rw [← hM] at HW1 HRG HWD
    clear hM he
    go_wp2_with fail
    refine (less_any _ c 0 n _ (2 * k + 1) _ (by omega) (by omega) HW1.out).mono ?_
    rintro e w4 ⟨rfl, ho, hm4⟩
    have HO4 := Lib.hid ho
    have HW4 := Lib.hid hm4
    clear ho hm4
    go_wp2_with fail
    refine (less_any _ 0 c n _ (-2 * k + 1) _ (by omega) (by omega) HW4.out).mono ?_
    rintro e w5 ⟨rfl, ho, hm5⟩
    have HW5 := Lib.hid (show MatAt w5 w0.heap.size 103 .i32 n (tieW M c k) from hm5)
    have HB5 := Lib.hid (HB1.out.trans ((HO4.out.trans ho).below HW0.out HB1.out.size))
    have HZ5 := Lib.hid (HZ0.out.below (HBW.out.trans ((HO4.out.trans ho).below (Nat.le_refl _) HBW.out.size)))
    have HR5 := Lib.hid (show Rng n (tieW M c k) from rng_less (rng_less HRG.out c 0 (by omega) (by omega) _ (by omega) (by omega)) 0 c (by omega) (by omega) _ (by omega) (by omega))
    clear ho hm5 HW1 HO4 HW4 HZ1 HB1 HBW
    go_wp2_with fail
    refine (HSH.out _ _ _ HW5.out HR5.out).mono ?_
    rcases ofP_cases n (flat n (tieW M c k)) with ⟨y, hy⟩ | ⟨r, hr0, hy⟩
    · rw [hy] at HEQ ⊢
      rintro e w2 ⟨hb, v, rfl, hv⟩
      have HB6 := Lib.hid (HB5.out.trans (hb.mono HB5.out.size))
      have HV := Lib.hid (show ZoneV 126 w2 v (some (n, y)) from hv)
      clear hb hv hy
      have HI1 := Lib.hid (ints_one w2 3 (c : Int))
      have HV1 := Lib.hid (fun o => HV.out.below ((Below.refl w2.heap.size w2).alloc (Nat.le_refl _) o))
      have HB7 := Lib.hid (fun o => HB6.out.alloc HB6.out.size o)
      go_wp2_with fail
      refine (HFR.out _ y _ [(c : Int)] _ (by exact HV1.out _) HI1.out (by simp)).mono ?_
      rintro e w3 hz
      have HZ2 := Lib.hid hz
      obtain ⟨hb, v, rfl, hv⟩ := hz
      have HB8 := Lib.hid ((HB7.out _).trans (hb.mono (HB7.out _).size))
      clear hb hv
      go_wp2
      go_ret2
      rw [HEQ.out]
      exact ⟨HB8.out, HZ2.out.2⟩
    · rw [hy] at HEQ ⊢
      rintro e w2 ⟨hb, v', rfl, hv⟩
      have HB6 := Lib.hid (HB5.out.trans (hb.mono HB5.out.size))
      have HZ6 := Lib.hid (HZ5.out.below hb)
      have t1 : (r != 0) = true := by simp [hr0]
      clear hb hv hy hr0
      go_wp2_with fail
      refine (HWD.out _ HZ6.out).mono ?_
      rintro e w3 hz
      have HZ2 := Lib.hid hz
      obtain ⟨hb, v, rfl, hv⟩ := hz
      have HB8 := Lib.hid (HB6.out.trans (hb.mono HB6.out.size))
      clear hb hv
      go_wp2
      go_ret2
      rw [HEQ.out]
      exact ⟨HB8.out, HZ2.out.2⟩

end Go.Proofs.YtidcnlecgcobmaaDoor

/- A clock set, any, and from where: plain. -/
namespace Go.Proofs.YtidcnlecgcobmaaDoor
set_option linter.unusedVariables false
set_option linter.unusedSimpArgs false

/-! ### the cells -/
def fgt (c : Nat) (m : Mat) : Mat := fun i j => if i = c ∧ j ≠ c then 2147483647 else if j = c ∧ i ≠ c then m i 0 else m i j
theorem forget_cell {c : Nat} (hc : 1 ≤ c) (m : Mat) (i j : Nat) : ∀ p, forgetUp c m p i j = if i = c ∧ j ≠ c ∧ j < p then 2147483647 else if j = c ∧ i ≠ c ∧ i < p then m i 0 else m i j
  | 0 => by rw [if_neg (by omega), if_neg (by omega)]; rfl
  | p + 1 => by
    unfold forgetUp
    split
    · rename_i e
      subst e
      rw [forget_cell hc m i j p]
      split <;> split <;> (try split) <;> (try split) <;> first | rfl | (exfalso; omega)
    · rename_i e
      have h0 : upd (forgetUp c m p) c p 2147483647 p 0 = m p 0 := by
        unfold upd
        rw [if_neg (by omega), forget_cell hc m p 0 p, if_neg (by omega), if_neg (by omega)]
      rw [h0]
      unfold upd
      rw [forget_cell hc m i j p]
      by_cases e1 : i = p ∧ j = c
      · obtain ⟨rfl, rfl⟩ := e1
        rw [if_pos ⟨rfl, rfl⟩, if_neg (by omega), if_pos (by omega)]
      · rw [if_neg e1]
        split <;> split <;> (try split) <;> (try split) <;> (try split) <;> first | rfl | (exfalso; omega)
theorem forget_agree {n c : Nat} (hc : 1 ≤ c) {M m : Mat} (h : Agree n M m) : Agree n (forgetUp c M (n + 1)) (fgt c m) := fun i j hi hj => by
  rw [forget_cell hc]
  unfold fgt
  rw [h i j hi hj, h i 0 hi (Nat.zero_le _)]
  split <;> split <;> (try split) <;> (try split) <;> first | rfl | (exfalso; omega)
theorem Agree.fgt {n : Nat} {M m : Mat} (h : Agree n M m) (c : Nat) : Agree n (fgt c M) (fgt c m) := fun i j hi hj => by
  unfold Go.Proofs.YtidcnlecgcobmaaDoor.fgt
  rw [h i j hi hj, h i 0 hi (Nat.zero_le _)]
theorem OkM.same {n : Nat} {m o : Mat} (h : OkM n m) (ha : Agree n m o) : OkM n o :=
  ⟨fun i j hi hj => by rw [← ha i j hi hj]; exact h.right i j hi hj, fun i hi => by rw [← ha i i hi hi]; exact h.diag i hi, fun j hj => by rw [← ha 0 j (Nat.zero_le _) hj]; exact h.top j hj⟩
theorem OkM.fgt {n : Nat} {m : Mat} (h : OkM n m) {c : Nat} (hc : 1 ≤ c) : OkM n (fgt c m) := by
  refine ⟨fun i j hi hj => ?_, fun i hi => ?_, fun j hj => ?_⟩
  · unfold Go.Proofs.YtidcnlecgcobmaaDoor.fgt
    split
    · decide
    · split
      · exact h.right i 0 hi (Nat.zero_le _)
      · exact h.right i j hi hj
  · unfold Go.Proofs.YtidcnlecgcobmaaDoor.fgt
    rw [if_neg (by omega), if_neg (by omega)]; exact h.diag i hi
  · unfold Go.Proofs.YtidcnlecgcobmaaDoor.fgt
    rw [if_neg (by omega)]
    split
    · exact h.top 0 (Nat.zero_le _)
    · exact h.top j hj
theorem fgt_closed {n c : Nat} {m : Mat} (hc : 1 ≤ c) (h : ClosedZ n m) : ClosedZ n (fgt c m) := by
  have ho := h.full.ok.fgt hc
  refine ⟨⟨ho.right, fun i hi => ?_, ho.top⟩, fun l hl i j hi hj => ?_⟩
  · unfold fgt; rw [if_neg (by omega), if_neg (by omega)]; exact h.full.one i hi
  · have hl' : l ≤ n := by omega
    have hfb : FB (widW (fgt c m) i j) := right_fb (ho.right i j hi hj)
    have hinf : wid 2147483647 = none62 := by decide
    have k1 : ∀ a b, a = c ∧ b ≠ c → widW (fgt c m) a b = none62 := fun a b hab => by unfold widW fgt; rw [if_pos hab, hinf]
    have k2 : ∀ a b, b = c ∧ a ≠ c → widW (fgt c m) a b = widW m a 0 := fun a b hab => by unfold widW fgt; rw [if_neg (by omega), if_pos hab]
    have k3 : ∀ a b, ¬ (a = c ∧ b ≠ c) → ¬ (b = c ∧ a ≠ c) → widW (fgt c m) a b = widW m a b := fun a b x y => by unfold widW fgt; rw [if_neg x, if_neg y]
    by_cases ei : i = c
    · by_cases el : l = c
      · rw [el, ei, k3 c c (by omega) (by omega), h.wone (by omega), wsum_one_left]
        exact Int.le_refl _
      · rw [k1 i l ⟨ei, el⟩, wsum_none_left]; exact hfb.le
    · by_cases el : l = c
      · by_cases ej : j = c
        · rw [el, ej, k3 c c (by omega) (by omega), h.wone (by omega), wsum_one_right]
          exact Int.le_refl _
        · rw [k1 l j ⟨el, ej⟩, wsum_none_right]; exact hfb.le
      · rw [k3 i l (by omega) (by omega)]
        by_cases ej : j = c
        · rw [k2 i j ⟨ej, ei⟩, k2 l j ⟨ej, el⟩]; exact h.tri l hl i 0 hi (Nat.zero_le _)
        · rw [k3 i j (by omega) (by omega), k3 l j (by omega) (by omega)]; exact h.tri l hl i j hi hj
theorem zero_empty (n : Nat) : emptyP (some (n, fun _ _ => 0)) = true := by
  show decide ((0 : Int) < 1) = true
  decide
/-- What Free answers of one clock. -/
theorem free_one {n c : Nat} {m : Mat} (hn : n ≤ 8) (hc : 1 ≤ c ∧ c ≤ n) (h : ClosedZ n m) : freeP n m [(c : Int)] = (some (narM n (widW (fgt c m))), 0) := by
  have e1 : freeP n m [(c : Int)] = ofP n (flat n (forgetUp c (openW (some (n, m))) (n + 1))) := by
    unfold freeP
    rw [if_pos (by simp [isB]; omega)]
    unfold freeW
    rw [if_neg (by simp [h.notEmpty])]
    rfl
  rw [e1]
  exact of_same hn (fgt_closed hc.1 h) (forget_agree hc.1 (open_agree n m))
theorem free_zero {n c : Nat} (hn : n ≤ 8) (hc : 1 ≤ c ∧ c ≤ n) : freeP n (fun _ _ => 0) [(c : Int)] = (some (fun _ _ => 0), 0) := by
  unfold freeP
  rw [if_pos (by simp [isB]; omega)]
  unfold freeW
  rw [if_pos (zero_empty n)]
  exact ofP_zero n hn

/-! ### a number and its opposite -/
theorem kj (k : Int) (h : 0 ≤ k ∧ k ≤ 1048576) : wsum (2 * k + 1) (-2 * k + 1) = 1 := by
  rw [wsum_min (by unfold none62; omega) (by unfold none62; omega)]
  omega
theorem jk (k : Int) (h : 0 ≤ k ∧ k ≤ 1048576) : wsum (-2 * k + 1) (2 * k + 1) = 1 := by rw [wsum_comm]; exact kj k h
theorem k_right {k : Int} (h : 0 ≤ k ∧ k ≤ 1048576) : rightB (2 * k + 1) = true := decide_eq_true (by omega)
theorem j_right {k : Int} (h : 0 ≤ k ∧ k ≤ 1048576) : rightB (-2 * k + 1) = true := decide_eq_true (by omega)
theorem k_wid {k : Int} (h : 0 ≤ k ∧ k ≤ 1048576) : wid (2 * k + 1) = 2 * k + 1 := by unfold wid; rw [if_neg (by omega)]
theorem j_wid {k : Int} (h : 0 ≤ k ∧ k ≤ 1048576) : wid (-2 * k + 1) = -2 * k + 1 := by unfold wid; rw [if_neg (by omega)]
theorem k_fb {k : Int} (h : 0 ≤ k ∧ k ≤ 1048576) : FB (2 * k + 1) := .inr (by omega)
theorem j_fb {k : Int} (h : 0 ≤ k ∧ k ≤ 1048576) : FB (-2 * k + 1) := .inr (by omega)
theorem undo_r {a k : Int} (h : 0 ≤ k ∧ k ≤ 1048576) (ha : FB a) : wsum (wsum a (2 * k + 1)) (-2 * k + 1) = a := by
  rw [wsum_assoc ha (k_fb h) (j_fb h), kj k h, wsum_one_right]
theorem undo_l {a k : Int} (h : 0 ≤ k ∧ k ≤ 1048576) (ha : FB a) : wsum (2 * k + 1) (wsum (-2 * k + 1) a) = a := by
  rw [← wsum_assoc (k_fb h) (j_fb h) ha, kj k h, wsum_one_left]

/-- The cells behind Reset, in range. -/
def rst (c : Nat) (k : Int) (m : Mat) : Mat := fun i j => if i = 0 ∧ j = c then min (m 0 0) (-2 * k + 1) else if i = c ∧ j = 0 then 2 * k + 1 else fgt c m i j
theorem set_agree {n c : Nat} {k : Int} (hc : 1 ≤ c ∧ c ≤ n) (hk : 0 ≤ k ∧ k ≤ 1048576) {M m : Mat} (h : Agree n M m) : Agree n (setW M n c k) (rst c k m) := fun i j hi hj => by
  have hf := forget_agree (n := n) hc.1 h
  have e1 : forgetUp c M (n + 1) 0 c = m 0 0 := by rw [hf 0 c (Nat.zero_le _) hc.2]; unfold fgt; rw [if_neg (by omega), if_pos (by omega)]
  have e2 : forgetUp c M (n + 1) c 0 = 2147483647 := by rw [hf c 0 hc.2 (Nat.zero_le _)]; unfold fgt; rw [if_pos (by omega)]
  unfold setW lessM rst upd
  rw [if_neg (show ¬ (0 = c ∧ c = 0) by omega), e1, e2, hf i j hi hj]
  by_cases a : i = 0 ∧ j = c
  · rw [if_pos a, if_pos a]
  · rw [if_neg a, if_neg a]
    by_cases b : i = c ∧ j = 0
    · rw [if_pos b, if_pos b]; omega
    · rw [if_neg b, if_neg b]
theorem OkM.rst {n c : Nat} {k : Int} {m : Mat} (hc : 1 ≤ c ∧ c ≤ n) (hk : 0 ≤ k ∧ k ≤ 1048576) (h : OkM n m) : OkM n (rst c k m) := by
  have hf := h.fgt hc.1
  refine ⟨fun i j hi hj => ?_, fun i hi => ?_, fun j hj => ?_⟩
  · unfold Go.Proofs.YtidcnlecgcobmaaDoor.rst
    split
    · exact right_min (h.right 0 0 (Nat.zero_le _) (Nat.zero_le _)) (j_right hk)
    · split
      · exact k_right hk
      · exact hf.right i j hi hj
  · unfold Go.Proofs.YtidcnlecgcobmaaDoor.rst
    rw [if_neg (by omega), if_neg (by omega)]; exact hf.diag i hi
  · unfold Go.Proofs.YtidcnlecgcobmaaDoor.rst
    split
    · have := h.diag 0 (Nat.zero_le _); omega
    · rw [if_neg (by omega)]; exact hf.top j hj
theorem reset_is {n c : Nat} {k : Int} {m : Mat} (hn : n ≤ 8) (hc : 1 ≤ c ∧ c ≤ n) (hk : 0 ≤ k ∧ k ≤ 1048576) (h : ClosedZ n m) : OfIs n (rst c k m) (ofP n (flat n (resetW (some (n, m)) c k))) := by
  have e : resetW (some (n, m)) c k = setW (openW (some (n, m))) n c k := by unfold resetW; rw [if_neg (by simp [h.notEmpty])]; rfl
  rw [e, flat_congr (set_agree hc hk (open_agree n m))]
  exact of_is hn (h.full.ok.rst hc hk)
theorem reset_zero {n c : Nat} (k : Int) (hn : n ≤ 8) : ofP n (flat n (resetW (some (n, fun _ _ => 0)) c k)) = (some (fun _ _ => 0), 0) := by
  unfold resetW
  rw [if_pos (zero_empty n)]
  exact ofP_zero n hn
theorem unset_zero {n c : Nat} (k : Int) (hn : n ≤ 8) : unsetP n (fun _ _ => 0) c k = (some (fun _ _ => 0), 0) := by
  unfold unsetP
  rw [if_pos (zero_empty n)]
  exact ofP_zero n hn
/-- The closed form of what Reset makes. -/
def rstE (c : Nat) (k : Int) (m : Mat) : Mat := fun i j => if i = c then (if j = c then 1 else wsum (2 * k + 1) (widW m 0 j)) else if j = c then wsum (widW m i 0) (-2 * k + 1) else widW m i j
theorem ClosedZ.hb {n : Nat} {m : Mat} (h : ClosedZ n m) {i j : Nat} (hi : i ≤ n) (hj : j ≤ n) : Bd 1073741824 (widW m i j) := h.full.ok.fit.bd i j hi hj
theorem rstE_fb {n c : Nat} {k : Int} {m : Mat} (hk : 0 ≤ k ∧ k ≤ 1048576) (h : ClosedZ n m) (i j : Nat) (hi : i ≤ n) (hj : j ≤ n) : FB (rstE c k m i j) := by
  have b1 : Bd 1073741824 (2 * k + 1) := .inr (by omega)
  have b2 : Bd 1073741824 (-2 * k + 1) := .inr (by omega)
  unfold rstE
  split
  · split
    · exact .inr (by omega)
    · exact (b1.sum (h.hb (Nat.zero_le _) hj)).mono (by omega)
  · split
    · exact ((h.hb hi (Nat.zero_le _)).sum b2).mono (by omega)
    · exact h.fb hi hj
theorem rstE_tri {n c : Nat} {k : Int} {m : Mat} (hk : 0 ≤ k ∧ k ≤ 1048576) (h : ClosedZ n m) : Tri n (rstE c k m) (n + 1) := fun l hl i j hi hj => by
  have hl' : l ≤ n := by omega
  have z0 : 0 ≤ n := Nat.zero_le _
  have kf := k_fb hk
  have jf := j_fb hk
  have b1 : Bd 1073741824 (2 * k + 1) := .inr (by omega)
  have b2 : Bd 1073741824 (-2 * k + 1) := .inr (by omega)
  unfold rstE
  by_cases ei : i = c
  · by_cases el : l = c
    · rw [if_pos ei, if_pos ei, if_pos el, if_pos el, wsum_one_left]
      exact Int.le_refl _
    · rw [if_pos ei, if_pos ei, if_neg el, if_neg el]
      have f0 := h.fb z0 hl'
      have s0 : FB (wsum (2 * k + 1) (widW m 0 l)) := (b1.sum (h.hb z0 hl')).mono (by omega)
      by_cases ej : j = c
      · rw [if_pos ej, if_pos ej, wsum_assoc kf f0 (((h.hb hl' z0).sum b2).mono (by omega)), ← wsum_assoc f0 (h.fb hl' z0) jf]
        have t := h.tri l hl 0 0 z0 z0
        rw [h.wone z0] at t
        have f1 : FB (wsum (widW m 0 l) (widW m l 0)) := ((h.hb z0 hl').sum (h.hb hl' z0)).mono (by omega)
        have t1 := wsum_le (a := 1) (.inr (by omega)) f1 jf jf t (Int.le_refl _)
        have f2 : FB (wsum 1 (-2 * k + 1)) := by rw [wsum_one_left]; exact jf
        have t2 := wsum_le kf kf f2 ((((h.hb z0 hl').sum (h.hb hl' z0)).sum b2).mono (by omega)) (Int.le_refl _) t1
        rw [wsum_one_left, kj k hk] at t2
        exact t2
      · rw [if_neg ej, if_neg ej, wsum_assoc kf f0 (h.fb hl' hj)]
        exact wsum_le kf kf (h.fb z0 hj) (((h.hb z0 hl').sum (h.hb hl' hj)).mono (by omega)) (Int.le_refl _) (h.tri l hl 0 j z0 hj)
  · by_cases el : l = c
    · rw [if_neg ei, if_neg ei, if_pos el, if_pos el]
      by_cases ej : j = c
      · rw [if_pos ej, if_pos ej, wsum_one_right]; exact Int.le_refl _
      · rw [if_neg ej, if_neg ej, wsum_assoc (h.fb hi z0) jf ((b1.sum (h.hb z0 hj)).mono (by omega)), ← wsum_assoc jf kf (h.fb z0 hj), jk k hk, wsum_one_left]
        exact h.tri 0 (by omega) i j hi hj
    · rw [if_neg ei, if_neg ei, if_neg el, if_neg el]
      by_cases ej : j = c
      · rw [if_pos ej, if_pos ej, ← wsum_assoc (h.fb hi hl') (h.fb hl' z0) jf]
        exact wsum_le (h.fb hi z0) (((h.hb hi hl').sum (h.hb hl' z0)).mono (by omega)) jf jf (h.tri l hl i 0 hi z0) (Int.le_refl _)
      · rw [if_neg ej, if_neg ej]
        exact h.tri l hl i j hi hj
theorem rstE_le {n c : Nat} {k : Int} {m : Mat} (hc : 1 ≤ c ∧ c ≤ n) (hk : 0 ≤ k ∧ k ≤ 1048576) (h : ClosedZ n m) (i j : Nat) (hi : i ≤ n) (hj : j ≤ n) : rstE c k m i j ≤ widW (rst c k m) i j := by
  have z0 : 0 ≤ n := Nat.zero_le _
  have hinf : wid 2147483647 = none62 := by decide
  have h00 := h.full.one 0 z0
  have h00w := h.wone z0
  have hf := rstE_fb (c := c) hk h i j hi hj
  have e0 : widW (rst c k m) i j = if i = 0 ∧ j = c then -2 * k + 1 else if i = c ∧ j = 0 then 2 * k + 1 else widW (fgt c m) i j := by
    unfold widW rst
    split
    · rw [h00, show min (1 : Int) (-2 * k + 1) = -2 * k + 1 by omega, j_wid hk]
    · split
      · rw [k_wid hk]
      · rfl
  rw [e0]
  by_cases a : i = 0 ∧ j = c
  · rw [if_pos a]
    unfold rstE
    rw [if_neg (by omega), if_pos a.2, a.1, h00w, wsum_one_left]
    exact Int.le_refl _
  · rw [if_neg a]
    by_cases b : i = c ∧ j = 0
    · rw [if_pos b]
      unfold rstE
      rw [if_pos b.1, if_neg (by omega), b.2, h00w, wsum_one_right]
      exact Int.le_refl _
    · rw [if_neg b]
      by_cases x : i = c ∧ j ≠ c
      · have : widW (fgt c m) i j = none62 := by unfold widW fgt; rw [if_pos x, hinf]
        rw [this]; exact hf.le
      · by_cases y : j = c ∧ i ≠ c
        · have : widW (fgt c m) i j = widW m i 0 := by unfold widW fgt; rw [if_neg x, if_pos y]
          rw [this]
          unfold rstE
          rw [if_neg y.2, if_pos y.1]
          have := wsum_le (h.fb hi z0) (h.fb hi z0) (j_fb hk) (b' := 1) (.inr (by omega)) (Int.le_refl _) (show -2 * k + 1 ≤ 1 by omega)
          rw [wsum_one_right] at this
          exact this
        · have : widW (fgt c m) i j = widW m i j := by unfold widW fgt; rw [if_neg x, if_neg y]
          rw [this]
          unfold rstE
          by_cases ei : i = c
          · rw [if_pos ei, if_pos (by omega), ei, show j = c by omega, h.wone hc.2]
            exact Int.le_refl _
          · rw [if_neg ei, if_neg (by omega)]
            exact Int.le_refl _
/-- What Reset makes of a zone that is not empty is not empty, and of the other clocks it says the same. -/
theorem reset_full {n c : Nat} {k : Int} {m x : Mat} (hn : n ≤ 8) (hc : 1 ≤ c ∧ c ≤ n) (hk : 0 ≤ k ∧ k ≤ 1048576) (h : ClosedZ n m) (hx : ofP n (flat n (resetW (some (n, m)) c k)) = (some x, 0)) :
    ClosedZ n x ∧ (∀ i j, i ≤ n → j ≤ n → i ≠ c → j ≠ c → x i j = m i j) ∧ x c 0 ≤ 2 * k + 1 ∧ x 0 c ≤ -2 * k + 1 := by
  have hi := reset_is hn hc hk h
  rw [hx] at hi
  have z0 : 0 ≤ n := Nat.zero_le _
  have hok := h.full.ok.rst hc hk
  obtain ⟨C, hC, hge⟩ := closed_ge hn (rstE_fb (c := c) hk h) (rstE_tri hk h) (fun i hi => by
    unfold rstE
    by_cases e : i = c
    · rw [if_pos e, if_pos e]
    · rw [if_neg e, if_neg e]; exact h.wone hi) hok.fit (rstE_le hc hk h)
  cases hi with
  | empty h' => rw [hC] at h'; cases h'
  | full C' Y h' hc' hy he hle =>
    rw [hC] at h'
    simp only [Option.some.injEq] at h'
    subst h'
    refine ⟨hy, fun i j hi hj ei ej => ?_, ?_, ?_⟩
    · have a1 := hle i j hi hj
      have a2 := hge i j hi hj
      rw [← he i j hi hj] at a2
      have e1 : rst c k m i j = m i j := by unfold rst fgt; rw [if_neg (by omega), if_neg (by omega), if_neg (by omega), if_neg (by omega)]
      have e2 : rstE c k m i j = widW m i j := by unfold rstE; rw [if_neg ei, if_neg ej]
      rw [e1] at a1
      rw [e2] at a2
      have := (wid_le (h.full.right i j hi hj) (hy.full.right i j hi hj)).1 a2
      omega
    · have := hle c 0 hc.2 z0
      unfold rst at this
      rw [if_neg (by omega), if_pos ⟨rfl, rfl⟩] at this
      exact this
    · have := hle 0 c z0 hc.2
      unfold rst at this
      rw [if_pos ⟨rfl, rfl⟩] at this
      omega
/-- Set behind Unset is included, where the cells between are so. -/
theorem back_in {n c : Nat} {k : Int} {m u : Mat} (hn : n ≤ 8) (hc : 1 ≤ c ∧ c ≤ n) (hk : 0 ≤ k ∧ k ≤ 1048576) (h : ClosedZ n m) (hu : u = (fun _ _ => 0) ∨ ClosedZ n u ∧
      (∀ i j, i ≤ n → j ≤ n → i ≠ c → j ≠ c → widW u i j ≤ widW m i j) ∧ (∀ j, j ≤ n → j ≠ c → wsum (2 * k + 1) (widW u 0 j) ≤ widW m c j) ∧ (∀ i, i ≤ n → i ≠ c → wsum (widW u i 0) (-2 * k + 1) ≤ widW m i c)) :
    ofP n (flat n (resetW (some (n, u)) c k)) = (none, 10) ∨ ∃ t, ofP n (flat n (resetW (some (n, u)) c k)) = (some t, 0) ∧ inclM n m t = true := by
  have z0 : 0 ≤ n := Nat.zero_le _
  rcases hu with rfl | ⟨hcu, h1, h2, h3⟩
  · exact .inr ⟨_, reset_zero k hn, incl_zero n m⟩
  · have hi := reset_is hn hc hk hcu
    have hfull := fun x hx => reset_full (x := x) hn hc hk hcu hx
    generalize ofP n (flat n (resetW (some (n, u)) c k)) = r at *
    cases hi with
    | empty h' => exact .inr ⟨_, rfl, incl_zero n m⟩
    | over C h' hc' => exact .inl rfl
    | full C Y h' hc' hy he hle =>
      right
      refine ⟨Y, rfl, incl_of fun i j hi hj => ?_⟩
      obtain ⟨_, hsame, hc0, h0c⟩ := hfull Y rfl
      have hc0w : widW Y c 0 ≤ 2 * k + 1 := by rw [← k_wid hk]; exact (wid_le (hy.full.right c 0 hc.2 z0) (k_right hk)).2 hc0
      have h0cw : widW Y 0 c ≤ -2 * k + 1 := by rw [← j_wid hk]; exact (wid_le (hy.full.right 0 c z0 hc.2) (j_right hk)).2 h0c
      have hsw : ∀ i j, i ≤ n → j ≤ n → i ≠ c → j ≠ c → widW Y i j = widW u i j := fun i j hi hj ei ej => by unfold widW; rw [hsame i j hi hj ei ej]
      refine (wid_le (hy.full.right i j hi hj) (h.full.right i j hi hj)).1 ?_
      show widW Y i j ≤ widW m i j
      by_cases ei : i = c
      · by_cases ej : j = c
        · rw [ei, ej, hy.wone hc.2, h.wone hc.2]; exact Int.le_refl _
        · have t := hy.tri 0 (by omega) c j hc.2 hj
          have t2 := wsum_le (hy.fb hc.2 z0) (k_fb hk) (hy.fb z0 hj) (hy.fb z0 hj) hc0w (Int.le_refl _)
          rw [hsw 0 j z0 hj (by omega) ej] at t2
          have := h2 j hj ej
          rw [ei]
          rw [hsw 0 j z0 hj (by omega) ej] at t
          omega
      · by_cases ej : j = c
        · have t := hy.tri 0 (by omega) i c hi hc.2
          have t2 := wsum_le (hy.fb hi z0) (hy.fb hi z0) (hy.fb z0 hc.2) (j_fb hk) (Int.le_refl _) h0cw
          rw [hsw i 0 hi z0 ei (by omega)] at t2 t
          have := h3 i hi ei
          rw [ej]
          omega
        · rw [hsw i j hi hj ei ej]; exact h1 i j hi hj ei ej

end Go.Proofs.YtidcnlecgcobmaaDoor

/- From where a clock is set, and set again: plain. -/
namespace Go.Proofs.YtidcnlecgcobmaaDoor
set_option linter.unusedVariables false
set_option linter.unusedSimpArgs false

theorem min_right' {a b : Int} : min a b ≤ a ∧ min a b ≤ b := by omega
theorem tie_agree {n c : Nat} {k : Int} (hc : 1 ≤ c ∧ c ≤ n) {M m : Mat} (h : Agree n M m) : Agree n (tieW M c k) (tieW m c k) :=
  (h.less c 0 hc.2 (Nat.zero_le _) _).less 0 c (Nat.zero_le _) hc.2 _
theorem tie_ok {n c : Nat} {k : Int} {m : Mat} (hc : 1 ≤ c ∧ c ≤ n) (hk : 0 ≤ k ∧ k ≤ 1048576) (h : OkM n m) : OkM n (tieW m c k) :=
  (h.less c 0 hc.2 (Nat.zero_le _) _ (k_right hk)).less 0 c (Nat.zero_le _) hc.2 _ (j_right hk)
theorem upd_at (m : Mat) (a b : Nat) (x : Int) : upd m a b x a b = x := by unfold upd; rw [if_pos ⟨rfl, rfl⟩]
theorem upd_off {m : Mat} {a b i j : Nat} {x : Int} (h : ¬ (i = a ∧ j = b)) : upd m a b x i j = m i j := by unfold upd; rw [if_neg h]
theorem less_le (m : Mat) (a b : Nat) (x : Int) (i j : Nat) : lessM m a b x i j ≤ m i j := by
  unfold lessM
  by_cases e : i = a ∧ j = b
  · obtain ⟨rfl, rfl⟩ := e
    rw [upd_at]; omega
  · rw [upd_off e]; exact Int.le_refl _
theorem less_at (m : Mat) (a b : Nat) (x : Int) : lessM m a b x a b ≤ x := by unfold lessM; rw [upd_at]; omega
theorem tie_cells {c : Nat} {k : Int} (hc : 1 ≤ c) (m : Mat) : (∀ i j, tieW m c k i j ≤ m i j) ∧ tieW m c k c 0 ≤ 2 * k + 1 ∧ tieW m c k 0 c ≤ -2 * k + 1 := by
  refine ⟨fun i j => Int.le_trans (less_le _ _ _ _ _ _) (less_le _ _ _ _ _ _), ?_, ?_⟩
  · unfold tieW lessM upd
    rw [if_neg (by omega), if_pos ⟨rfl, rfl⟩]; omega
  · unfold tieW lessM upd
    rw [if_pos ⟨rfl, rfl⟩]; omega
theorem tie_same {n c : Nat} {k : Int} {m : Mat} (hc : 1 ≤ c ∧ c ≤ n) (h1 : m c 0 ≤ 2 * k + 1) (h2 : m 0 c ≤ -2 * k + 1) : Agree n (tieW m c k) m := fun i j hi hj => by
  unfold tieW lessM upd
  by_cases a : i = 0 ∧ j = c
  · rw [if_pos a, if_neg (by omega), a.1, a.2]; omega
  · rw [if_neg a]
    by_cases b : i = c ∧ j = 0
    · rw [if_pos b, b.1, b.2]; omega
    · rw [if_neg b]
/-- Unset of a zone in which the clock is the number already. -/
theorem unset_set {n c : Nat} {k : Int} {x : Mat} (hn : n ≤ 8) (hc : 1 ≤ c ∧ c ≤ n) (h : ClosedZ n x) (h1 : x c 0 ≤ 2 * k + 1) (h2 : x 0 c ≤ -2 * k + 1) : unsetP n x c k = (some (narM n (widW (fgt c x))), 0) := by
  have e : ofP n (flat n (tieW (openW (some (n, x))) c k)) = (some (narM n (widW x)), 0) := of_same hn h fun i j hi hj => (tie_agree hc (open_agree n x) i j hi hj).trans (tie_same hc h1 h2 i j hi hj)
  unfold unsetP
  rw [if_neg (by simp [h.notEmpty]), e]
  simp only
  rw [free_one hn hc (nar_closed hn h)]
  exact Prod.ext (congrArg some (nar_same ((nar_agree hn h).fgt c))) rfl

/-! ### where the clock's own bounds may not be -/
theorem sum_is {a b : Int} (ha : rightB a = true) (hb : rightB b = true) :
    ((sumP [a, b]).2 = 0 ∧ rightB (sumP [a, b]).1 = true ∧ wid (sumP [a, b]).1 = wsum (wid a) (wid b)) ∨
    ((sumP [a, b]).2 = 10 ∧ a ≠ 2147483647 ∧ b ≠ 2147483647 ∧ (a / 2 + b / 2 < -268435456 ∨ 268435456 < a / 2 + b / 2)) := by
  by_cases e : a = 2147483647 ∨ b = 2147483647
  · rw [sum_two_inf ha hb e]
    refine .inl ⟨rfl, by decide, ?_⟩
    have hinf : wid 2147483647 = none62 := by decide
    rcases e with e | e
    · subst e; rw [hinf, wsum_none_left]
    · subst e; rw [hinf, wsum_none_right]
  · have ea : a ≠ 2147483647 := fun h => e (.inl h)
    have eb : b ≠ 2147483647 := fun h => e (.inr h)
    have ra := rightB_bd ha ea
    have rb := rightB_bd hb eb
    rw [sum_two ha hb ea eb]
    unfold ofB
    by_cases o : a / 2 + b / 2 < -268435456 ∨ 268435456 < a / 2 + b / 2
    · rw [if_pos o]; exact .inr ⟨rfl, ea, eb, o⟩
    · rw [if_neg o]
      left
      have wa : wid a = a := by unfold wid; rw [if_neg ea]
      have wb : wid b = b := by unfold wid; rw [if_neg eb]
      rw [wa, wb, wsum_min (by unfold none62; omega) (by unfold none62; omega)]
      by_cases p : a % 2 = 1
      · by_cases q : b % 2 = 1
        · have t : (decide (a % 2 = 1) && decide (b % 2 = 1)) = true := by simp [p, q]
          rw [t]
          simp only [if_true]
          refine ⟨trivial, decide_eq_true (by omega), ?_⟩
          unfold wid
          rw [if_neg (by omega)]
          omega
        · have t : (decide (a % 2 = 1) && decide (b % 2 = 1)) = false := by simp [q]
          rw [t]
          simp only [Bool.false_eq_true, if_false]
          refine ⟨trivial, decide_eq_true (by omega), ?_⟩
          unfold wid
          rw [if_neg (by omega)]
          omega
      · have t : (decide (a % 2 = 1) && decide (b % 2 = 1)) = false := by simp [p]
        rw [t]
        simp only [Bool.false_eq_true, if_false]
        refine ⟨trivial, decide_eq_true (by omega), ?_⟩
        unfold wid
        rw [if_neg (by omega)]
        omega
/-- What is known when the first p clocks have been looked at. -/
structure WideI (n : Nat) (m : Mat) (c : Nat) (k : Int) (p : Nat) (r : Mat × Int) : Prop where
  err : r.2 = 0 ∨ r.2 = 10
  ok : OkM n r.1
  le : ∀ i j, i ≤ n → j ≤ n → r.1 i j ≤ m i j
  mid : ∀ i j, i ≤ n → j ≤ n → i ≠ 0 → j ≠ 0 → r.1 i j = m i j
  col : r.2 = 0 → ∀ i, i ≤ n → p ≤ i → r.1 i 0 = m i 0
  hi : r.2 = 0 → ∀ i, 1 ≤ i → i < p → i ≤ n → i ≠ c → wsum (wid (r.1 i 0)) (-2 * k + 1) ≤ widW m i c
  lo : r.2 = 0 → ∀ i, 1 ≤ i → i < p → i ≤ n → i ≠ c → wsum (2 * k + 1) (wid (r.1 0 i)) ≤ widW m c i
theorem less_off {m : Mat} {a b i j : Nat} {x : Int} (h : ¬ (i = a ∧ j = b)) : lessM m a b x i j = m i j := upd_off h
theorem wide_inv {n c : Nat} {k : Int} {m M : Mat} (hn : n ≤ 8) (hc : 1 ≤ c ∧ c ≤ n) (hk : 0 ≤ k ∧ k ≤ 1048576) (hM : Agree n M m) (h : OkM n m) : ∀ p, p ≤ n + 1 → WideI n m c k p (wideUp M c k p)
  | 0, _ => ⟨.inl rfl, h.same fun i j hi hj => (hM i j hi hj).symm, fun i j hi hj => by show M i j ≤ m i j; rw [hM i j hi hj]; exact Int.le_refl _, fun i j hi hj _ _ => hM i j hi hj, fun _ i hi _ => hM i 0 hi (Nat.zero_le _), fun _ i _ h2 => by omega, fun _ i _ h2 => by omega⟩
  | p + 1, hp => by
    have ih := wide_inv hn hc hk hM h p (by omega)
    have z0 : 0 ≤ n := Nat.zero_le _
    obtain ⟨r, hr⟩ : ∃ r, r = wideUp M c k p := ⟨_, rfl⟩
    unfold wideUp
    rw [← hr] at ih ⊢
    clear hr
    obtain ⟨X, e⟩ := r
    by_cases h0 : p = 0 ∨ p = c
    · rw [if_pos h0]
      exact ⟨ih.err, ih.ok, ih.le, ih.mid, fun he i hi hpi => ih.col he i hi (by omega), fun he i a b hi d => ih.hi he i a (by omega) hi d, fun he i a b hi d => ih.lo he i a (by omega) hi d⟩
    · rw [if_neg h0]
      by_cases he : e ≠ 0
      · rw [if_pos he]
        exact ⟨ih.err, ih.ok, ih.le, ih.mid, fun h => absurd h he, fun h => absurd h he, fun h => absurd h he⟩
      · rw [if_neg he]
        have he0 : e = 0 := by omega
        subst he0
        have hXpc : X p c = m p c := ih.mid p c (by omega) hc.2 (by omega) (by omega)
        have hXp0 : X p 0 = m p 0 := ih.col rfl p (by omega) (Nat.le_refl _)
        have hXcp : X c p = m c p := ih.mid c p hc.2 (by omega) (by omega) (by omega)
        have rpc := h.right p c (by omega) hc.2
        have rcp := h.right c p hc.2 (by omega)
        have rp0 := h.right p 0 (by omega) z0
        have fpc : FB (widW m p c) := right_fb rpc
        have fcp : FB (widW m c p) := right_fb rcp
        simp only
        rw [hXpc, hXp0]
        have hs := sum_is rpc (k_right hk)
        obtain ⟨s, hsd⟩ : ∃ s, s = sumP [m p c, 2 * k + 1] := ⟨_, rfl⟩
        rw [← hsd] at hs ⊢
        clear hsd
        by_cases h1 : s.2 ≠ 0 ∧ m p 0 = 2147483647
        · rw [if_pos h1]
          refine ⟨?_, ih.ok, ih.le, ih.mid, fun h => absurd h h1.1, fun h => absurd h h1.1, fun h => absurd h h1.1⟩
          rcases hs with ⟨a, _⟩ | ⟨a, _⟩
          · exact .inl a
          · exact .inr a
        · rw [if_neg h1]
          -- the first of both
          obtain ⟨Y, hY⟩ : ∃ Y, Y = if s.2 = 0 then lessM X p 0 s.1 else X := ⟨_, rfl⟩
          have hYok : OkM n Y := by
            rw [hY]; split
            · rename_i q
              rcases hs with ⟨_, b, _⟩ | ⟨a, _⟩
              · exact ih.ok.less p 0 (by omega) z0 _ b
              · omega
            · exact ih.ok
          have hYle : ∀ i j, Y i j ≤ X i j := fun i j => by
            rw [hY]; split
            · exact less_le _ _ _ _ _ _
            · exact Int.le_refl _
          have hYoff : ∀ i j, ¬ (i = p ∧ j = 0) → Y i j = X i j := fun i j hij => by
            rw [hY]; split
            · exact less_off hij
            · rfl
          have hYhi : wsum (wid (Y p 0)) (-2 * k + 1) ≤ widW m p c := by
            have ry := hYok.right p 0 (by omega) z0
            rcases hs with ⟨a, b, d⟩ | ⟨a, b, d, o⟩
            · have e1 : Y p 0 ≤ s.1 := by rw [hY, if_pos a]; exact less_at _ _ _ _
              have e2 := wsum_le (right_fb ry) (right_fb b) (j_fb hk) (j_fb hk) ((wid_le ry b).2 e1) (Int.le_refl _)
              rw [d, k_wid hk, undo_r hk (show FB (wid (m p c)) from fpc)] at e2
              exact e2
            · have e1 : Y p 0 = m p 0 := by rw [hY, if_neg (by omega)]; exact hXp0
              have e2 : m p 0 ≠ 2147483647 := fun h => h1 ⟨by omega, h⟩
              have e3 := rightB_bd rp0 e2
              have e4 := rightB_bd rpc b
              rw [e1]
              have w1 : wid (m p 0) = m p 0 := by unfold wid; rw [if_neg e2]
              have w2 : widW m p c = m p c := by unfold widW wid; rw [if_neg b]
              rw [w1, w2, wsum_min (by unfold none62; omega) (by unfold none62; omega)]
              omega
          rw [← hY]
          clear hY
          have hYcp : Y c p = m c p := (hYoff c p (by omega)).trans hXcp
          rw [hYcp]
          have ht := sum_is (j_right hk) rcp
          obtain ⟨t, htd⟩ : ∃ t, t = sumP [-2 * k + 1, m c p] := ⟨_, rfl⟩
          rw [← htd] at ht ⊢
          clear htd
          by_cases h2 : t.2 ≠ 0
          · rw [if_pos h2]
            refine ⟨?_, hYok, fun i j hi hj => Int.le_trans (hYle i j) (ih.le i j hi hj), fun i j hi hj a b => (hYoff i j (by omega)).trans (ih.mid i j hi hj a b), fun h => absurd h h2, fun h => absurd h h2, fun h => absurd h h2⟩
            rcases ht with ⟨a, _⟩ | ⟨a, _⟩
            · exact .inl a
            · exact .inr a
          · rw [if_neg h2]
            obtain ⟨a, b, d⟩ : t.2 = 0 ∧ rightB t.1 = true ∧ wid t.1 = wsum (wid (-2 * k + 1)) (wid (m c p)) := by
              rcases ht with h | h
              · exact h
              · omega
            have hZok : OkM n (lessM Y 0 p t.1) := hYok.less 0 p z0 (by omega) _ b
            have hZle : ∀ i j, lessM Y 0 p t.1 i j ≤ X i j := fun i j => Int.le_trans (less_le _ _ _ _ _ _) (hYle i j)
            refine ⟨.inl rfl, hZok, fun i j hi hj => Int.le_trans (hZle i j) (ih.le i j hi hj), fun i j hi hj x y => ?_, fun _ i hi hpi => ?_, fun _ i x y hi w => ?_, fun _ i x y hi w => ?_⟩
            · show lessM Y 0 p t.1 i j = m i j
              rw [less_off (by omega), hYoff i j (by omega)]
              exact ih.mid i j hi hj x y
            · show lessM Y 0 p t.1 i 0 = m i 0
              rw [less_off (by omega), hYoff i 0 (by omega)]
              exact ih.col rfl i hi (by omega)
            · show wsum (wid (lessM Y 0 p t.1 i 0)) (-2 * k + 1) ≤ widW m i c
              by_cases e : i = p
              · subst e
                rw [less_off (by omega)]; exact hYhi
              · rw [less_off (by omega), hYoff i 0 (by omega)]
                exact ih.hi rfl i x (by omega) hi w
            · show wsum (2 * k + 1) (wid (lessM Y 0 p t.1 0 i)) ≤ widW m c i
              have rz := hZok.right 0 i z0 hi
              by_cases e : i = p
              · subst e
                have e2 := wsum_le (k_fb hk) (k_fb hk) (right_fb rz) (right_fb b) (Int.le_refl _) ((wid_le rz b).2 (less_at Y 0 i t.1))
                rw [d, j_wid hk, undo_l hk (show FB (wid (m c i)) from fcp)] at e2
                exact e2
              · have rx := ih.ok.right 0 i z0 hi
                have e2 := wsum_le (k_fb hk) (k_fb hk) (right_fb rz) (right_fb rx) (Int.le_refl _) ((wid_le rz rx).2 (hZle 0 i))
                have e3 := ih.lo rfl i x (by omega) hi w
                exact Int.le_trans e2 e3

/-- From where, and set again. -/
theorem unset_back {n c : Nat} {k : Int} {m : Mat} (hn : n ≤ 8) (hc : 1 ≤ c ∧ c ≤ n) (hk : 0 ≤ k ∧ k ≤ 1048576) (h : ClosedZ n m) :
    unsetP n m c k = (none, 10) ∨ ∃ u, unsetP n m c k = (some u, 0) ∧ (ofP n (flat n (resetW (some (n, u)) c k)) = (none, 10) ∨ ∃ t, ofP n (flat n (resetW (some (n, u)) c k)) = (some t, 0) ∧ inclM n m t = true) := by
  have z0 : 0 ≤ n := Nat.zero_le _
  have hto := of_is hn (tie_ok (c := c) (k := k) hc hk h.full.ok)
  have e0 : ofP n (flat n (tieW (openW (some (n, m))) c k)) = ofP n (flat n (tieW m c k)) := by rw [flat_congr (tie_agree hc (open_agree n m))]
  obtain ⟨tle, tc0, t0c⟩ := tie_cells (c := c) (k := k) hc.1 m
  have htok := tie_ok (c := c) (k := k) hc hk h.full.ok
  unfold unsetP
  rw [if_neg (by simp [h.notEmpty]), e0]
  generalize ofP n (flat n (tieW m c k)) = r at *
  cases hto with
  | empty _ =>
    simp only
    rw [free_zero hn hc]
    exact .inr ⟨_, rfl, .inr ⟨_, reset_zero k hn, incl_zero n m⟩⟩
  | full C Y hC hCC hy he hle =>
    simp only
    rw [free_one hn hc hy]
    refine .inr ⟨_, rfl, back_in hn hc hk h (.inr ⟨nar_closed hn (fgt_closed hc.1 hy), ?_, ?_, ?_⟩)⟩
    · have hyw : ∀ i j, i ≤ n → j ≤ n → widW Y i j ≤ widW m i j := fun i j hi hj => (wid_le (hy.full.right i j hi hj) (h.full.right i j hi hj)).2 (Int.le_trans (hle i j hi hj) (tle i j))
      intro i j hi hj ei ej
      have : widW (narM n (widW (fgt c Y))) i j = widW Y i j := by
        unfold widW
        rw [show narM n (fun i j => wid (fgt c Y i j)) i j = fgt c Y i j from nar_agree hn (fgt_closed hc.1 hy) i j hi hj]
        unfold fgt
        rw [if_neg (by omega), if_neg (by omega)]
      rw [this]; exact hyw i j hi hj
    · intro j hj ej
      have : widW (narM n (widW (fgt c Y))) 0 j = widW Y 0 j := by
        unfold widW
        rw [show narM n (fun i j => wid (fgt c Y i j)) 0 j = fgt c Y 0 j from nar_agree hn (fgt_closed hc.1 hy) 0 j z0 hj]
        unfold fgt
        rw [if_neg (by omega), if_neg (by omega)]
      rw [this]
      have h1 := hy.tri c (by omega) 0 j z0 hj
      have h2 : widW Y 0 c ≤ -2 * k + 1 := by rw [← j_wid hk]; exact (wid_le (hy.full.right 0 c z0 hc.2) (j_right hk)).2 (Int.le_trans (hle 0 c z0 hc.2) t0c)
      have h3 : widW Y c j ≤ widW m c j := (wid_le (hy.full.right c j hc.2 hj) (h.full.right c j hc.2 hj)).2 (Int.le_trans (hle c j hc.2 hj) (tle c j))
      have b2 : Bd 1073741824 (-2 * k + 1) := .inr (by omega)
      have f1 : FB (wsum (widW Y 0 c) (widW Y c j)) := ((hy.hb z0 hc.2).sum (hy.hb hc.2 hj)).mono (by omega)
      have f2 : FB (wsum (-2 * k + 1) (widW m c j)) := (b2.sum (h.hb hc.2 hj)).mono (by omega)
      have h4 := wsum_le (hy.fb z0 hc.2) (j_fb hk) (hy.fb hc.2 hj) (h.fb hc.2 hj) h2 h3
      have h5 := wsum_le (k_fb hk) (k_fb hk) (hy.fb z0 hj) f2 (Int.le_refl _) (Int.le_trans h1 h4)
      rw [undo_l hk (h.fb hc.2 hj)] at h5
      exact h5
    · intro i hi ei
      have : widW (narM n (widW (fgt c Y))) i 0 = widW Y i 0 := by
        unfold widW
        rw [show narM n (fun i j => wid (fgt c Y i j)) i 0 = fgt c Y i 0 from nar_agree hn (fgt_closed hc.1 hy) i 0 hi z0]
        unfold fgt
        rw [if_neg (by omega), if_neg (by omega)]
      rw [this]
      have h1 := hy.tri c (by omega) i 0 hi z0
      have h2 : widW Y c 0 ≤ 2 * k + 1 := by rw [← k_wid hk]; exact (wid_le (hy.full.right c 0 hc.2 z0) (k_right hk)).2 (Int.le_trans (hle c 0 hc.2 z0) tc0)
      have h3 : widW Y i c ≤ widW m i c := (wid_le (hy.full.right i c hi hc.2) (h.full.right i c hi hc.2)).2 (Int.le_trans (hle i c hi hc.2) (tle i c))
      have b1 : Bd 1073741824 (2 * k + 1) := .inr (by omega)
      have f2 : FB (wsum (widW m i c) (2 * k + 1)) := ((h.hb hi hc.2).sum b1).mono (by omega)
      have h4 := wsum_le (hy.fb hi hc.2) (h.fb hi hc.2) (hy.fb hc.2 z0) (k_fb hk) h3 h2
      have h5 := wsum_le (hy.fb hi z0) f2 (j_fb hk) (j_fb hk) (Int.le_trans h1 h4) (Int.le_refl _)
      rw [undo_r hk (h.fb hi hc.2)] at h5
      exact h5
  | over C hC hCC =>
    simp only
    have hw := wide_inv hn hc hk (open_agree n m) h.full.ok (n + 1) (Nat.le_refl _)
    -- the clock's own bounds let it be the number
    have hC0 : C c 0 ≤ 2 * k + 1 := by
      have h1 := hCC.le c 0
      have h2 := (wid_le (htok.right c 0 hc.2 z0) (k_right hk)).2 tc0
      rw [k_wid hk] at h2
      exact Int.le_trans h1 h2
    have h0C : C 0 c ≤ -2 * k + 1 := by
      have h1 := hCC.le 0 c
      have h2 := (wid_le (htok.right 0 c z0 hc.2) (j_right hk)).2 t0c
      rw [j_wid hk] at h2
      exact Int.le_trans h1 h2
    have hCm : ∀ i j, i ≤ n → j ≤ n → C i j ≤ widW m i j := fun i j hi hj => Int.le_trans (hCC.le i j) ((wid_le (htok.right i j hi hj) (h.full.right i j hi hj)).2 (tle i j))
    have hfb : ∀ i j, i ≤ n → j ≤ n → FB (C i j) := fun i j hi hj => half_fb (hCC.bd i j hi hj)
    have b1 : Bd 1073741824 (2 * k + 1) := .inr (by omega)
    have b2 : Bd 1073741824 (-2 * k + 1) := .inr (by omega)
    have hone : (1 : Int) ≤ wsum (C 0 c) (C c 0) := by
      have := hCC.tri c (by omega) 0 0 z0 z0
      rw [hCC.one 0 z0] at this; exact this
    have own1 : 2 * k + 1 ≤ widW m c 0 := by
      have h1 := wsum_le (hfb 0 c z0 hc.2) (j_fb hk) (hfb c 0 hc.2 z0) (h.fb hc.2 z0) h0C (hCm c 0 hc.2 z0)
      have h2 := wsum_le (k_fb hk) (k_fb hk) (b := 1) (.inr (by omega)) ((b2.sum (h.hb hc.2 z0)).mono (by omega)) (Int.le_refl _) (Int.le_trans hone h1)
      rw [wsum_one_right, undo_l hk (h.fb hc.2 z0)] at h2
      exact h2
    have own2 : -2 * k + 1 ≤ widW m 0 c := by
      have h1 := wsum_le (hfb 0 c z0 hc.2) (h.fb z0 hc.2) (hfb c 0 hc.2 z0) (k_fb hk) (hCm 0 c z0 hc.2) hC0
      have h2 := wsum_le (a := 1) (.inr (by omega)) (((h.hb z0 hc.2).sum b1).mono (by omega)) (j_fb hk) (j_fb hk) (Int.le_trans hone h1) (Int.le_refl _)
      rw [wsum_one_left, undo_r hk (h.fb z0 hc.2)] at h2
      exact h2
    unfold wideP
    obtain ⟨r, hr⟩ : ∃ r, r = wideUp (openW (some (n, m))) c k (n + 1) := ⟨_, rfl⟩
    rw [← hr] at hw ⊢
    clear hr
    obtain ⟨X, e⟩ := r
    simp only
    by_cases he : e = 0
    · rw [if_pos he]
      subst he
      rw [flat_congr (forget_agree (n := n) hc.1 (fun i j _ _ => rfl : Agree n X X))]
      have hxo := of_is hn (hw.ok.fgt hc.1)
      have hxr := hw.ok
      generalize ofP n (flat n (fgt c X)) = r at *
      cases hxo with
      | empty _ => exact .inr ⟨_, rfl, .inr ⟨_, reset_zero k hn, incl_zero n m⟩⟩
      | over _ _ _ => exact .inl rfl
      | full C' Y hC' _ hy _ hle =>
        have hsame : ∀ i j, i ≤ n → j ≤ n → i ≠ c → j ≠ c → widW Y i j ≤ widW X i j := fun i j hi hj ei ej => by
          have := hle i j hi hj
          unfold fgt at this
          rw [if_neg (by omega), if_neg (by omega)] at this
          exact (wid_le (hy.full.right i j hi hj) (hxr.right i j hi hj)).2 this
        refine .inr ⟨_, rfl, back_in hn hc hk h (.inr ⟨hy, fun i j hi hj ei ej => ?_, fun j hj ej => ?_, fun i hi ei => ?_⟩)⟩
        · exact Int.le_trans (hsame i j hi hj ei ej) ((wid_le (hxr.right i j hi hj) (h.full.right i j hi hj)).2 (hw.le i j hi hj))
        · by_cases hj0 : j = 0
          · subst hj0
            rw [hy.wone z0, wsum_one_right]; exact own1
          · have h1 := hw.lo rfl j (by omega) (by omega) hj ej
            have h2 := wsum_le (k_fb hk) (k_fb hk) (hy.fb z0 hj) (right_fb (hxr.right 0 j z0 hj)) (Int.le_refl _) (hsame 0 j z0 hj (by omega) ej)
            exact Int.le_trans h2 h1
        · by_cases hi0 : i = 0
          · subst hi0
            rw [hy.wone z0, wsum_one_left]; exact own2
          · have h1 := hw.hi rfl i (by omega) (by omega) hi ei
            have h2 := wsum_le (hy.fb hi z0) (right_fb (hxr.right i 0 hi z0)) (j_fb hk) (j_fb hk) (hsame i 0 hi z0 ei (by omega)) (Int.le_refl _)
            exact Int.le_trans h2 h1
    · rw [if_neg he]
      rcases hw.err with h1 | h1
      · exact absurd h1 he
      · left; have h1 : e = 10 := h1; rw [h1]

/-- A clock set, any, from where, and set again. -/
theorem twice_law {n c : Nat} {k : Int} {m : Mat} (hn : n ≤ 8) (hc : 1 ≤ c ∧ c ≤ n) (hk : 0 ≤ k ∧ k ≤ 1048576) (h : m = (fun _ _ => 0) ∨ ClosedZ n m) :
    (∃ e, e ≠ 0 ∧ ofP n (flat n (resetW (some (n, m)) c k)) = (none, e)) ∨
    ∃ x f, ofP n (flat n (resetW (some (n, m)) c k)) = (some x, 0) ∧ unsetP n x c k = (some f, 0) ∧ freeP n m [(c : Int)] = (some f, 0) ∧ inclM n f m = true ∧
      (unsetP n m c k = (none, 10) ∨ ∃ u, unsetP n m c k = (some u, 0) ∧ (ofP n (flat n (resetW (some (n, u)) c k)) = (none, 10) ∨ ∃ t, ofP n (flat n (resetW (some (n, u)) c k)) = (some t, 0) ∧ inclM n m t = true)) := by
  rcases h with rfl | h
  · exact .inr ⟨_, _, reset_zero k hn, unset_zero k hn, free_zero hn hc, incl_zero n _, .inr ⟨_, unset_zero k hn, .inr ⟨_, reset_zero k hn, incl_zero n _⟩⟩⟩
  · rcases ofP_cases n (flat n (resetW (some (n, m)) c k)) with ⟨x, hx⟩ | ⟨e, he, hx⟩
    · right
      obtain ⟨hxc, hs, h1, h2⟩ := reset_full hn hc hk h hx
      refine ⟨x, _, hx, unset_set hn hc hxc h1 h2, ?_, ?_, unset_back hn hc hk h⟩
      · rw [free_one hn hc h]
        refine Prod.ext (congrArg some (nar_same fun i j hi hj => ?_)) rfl
        unfold fgt
        by_cases a : i = c ∧ j ≠ c
        · rw [if_pos a, if_pos a]
        · rw [if_neg a, if_neg a]
          by_cases b : j = c ∧ i ≠ c
          · rw [if_pos b, if_pos b, hs i 0 hi (Nat.zero_le _) b.2 (by omega)]
          · rw [if_neg b, if_neg b]
            by_cases d : i = c
            · rw [d, show j = c by omega, hxc.full.one c hc.2, h.full.one c hc.2]
            · rw [hs i j hi hj d (by omega)]
      · refine incl_of fun i j hi hj => ?_
        rw [nar_agree hn (fgt_closed hc.1 hxc) i j hi hj]
        unfold fgt
        split
        · exact (right_hi (h.full.right i j hi hj)).2
        · split
          · rename_i b
            rw [hs i 0 hi (Nat.zero_le _) b.2 (by omega), b.1]
            exact (wid_le (h.full.right i c hi hc.2) (h.full.right i 0 hi (Nat.zero_le _))).1 (h.to0 hi hc.2)
          · by_cases d : i = c
            · rw [d, show j = c by omega, hxc.full.one c hc.2, h.full.one c hc.2]
              exact Int.le_refl _
            · rw [hs i j hi hj d (by omega)]
              exact Int.le_refl _
    · exact .inl ⟨e, he, hx⟩

end Go.Proofs.YtidcnlecgcobmaaDoor
