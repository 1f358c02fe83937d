/- Texts of ours, laid together: Pu, Ea, Ew, Nw, Vg, Vh. -/
import Derived.Test.YtkgohhdenfnfpaaShelf
import Derived.Shelf.Spec.BitsCarry
import Derived.Lib.Hide
import Derived.Deep.LoopGhost
import Derived.Deep.QuietTactic
import Derived.BigQuiet
import Derived.BigRegion
import Derived.StillTailTactics
import Derived.KernelRfl
import Derived.Deep.DeepCutAuto
import Derived.Deep.CutBlock
import Derived.Test.YtkgohhdenfnfpaaMg4
/- The closed form is the greatest closed one below; time that passes twice: plain. -/
namespace Go.Proofs.Ytkgohhdenfnfpaa
set_option linter.unusedVariables false
set_option linter.unusedSimpArgs false

theorem fw_ge {n k : Nat} {m E : Mat} (hk : k ≤ n) (hE : ∀ i j, i ≤ n → j ≤ n → FB (E i j)) (hm : ∀ i j, i ≤ n → j ≤ n → FB (m i j)) (ht : Tri n E (n + 1)) (hle : ∀ i j, i ≤ n → j ≤ n → E i j ≤ m i j) :
    ∀ i j, i ≤ n → j ≤ n → E i j ≤ fw k n m i j := fun i j hi hj => by
  have h1 := hle i j hi hj
  have h2 := ht k (by omega) i j hi hj
  have h3 := wsum_le (hE i k hi hk) (hm i k hi hk) (hE k j hk hj) (hm k j hk hj) (hle i k hi hk) (hle k j hk hj)
  unfold fw
  rw [if_pos ⟨hi, hj⟩]
  omega
theorem closeP_ge {n : Nat} (hn : n ≤ 8) {E : Mat} (hE : ∀ i j, i ≤ n → j ≤ n → FB (E i j)) (ht : Tri n E (n + 1)) (h1 : ∀ i, i ≤ n → E i i = 1) :
    ∀ s k m, k + s = n + 1 → Fit n (1073741824 * 4 ^ k) m → (∀ i j, i ≤ n → j ≤ n → E i j ≤ m i j) → ∃ m', closeP n s k m = some m' ∧ ∀ i j, i ≤ n → j ≤ n → E i j ≤ m' i j
  | 0, k, m, _, _, h => ⟨m, rfl, h⟩
  | s + 1, k, m, hk, hf, h => by
    have hg := fw_ge (show k ≤ n by omega) hE (fun i j hi hj => half_fb (fit_bd hf (by omega) i j hi hj)) ht h
    unfold closeP
    rw [if_pos (fun i hi => by have := hg i i hi hi; rw [h1 i hi] at this; exact this)]
    exact closeP_ge hn hE ht h1 s (k + 1) _ (by omega) (fit_next hf (by omega)) hg
/-- What is closed, and below, is below the closed form; and there is one. -/
theorem closed_ge {n : Nat} (hn : n ≤ 8) {E M : Mat} (hE : ∀ i j, i ≤ n → j ≤ n → FB (E i j)) (ht : Tri n E (n + 1)) (h1 : ∀ i, i ≤ n → E i i = 1) (hf : Fit n 1073741824 M) (hle : ∀ i j, i ≤ n → j ≤ n → E i j ≤ M i j) :
    ∃ m', closed n M = some m' ∧ ∀ i j, i ≤ n → j ≤ n → E i j ≤ m' i j := closeP_ge hn hE ht h1 (n + 1) 0 M (by omega) (by simpa using hf) hle

theorem wid_cases {a : Int} (h : rightB a = true) : (a = 2147483647 ∧ wid a = none62) ∨ (a ≠ 2147483647 ∧ wid a = a ∧ -536870912 ≤ a ∧ a ≤ 536870913) := by
  by_cases e : a = 2147483647
  · exact .inl ⟨e, by unfold wid; rw [if_pos e]⟩
  · have := rightB_bd h e
    exact .inr ⟨e, by unfold wid; rw [if_neg e], this.1, this.2⟩
theorem wid_le {a b : Int} (ha : rightB a = true) (hb : rightB b = true) : wid a ≤ wid b ↔ a ≤ b := by
  rcases wid_cases ha with ⟨h1, h2⟩ | ⟨h1, h2, h3, h4⟩ <;> rcases wid_cases hb with ⟨h5, h6⟩ | ⟨h5, h6, h7, h8⟩ <;> rw [h2, h6] <;> unfold none62 <;> omega
/-- What Of tells of cells that may be. -/
inductive OfIs (n : Nat) (X : Mat) : Option Mat × Int → Prop
  | empty (h : closed n (widW X) = none) : OfIs n X (some (fun _ _ => 0), 0)
  | full (C Y : Mat) (h : closed n (widW X) = some C) (hc : Closed n (widW X) C) (hy : ClosedZ n Y) (he : ∀ i j, i ≤ n → j ≤ n → widW Y i j = C i j) (hle : ∀ i j, i ≤ n → j ≤ n → Y i j ≤ X i j) : OfIs n X (some Y, 0)
  | over (C : Mat) (h : closed n (widW X) = some C) (hc : Closed n (widW X) C) : OfIs n X (none, 10)
theorem of_is {n : Nat} {X : Mat} (hn : n ≤ 8) (h : OkM n X) : OfIs n X (ofP n (flat n X)) := by
  rw [ofP_wid hn h]
  unfold zoneP
  cases hc : closed n (widW X) with
  | none => exact .empty hc
  | some C =>
    have hcl := closed_closed hn h.fit hc
    simp only
    by_cases ha : allR n C
    · rw [if_pos ha]
      have hz := closed_of h.wtop ha hcl
      have he : ∀ i j, i ≤ n → j ≤ n → widW (narM n C) i j = C i j := fun i j hi hj => by
        unfold widW narM
        rw [if_pos ⟨hi, hj⟩]
        exact wid_nar (ha i hi j hj)
      refine .full C _ hc hcl hz he fun i j hi hj => ?_
      refine (wid_le (hz.full.right i j hi hj) (h.right i j hi hj)).1 ?_
      have h1 := he i j hi hj
      have h2 := hcl.le i j
      unfold widW at h1 h2
      omega
    · rw [if_neg ha]
      exact .over C hc hcl
theorem nar_agree {n : Nat} {U : Mat} (hn : n ≤ 8) (h : ClosedZ n U) : Agree n (narM n (widW U)) U := fun i j hi hj => (ofP_closed hn h).2 i j hi hj
theorem nar_closed {n : Nat} {U : Mat} (hn : n ≤ 8) (h : ClosedZ n U) : ClosedZ n (narM n (widW U)) := h.congr fun i j hi hj => (nar_agree hn h i j hi hj).symm
/-- Of cells that are, in range, a closed zone's. -/
theorem of_same {n : Nat} {X U : Mat} (hn : n ≤ 8) (h : ClosedZ n U) (ha : Agree n X U) : ofP n (flat n X) = (some (narM n (widW U)), 0) := by
  rw [flat_congr ha]; exact (ofP_closed hn h).1
theorem nar_same {n : Nat} {U V : Mat} (h : Agree n U V) : narM n (widW U) = narM n (widW V) := narM_agree fun i j hi hj => by unfold widW; rw [h i j hi hj]
theorem ClosedZ.notEmpty {n : Nat} {m : Mat} (h : ClosedZ n m) : emptyP (some (n, m)) = false := decide_eq_false (by rw [h.full.one 0 (Nat.zero_le _)]; omega)
theorem ClosedZ.fb {n : Nat} {m : Mat} (h : ClosedZ n m) {i j : Nat} (hi : i ≤ n) (hj : j ≤ n) : FB (widW m i j) := right_fb (h.full.right i j hi hj)
theorem ClosedZ.wone {n : Nat} {m : Mat} (h : ClosedZ n m) {i : Nat} (hi : i ≤ n) : widW m i i = 1 := by unfold widW; rw [h.full.one i hi]; decide
theorem ClosedZ.wtop {n : Nat} {m : Mat} (h : ClosedZ n m) {j : Nat} (hj : j ≤ n) : widW m 0 j ≤ 1 := h.full.ok.wtop j hj
/-- What is no stricter than a step back to the zero clock. -/
theorem ClosedZ.to0 {n : Nat} {m : Mat} (h : ClosedZ n m) {i j : Nat} (hi : i ≤ n) (hj : j ≤ n) : widW m i j ≤ widW m i 0 := by
  have h1 := h.tri 0 (by omega) i j hi hj
  have h2 := wsum_le (h.fb hi (Nat.zero_le _)) (h.fb hi (Nat.zero_le _)) (h.fb (Nat.zero_le _) hj) (b' := 1) (.inr (by omega)) (Int.le_refl _) (h.wtop hj)
  rw [wsum_one_right] at h2
  omega
theorem ClosedZ.from0 {n : Nat} {m : Mat} (h : ClosedZ n m) {i j : Nat} (hi : i ≤ n) (hj : j ≤ n) : widW m 0 j ≤ widW m i j := by
  have h1 := h.tri i (by omega) 0 j (Nat.zero_le _) hj
  have h2 := wsum_le (h.fb (Nat.zero_le _) hi) (a' := 1) (.inr (by omega)) (h.fb hi hj) (h.fb hi hj) (h.wtop hi) (Int.le_refl _)
  rw [wsum_one_left] at h2
  omega
theorem ClosedZ.col0 {n : Nat} {m : Mat} (h : ClosedZ n m) {i : Nat} (hi : i ≤ n) : 1 ≤ widW m i 0 := by
  have := h.to0 hi hi
  rw [h.wone hi] at this
  exact this

/-! ### Up -/
def upM (m : Mat) : Mat := fun i j => if j = 0 ∧ i ≠ 0 then 2147483647 else m i j
theorem upUp_cell (m : Mat) (i j : Nat) : ∀ p, upUp m p i j = if j = 0 ∧ 1 ≤ i ∧ i < p then 2147483647 else m i j
  | 0 => by rw [if_neg (by omega)]; rfl
  | p + 1 => by
    unfold upUp
    split
    · rw [upUp_cell m i j p]
      split <;> split <;> first | rfl | (exfalso; omega)
    · unfold upd
      rw [upUp_cell m i j p]
      split <;> split <;> (try split) <;> first | rfl | (exfalso; omega)
theorem up_closed {n : Nat} {m : Mat} (h : ClosedZ n m) : ClosedZ n (upM m) := by
  have hr : RightM n (upM m) := fun i j hi hj => by
    unfold upM; split
    · decide
    · exact h.full.right i j hi hj
  refine ⟨⟨hr, fun i hi => ?_, fun j hj => ?_⟩, fun l hl i j hi hj => ?_⟩
  · unfold upM; rw [if_neg (by omega)]; exact h.full.one i hi
  · unfold upM; rw [if_neg (by omega)]; exact h.full.top j hj
  · have hl' : l ≤ n := by omega
    have hfb : FB (widW (upM m) i j) := right_fb (hr i j hi hj)
    have hinf : wid 2147483647 = none62 := by decide
    by_cases e1 : l = 0 ∧ i ≠ 0
    · have : widW (upM m) i l = none62 := by unfold widW upM; rw [if_pos e1, hinf]
      rw [this, wsum_none_left]; exact hfb.le
    · by_cases e2 : j = 0 ∧ l ≠ 0
      · have : widW (upM m) l j = none62 := by unfold widW upM; rw [if_pos e2, hinf]
        rw [this, wsum_none_right]; exact hfb.le
      · have h1 : widW (upM m) i l = widW m i l := by unfold widW upM; rw [if_neg e1]
        have h2 : widW (upM m) l j = widW m l j := by unfold widW upM; rw [if_neg e2]
        have h3 : widW (upM m) i j = widW m i j := by unfold widW upM; rw [if_neg (by omega)]
        rw [h1, h2, h3]
        exact h.tri l hl i j hi hj
theorem upW_agree {n : Nat} {m : Mat} (h : ClosedZ n m) : Agree n (upW (some (n, m))) (upM m) := fun i j hi hj => by
  have e : upW (some (n, m)) = upUp (openW (some (n, m))) (n + 1) := by unfold upW; rw [if_neg (by simp [h.notEmpty])]; rfl
  rw [e, (open_agree n m).up (n + 1) i j hi hj, upUp_cell]
  unfold upM
  split <;> split <;> first | rfl | (exfalso; omega)
theorem incl_of {n : Nat} {m o : Mat} (h : ∀ i j, i ≤ n → j ≤ n → o i j ≤ m i j) : inclM n m o = true := decide_eq_true (.inr fun i hi j hj => h i j hi hj)
theorem incl_zero (n : Nat) (m : Mat) : inclM n m (fun _ _ => 0) = true := decide_eq_true (.inl (by decide))
theorem up_twice {n : Nat} {m : Mat} (hn : n ≤ 8) (h : m = (fun _ _ => 0) ∨ ClosedZ n m) :
    ∃ a, ofP n (flat n (upW (some (n, m)))) = (some a, 0) ∧ ofP n (flat n (upW (some (n, a)))) = (some a, 0) ∧ inclM n a m = true := by
  rcases h with rfl | h
  · exact ⟨_, up_zero n hn, up_zero n hn, incl_zero n _⟩
  · have hc := up_closed h
    refine ⟨_, of_same hn hc (upW_agree h), ?_, ?_⟩
    · have hcc := nar_closed hn hc
      rw [of_same hn (up_closed hcc) (upW_agree hcc)]
      refine Prod.ext (congrArg some (nar_same fun i j hi hj => ?_)) rfl
      have := nar_agree hn hc i j hi hj
      unfold upM at this ⊢
      split
      · rfl
      · rename_i hij
        rw [if_neg hij] at this
        exact this
    · refine incl_of fun i j hi hj => ?_
      rw [nar_agree hn hc i j hi hj]
      unfold upM
      split
      · exact (right_hi (h.full.right i j hi hj)).2
      · exact Int.le_refl _

/-! ### Down -/
theorem downIn_other {m : Mat} {i a b : Nat} (h : a ≠ 0 ∨ b ≠ i) : ∀ j, downIn m i j a b = m a b
  | 0 => rfl
  | j + 1 => by
    unfold downIn
    split
    · exact downIn_other h j
    · unfold lessM upd
      rw [if_neg (by omega)]
      exact downIn_other h j
theorem downIn_val {m : Mat} {i : Nat} : ∀ j, downIn m i j 0 i ≤ m 0 i ∧ (∀ q, 1 ≤ q → q < j → downIn m i j 0 i ≤ m q i) ∧ (downIn m i j 0 i = m 0 i ∨ ∃ q, 1 ≤ q ∧ q < j ∧ downIn m i j 0 i = m q i)
  | 0 => ⟨Int.le_refl _, fun q h1 h2 => by omega, .inl rfl⟩
  | j + 1 => by
    obtain ⟨h1, h2, h3⟩ := downIn_val (m := m) (i := i) j
    unfold downIn
    split
    · subst j
      exact ⟨h1, fun q a b => by omega, .inl (by rcases h3 with h | ⟨q, a, b, _⟩; exact h; omega)⟩
    · rename_i hj
      have e : lessM (downIn m i j) 0 i (downIn m i j j i) 0 i = min (downIn m i j 0 i) (m j i) := by
        unfold lessM upd
        rw [if_pos ⟨rfl, rfl⟩, downIn_other (.inl hj)]
      rw [e]
      refine ⟨by omega, fun q a b => ?_, ?_⟩
      · by_cases e2 : q = j
        · subst e2; omega
        · have := h2 q a (by omega); omega
      · rcases Int.le_total (downIn m i j 0 i) (m j i) with hle | hle
        · rw [Int.min_eq_left hle]
          rcases h3 with h | ⟨q, a, b, c⟩
          · exact .inl h
          · exact .inr ⟨q, a, by omega, c⟩
        · rw [Int.min_eq_right hle]
          exact .inr ⟨j, by omega, by omega, rfl⟩
theorem downUp_other {n : Nat} {m : Mat} {a b : Nat} (h : a ≠ 0 ∨ b = 0) : ∀ p, downUp n m p a b = m a b
  | 0 => rfl
  | p + 1 => by
    unfold downUp
    split
    · exact downUp_other h p
    · rw [downIn_other (by omega)]
      unfold upd
      rw [if_neg (by omega)]
      exact downUp_other h p
theorem downUp_val {n : Nat} {m : Mat} {j : Nat} (h1 : 1 ≤ j) (hj : j ≤ n) (hd : m j j = 1) : ∀ p, j < p → (∀ q, 1 ≤ q → q ≤ n → downUp n m p 0 j ≤ m q j) ∧ ∃ q, 1 ≤ q ∧ q ≤ n ∧ downUp n m p 0 j = m q j
  | 0, h => by omega
  | p + 1, h => by
    unfold downUp
    rw [if_neg (by omega)]
    by_cases e : j = p
    · subst e
      have hq : ∀ q, 1 ≤ q → upd (downUp n m j) 0 j 1 q j = m q j := fun q hq => by
        unfold upd
        rw [if_neg (by omega)]
        exact downUp_other (.inl (by omega)) j
      obtain ⟨a, b, c⟩ := downIn_val (m := upd (downUp n m j) 0 j 1) (i := j) (n + 1)
      have h0 : upd (downUp n m j) 0 j 1 0 j = 1 := by unfold upd; rw [if_pos ⟨rfl, rfl⟩]
      refine ⟨fun q x y => by rw [← hq q x]; exact b q x (by omega), ?_⟩
      rcases c with c | ⟨q, x, y, c⟩
      · exact ⟨j, h1, hj, by rw [c, h0, hd]⟩
      · exact ⟨q, x, by omega, by rw [c, hq q x]⟩
    · have e2 : downIn (upd (downUp n m p) 0 p 1) p (n + 1) 0 j = downUp n m p 0 j := by
        rw [downIn_other (.inr e)]
        unfold upd
        rw [if_neg (by omega)]
      rw [e2]
      exact downUp_val h1 hj hd p (by omega)
def downM (n : Nat) (m : Mat) : Mat := downUp n m (n + 1)
theorem downM_other {n : Nat} {m : Mat} {a b : Nat} (h : a ≠ 0 ∨ b = 0) : downM n m a b = m a b := downUp_other h _
theorem downM_val {n : Nat} {m : Mat} {j : Nat} (h1 : 1 ≤ j) (hj : j ≤ n) (hd : m j j = 1) : (∀ q, 1 ≤ q → q ≤ n → downM n m 0 j ≤ m q j) ∧ ∃ q, 1 ≤ q ∧ q ≤ n ∧ downM n m 0 j = m q j := downUp_val h1 hj hd _ (by omega)
theorem down_closed {n : Nat} {m : Mat} (h : ClosedZ n m) : ClosedZ n (downM n m) := by
  have hr : RightM n (downM n m) := fun i j hi hj => by
    by_cases e : i ≠ 0 ∨ j = 0
    · rw [downM_other e]; exact h.full.right i j hi hj
    · have e1 : i = 0 := by omega
      subst e1
      obtain ⟨_, q, a, b, c⟩ := downM_val (m := m) (j := j) (by omega) hj (h.full.one j hj)
      rw [c]; exact h.full.right q j b hj
  refine ⟨⟨hr, fun i hi => ?_, fun j hj => ?_⟩, fun l hl i j hi hj => ?_⟩
  · rw [downM_other (by omega)]; exact h.full.one i hi
  · by_cases e : j = 0
    · subst e; rw [downM_other (.inr rfl), h.full.one 0 (Nat.zero_le _)]; exact Int.le_refl _
    · have := (downM_val (m := m) (j := j) (by omega) hj (h.full.one j hj)).1 j (by omega) hj
      rw [h.full.one j hj] at this; exact this
  · have hl' : l ≤ n := by omega
    have heq : ∀ a b, a ≠ 0 ∨ b = 0 → widW (downM n m) a b = widW m a b := fun a b hab => by unfold widW; rw [downM_other hab]
    by_cases hi0 : i ≠ 0
    · rw [heq i j (.inl hi0), heq i l (.inl hi0)]
      by_cases hl0 : l ≠ 0 ∨ j = 0
      · rw [heq l j hl0]; exact h.tri l hl i j hi hj
      · have : l = 0 := by omega
        subst this
        obtain ⟨_, q, a, b, c⟩ := downM_val (m := m) (j := j) (by omega) hj (h.full.one j hj)
        have e : widW (downM n m) 0 j = widW m q j := by unfold widW; rw [c]
        rw [e]
        have t1 := h.tri q (by omega) i j hi hj
        have t2 := wsum_le (h.fb hi b) (h.fb hi (Nat.zero_le _)) (h.fb b hj) (h.fb b hj) (h.to0 hi b) (Int.le_refl _)
        omega
    · have : i = 0 := by omega
      subst this
      by_cases hj0 : j = 0
      · subst hj0
        rw [heq 0 0 (.inr rfl), heq l 0 (.inr rfl), h.wone (Nat.zero_le _)]
        by_cases hl0 : l = 0
        · subst hl0; rw [heq 0 0 (.inr rfl), h.wone (Nat.zero_le _)]; decide
        · obtain ⟨_, q, a, b, c⟩ := downM_val (m := m) (j := l) (by omega) hl' (h.full.one l hl')
          have e : widW (downM n m) 0 l = widW m q l := by unfold widW; rw [c]
          rw [e]
          have t1 := h.tri l hl q 0 b (Nat.zero_le _)
          have t2 := h.col0 b
          omega
      · obtain ⟨u, q0, a0, b0, c0⟩ := downM_val (m := m) (j := j) (by omega) hj (h.full.one j hj)
        by_cases hl0 : l = 0
        · subst hl0
          rw [heq 0 0 (.inr rfl), h.wone (Nat.zero_le _), wsum_one_left]
          exact Int.le_refl _
        · obtain ⟨_, q, a, b, c⟩ := downM_val (m := m) (j := l) (by omega) hl' (h.full.one l hl')
          have e : widW (downM n m) 0 l = widW m q l := by unfold widW; rw [c]
          rw [e, heq l j (.inl hl0)]
          have t1 := h.tri l hl q j b hj
          have t2 := (wid_le (hr 0 j (Nat.zero_le _) hj) (h.full.right q j b hj)).2 (u q a b)
          unfold widW at t1 ⊢
          omega
theorem downW_agree {n : Nat} {m : Mat} (h : ClosedZ n m) : Agree n (downW (some (n, m))) (downM n m) := fun i j hi hj => by
  have e : downW (some (n, m)) = downUp n (openW (some (n, m))) (n + 1) := by unfold downW; rw [if_neg (by simp [h.notEmpty])]; rfl
  rw [e, (open_agree n m).down (n + 1) (Nat.le_refl _) i j hi hj]
  rfl
theorem down_idem {n : Nat} {m D : Mat} (h : ClosedZ n m) (hD : Agree n D (downM n m)) : Agree n (downM n D) (downM n m) := fun i j hi hj => by
  by_cases e : i ≠ 0 ∨ j = 0
  · rw [downM_other e]; exact hD i j hi hj
  · have e1 : i = 0 := by omega
    subst e1
    have hdd : D j j = 1 := by rw [hD j j hj hj, downM_other (by omega)]; exact h.full.one j hj
    obtain ⟨u, q, a, b, c⟩ := downM_val (m := m) (j := j) (by omega) hj (h.full.one j hj)
    obtain ⟨u', q', a', b', c'⟩ := downM_val (m := D) (j := j) (by omega) hj hdd
    have x1 := u q' a' b'
    have x2 := u' q a b
    have e2 : D q' j = m q' j := (hD q' j b' hj).trans (downM_other (.inl (Nat.pos_iff_ne_zero.1 a')))
    have e3 : D q j = m q j := (hD q j b hj).trans (downM_other (.inl (Nat.pos_iff_ne_zero.1 a)))
    omega
theorem down_twice {n : Nat} {m : Mat} (hn : n ≤ 8) (h : m = (fun _ _ => 0) ∨ ClosedZ n m) :
    ∃ a, ofP n (flat n (downW (some (n, m)))) = (some a, 0) ∧ ofP n (flat n (downW (some (n, a)))) = (some a, 0) ∧ inclM n a m = true := by
  rcases h with rfl | h
  · exact ⟨_, down_zero n hn, down_zero n hn, incl_zero n _⟩
  · have hc := down_closed h
    refine ⟨_, of_same hn hc (downW_agree h), ?_, ?_⟩
    · have hcc := nar_closed hn hc
      rw [of_same hn (down_closed hcc) (downW_agree hcc)]
      exact Prod.ext (congrArg some (nar_same (down_idem h (nar_agree hn hc)))) rfl
    · refine incl_of fun i j hi hj => ?_
      rw [nar_agree hn hc i j hi hj]
      by_cases e : i ≠ 0 ∨ j = 0
      · rw [downM_other e]; exact Int.le_refl _
      · have e1 : i = 0 := by omega
        subst e1
        obtain ⟨_, q, a, b, c⟩ := downM_val (m := m) (j := j) (by omega) hj (h.full.one j hj)
        rw [c]
        exact (wid_le (h.full.right 0 j hi hj) (h.full.right q j b hj)).1 (h.from0 b hj)

end Go.Proofs.Ytkgohhdenfnfpaa

/- Wider zones: plain. -/
namespace Go.Proofs.Ytkgohhdenfnfpaa
set_option linter.unusedVariables false
set_option linter.unusedSimpArgs false

/-- A clock's constant, -1 as 0; of the clock 0: 0. -/
def atP (l : List Int) (i : Nat) : Int := if i = 0 then 0 else max (l.getD (i - 1) 0) 0
/-- A cell, widened. -/
def widP (lo up : List Int) (i j : Nat) (b : Int) : Int :=
  if i ≠ 0 ∧ 2 * atP lo i + 1 < b then 2147483647 else
  if i = 0 then min (max b (-2 * atP up j)) 1 else max b (-2 * atP up j)
/-- May constants be so? -/
def cstB (x : Int) : Bool := decide (-1 ≤ x ∧ x ≤ 1048576)
def rightE (n : Nat) (l : List Int) : Int := if l.length = n then (if l.all cstB = true then 0 else 13) else 6
/-- All cells but those of a clock and itself, by what they become. -/
def offM (f : Nat → Nat → Int → Int) (m : Mat) : Mat := fun i j => if i = j then m i j else f i j (m i j)
/-- Is nothing to be said of a clock? -/
def goneB (l : List Int) (i : Nat) : Bool := decide ((i : Int) ∈ l)
def goneF (l : List Int) (m : Mat) (i j : Nat) (b : Int) : Int := if goneB l i = true then 2147483647 else if goneB l j = true then m i 0 else b
def clkE (n : Nat) (l : List Int) : Bool := l.all fun x => decide (1 ≤ x ∧ x ≤ n)
/-- What Gone answers of a zone. -/
def goneP (n : Nat) (m : Mat) (l : List Int) : Option Mat × Int := if clkE n l = true then (if m 0 0 < 1 then ofP n (flat n m) else ofP n (flat n (offM (goneF l m) m))) else (none, 12)
def goneA (z : Option (Nat × Mat)) (l : List Int) : Option Mat × Int := match z with | none => (none, 1) | some (k, m) => goneP k m l
/-- The clocks of the first p that are held against nothing. -/
def freeC (lo up : List Int) : Nat → List Int
  | 0 => []
  | p + 1 => if lo.getD p 0 < 0 ∧ up.getD p 0 < 0 then freeC lo up p ++ [(p : Int) + 1] else freeC lo up p
/-- What LU answers of a zone. -/
def luP (n : Nat) (m : Mat) (lo up : List Int) : Option Mat × Int :=
  if rightE n lo ≠ 0 then (none, rightE n lo) else if rightE n up ≠ 0 then (none, rightE n up) else
  if m 0 0 < 1 then ofP n (flat n m) else
  match goneP n m (freeC lo up lo.length) with
  | (some y, _) => ofP n (flat n (offM (widP lo up) y))
  | (none, e) => (none, e)

theorem atP_rng {l : List Int} (h : l.all cstB = true) (i : Nat) : 0 ≤ atP l i ∧ atP l i ≤ 1048576 := by
  unfold atP
  split
  · omega
  · by_cases e : i - 1 < l.length
    · have := (all_getD l cstB 0).1 h (i - 1) e
      unfold cstB at this
      simp only [decide_eq_true_eq] at this
      omega
    · rw [List.getD_eq_getElem?_getD, List.getElem?_eq_none (by omega)]
      simp
theorem gone_closed {n : Nat} {m : Mat} {l : List Int} (hc : clkE n l = true) (h : ClosedZ n m) : ClosedZ n (offM (goneF l m) m) := by
  have g0 : goneB l 0 = false := by
    unfold goneB
    refine decide_eq_false fun hm => ?_
    have := List.all_eq_true.1 hc _ hm
    simp only [decide_eq_true_eq] at this
    omega
  have hr : RightM n (offM (goneF l m) m) := fun i j hi hj => by
    unfold offM goneF
    split
    · exact h.full.right i j hi hj
    · split
      · decide
      · split
        · exact h.full.right i 0 hi (Nat.zero_le _)
        · exact h.full.right i j hi hj
  have hone : ∀ i, i ≤ n → offM (goneF l m) m i i = 1 := fun i hi => by unfold offM; rw [if_pos rfl]; exact h.full.one i hi
  refine ⟨⟨hr, hone, fun j hj => ?_⟩, fun q hq i j hi hj => ?_⟩
  · unfold offM goneF
    rw [g0]
    split
    · exact h.full.top j hj
    · rw [if_neg (by simp)]
      split
      · exact h.full.top 0 (Nat.zero_le _)
      · exact h.full.top j hj
  · have hq' : q ≤ n := by omega
    have hfb : FB (widW (offM (goneF l m) m) i j) := right_fb (hr i j hi hj)
    have hinf : wid 2147483647 = none62 := by decide
    have k0 : ∀ a, a ≤ n → widW (offM (goneF l m) m) a a = 1 := fun a ha => by unfold widW; rw [hone a ha]; decide
    have k1 : ∀ a b, a ≠ b → goneB l a = true → widW (offM (goneF l m) m) a b = none62 := fun a b hab ga => by unfold widW offM goneF; rw [if_neg hab, if_pos ga, hinf]
    have k2 : ∀ a b, a ≠ b → goneB l a = false → goneB l b = true → widW (offM (goneF l m) m) a b = widW m a 0 := fun a b hab ga gb => by unfold widW offM goneF; rw [if_neg hab, ga, if_neg (by simp), if_pos gb]
    have k3 : ∀ a b, a ≠ b → goneB l a = false → goneB l b = false → widW (offM (goneF l m) m) a b = widW m a b := fun a b hab ga gb => by unfold widW offM goneF; rw [if_neg hab, ga, if_neg (by simp), gb, if_neg (by simp)]
    by_cases e1 : i = q
    · subst e1; rw [k0 i hi, wsum_one_left]; exact Int.le_refl _
    · by_cases e2 : q = j
      · subst e2; rw [k0 q hj, wsum_one_right]; exact Int.le_refl _
      · cases gi : goneB l i with
        | true => rw [k1 i q e1 gi, wsum_none_left]; exact hfb.le
        | false =>
          cases gq : goneB l q with
          | true => rw [k1 q j e2 gq, wsum_none_right]; exact hfb.le
          | false =>
            rw [k3 i q e1 gi gq]
            by_cases e3 : i = j
            · subst e3
              rw [k0 i hi, k3 q i e2 gq gi, ← h.wone hi]
              exact h.tri q hq i i hi hi
            · cases gj : goneB l j with
              | true => rw [k2 i j e3 gi gj, k2 q j e2 gq gj]; exact h.tri q hq i 0 hi (Nat.zero_le _)
              | false => rw [k3 i j e3 gi gj, k3 q j e2 gq gj]; exact h.tri q hq i j hi hj
theorem zero_of {n : Nat} (hn : n ≤ 8) : ofP n (flat n fun _ _ => 0) = (some (fun _ _ => 0), 0) := by rw [of_flat hn (right_zero n)]; exact zoneP_zero n
theorem gone_zero {n : Nat} {l : List Int} (hn : n ≤ 8) (hc : clkE n l = true) : goneP n (fun _ _ => 0) l = (some (fun _ _ => 0), 0) := by
  unfold goneP
  rw [if_pos hc, if_pos (by decide)]
  exact zero_of hn
theorem gone_full {n : Nat} {m : Mat} {l : List Int} (hn : n ≤ 8) (hc : clkE n l = true) (h : ClosedZ n m) : goneP n m l = (some (narM n (widW (offM (goneF l m) m))), 0) := by
  unfold goneP
  rw [if_pos hc, if_neg (by rw [h.full.one 0 (Nat.zero_le _)]; omega)]
  exact of_same hn (gone_closed hc h) fun i j _ _ => rfl
theorem gone_ge {n : Nat} {m : Mat} {l : List Int} (h : ClosedZ n m) (i j : Nat) (hi : i ≤ n) (hj : j ≤ n) : m i j ≤ offM (goneF l m) m i j := by
  unfold offM goneF
  split
  · exact Int.le_refl _
  · split
    · exact (right_hi (h.full.right i j hi hj)).2
    · split
      · exact (wid_le (h.full.right i j hi hj) (h.full.right i 0 hi (Nat.zero_le _))).1 (h.to0 hi hj)
      · exact Int.le_refl _

/-! ### a closed form of small bounds is in range -/
def Cap (n : Nat) (V : Int) (m : Mat) : Prop := ∀ i j, i ≤ n → j ≤ n → m i j = none62 ∨ m i j ≤ 2 * V + 1
theorem cap_fw {n k : Nat} {V : Int} {m : Mat} (hk : k ≤ n) (hV : 0 ≤ V) (h : Cap n V m) : Cap n (2 * V) (fw k n m) := fun i j hi hj => by
  unfold fw
  rw [if_pos ⟨hi, hj⟩]
  by_cases a : m i k = none62
  · rw [a, wsum_none_left]
    rcases h i j hi hj with e | e
    · left; rw [e]; rfl
    · right; omega
  · by_cases b : m k j = none62
    · rw [b, wsum_none_right]
      rcases h i j hi hj with e | e
      · left; rw [e]; rfl
      · right; omega
    · right
      have h1 := (h i k hi hk).resolve_left a
      have h2 := (h k j hk hj).resolve_left b
      rw [wsum_min a b]
      omega
theorem cap_fw0 {n : Nat} {V : Int} {m : Mat} (hV : 0 ≤ V) (h : Cap n V m) (h0 : ∀ j, j ≤ n → m 0 j ≤ 1) : Cap n V (fw 0 n m) := fun i j hi hj => by
  unfold fw
  rw [if_pos ⟨hi, hj⟩]
  by_cases a : m i 0 = none62
  · rw [a, wsum_none_left]
    rcases h i j hi hj with e | e
    · left; rw [e]; rfl
    · right; omega
  · have b : m 0 j ≠ none62 := fun e => by have := h0 j hj; rw [e] at this; unfold none62 at this; omega
    right
    have h1 := (h i 0 hi (Nat.zero_le _)).resolve_left a
    have h2 := h0 j hj
    rw [wsum_min a b]
    omega
theorem cap_close {n : Nat} : ∀ s k V m m', k + s = n + 1 → 0 ≤ V → Cap n V m → closeP n s k m = some m' → Cap n (V * 2 ^ s) m'
  | 0, k, V, m, m', _, _, h, e => by
    simp [closeP] at e
    subst e
    rw [Int.pow_zero, Int.mul_one]; exact h
  | s + 1, k, V, m, m', hk, hV, h, e => by
    unfold closeP at e
    split at e
    · have := cap_close s (k + 1) (2 * V) _ m' (by omega) (by omega) (cap_fw (by omega) hV h) e
      rw [show V * 2 ^ (s + 1) = 2 * V * 2 ^ s by rw [Int.pow_succ, Int.mul_comm (2 ^ s) 2, ← Int.mul_assoc, Int.mul_comm V 2]]
      exact this
    · cases e
theorem pow_two_le {n : Nat} (h : n ≤ 8) : (2 : Int) ^ n ≤ 256 := by
  match n, h with
  | 0, _ | 1, _ | 2, _ | 3, _ | 4, _ | 5, _ | 6, _ | 7, _ | 8, _ => decide
theorem closed_cap {n : Nat} {m m' : Mat} (hn : n ≤ 8) (h : Cap n 1048576 m) (h0 : ∀ j, j ≤ n → m 0 j ≤ 1) (e : closed n m = some m') : Cap n 268435456 m' := by
  unfold closed closeP at e
  split at e
  · have h1 := cap_close n 1 1048576 _ m' (by omega) (by omega) (cap_fw0 (by omega) h h0) e
    intro i j hi hj
    rcases h1 i j hi hj with h2 | h2
    · exact .inl h2
    · right
      have := pow_two_le hn
      have : (1048576 : Int) * 2 ^ n ≤ 1048576 * 256 := Int.mul_le_mul_of_nonneg_left this (by omega)
      omega
  · cases e
/-- Cells that are nowhere stricter than a closed zone's, and small where they are bounds, make a zone. -/
theorem widen_is {n : Nat} {W Y : Mat} (hn : n ≤ 8) (hY : ClosedZ n Y) (hW : OkM n W) (hle : ∀ i j, i ≤ n → j ≤ n → Y i j ≤ W i j) (hcap : ∀ i j, i ≤ n → j ≤ n → W i j = 2147483647 ∨ W i j ≤ 2097153) :
    ∃ a, ofP n (flat n W) = (some a, 0) ∧ ClosedZ n a ∧ (∀ i j, i ≤ n → j ≤ n → a i j ≤ W i j) ∧ ∀ e, ClosedZ n e → (∀ i j, i ≤ n → j ≤ n → e i j ≤ W i j) → ∀ i j, i ≤ n → j ≤ n → e i j ≤ a i j := by
  have hge : ∀ e, ClosedZ n e → (∀ i j, i ≤ n → j ≤ n → e i j ≤ W i j) → ∃ C, closed n (widW W) = some C ∧ ∀ i j, i ≤ n → j ≤ n → widW e i j ≤ C i j := fun e he hew =>
    closed_ge hn (fun i j hi hj => he.fb hi hj) he.tri (fun i hi => he.wone hi) hW.fit (fun i j hi hj => (wid_le (he.full.right i j hi hj) (hW.right i j hi hj)).2 (hew i j hi hj))
  obtain ⟨C, hC, hYC⟩ := hge Y hY hle
  have hcp : Cap n 1048576 (widW W) := fun i j hi hj => by
    rcases hcap i j hi hj with e | e
    · left; unfold widW wid; rw [if_pos e]
    · right; unfold widW wid; rw [if_neg (by omega)]; omega
  have hCC := closed_cap hn hcp hW.wtop hC
  have hall : allR n C := fun i hi j hj => by
    rcases hCC i j hi hj with e | e
    · exact .inl e
    · right
      have h1 := hYC i j hi hj
      have h2 := rightB_bd (hY.full.right i j hi hj)
      have h3 : -536870912 ≤ widW Y i j := by
        rcases wid_cases (hY.full.right i j hi hj) with ⟨_, h⟩ | ⟨_, h, h4, _⟩
        · show -536870912 ≤ wid (Y i j); rw [h]; decide
        · show -536870912 ≤ wid (Y i j); rw [h]; exact h4
      omega
  have hi := of_is hn hW
  generalize hrr : ofP n (flat n W) = r at *
  cases hi with
  | empty h => rw [hC] at h; cases h
  | over C' h _ =>
    rw [ofP_wid hn hW] at hrr
    unfold zoneP at hrr
    rw [hC] at hrr
    simp only at hrr
    rw [if_pos hall] at hrr
    cases hrr
  | full C' a h _ ha he hle' =>
    refine ⟨a, rfl, ha, hle', fun e hec hew i j hi hj => ?_⟩
    obtain ⟨C2, hC2, h2⟩ := hge e hec hew
    rw [hC2] at h
    simp only [Option.some.injEq] at h
    subst h
    have := h2 i j hi hj
    rw [← he i j hi hj] at this
    exact (wid_le (hec.full.right i j hi hj) (ha.full.right i j hi hj)).1 this

/-! ### LU -/
theorem wide_ok {n : Nat} {m : Mat} {lo up : List Int} (h0 : lo.all cstB = true) (h1 : up.all cstB = true) (h : ClosedZ n m) :
    OkM n (offM (widP lo up) m) ∧ (∀ i j, i ≤ n → j ≤ n → m i j ≤ offM (widP lo up) m i j) ∧ ∀ i j, i ≤ n → j ≤ n → offM (widP lo up) m i j = 2147483647 ∨ offM (widP lo up) m i j ≤ 2097153 := by
  have hge : ∀ i j, i ≤ n → j ≤ n → m i j ≤ offM (widP lo up) m i j := fun i j hi hj => by
    have hr := right_hi (h.full.right i j hi hj)
    unfold offM widP
    split
    · exact Int.le_refl _
    · split
      · exact hr.2
      · split
        · rename_i e; have := h.full.top j hj; rw [e]; omega
        · omega
  refine ⟨⟨fun i j hi hj => ?_, fun i hi => ?_, fun j hj => ?_⟩, hge, fun i j hi hj => ?_⟩
  · have hr := h.full.right i j hi hj
    have a0 := atP_rng h0 i
    have a1 := atP_rng h1 j
    unfold offM widP
    split
    · exact hr
    · split
      · decide
      · have hd := of_decide_eq_true hr
        split
        · exact decide_eq_true (by omega)
        · exact decide_eq_true (by omega)
  · unfold offM; rw [if_pos rfl]; rw [h.full.one i hi]; exact Int.le_refl _
  · unfold offM widP
    split
    · exact h.full.top j hj
    · rw [if_neg (by omega), if_pos rfl]; omega
  · have a0 := atP_rng h0 i
    have a1 := atP_rng h1 j
    unfold offM widP
    split
    · rename_i e; subst e; right; rw [h.full.one i hi]; omega
    · split
      · exact .inl rfl
      · right
        split
        · omega
        · omega
theorem freeC_clk {lo up : List Int} {n : Nat} : ∀ p, p ≤ n → clkE n (freeC lo up p) = true
  | 0, _ => rfl
  | p + 1, hp => by
    have := freeC_clk (lo := lo) (up := up) p (by omega : p ≤ n)
    unfold freeC
    split
    · unfold clkE at this ⊢
      rw [List.all_append, this]
      simp
      omega
    · exact this
theorem freeC_mem {lo up : List Int} {i : Nat} : ∀ p, goneB (freeC lo up p) i = true ↔ (1 ≤ i ∧ i ≤ p ∧ lo.getD (i - 1) 0 < 0 ∧ up.getD (i - 1) 0 < 0)
  | 0 => by unfold goneB freeC; simp; omega
  | p + 1 => by
    have ih := freeC_mem (lo := lo) (up := up) (i := i) p
    unfold goneB at ih ⊢
    simp only [decide_eq_true_eq] at ih ⊢
    unfold freeC
    split
    · rename_i h
      rw [List.mem_append, ih]
      simp only [List.mem_singleton]
      constructor
      · rintro (a | a)
        · omega
        · have : i = p + 1 := by omega
          subst this
          rw [Nat.add_sub_cancel]
          exact ⟨by omega, by omega, h.1, h.2⟩
      · rintro ⟨a, b, c⟩
        by_cases e : i = p + 1
        · right; subst e; rfl
        · left; exact ⟨a, by omega, c⟩
    · rename_i h
      rw [ih]
      constructor
      · rintro ⟨a, b, c⟩; exact ⟨a, by omega, c⟩
      · rintro ⟨a, b, c⟩
        refine ⟨a, ?_, c⟩
        by_cases e : i = p + 1
        · subst e; rw [Nat.add_sub_cancel] at c; exact absurd c h
        · omega
theorem rightE_zero {n : Nat} {l : List Int} (h : rightE n l = 0) : l.length = n ∧ l.all cstB = true := by
  unfold rightE at h
  split at h
  · rename_i e
    split at h
    · rename_i c; exact ⟨e, c⟩
    · omega
  · omega
/-- The zone of which nothing is said of what is held against nothing. -/
def baseM (n : Nat) (m : Mat) (lo up : List Int) : Mat := narM n (widW (offM (goneF (freeC lo up lo.length) m) m))
theorem base_closed {n : Nat} {m : Mat} {lo up : List Int} (hn : n ≤ 8) (hl : lo.length ≤ n) (h : ClosedZ n m) : ClosedZ n (baseM n m lo up) := nar_closed hn (gone_closed (freeC_clk _ hl) h)
theorem base_cell {n : Nat} {m : Mat} {lo up : List Int} (hn : n ≤ 8) (hl : lo.length ≤ n) (h : ClosedZ n m) : Agree n (baseM n m lo up) (offM (goneF (freeC lo up lo.length) m) m) := nar_agree hn (gone_closed (freeC_clk _ hl) h)
/-- What LU makes of a zone that is not empty. -/
theorem lu_full {n : Nat} {m : Mat} {lo up : List Int} (hn : n ≤ 8) (h : ClosedZ n m) (h0 : rightE n lo = 0) (h1 : rightE n up = 0) :
    ∃ a, luP n m lo up = (some a, 0) ∧ ClosedZ n a ∧ (∀ i j, i ≤ n → j ≤ n → a i j ≤ offM (widP lo up) (baseM n m lo up) i j) ∧
      ∀ e, ClosedZ n e → (∀ i j, i ≤ n → j ≤ n → e i j ≤ offM (widP lo up) (baseM n m lo up) i j) → ∀ i j, i ≤ n → j ≤ n → e i j ≤ a i j := by
  obtain ⟨l0, c0⟩ := rightE_zero h0
  obtain ⟨l1, c1⟩ := rightE_zero h1
  have hb := base_closed (lo := lo) (up := up) hn (by omega) h
  obtain ⟨ok, ge, cap⟩ := wide_ok c0 c1 hb
  have he : luP n m lo up = ofP n (flat n (offM (widP lo up) (baseM n m lo up))) := by
    unfold luP
    rw [if_neg (by omega), if_neg (by omega), if_neg (by rw [h.full.one 0 (Nat.zero_le _)]; omega), gone_full hn (freeC_clk _ (by omega)) h]
    rfl
  rw [he]
  exact widen_is hn hb ok ge cap
theorem lu_zero {n : Nat} {lo up : List Int} (hn : n ≤ 8) (h0 : rightE n lo = 0) (h1 : rightE n up = 0) : luP n (fun _ _ => 0) lo up = (some (fun _ _ => 0), 0) := by
  unfold luP
  rw [if_neg (by omega), if_neg (by omega), if_pos (by decide)]
  exact zero_of hn

end Go.Proofs.Ytkgohhdenfnfpaa

/- Greater constants widen less: plain. -/
namespace Go.Proofs.Ytkgohhdenfnfpaa
set_option linter.unusedVariables false
set_option linter.unusedSimpArgs false

/-- Constants that are nowhere less. -/
def moreUp (a b : List Int) : Nat → List Int
  | 0 => []
  | p + 1 => moreUp a b p ++ [if p < b.length ∧ a.getD p 0 < b.getD p 0 then b.getD p 0 else a.getD p 0]
def moreP (a b : List Int) : List Int := moreUp a b a.length
theorem moreUp_length (a b : List Int) : ∀ p, (moreUp a b p).length = p
  | 0 => rfl
  | p + 1 => by simp [moreUp, moreUp_length a b p]
theorem moreUp_le (a b : List Int) (q : Nat) : ∀ p, q < p → a.getD q 0 ≤ (moreUp a b p).getD q 0
  | 0, h => by omega
  | p + 1, h => by
    unfold moreUp
    by_cases e : q = p
    · subst e
      rw [List.getD_eq_getElem?_getD (l := moreUp a b q ++ _), List.getElem?_append_right (by rw [moreUp_length]; exact Nat.le_refl _), moreUp_length, Nat.sub_self]
      show _ ≤ (if q < b.length ∧ a.getD q 0 < b.getD q 0 then b.getD q 0 else a.getD q 0)
      split <;> omega
    · rw [List.getD_eq_getElem?_getD (l := moreUp a b p ++ _), List.getElem?_append_left (by rw [moreUp_length]; omega), ← List.getD_eq_getElem?_getD]
      exact moreUp_le a b q p (by omega)
theorem moreP_length (a b : List Int) : (moreP a b).length = a.length := moreUp_length a b _
theorem moreP_le (a b : List Int) (q : Nat) : a.getD q 0 ≤ (moreP a b).getD q 0 := by
  by_cases h : q < a.length
  · exact moreUp_le a b q _ h
  · rw [List.getD_eq_getElem?_getD, List.getElem?_eq_none (by omega), List.getD_eq_getElem?_getD, List.getElem?_eq_none (by rw [moreP_length]; omega)]
    exact Int.le_refl _
theorem atP_mono {a b : List Int} (h : ∀ q, a.getD q 0 ≤ b.getD q 0) (i : Nat) : atP a i ≤ atP b i := by
  unfold atP
  split
  · exact Int.le_refl _
  · have := h (i - 1); omega
theorem base_mono {n : Nat} {m : Mat} {lo up lo' up' : List Int} (h0 : ∀ q, lo.getD q 0 ≤ lo'.getD q 0) (h1 : ∀ q, up.getD q 0 ≤ up'.getD q 0) (hl : lo'.length = lo.length) (h : ClosedZ n m) (i j : Nat) (hi : i ≤ n) (hj : j ≤ n) :
    offM (goneF (freeC lo' up' lo'.length) m) m i j ≤ offM (goneF (freeC lo up lo.length) m) m i j := by
  have hsub : ∀ x, goneB (freeC lo' up' lo'.length) x = true → goneB (freeC lo up lo.length) x = true := fun x hx => by
    rw [freeC_mem] at hx ⊢
    have := h0 (x - 1)
    have := h1 (x - 1)
    omega
  have hr := right_hi (h.full.right i j hi hj)
  have hr0 := right_hi (h.full.right i 0 hi (Nat.zero_le _))
  unfold offM goneF
  split
  · exact Int.le_refl _
  · by_cases a : goneB (freeC lo up lo.length) i = true
    · rw [if_pos a]
      split
      · exact Int.le_refl _
      · split
        · exact hr0.2
        · exact hr.2
    · have a' : ¬ goneB (freeC lo' up' lo'.length) i = true := fun x => a (hsub i x)
      rw [if_neg a, if_neg a']
      by_cases b : goneB (freeC lo up lo.length) j = true
      · rw [if_pos b]
        split
        · exact Int.le_refl _
        · exact (wid_le (h.full.right i j hi hj) (h.full.right i 0 hi (Nat.zero_le _))).1 (h.to0 hi hj)
      · rw [if_neg b, if_neg (fun x => b (hsub j x))]
        exact Int.le_refl _
theorem widP_mono {lo up lo' up' : List Int} (h0 : ∀ q, lo.getD q 0 ≤ lo'.getD q 0) (h1 : ∀ q, up.getD q 0 ≤ up'.getD q 0) (i j : Nat) {b b' : Int} (hb : b ≤ b') (hb' : b' ≤ 2147483647) (hup : 0 ≤ atP up' j) : widP lo' up' i j b ≤ widP lo up i j b' := by
  have a0 := atP_mono h0 i
  have a1 := atP_mono h1 j
  unfold widP
  by_cases c : i ≠ 0 ∧ 2 * atP lo i + 1 < b'
  · rw [if_pos c]
    split
    · exact Int.le_refl _
    · rw [if_neg c.1]; omega
  · rw [if_neg c]
    split
    · rename_i d; omega
    · split <;> omega
theorem atP_nonneg (l : List Int) (j : Nat) : 0 ≤ atP l j := by unfold atP; split <;> omega
theorem wide_mono {n : Nat} {m : Mat} {lo up lo' up' : List Int} (hn : n ≤ 8) (h0 : ∀ q, lo.getD q 0 ≤ lo'.getD q 0) (h1 : ∀ q, up.getD q 0 ≤ up'.getD q 0) (hl : lo'.length = lo.length) (hln : lo.length ≤ n) (h : ClosedZ n m) (i j : Nat) (hi : i ≤ n) (hj : j ≤ n) :
    offM (widP lo' up') (baseM n m lo' up') i j ≤ offM (widP lo up) (baseM n m lo up) i j := by
  have hm := base_mono h0 h1 hl h i j hi hj
  rw [← base_cell hn (by omega) h i j hi hj, ← base_cell hn hln h i j hi hj] at hm
  have hr := right_hi ((base_closed (lo := lo) (up := up) hn hln h).full.right i j hi hj)
  unfold offM
  split
  · exact hm
  · exact widP_mono h0 h1 i j hm hr.2 (atP_nonneg _ _)
/-- LU includes the zone, and widens less by greater constants. -/
theorem wider_law {n : Nat} {m : Mat} {lo up : List Int} (hn : n ≤ 8) (h : m = (fun _ _ => 0) ∨ ClosedZ n m) (h0 : rightE n lo = 0) (h1 : rightE n up = 0) :
    ∃ a, luP n m lo up = (some a, 0) ∧ inclM n a m = true ∧ (∃ x, luP n m lo lo = (some x, 0)) ∧
      ∀ c, (∃ e, e ≠ 0 ∧ luP n m (moreP lo c) (moreP up c) = (none, e)) ∨ ∃ b, luP n m (moreP lo c) (moreP up c) = (some b, 0) ∧ inclM n a b = true ∧ inclM n b m = true := by
  rcases h with rfl | h
  · refine ⟨_, lu_zero hn h0 h1, incl_zero n _, ⟨_, lu_zero hn h0 h0⟩, fun c => ?_⟩
    by_cases e0 : rightE n (moreP lo c) = 0
    · by_cases e1 : rightE n (moreP up c) = 0
      · exact .inr ⟨_, lu_zero hn e0 e1, incl_zero n _, incl_zero n _⟩
      · refine .inl ⟨_, e1, ?_⟩
        unfold luP
        rw [if_neg (by omega), if_pos e1]
    · refine .inl ⟨_, e0, ?_⟩
      unfold luP
      rw [if_pos e0]
  · obtain ⟨l0, _⟩ := rightE_zero h0
    obtain ⟨a, ha, hac, haw, hag⟩ := lu_full hn h h0 h1
    obtain ⟨x, hx, _⟩ := lu_full hn h h0 h0
    have hin : ∀ lo' up' : List Int, rightE n lo' = 0 → rightE n up' = 0 → ∀ i j, i ≤ n → j ≤ n → m i j ≤ offM (widP lo' up') (baseM n m lo' up') i j := fun lo' up' e0 e1 i j hi hj => by
      obtain ⟨l0, c0⟩ := rightE_zero e0
      obtain ⟨l1, c1⟩ := rightE_zero e1
      have hb := base_closed (lo := lo') (up := up') hn (by omega) h
      refine Int.le_trans ?_ ((wide_ok c0 c1 hb).2.1 i j hi hj)
      rw [base_cell hn (by omega) h i j hi hj]
      exact gone_ge h i j hi hj
    refine ⟨a, ha, incl_of (hag m h (hin lo up h0 h1)), ⟨x, hx⟩, fun c => ?_⟩
    by_cases e0 : rightE n (moreP lo c) = 0
    · by_cases e1 : rightE n (moreP up c) = 0
      · obtain ⟨b, hb, hbc, hbw, hbg⟩ := lu_full hn h e0 e1
        refine .inr ⟨b, hb, incl_of (hag b hbc fun i j hi hj => Int.le_trans (hbw i j hi hj) ?_), incl_of (hbg m h (hin _ _ e0 e1))⟩
        exact wide_mono hn (moreP_le lo c) (moreP_le up c) (moreP_length lo c) (by omega) h i j hi hj
      · refine .inl ⟨_, e1, ?_⟩
        unfold luP
        rw [if_neg (by omega), if_pos e1]
    · refine .inl ⟨_, e0, ?_⟩
      unfold luP
      rw [if_pos e0]

end Go.Proofs.Ytkgohhdenfnfpaa

/- Of zones that Limits made: plain; what TopWidened compares. -/
namespace Go.Proofs.Ytkgohhdenfnfpaa
set_option linter.unusedVariables false
set_option linter.unusedSimpArgs false

theorem limUp_le (n : Nat) (l : List (Int × Int × Int)) (i j : Nat) : ∀ p, limUp n l p i j ≤ openM n i j
  | 0 => Int.le_refl _
  | p + 1 => by
    have ih := limUp_le n l i j p
    show keepM (limUp n l p) _ _ _ i j ≤ _
    unfold keepM
    split
    · exact ih
    · unfold upd
      split
      · rename_i e
        rw [e.1, e.2] at ih ⊢
        omega
      · exact ih
theorem lim_closed {n : Int} {l : List (Int × Int × Int)} {m : Mat} (e : (limP n l).1 = some m) : (0 ≤ n ∧ n ≤ 8) ∧ (m = (fun _ _ => 0) ∨ ClosedZ n.toNat m) := by
  unfold limP at e
  split at e
  · rename_i hn
    refine ⟨hn, ?_⟩
    split at e
    · rename_i hr
      have hr' := (all_getD l (limOk n.toNat) (0, 0, 0)).1 hr
      rcases zoneP_is (by omega) (limUp_fit _ _ _ hr') e with ⟨h, _⟩ | ⟨m', hm, ha, hzz, hc⟩
      · exact .inl h
      · right
        rw [hzz]
        refine closed_of (fun j hj => Int.le_trans (limUp_le _ _ _ _ _) ?_) ha hc
        unfold openM
        rw [if_pos (by omega)]
        split <;> omega
    · cases e
  · cases e
/-- What is in a zone is in what includes it. -/
theorem in_mono {n : Nat} {m a : Mat} {v : List (Int × Int)} (hr : RightM n m) (ha : RightM n a) (h : inclM n a m = true) (hm : ¬ m 0 0 < 1) (hin : inP n m v = true) : inP n a v = true := by
  rw [in_iff] at hin ⊢
  refine ⟨hin.1, hin.2.1, fun i j hi hj => ?_⟩
  have hle : m i j ≤ a i j := by
    rcases of_decide_eq_true h with h | h
    · exact absurd h hm
    · exact h i hi j hj
  have hk := hin.2.2 i j hi hj
  have r1 := hr i j hi hj
  have r2 := ha i j hi hj
  by_cases e : a i j = 2147483647
  · exact .inl e
  · have b2 := rightB_bd r2 e
    have e1 : m i j ≠ 2147483647 := by omega
    generalize cq v i - cq v j = q at hk ⊢
    unfold kq at hk ⊢
    obtain ⟨x, hx⟩ : ∃ x, x = m i j / 2 := ⟨_, rfl⟩
    obtain ⟨y, hy⟩ : ∃ y, y = a i j / 2 := ⟨_, rfl⟩
    rw [← hx] at hk
    rw [← hy]
    have hxy : x ≤ y := by omega
    have hxr : ((x : Int) : Rat) ≤ (y : Rat) := by exact_mod_cast hxy
    rcases hk with hk | hk | ⟨hk1, hk2⟩
    · exact absurd hk e1
    · right; left; grind
    · by_cases exy : x = y
      · right; right
        exact ⟨by omega, by rw [hk2, exy]⟩
      · have hlt : x < y := by omega
        have hltr : ((x : Int) : Rat) < (y : Rat) := by exact_mod_cast hlt
        right; left; grind
/-- What TopWidened compares, of a zone that is not empty and of constants that may be. -/
theorem widened_law {n : Nat} {m : Mat} {lo : List Int} (hn : n ≤ 8) (h : ClosedZ n m) (h0 : rightE n lo = 0) :
    ∃ a u, luP n m lo lo = (some a, 0) ∧ ClosedZ n a ∧ inclM n a m = true ∧ ofP n (flat n (upW (some (n, m)))) = (some u, 0) ∧ inclM n u m = true ∧ RightM n u ∧ inP n a (leastV n m) = true ∧ inP n u (leastV n m) = true ∧ inP n a (leastV n a) = true := by
  obtain ⟨a, ha, hac, _, _⟩ := lu_full hn h h0 h0
  obtain ⟨a', ha', hinc, _⟩ := wider_law hn (.inr h) h0 h0
  have e : a' = a := by rw [ha] at ha'; simpa using ha'.symm
  subst e
  obtain ⟨u, hu, _, huinc⟩ := up_twice hn (.inr h)
  have huc : RightM n u := by
    have hc := up_closed h
    have h1 := of_same hn hc (upW_agree h)
    rw [h1] at hu
    simp only [Prod.mk.injEq, Option.some.injEq, and_true] at hu
    rw [← hu]
    exact (nar_closed hn hc).full.right
  have hm0 : ¬ m 0 0 < 1 := by rw [h.full.one 0 (Nat.zero_le _)]; omega
  have hl := least_in hn h
  exact ⟨a', u, ha, hac, hinc, hu, huinc, huc, in_mono h.full.right hac.full.right hinc hm0 hl, in_mono h.full.right huc huinc hm0 hl, least_in hn hac⟩
theorem bad_consts {n : Nat} {l : List Int} (h : rightE n l ≠ 0) : l.length ≠ n ∨ l.all cstB = false := by
  unfold rightE at h
  split at h
  · split at h
    · exact absurd rfl h
    · rename_i c; right; simpa using c
  · rename_i c; exact .inl c

end Go.Proofs.Ytkgohhdenfnfpaa

/- Numbers of two words, as rat reckons with them. -/
namespace Go.Proofs.Ytkgohhdenfnfpaa
open Go Go.RowKit
set_option linter.unusedVariables false
set_option linter.unusedSimpArgs false

def szV (n : Nat) : Value := .agg #[.int .u64 (hiN n), .int .u64 (loN n)]

theorem add64 (x y c : Int) (hx : 0 ≤ x) (hy : 0 ≤ y) (hc0 : 0 ≤ c) (hc : c ≤ 1) (w : World) : (callFunc 71 #[.int .u64 x, .int .u64 y, .int .u64 c]).run Try.prog w =
    .ok (.value (.tuple #[.int .u64 ((x + y + c) % 18446744073709551616), .int .u64 ((x + y + c) / 18446744073709551616)])) w := by
  rw [run_callFunc_extern Try.func71 (by kernel_rfl) (by kernel_rfl) (by kernel_rfl) (e := add64Entry) (by kernel_rfl), run_add64 x y c hx hy hc0 hc]
  rfl
theorem add64_0 (x y : Int) (hx : 0 ≤ x) (hy : 0 ≤ y) (w : World) : (callFunc 71 #[.int .u64 x, .int .u64 y, .int .u64 0]).run Try.prog w =
    .ok (.value (.tuple #[.int .u64 ((x + y) % 18446744073709551616), .int .u64 ((x + y) / 18446744073709551616)])) w := by
  simpa using add64 x y 0 hx hy (Int.le_refl 0) (by decide) w
theorem sub64 (x y b : Int) (hx : 0 ≤ x) (hy : 0 ≤ y) (hy' : y ≤ 18446744073709551615) (hb0 : 0 ≤ b) (hb : b ≤ 1) (w : World) : (callFunc 67 #[.int .u64 x, .int .u64 y, .int .u64 b]).run Try.prog w =
    .ok (.value (.tuple #[.int .u64 ((x - y - b) % 18446744073709551616), .int .u64 (borN x (y + b))])) w := by
  unfold borN
  obtain ⟨x, rfl⟩ := Int.eq_ofNat_of_zero_le hx
  obtain ⟨y, rfl⟩ := Int.eq_ofNat_of_zero_le hy
  obtain ⟨b, rfl⟩ := Int.eq_ofNat_of_zero_le hb0
  have e1 : (((x + 18446744073709551616 - y - b) % 18446744073709551616 : Nat) : Int) = ((x : Int) - y - b) % 18446744073709551616 := by omega
  have e2 : ((if x < y + b then 1 else 0 : Nat) : Int) = if (x : Int) < y + b then 1 else 0 := by split <;> split <;> omega
  rw [← e1, ← e2, run_callFunc_extern Try.func67 (by kernel_rfl) (by kernel_rfl) (by kernel_rfl) (e := sub64Entry) (by kernel_rfl), run_sub64 x y b (by omega)]
  rfl
theorem sub64_0 (x y : Int) (hx : 0 ≤ x) (hy : 0 ≤ y) (hy' : y ≤ 18446744073709551615) (w : World) : (callFunc 67 #[.int .u64 x, .int .u64 y, .int .u64 0]).run Try.prog w =
    .ok (.value (.tuple #[.int .u64 ((x - y) % 18446744073709551616), .int .u64 (borN x y)])) w := by
  simpa using sub64 x y 0 hx hy hy' (Int.le_refl 0) (by decide) w

theorem backR {P : Program} {f : FuncId} {args : Array Value} {w : World} {e0 : Ending} (h : Calls P f args w fun e w' => e = e0 ∧ w = w') : Calls P f args w fun e w' => e = e0 ∧ w' = w := h.mono fun _ _ ⟨a, b⟩ => ⟨a, b.symm⟩
theorem results_cells2 {P : Program} {fn : Func} {p p2 : Tmp} {ty : TypeId} (h : fn.results = #[.cell p ty, .cell p2 ty]) (tmps : Array Value) (w : World) (g g2 : Nat) (t : TypeId) (cs cs2 : Array Value) (fr fr2 : Nat × Nat) (d : TypeDesc)
    (hp : tmps.getD p undef = .pointer (some ⟨g, 0, none⟩)) (hp2 : tmps.getD p2 undef = .pointer (some ⟨g2, 0, none⟩)) (hg : w.heap[g]? = some (.cells cs t fr)) (hg2 : w.heap[g2]? = some (.cells cs2 t fr2))
    (hu : P.underlying ty = some d) (hd : (match d with | .struct _ | .array _ _ => true | _ => false) = true) (hi : (P.info? ty).map (·.size) = some cs.size) (hi2 : (P.info? ty).map (·.size) = some cs2.size) :
    (results fn tmps).run P w = .ok (.tuple #[.agg cs, .agg cs2]) w := by
  have hp' : tmps[p]?.getD undef = .pointer (some ⟨g, 0, none⟩) := by simpa using hp
  have hp2' : tmps[p2]?.getD undef = .pointer (some ⟨g2, 0, none⟩) := by simpa using hp2
  simp [results, h, hp', hp2', asAddr, run_loadVar_row w g t ty cs fr d hg hu hd hi, run_loadVar_row w g2 t ty cs2 fr2 d hg2 hu hd hi2]
theorem results_row_tmp {P : Program} {fn : Func} {p u : Tmp} {ty : TypeId} (h : fn.results = #[.cell p ty, .tmp u]) (tmps : Array Value) (w : World) (g : Nat) (t : TypeId) (cs : Array Value) (fr : Nat × Nat) (d : TypeDesc)
    (hp : tmps.getD p undef = .pointer (some ⟨g, 0, none⟩)) (hg : w.heap[g]? = some (.cells cs t fr))
    (hu : P.underlying ty = some d) (hd : (match d with | .struct _ | .array _ _ => true | _ => false) = true) (hi : (P.info? ty).map (·.size) = some cs.size) :
    (results fn tmps).run P w = .ok (.tuple #[.agg cs, tmps.getD u undef]) w := by
  have hp' : tmps[p]?.getD undef = .pointer (some ⟨g, 0, none⟩) := by simpa using hp
  simp [results, h, hp', asAddr, run_loadVar_row w g t ty cs fr d hg hu hd hi]
theorem below_one (w : World) (a : Obj) : Below w.heap.size w (w.alloc a) := (Below.refl _ _).alloc (Nat.le_refl _) _
theorem below_two (w : World) (a b : Obj) : Below w.heap.size w ((w.alloc a).alloc b) := (below_one w a).alloc (below_one w a).size _
theorem below_three (w : World) (a b c : Obj) : Below w.heap.size w (((w.alloc a).alloc b).alloc c) := (below_two w a b).alloc (below_two w a b).size _

set_option maxRecDepth 100000 in
set_option maxHeartbeats 1000000 in
theorem szero_any (n : Nat) (w : World) : Calls Try.prog 45 #[szV n] w fun e w' => e = .returned (.bool (decide (n = 0))) ∧ Below w.heap.size w w' := by
  have hz := hilo_zero (n := n)
  unfold szV
  by_cases h1 : hiN n = 0
  · have e1 : (hiN n == 0) = true := by simp [h1]
    by_cases h2 : loN n = 0
    · have e2 : (loN n == 0) = true := by simp [h2]
      have hn : n = 0 := hz.1 ⟨h1, h2⟩
      generalize hiN n = a at *
      generalize loN n = b at *
      go_enter Try.func45, Try.ntmps45
      go_wp2
      go_ret
      exact ⟨by simp [hn], (Below.refl _ _).alloc (Nat.le_refl _) _⟩
    · have e2 : (loN n == 0) = false := by simp [h2]
      have hn : ¬ n = 0 := fun h => h2 (hz.2 h).2
      generalize hiN n = a at *
      generalize loN n = b at *
      go_enter Try.func45, Try.ntmps45
      go_wp2
      go_ret
      exact ⟨by simp [hn], (Below.refl _ _).alloc (Nat.le_refl _) _⟩
  · have e1 : (hiN n == 0) = false := by simp [h1]
    have hn : ¬ n = 0 := fun h => h1 (hz.2 h).1
    generalize hiN n = a at *
    generalize loN n = b at *
    go_enter Try.func45, Try.ntmps45
    go_wp2
    go_ret
    exact ⟨by simp [hn], (Below.refl _ _).alloc (Nat.le_refl _) _⟩

set_option maxRecDepth 100000 in
set_option maxHeartbeats 1000000 in
theorem splus_any (s t : Nat) (h : s + t < 340282366920938463463374607431768211456) (w : World) : Calls Try.prog 69 #[szV s, szV t] w fun e w' => e = .returned (szV (s + t)) ∧ Below w.heap.size w w' := by
  obtain ⟨a1, a2⟩ := hi_range (n := s) (by omega)
  obtain ⟨b1, b2⟩ := hi_range (n := t) (by omega)
  obtain ⟨c1, c2⟩ := lo_range s
  obtain ⟨d1, d2⟩ := lo_range t
  have e1 := plus_lo s t
  have e2 := plus_hi s t h
  have k0 : 0 ≤ (loN s + loN t) / 18446744073709551616 := by omega
  have k1 : (loN s + loN t) / 18446744073709551616 ≤ 1 := by omega
  unfold szV
  go_enter Try.func69, Try.ntmps69
  go_wp2_with (first | simp only [add64_0 (loN s) (loN t) c1 d1] | simp only [add64 (hiN s) (hiN t) _ a1 b1 k0 k1])
  simp [bodyPost, results, Try.results69, go_sem]
  exact below_three w _ _ _

set_option maxRecDepth 100000 in
set_option maxHeartbeats 1000000 in
theorem sless_any (s t : Nat) (h : t ≤ s) (hs : s < 340282366920938463463374607431768211456) (w : World) : Calls Try.prog 56 #[szV s, szV t] w fun e w' => e = .returned (szV (s - t)) ∧ Below w.heap.size w w' := by
  obtain ⟨a1, a2⟩ := hi_range (n := s) (by omega)
  obtain ⟨b1, b2⟩ := hi_range (n := t) (by omega)
  obtain ⟨c1, c2⟩ := lo_range s
  obtain ⟨d1, d2⟩ := lo_range t
  obtain ⟨k0, k1⟩ := bor_range (loN s) (loN t)
  have e1 := less_lo s t h
  have e2 := less_hi s t h hs
  unfold szV
  go_enter Try.func56, Try.ntmps56
  go_wp2_with (first | simp only [sub64_0 (loN s) (loN t) c1 d1 d2] | simp only [sub64 (hiN s) (hiN t) _ a1 b1 b2 k0 k1])
  simp [bodyPost, results, Try.results56, go_sem]
  exact below_three w _ _ _

theorem nan_any (x : Int) (w : World) : Calls Try.prog 70 #[.int .u64 x] w fun e w' => e = .returned (.bool false) ∧ w = w' := by
  have e1 : (x != x) = false := by simp
  go_enter Try.func70, Try.ntmps70
  go_wp2
  go_ret
  exact ⟨rfl, rfl⟩
set_option maxRecDepth 100000 in
set_option maxHeartbeats 1000000 in
theorem cmp_any (x y : Int) (w : World) : Calls Try.prog 66 #[.int .u64 x, .int .u64 y] w fun e w' => e = .returned (.int .i64 (cmpW x y)) ∧ w = w' := by
  have h1 : cmpW x y = if x < y then -1 else if y < x then 1 else 0 := rfl
  by_cases hx : x < y
  · rw [if_pos hx] at h1
    rw [h1]
    clear h1
    go_enter Try.func66, Try.ntmps66
    go_wp2_with (refine (nan_any _ _).mono ?_; rintro e w1 ⟨rfl, rfl⟩)
    go_ret
    exact ⟨rfl, rfl⟩
  · rw [if_neg hx] at h1
    by_cases hy : y < x
    · rw [if_pos hy] at h1
      rw [h1]
      clear h1
      go_enter Try.func66, Try.ntmps66
      go_wp2_with (refine (nan_any _ _).mono ?_; rintro e w1 ⟨rfl, rfl⟩)
      go_ret
      exact ⟨rfl, rfl⟩
    · rw [if_neg hy] at h1
      rw [h1]
      clear h1
      go_enter Try.func66, Try.ntmps66
      go_wp2_with (refine (nan_any _ _).mono ?_; rintro e w1 ⟨rfl, rfl⟩)
      go_ret
      exact ⟨rfl, rfl⟩
set_option maxRecDepth 100000 in
set_option maxHeartbeats 1000000 in
theorem or_any (A : Option Addr) (c : Nat) (a b : Int) (w : World) (hI : Ints w .i64 A [a, b]) : Calls Try.prog 65 #[.slice A 2 c] w fun e w' => e = .returned (.int .i64 (if a = 0 then b else a)) ∧ w = w' := by
  have HI := Lib.hid hI
  have HA := Lib.hid (fun h : a = 0 => (if_pos h : (if a = 0 then b else a) = b))
  have HB := Lib.hid (fun h : ¬ a = 0 => (if_neg h : (if a = 0 then b else a) = a))
  obtain ⟨r, hr⟩ : ∃ r, r = if a = 0 then b else a := ⟨_, rfl⟩
  rw [← hr] at HA HB ⊢
  clear hI hr
  go_enter Try.func65, Try.ntmps65
  go_wp2
  go_loopg [8] 2 (fun q v wr => ∃ p : Nat, v = .int .i64 p ∧ w = wr ∧ Hid (p ≤ 2 ∧ q + p = 2 ∧ (1 ≤ p → a = 0) ∧ (2 ≤ p → b = 0)))
  case atStart => exact ⟨0, by simp, rfl, by omega, by omega, fun h => absurd h (by decide), fun h => absurd h (by decide)⟩
  case round =>
    obtain ⟨p, rfl, rfl, HP⟩ := hrel
    by_cases hp : p < 2
    · have hpi : (p : Int) < 2 := by omega
      obtain ⟨b1, o1, rfl, cc⟩ := HI.out p hp
      rcases (show p = 0 ∨ p = 1 by omega) with rfl | rfl
      · have cc : w.cell? _ = some (.int .i64 a) := cc
        rw [Nat.add_zero] at cc
        by_cases ha : a = 0
        · subst ha
          go_wp2
          go_roundg (gk - 1)
          case measure => have h := HP.out; omega
          case rel => exact ⟨1, by go_num, rfl, by omega, by have h := HP.out; omega, fun _ => by simp, fun h => absurd h (by decide)⟩
        · have e1 : (a != 0) = true := by simpa using ha
          have e2 := HB.out ha
          clear HA HB
          subst e2
          go_wp2
          go_ret
          exact ⟨rfl, rfl⟩
      · have cc : w.cell? _ = some (.int .i64 b) := cc
        have ha := HP.out.2.2.1 (Nat.le_refl _)
        by_cases hb : b = 0
        · subst hb
          go_wp2
          go_roundg (gk - 1)
          case measure => have h := HP.out; omega
          case rel => exact ⟨2, by go_num, rfl, by omega, by have h := HP.out; omega, fun _ => ha, fun _ => by simp⟩
        · have e1 : (b != 0) = true := by simpa using hb
          have e2 := HA.out ha
          clear HA HB ha
          subst e2
          go_wp2
          go_ret
          exact ⟨rfl, rfl⟩
    · have hpi : ¬ (p : Int) < 2 := by omega
      have h := HP.out
      have e2 := HA.out (h.2.2.1 (by omega))
      have e3 := h.2.2.2 (by omega)
      clear HA HB h
      have e4 := Lib.hid (e2.trans e3)
      clear e2 e3
      go_wp2
      go_ret
      exact ⟨by rw [e4.out]; rfl, rfl⟩

theorem ints_new2 (w : World) (e : TypeId) (a b : Int) : Ints (w.alloc (.cells #[.int .i64 a, .int .i64 b] e (0, 0))) .i64 (some ⟨w.heap.size, 0, none⟩) [a, b] := by
  have h1 := heap_alloc_new w (.cells #[.int .i64 a, .int .i64 b] e (0, 0))
  intro j hj
  have e0 : j = 0 ∨ j = 1 := by simp at hj; omega
  rcases e0 with rfl | rfl <;> refine ⟨w.heap.size, 0, rfl, ?_⟩ <;> (unfold World.cell?; rw [h1]; rfl)
set_option maxRecDepth 100000 in
set_option maxHeartbeats 1000000 in
theorem scmp_any (s t : Nat) (w : World) : Calls Try.prog 55 #[szV s, szV t] w fun e w' => e = .returned (.int .i64 (cmpN s t)) ∧ Below w.heap.size w w' := by
  have e1 := cmpN_is s t
  unfold szV
  have HC1 := Lib.hid (fun W => cmp_any (hiN s) (hiN t) W)
  have HC2 := Lib.hid (fun W => cmp_any (loN s) (loN t) W)
  obtain ⟨x, hx⟩ : ∃ x, x = cmpW (hiN s) (hiN t) := ⟨_, rfl⟩
  obtain ⟨y, hy⟩ : ∃ y, y = cmpW (loN s) (loN t) := ⟨_, rfl⟩
  rw [← hx] at HC1 e1
  rw [← hy] at HC2 e1
  have HO := Lib.hid (fun A c W hI => or_any A c x y W hI)
  obtain ⟨z, hz⟩ : ∃ z, z = if x = 0 then y else x := ⟨_, rfl⟩
  rw [← hz] at HO e1
  rw [e1]
  clear e1 hx hy hz
  generalize hiN s = a at *
  generalize loN s = b at *
  generalize hiN t = c at *
  generalize loN t = d at *
  go_enter Try.func55, Try.ntmps55
  go_upto_region 1 with fail
  have HB := Lib.hid (below_two w (.cells #[.int .u64 a, .int .u64 b] 83) (.cells #[.int .u64 c, .int .u64 d] 83))
  have h1 : ((w.alloc (.cells #[.int .u64 a, .int .u64 b] 83)).alloc (.cells #[.int .u64 c, .int .u64 d] 83)).heap[w.heap.size]? = some (.cells #[.int .u64 a, .int .u64 b] 83) := (heap_alloc_old _ _ (by simp)).trans (heap_alloc_new _ _)
  have h2 : ((w.alloc (.cells #[.int .u64 a, .int .u64 b] 83)).alloc (.cells #[.int .u64 c, .int .u64 d] 83)).heap[w.heap.size + 1]? = some (.cells #[.int .u64 c, .int .u64 d] 83) := by
    have h := heap_alloc_new (w.alloc (.cells #[.int .u64 a, .int .u64 b] 83)) (.cells #[.int .u64 c, .int .u64 d] 83)
    rw [show (w.alloc (.cells #[.int .u64 a, .int .u64 b] 83)).heap.size = w.heap.size + 1 by simp] at h
    exact h
  generalize (w.alloc (.cells #[.int .u64 a, .int .u64 b] 83)).alloc (.cells #[.int .u64 c, .int .u64 d] 83) = w1 at *
  have k1 : w1.drew.cell? ⟨w.heap.size, 0, none⟩ = some (.int .u64 a) := by show w1.cell? _ = _; unfold World.cell?; rw [h1]; rfl
  have k2 : w1.drew.cell? ⟨w.heap.size, 1, none⟩ = some (.int .u64 b) := by show w1.cell? _ = _; unfold World.cell?; rw [h1]; rfl
  have k3 : w1.drew.cell? ⟨w.heap.size + 1, 0, none⟩ = some (.int .u64 c) := by show w1.cell? _ = _; unfold World.cell?; rw [h2]; rfl
  have k4 : w1.drew.cell? ⟨w.heap.size + 1, 1, none⟩ = some (.int .u64 d) := by show w1.cell? _ = _; unfold World.cell?; rw [h2]; rfl
  clear h1 h2
  refine wp_region_still_tail 10 (by kernel_rfl) (by kernel_rfl) ?_
  simp only [List.take_succ_cons, List.take_zero, List.drop_succ_cons, List.drop_zero]
  change wpStill _ _ w1.drew _ _ _
  generalize w1.drew = w2 at *
  repeat still_step
  still_call (backR (HC1.out w2))
  repeat still_step
  still_call (backR (HC2.out w2))
  repeat still_step
  refine wpStill_nil ?_
  go_wp2_with fail
  refine (HO.out _ _ ((w1.alloc (.cells #[.int .i64 x, .int .i64 y] 3)).drew) (ints_new2 w1 3 x y)).mono ?_
  rintro e w3 ⟨rfl, rfl⟩
  have HE := Lib.hid (Below.drew (HB.out.alloc HB.out.size (.cells #[.int .i64 x, .int .i64 y] 3)))
  go_wp2
  go_ret
  exact ⟨rfl, HE.out⟩

end Go.Proofs.Ytkgohhdenfnfpaa

/- Division of numbers of two words, as rat does it. -/
namespace Go.Proofs.Ytkgohhdenfnfpaa
open Go Go.RowKit
set_option linter.unusedVariables false
set_option linter.unusedSimpArgs false

/-- What of the quotient and the rest stands behind the upper bits, j of them still to come. -/
def ovQ (s t j : Nat) : Nat := s / 2 ^ j / t * 2 ^ j
def ovR (s t j : Nat) : Nat := s / 2 ^ j % t
theorem ov_start (s t : Nat) (h : s < 340282366920938463463374607431768211456) : ovQ s t 128 = 0 ∧ ovR s t 128 = 0 := by
  have e : s / 2 ^ 128 = 0 := Nat.div_eq_of_lt (by simpa using h)
  unfold ovQ ovR
  rw [e]
  simp
theorem ov_end (s t : Nat) : ovQ s t 0 = s / t ∧ ovR s t 0 = s % t := by unfold ovQ ovR; simp
theorem ov_le (s t j : Nat) : ovQ s t j ≤ s := by
  unfold ovQ
  exact Nat.le_trans (Nat.mul_le_mul_right _ (Nat.div_le_self _ _)) (Nat.div_mul_le_self _ _)
theorem ov_step (s t i : Nat) (ht : 0 < t) :
    (2 * ovR s t (i + 1) + bitN s i < t → ovR s t i = 2 * ovR s t (i + 1) + bitN s i ∧ ovQ s t i = ovQ s t (i + 1)) ∧
    (¬ 2 * ovR s t (i + 1) + bitN s i < t → ovR s t i = 2 * ovR s t (i + 1) + bitN s i - t ∧ ovQ s t i = ovQ s t (i + 1) + 2 ^ i) := by
  have h := rem_step s t i ht
  have e : (2 : Nat) ^ (i + 1) = 2 * 2 ^ i := by rw [Nat.pow_succ]; omega
  unfold ovR ovQ
  refine ⟨fun hr => ?_, fun hr => ?_⟩
  · obtain ⟨h1, h2⟩ := h.1 hr
    refine ⟨h1, ?_⟩
    rw [h2]
    generalize s / 2 ^ (i + 1) / t = X
    rw [e]
    ac_rfl
  · obtain ⟨h1, h2⟩ := h.2 hr
    refine ⟨h1, ?_⟩
    rw [h2, Nat.add_mul, Nat.one_mul]
    generalize s / 2 ^ (i + 1) / t = X
    congr 1
    rw [e]
    ac_rfl

/-- The blocks of a division while it goes on. -/
structure OvR (w0 : World) (gt g0 g1 gq gr : Nat) (s t q r : Nat) (wr : World) : Prop where
  below : Below w0.heap.size w0 wr
  ne : w0.heap.size < gt ∧ gt < g0 ∧ g0 < g1 ∧ g1 < gq ∧ gq < gr
  hs : wr.heap[w0.heap.size]? = some (.cells #[.int .u64 (hiN s), .int .u64 (loN s)] 83)
  ht : wr.heap[gt]? = some (.cells #[.int .u64 (hiN t), .int .u64 (loN t)] 83)
  h0 : wr.heap[g0]? = some (.cells #[.int .u64 0, .int .u64 0] 83)
  h1 : wr.heap[g1]? = some (.cells #[.int .u64 0, .int .u64 0] 83)
  hq : wr.heap[gq]? = some (.cells #[.int .u64 (hiN q), .int .u64 (loN q)] 83)
  hr : wr.heap[gr]? = some (.cells #[.int .u64 (hiN r), .int .u64 (loN r)] 83)
theorem heap_lt2 {w : World} {g : Nat} {o : Obj} (h : w.heap[g]? = some o) : g < w.heap.size := by
  by_cases c : g < w.heap.size
  · exact c
  · rw [Array.getElem?_eq_none (by omega)] at h; cases h
theorem below_row {w w1 : World} {B g : Nat} (h : Below B w w1) (hg : B ≤ g) (cs : Array Value) : Below B w (w1.setRow g cs) :=
  ⟨h.os, h.tape, h.output, by have := h.size; simpa [World.setRow] using this, fun k hk => by rw [setRow_other _ _ _ _ (by omega)]; exact h.block k hk⟩
theorem heap_other {wr : World} {k g c : Nat} {o : Obj} (v : Value) (h : wr.heap[k]? = some o) (hg : k ≠ g) : (wr.setCell ⟨g, c, none⟩ v).heap[k]? = some o := by
  simp only [World.setCell, Array.getElem?_modify]
  rw [if_neg (by omega)]
  exact h
theorem row_other {wr : World} {k g : Nat} {o : Obj} (c : Array Value) (h : wr.heap[k]? = some o) (hg : k ≠ g) : (wr.setRow g c).heap[k]? = some o := by rw [setRow_other _ _ _ _ hg]; exact h
section
variable {w0 wr w' : World} {gt g0 g1 gq gr s t q r : Nat}
theorem OvR.step (h : OvR w0 gt g0 g1 gq gr s t q r wr) (hb : Below wr.heap.size wr w') : OvR w0 gt g0 g1 gq gr s t q r w' :=
  ⟨h.below.trans (hb.mono h.below.size), h.ne, (hb.block _ (heap_lt2 h.hs)).trans h.hs, (hb.block _ (heap_lt2 h.ht)).trans h.ht, (hb.block _ (heap_lt2 h.h0)).trans h.h0, (hb.block _ (heap_lt2 h.h1)).trans h.h1, (hb.block _ (heap_lt2 h.hq)).trans h.hq, (hb.block _ (heap_lt2 h.hr)).trans h.hr⟩
theorem OvR.drew (h : OvR w0 gt g0 g1 gq gr s t q r wr) : OvR w0 gt g0 g1 gq gr s t q r wr.drew := ⟨Below.drew h.below, h.ne, h.hs, h.ht, h.h0, h.h1, h.hq, h.hr⟩
theorem OvR.setR (h : OvR w0 gt g0 g1 gq gr s t q r wr) (x : Nat) : OvR w0 gt g0 g1 gq gr s t q x (wr.setRow gr #[.int .u64 (hiN x), .int .u64 (loN x)]) := by
  have hn := h.ne
  exact ⟨below_row h.below (by omega) _, hn, row_other _ h.hs (by omega), row_other _ h.ht (by omega), row_other _ h.h0 (by omega), row_other _ h.h1 (by omega), row_other _ h.hq (by omega), setRow_heap _ _ _ _ _ _ h.hr⟩
theorem cell_set {wr : World} {g : Nat} {a b : Value} {T : TypeId} (h : wr.heap[g]? = some (.cells #[a, b] T)) (v : Value) :
    (wr.setCell ⟨g, 0, none⟩ v).heap[g]? = some (.cells #[v, b] T) ∧ (wr.setCell ⟨g, 1, none⟩ v).heap[g]? = some (.cells #[a, v] T) := by
  constructor <;> (simp only [World.setCell, Array.getElem?_modify, if_true, h, Option.map_some]; rfl)
theorem OvR.setRlo (h : OvR w0 gt g0 g1 gq gr s t q r wr) (x : Nat) (y : Int) (hh : hiN r = hiN x) (hy : y = loN x) : OvR w0 gt g0 g1 gq gr s t q x (wr.setCell ⟨gr, 1, none⟩ (.int .u64 y)) := by
  have hn := h.ne
  have h1 := (cell_set h.hr (.int .u64 y)).2
  rw [hh, hy] at h1
  rw [hy]
  exact ⟨h.below.setCell (p := ⟨gr, 1, none⟩) (by show w0.heap.size ≤ gr; omega) _, hn, heap_other _ h.hs (by omega), heap_other _ h.ht (by omega), heap_other _ h.h0 (by omega), heap_other _ h.h1 (by omega), heap_other _ h.hq (by omega), h1⟩
theorem OvR.setQhi (h : OvR w0 gt g0 g1 gq gr s t q r wr) (x : Nat) (y : Int) (hh : loN q = loN x) (hy : y = hiN x) : OvR w0 gt g0 g1 gq gr s t x r (wr.setCell ⟨gq, 0, none⟩ (.int .u64 y)) := by
  have hn := h.ne
  have h1 := (cell_set h.hq (.int .u64 y)).1
  rw [hh, hy] at h1
  rw [hy]
  exact ⟨h.below.setCell (p := ⟨gq, 0, none⟩) (by show w0.heap.size ≤ gq; omega) _, hn, heap_other _ h.hs (by omega), heap_other _ h.ht (by omega), heap_other _ h.h0 (by omega), heap_other _ h.h1 (by omega), h1, heap_other _ h.hr (by omega)⟩
theorem OvR.setQlo (h : OvR w0 gt g0 g1 gq gr s t q r wr) (x : Nat) (y : Int) (hh : hiN q = hiN x) (hy : y = loN x) : OvR w0 gt g0 g1 gq gr s t x r (wr.setCell ⟨gq, 1, none⟩ (.int .u64 y)) := by
  have hn := h.ne
  have h1 := (cell_set h.hq (.int .u64 y)).2
  rw [hh, hy] at h1
  rw [hy]
  exact ⟨h.below.setCell (p := ⟨gq, 1, none⟩) (by show w0.heap.size ≤ gq; omega) _, hn, heap_other _ h.hs (by omega), heap_other _ h.ht (by omega), heap_other _ h.h0 (by omega), heap_other _ h.h1 (by omega), h1, heap_other _ h.hr (by omega)⟩
end
theorem cell_two {wr : World} {g : Nat} {a b : Value} {T : TypeId} (h : wr.heap[g]? = some (.cells #[a, b] T)) :
    wr.cell? ⟨g, 0, none⟩ = some a ∧ wr.cell? ⟨g, 1, none⟩ = some b ∧ wr.frozen? ⟨g, 0, none⟩ = false ∧ wr.frozen? ⟨g, 1, none⟩ = false := by
  refine ⟨?_, ?_, ?_, ?_⟩
  · unfold World.cell?; rw [h]; rfl
  · unfold World.cell?; rw [h]; rfl
  · unfold World.frozen?; rw [h]; rfl
  · unfold World.frozen?; rw [h]; rfl
theorem OvR.made (w : World) (s t : Nat) : OvR w (w.heap.size + 1) (w.heap.size + 1 + 1) (w.heap.size + 1 + 1 + 1) (w.heap.size + 1 + 1 + 1 + 1) (w.heap.size + 1 + 1 + 1 + 1 + 1) s t 0 0
    ((((((w.alloc (.cells #[.int .u64 (hiN s), .int .u64 (loN s)] 83)).alloc (.cells #[.int .u64 (hiN t), .int .u64 (loN t)] 83)).alloc (.cells #[.int .u64 0, .int .u64 0] 83)).alloc (.cells #[.int .u64 0, .int .u64 0] 83)).alloc (.cells #[.int .u64 0, .int .u64 0] 83)).alloc (.cells #[.int .u64 0, .int .u64 0] 83)) := by
  have hz : ∀ (w : World) (o : Obj), (w.alloc o).heap.size = w.heap.size + 1 := fun w o => by simp
  have b2 := below_two w (.cells #[.int .u64 (hiN s), .int .u64 (loN s)] 83) (.cells #[.int .u64 (hiN t), .int .u64 (loN t)] 83)
  have b3 := b2.alloc b2.size (.cells #[.int .u64 0, .int .u64 0] 83)
  have b4 := b3.alloc b3.size (.cells #[.int .u64 0, .int .u64 0] 83)
  have b5 := b4.alloc b4.size (.cells #[.int .u64 0, .int .u64 0] 83)
  have b6 := b5.alloc b5.size (.cells #[.int .u64 0, .int .u64 0] 83)
  refine ⟨b6, by omega, ?_, ?_, ?_, ?_, ?_, ?_⟩
  · iterate 5 rw [heap_alloc_old _ _ (by simp only [hz]; omega)]
    exact heap_alloc_new _ _
  · iterate 4 rw [heap_alloc_old _ _ (by simp only [hz]; omega)]
    rw [← hz w (.cells #[.int .u64 (hiN s), .int .u64 (loN s)] 83)]
    exact heap_alloc_new _ _
  · iterate 3 rw [heap_alloc_old _ _ (by simp only [hz]; omega)]
    have h := heap_alloc_new ((w.alloc (.cells #[.int .u64 (hiN s), .int .u64 (loN s)] 83)).alloc (.cells #[.int .u64 (hiN t), .int .u64 (loN t)] 83)) (.cells #[.int .u64 0, .int .u64 0] 83)
    simp only [hz] at h
    exact h
  · iterate 2 rw [heap_alloc_old _ _ (by simp only [hz]; omega)]
    have h := heap_alloc_new (((w.alloc (.cells #[.int .u64 (hiN s), .int .u64 (loN s)] 83)).alloc (.cells #[.int .u64 (hiN t), .int .u64 (loN t)] 83)).alloc (.cells #[.int .u64 0, .int .u64 0] 83)) (.cells #[.int .u64 0, .int .u64 0] 83)
    simp only [hz] at h
    exact h
  · rw [heap_alloc_old _ _ (by simp only [hz]; omega)]
    have h := heap_alloc_new ((((w.alloc (.cells #[.int .u64 (hiN s), .int .u64 (loN s)] 83)).alloc (.cells #[.int .u64 (hiN t), .int .u64 (loN t)] 83)).alloc (.cells #[.int .u64 0, .int .u64 0] 83)).alloc (.cells #[.int .u64 0, .int .u64 0] 83)) (.cells #[.int .u64 0, .int .u64 0] 83)
    simp only [hz] at h
    exact h
  · have h := heap_alloc_new (((((w.alloc (.cells #[.int .u64 (hiN s), .int .u64 (loN s)] 83)).alloc (.cells #[.int .u64 (hiN t), .int .u64 (loN t)] 83)).alloc (.cells #[.int .u64 0, .int .u64 0] 83)).alloc (.cells #[.int .u64 0, .int .u64 0] 83)).alloc (.cells #[.int .u64 0, .int .u64 0] 83)) (.cells #[.int .u64 0, .int .u64 0] 83)
    simp only [hz] at h
    exact h
/-- A shift by more than a word. -/
theorem shr_far (x y : Int) (hx : 0 ≤ x) (hx1 : x ≤ 18446744073709551615) (hy : 63 < y) : Op.shift .shr .u64 x .i64 y = pure (.int .u64 0) := by
  have hm : min y.toNat 64 = 64 := by omega
  have e : x.fdiv (2 ^ (min y.toNat IntKind.u64.bits)) = 0 := by
    show x.fdiv (2 ^ (min y.toNat 64)) = 0
    rw [hm, Int.fdiv_eq_ediv_of_nonneg _ (by decide)]
    exact Int.ediv_eq_zero_of_lt hx (by simp; omega)
  unfold Op.shift
  rw [if_neg (by omega)]
  show pure (Value.int .u64 (x.fdiv (2 ^ (min y.toNat IntKind.u64.bits)))) = _
  rw [e]

attribute [local go_sem] shr_far
theorem bit_hi_word (s i : Nat) (hi : 64 ≤ i) (hs : s < 340282366920938463463374607431768211456) : bits .and .u64 (hiN s / 2 ^ (i - 64)) 1 = ((bitN s i : Nat) : Int) := by
  have e : hiN s / 2 ^ (i - 64) = ((s / 18446744073709551616 / 2 ^ (i - 64) : Nat) : Int) := by unfold hiN; simp
  rw [e, and_one_u64 _ (Nat.lt_of_le_of_lt (Nat.div_le_self _ _) (by omega)), bit_high s i hi]
theorem bit_lo_word (s i : Nat) (hi : i < 64) : bits .and .u64 (loN s / 2 ^ i) 1 = ((bitN s i : Nat) : Int) := by
  have e : loN s / 2 ^ i = ((s % 18446744073709551616 / 2 ^ i : Nat) : Int) := by unfold loN; simp
  rw [e, and_one_u64 _ (Nat.lt_of_le_of_lt (Nat.div_le_self _ _) (by omega)), bit_low s i hi]
theorem pow_word (i : Nat) (hi : i < 64) : IntKind.u64.wrap (2 ^ i) = ((2 ^ i : Nat) : Int) := by
  have h := pow_small i hi
  have e : ((2 : Int) ^ i) = ((2 ^ i : Nat) : Int) := by simp
  rw [e, IntKind.wrap_u64]
  generalize (2 : Nat) ^ i = x at h ⊢
  omega
set_option maxRecDepth 100000 in
set_option maxHeartbeats 4000000 in
theorem over_any (s t : Nat) (hs : s < 340282366920938463463374607431768211456) (ht0 : 0 < t) (ht : t ≤ 170141183460469231731687303715884105728) (w : World) :
    Calls Try.prog 44 #[szV s, szV t] w fun e w' => e = .returned (.tuple #[szV (s / t), szV (s % t)]) ∧ Below w.heap.size w w' := by
  have HE := Lib.hid (ov_end s t)
  obtain ⟨q0, r0⟩ := ov_start s t hs
  have HQ := Lib.hid q0
  have HR := Lib.hid r0
  have HS := Lib.hid hs
  clear q0 r0
  unfold szV
  go_enter Try.func44, Try.ntmps44
  go_upto_region 2 with fail
  have HO := Lib.hid (OvR.made w s t)
  generalize ((((((w.alloc (.cells #[.int .u64 (hiN s), .int .u64 (loN s)] 83)).alloc (.cells #[.int .u64 (hiN t), .int .u64 (loN t)] 83)).alloc (.cells #[.int .u64 0, .int .u64 0] 83)).alloc (.cells #[.int .u64 0, .int .u64 0] 83)).alloc (.cells #[.int .u64 0, .int .u64 0] 83)).alloc (.cells #[.int .u64 0, .int .u64 0] 83)) = w1 at *
  obtain ⟨gr, hgr⟩ : ∃ g, g = w.heap.size + 1 + 1 + 1 + 1 + 1 := ⟨_, rfl⟩
  rw [← hgr] at HO ⊢
  obtain ⟨gq, hgq⟩ : ∃ g, g = w.heap.size + 1 + 1 + 1 + 1 := ⟨_, rfl⟩
  rw [← hgq] at HO ⊢
  obtain ⟨g1, hg1⟩ : ∃ g, g = w.heap.size + 1 + 1 + 1 := ⟨_, rfl⟩
  rw [← hg1] at HO ⊢
  obtain ⟨g0, hg0⟩ : ∃ g, g = w.heap.size + 1 + 1 := ⟨_, rfl⟩
  rw [← hg0] at HO ⊢
  obtain ⟨gt, hgt⟩ : ∃ g, g = w.heap.size + 1 := ⟨_, rfl⟩
  rw [← hgt] at HO ⊢
  obtain ⟨gs, hgs⟩ : ∃ g, g = w.heap.size := ⟨_, rfl⟩
  clear hgr hgq hg1 hg0 hgt
  go_wp2
  go_loopg [8] 128 (fun g v wr => ∃ j : Nat, v = .int .i64 ((j : Int) - 1) ∧ Hid (OvR w gt g0 g1 gq gr s t (ovQ s t j) (ovR s t j) wr) ∧ Hid (j ≤ 128 ∧ g = j))
  case atStart => exact ⟨128, by simp, by rw [HQ.out, HR.out]; exact HO.out, by omega, rfl⟩
  case round =>
    obtain ⟨j, rfl, HV, HJ⟩ := hrel
    by_cases hj : 0 < j
    · obtain ⟨i, rfl⟩ : ∃ i, j = i + 1 := ⟨j - 1, by omega⟩
      have hji : 0 ≤ ((i + 1 : Nat) : Int) - 1 := by omega
      rw [show ((i + 1 : Nat) : Int) - 1 = (i : Int) by omega] at hji ⊢
      have hi127 : i < 128 := by have := HJ.out.1; omega
      have hrt : ovR s t (i + 1) < t := Nat.mod_lt _ ht0
      obtain ⟨hst1, hst2⟩ := ov_step s t i ht0
      have hqle := ov_le s t i
      have hq1 : ovQ s t (i + 1) = s / 2 ^ (i + 1) / t * 2 ^ (i + 1) := rfl
      obtain ⟨r, hr⟩ : ∃ r, r = ovR s t (i + 1) := ⟨_, rfl⟩
      rw [← hr] at HV hrt hst1 hst2
      have HST := Lib.hid (And.intro hst1 hst2)
      have HQL := Lib.hid (And.intro hqle hq1)
      clear hst1 hst2 hqle hq1 hr
      have hb2 : bitN s i < 2 := Nat.mod_lt _ (by omega)
      obtain ⟨lb1, lb2⟩ := low_bit r (bitN s i) hb2
      obtain ⟨k1, k2, k3, k4⟩ := cell_two HV.out.hr
      have e1 := shl_hi r (by omega)
      have e2 : IntKind.u64.wrap (hiN r * 2) = hiN r * 2 := by rw [IntKind.wrap_u64]; unfold hiN; omega
      have e3 : IntKind.u64.wrap (loN r * 2) = loN (2 * r) := by rw [IntKind.wrap_u64]; exact shl_lo r
      have HLB := Lib.hid (And.intro lb1 lb2)
      clear lb1 lb2
      by_cases h64 : 64 ≤ i
      · have dd : decide (63 < (i : Int)) = true := decide_eq_true (by omega)
        have dm : 63 < (i : Int) := by omega
        have pn : ((i : Int) - 64).toNat = i - 64 := by omega
        have pw : IntKind.i64.wrap ((i : Int) - 64) = (i : Int) - 64 := IntWalk.i64_in _ (by omega)
        have pa : 0 ≤ (i : Int) - 64 := by omega
        have pb : (i : Int) - 64 ≤ 64 := by omega
        obtain ⟨pc, pd⟩ := lo_range s
        have eb := bit_hi_word s i h64 hs
        go_upto_region 6 with (refine wpList_store_row rfl 83 _ _ rfl gr _ rfl rfl 83 _ HV.out.hr (by kernel_rfl) rfl (by kernel_rfl) ?_)
        have HV2 := Lib.hid (HV.out.setR (2 * r))
        generalize wr.setRow gr #[.int .u64 (hiN (2 * r)), .int .u64 (loN (2 * r))] = w2 at *
        clear k1 k2 k3 k4 e1 e2 e3 HV
        obtain ⟨k1, k2, _, _⟩ := cell_two HV2.out.hs
        obtain ⟨k3, k4, k5, k6⟩ := cell_two HV2.out.hr
        have lb1 := HLB.out.1
        go_upto_region 10 with fail
        have HV3 := Lib.hid (HV2.out.setRlo (2 * r + bitN s i) _ HLB.out.2 rfl)
        generalize w2.setCell ⟨gr, 1, none⟩ (.int .u64 (loN (2 * r + bitN s i))) = w3 at *
        clear k1 k2 k3 k4 k5 k6 lb1 HLB HV2 eb
        obtain ⟨R, hR⟩ : ∃ R, R = 2 * r + bitN s i := ⟨_, rfl⟩
        rw [← hR] at HV3 HST
        have hR2 : R < 340282366920938463463374607431768211456 := by omega
        clear hR
        by_cases hlt : R < t
        · obtain ⟨n1, n2⟩ := HST.out.1 hlt
          have HV4 := Lib.hid (show OvR w gt g0 g1 gq gr s t (ovQ s t i) (ovR s t i) w3 by rw [n1, n2]; exact HV3.out)
          have HCM := Lib.hid (show cmpN R t = -1 by unfold cmpN; rw [if_pos hlt])
          clear n1 n2 hlt
          go_wp2_with (first | (refine wpList_load_row rfl 83 _ rfl gr rfl 83 _ (0, 0) _ HV3.out.hr Try.underlying83 rfl (by kernel_rfl) ?_) | (refine wpList_load_row rfl 83 _ rfl gt rfl 83 _ (0, 0) _ HV3.out.ht Try.underlying83 rfl (by kernel_rfl) ?_))
          refine (scmp_any R t _).mono ?_
          rintro e w4 ⟨rfl, hb⟩
          rw [HCM.out]
          have HV5 := Lib.hid (HV4.out.step hb)
          clear hb HV4 HV3
          go_wp2_with fail
          go_roundg i
          case measure => have h := HJ.out; omega
          case rel => exact ⟨i, by go_num, HV5.out, by omega, rfl⟩
        · obtain ⟨n1, n2⟩ := HST.out.2 hlt
          have HN := Lib.hid (And.intro n1 n2)
          have HCM := Lib.hid (show 0 ≤ cmpN R t by unfold cmpN; rw [if_neg hlt]; split <;> decide)
          clear n1 n2
          go_wp2_with (first | (refine wpList_load_row rfl 83 _ rfl gr rfl 83 _ (0, 0) _ HV3.out.hr Try.underlying83 rfl (by kernel_rfl) ?_) | (refine wpList_load_row rfl 83 _ rfl gt rfl 83 _ (0, 0) _ HV3.out.ht Try.underlying83 rfl (by kernel_rfl) ?_))
          refine (scmp_any R t _).mono ?_
          rintro e w4 ⟨rfl, hb⟩
          have HV4 := Lib.hid (HV3.out.step hb)
          clear hb HV3
          have hcm := HCM.out
          clear HCM
          generalize cmpN R t = cm at *
          have d2 : decide (0 ≤ cm) = true := decide_eq_true hcm
          go_wp2_with (first | (refine wpList_load_row rfl 83 _ rfl gr rfl 83 _ (0, 0) _ HV4.out.hr Try.underlying83 rfl (by kernel_rfl) ?_) | (refine wpList_load_row rfl 83 _ rfl gt rfl 83 _ (0, 0) _ HV4.out.ht Try.underlying83 rfl (by kernel_rfl) ?_))
          refine (sless_any R t (by omega) hR2 _).mono ?_
          rintro e w5 ⟨rfl, hb⟩
          have HV5 := Lib.hid (HV4.out.step hb)
          clear hb HV4 hcm d2
          rw [show szV (R - t) = .agg #[.int .u64 (hiN (R - t)), .int .u64 (loN (R - t))] from rfl]
          go_upto_region 13 with (refine wpList_store_row rfl 83 _ _ rfl gr _ rfl rfl 83 _ HV5.out.hr (by kernel_rfl) rfl (by kernel_rfl) ?_)
          have HV6 := Lib.hid (HV5.out.setR (R - t))
          generalize w5.setRow gr #[.int .u64 (hiN (R - t)), .int .u64 (loN (R - t))] = w6 at *
          clear HV5
          obtain ⟨sh1, sh2⟩ := set_hi (s / 2 ^ (i + 1) / t) i h64 hi127 (by rw [← HQL.out.2, ← HN.out.2]; exact Nat.lt_of_le_of_lt HQL.out.1 HS.out)
          rw [← HQL.out.2] at sh1 sh2
          have pw2 := pow_word (i - 64) (by omega)
          have pe : ((2 ^ (i - 64) : Nat) : Int) = (2 : Int) ^ (i - 64) := by simp
          rw [pe] at pw2 sh1
          obtain ⟨q, hq⟩ : ∃ q, q = ovQ s t (i + 1) := ⟨_, rfl⟩
          rw [← hq] at HV6 HN sh1 sh2
          clear hq
          obtain ⟨k1, k2, k3, k4⟩ := cell_two HV6.out.hq
          have HV7 := Lib.hid (HV6.out.setQhi _ _ sh2 rfl)
          have HV8 := Lib.hid (show OvR w gt g0 g1 gq gr s t (ovQ s t i) (ovR s t i) _ by rw [HN.out.1, HN.out.2]; exact HV7.out)
          clear sh2 HV7 HV6 HN
          go_region
          go_wp2
          go_roundg i
          case measure => have h := HJ.out; omega
          case rel => exact ⟨i, by go_num, HV8.out.drew, by omega, rfl⟩
      · have dd : decide (63 < (i : Int)) = false := decide_eq_false (by omega)
        have dm : ¬ 63 < (i : Int) := by omega
        have pa : 0 ≤ (i : Int) := by omega
        have pb : (i : Int) ≤ 64 := by omega
        have eb := bit_lo_word s i (by omega)
        go_upto_region 6 with (refine wpList_store_row rfl 83 _ _ rfl gr _ rfl rfl 83 _ HV.out.hr (by kernel_rfl) rfl (by kernel_rfl) ?_)
        have HV2 := Lib.hid (HV.out.setR (2 * r))
        generalize wr.setRow gr #[.int .u64 (hiN (2 * r)), .int .u64 (loN (2 * r))] = w2 at *
        clear k1 k2 k3 k4 e1 e2 e3 HV
        obtain ⟨k1, k2, _, _⟩ := cell_two HV2.out.hs
        obtain ⟨k3, k4, k5, k6⟩ := cell_two HV2.out.hr
        have lb1 := HLB.out.1
        go_upto_region 10 with fail
        have HV3 := Lib.hid (HV2.out.setRlo (2 * r + bitN s i) _ HLB.out.2 rfl)
        generalize w2.setCell ⟨gr, 1, none⟩ (.int .u64 (loN (2 * r + bitN s i))) = w3 at *
        clear k1 k2 k3 k4 k5 k6 lb1 HLB HV2 eb
        obtain ⟨R, hR⟩ : ∃ R, R = 2 * r + bitN s i := ⟨_, rfl⟩
        rw [← hR] at HV3 HST
        have hR2 : R < 340282366920938463463374607431768211456 := by omega
        clear hR
        by_cases hlt : R < t
        · obtain ⟨n1, n2⟩ := HST.out.1 hlt
          have HV4 := Lib.hid (show OvR w gt g0 g1 gq gr s t (ovQ s t i) (ovR s t i) w3 by rw [n1, n2]; exact HV3.out)
          have HCM := Lib.hid (show cmpN R t = -1 by unfold cmpN; rw [if_pos hlt])
          clear n1 n2 hlt
          go_wp2_with (first | (refine wpList_load_row rfl 83 _ rfl gr rfl 83 _ (0, 0) _ HV3.out.hr Try.underlying83 rfl (by kernel_rfl) ?_) | (refine wpList_load_row rfl 83 _ rfl gt rfl 83 _ (0, 0) _ HV3.out.ht Try.underlying83 rfl (by kernel_rfl) ?_))
          refine (scmp_any R t _).mono ?_
          rintro e w4 ⟨rfl, hb⟩
          rw [HCM.out]
          have HV5 := Lib.hid (HV4.out.step hb)
          clear hb HV4 HV3
          go_wp2_with fail
          go_roundg i
          case measure => have h := HJ.out; omega
          case rel => exact ⟨i, by go_num, HV5.out, by omega, rfl⟩
        · obtain ⟨n1, n2⟩ := HST.out.2 hlt
          have HN := Lib.hid (And.intro n1 n2)
          have HCM := Lib.hid (show 0 ≤ cmpN R t by unfold cmpN; rw [if_neg hlt]; split <;> decide)
          clear n1 n2
          go_wp2_with (first | (refine wpList_load_row rfl 83 _ rfl gr rfl 83 _ (0, 0) _ HV3.out.hr Try.underlying83 rfl (by kernel_rfl) ?_) | (refine wpList_load_row rfl 83 _ rfl gt rfl 83 _ (0, 0) _ HV3.out.ht Try.underlying83 rfl (by kernel_rfl) ?_))
          refine (scmp_any R t _).mono ?_
          rintro e w4 ⟨rfl, hb⟩
          have HV4 := Lib.hid (HV3.out.step hb)
          clear hb HV3
          have hcm := HCM.out
          clear HCM
          generalize cmpN R t = cm at *
          have d2 : decide (0 ≤ cm) = true := decide_eq_true hcm
          go_wp2_with (first | (refine wpList_load_row rfl 83 _ rfl gr rfl 83 _ (0, 0) _ HV4.out.hr Try.underlying83 rfl (by kernel_rfl) ?_) | (refine wpList_load_row rfl 83 _ rfl gt rfl 83 _ (0, 0) _ HV4.out.ht Try.underlying83 rfl (by kernel_rfl) ?_))
          refine (sless_any R t (by omega) hR2 _).mono ?_
          rintro e w5 ⟨rfl, hb⟩
          have HV5 := Lib.hid (HV4.out.step hb)
          clear hb HV4 hcm d2
          rw [show szV (R - t) = .agg #[.int .u64 (hiN (R - t)), .int .u64 (loN (R - t))] from rfl]
          go_upto_region 14 with (refine wpList_store_row rfl 83 _ _ rfl gr _ rfl rfl 83 _ HV5.out.hr (by kernel_rfl) rfl (by kernel_rfl) ?_)
          have HV6 := Lib.hid (HV5.out.setR (R - t))
          generalize w5.setRow gr #[.int .u64 (hiN (R - t)), .int .u64 (loN (R - t))] = w6 at *
          clear HV5
          obtain ⟨sh1, sh2⟩ := set_lo (s / 2 ^ (i + 1) / t) i (by omega)
          rw [← HQL.out.2] at sh1 sh2
          have pw2 := pow_word i (by omega)
          have pe : ((2 ^ i : Nat) : Int) = (2 : Int) ^ i := by simp
          rw [pe] at pw2 sh1
          obtain ⟨q, hq⟩ : ∃ q, q = ovQ s t (i + 1) := ⟨_, rfl⟩
          rw [← hq] at HV6 HN sh1 sh2
          clear hq
          obtain ⟨k1, k2, k3, k4⟩ := cell_two HV6.out.hq
          have HV7 := Lib.hid (HV6.out.setQlo _ _ sh2 rfl)
          have HV8 := Lib.hid (show OvR w gt g0 g1 gq gr s t (ovQ s t i) (ovR s t i) _ by rw [HN.out.1, HN.out.2]; exact HV7.out)
          clear sh2 HV7 HV6 HN
          go_region
          go_wp2
          go_roundg i
          case measure => have h := HJ.out; omega
          case rel => exact ⟨i, by go_num, HV8.out.drew, by omega, rfl⟩
    · obtain rfl : j = 0 := by omega
      have hji : ¬ (0 : Int) ≤ -1 := by omega
      rw [show ((0 : Nat) : Int) - 1 = -1 from rfl]
      rw [HE.out.1, HE.out.2] at HV
      go_upto_region 15 with fail
      obtain ⟨hb, hne, _, _, h0, h1, hq, hr⟩ := HV.out
      obtain ⟨q1, q2, q3, q4⟩ := cell_two hq
      obtain ⟨r1, r2, r3, r4⟩ := cell_two hr
      obtain ⟨a1, a2, a3, a4⟩ := cell_two h0
      obtain ⟨b1, b2, b3, b4⟩ := cell_two h1
      clear hq hr
      have HB := Lib.hid hb
      have H0 := Lib.hid h0
      have H1 := Lib.hid h1
      have n1 : g0 ≠ g1 := by omega
      have n2 : g0 ≠ gq := by omega
      have n3 : g0 ≠ gr := by omega
      have n4 : g1 ≠ gq := by omega
      have n5 : g1 ≠ gr := by omega
      clear hb h0 h1
      go_region
      obtain ⟨W, hW⟩ : ∃ W, W = ((((wr.setCell ⟨g0, 0, none⟩ (.int .u64 (hiN (s / t)))).setCell ⟨g0, 1, none⟩ (.int .u64 (loN (s / t)))).setCell ⟨g1, 0, none⟩ (.int .u64 (hiN (s % t)))).setCell ⟨g1, 1, none⟩ (.int .u64 (loN (s % t)))).drew := ⟨_, rfl⟩
      rw [← hW]
      have f0 : W.heap[g0]? = some (.cells #[.int .u64 (hiN (s / t)), .int .u64 (loN (s / t))] 83) := by
        rw [hW]
        exact heap_other _ (heap_other _ (cell_set (cell_set H0.out (.int .u64 (hiN (s / t)))).1 (.int .u64 (loN (s / t)))).2 n1) n1
      have f1 : W.heap[g1]? = some (.cells #[.int .u64 (hiN (s % t)), .int .u64 (loN (s % t))] 83) := by
        rw [hW]
        exact (cell_set (cell_set (heap_other _ (heap_other _ H1.out (Ne.symm n1)) (Ne.symm n1)) (.int .u64 (hiN (s % t)))).1 (.int .u64 (loN (s % t)))).2
      have HF := Lib.hid (show Below w.heap.size w W by
        rw [hW]
        exact Below.drew ((((HB.out.setCell (p := ⟨g0, 0, none⟩) (by show w.heap.size ≤ g0; omega) _).setCell (p := ⟨g0, 1, none⟩) (by show w.heap.size ≤ g0; omega) _).setCell (p := ⟨g1, 0, none⟩) (by show w.heap.size ≤ g1; omega) _).setCell (p := ⟨g1, 1, none⟩) (by show w.heap.size ≤ g1; omega) _))
      have HF0 := Lib.hid f0
      have HF1 := Lib.hid f1
      clear hW q1 q2 q3 q4 r1 r2 r3 r4 a1 a2 a3 a4 b1 b2 b3 b4 f0 f1
      go_wp2
      refine bodyPost_ret (results_cells2 (fn := Try.f44) rfl _ _ g0 g1 _ _ _ _ _ _ rfl rfl HF0.out HF1.out Try.underlying83 rfl (by kernel_rfl) (by kernel_rfl)) rfl ?_
      exact ⟨rfl, HF.out⟩

end Go.Proofs.Ytkgohhdenfnfpaa
