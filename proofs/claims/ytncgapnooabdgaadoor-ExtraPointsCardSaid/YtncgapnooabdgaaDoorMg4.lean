/- Texts of ours, laid together: Ea, Pb, R1, Ra, Rb, Rc, Rd, Re, Rf, Sa, Rg, Rh. -/
import Derived.WalkKit
import Derived.Test.YtncgapnooabdgaaDoorProg
import Derived.Lib.Hide
import Derived.Deep.LoopGhost
import Derived.Deep.QuietTactic
import Derived.BigQuiet
import Derived.BigRegion
import Derived.StillTailTactics
import Derived.KernelRfl
import Derived.Deep.AppendLies
import Derived.Deep.RegionLaw
import Derived.Deep.OwnRows
import Derived.Deep.RegionHeld3
import Derived.Test.YtncgapnooabdgaaDoorMg3
/- Wider zones: plain. -/
namespace Go.Proofs.YtncgapnooabdgaaDoor
set_option linter.unusedVariables false
set_option linter.unusedSimpArgs false

/-- A clock's constant, -1 as 0; of the clock 0: 0. -/
def atP (l : List Int) (i : Nat) : Int := if i = 0 then 0 else max (l.getD (i - 1) 0) 0
/-- A cell, widened. -/
def widP (lo up : List Int) (i j : Nat) (b : Int) : Int :=
  if i ≠ 0 ∧ 2 * atP lo i + 1 < b then 2147483647 else
  if i = 0 then min (max b (-2 * atP up j)) 1 else max b (-2 * atP up j)
/-- May constants be so? -/
def cstB (x : Int) : Bool := decide (-1 ≤ x ∧ x ≤ 1048576)
def rightE (n : Nat) (l : List Int) : Int := if l.length = n then (if l.all cstB = true then 0 else 13) else 6
/-- All cells but those of a clock and itself, by what they become. -/
def offM (f : Nat → Nat → Int → Int) (m : Mat) : Mat := fun i j => if i = j then m i j else f i j (m i j)
/-- Is nothing to be said of a clock? -/
def goneB (l : List Int) (i : Nat) : Bool := decide ((i : Int) ∈ l)
def goneF (l : List Int) (m : Mat) (i j : Nat) (b : Int) : Int := if goneB l i = true then 2147483647 else if goneB l j = true then m i 0 else b
def clkE (n : Nat) (l : List Int) : Bool := l.all fun x => decide (1 ≤ x ∧ x ≤ n)
/-- What Gone answers of a zone. -/
def goneP (n : Nat) (m : Mat) (l : List Int) : Option Mat × Int := if clkE n l = true then (if m 0 0 < 1 then ofP n (flat n m) else ofP n (flat n (offM (goneF l m) m))) else (none, 12)
def goneA (z : Option (Nat × Mat)) (l : List Int) : Option Mat × Int := match z with | none => (none, 1) | some (k, m) => goneP k m l
/-- The clocks of the first p that are held against nothing. -/
def freeC (lo up : List Int) : Nat → List Int
  | 0 => []
  | p + 1 => if lo.getD p 0 < 0 ∧ up.getD p 0 < 0 then freeC lo up p ++ [(p : Int) + 1] else freeC lo up p
/-- What LU answers of a zone. -/
def luP (n : Nat) (m : Mat) (lo up : List Int) : Option Mat × Int :=
  if rightE n lo ≠ 0 then (none, rightE n lo) else if rightE n up ≠ 0 then (none, rightE n up) else
  if m 0 0 < 1 then ofP n (flat n m) else
  match goneP n m (freeC lo up lo.length) with
  | (some y, _) => ofP n (flat n (offM (widP lo up) y))
  | (none, e) => (none, e)

theorem atP_rng {l : List Int} (h : l.all cstB = true) (i : Nat) : 0 ≤ atP l i ∧ atP l i ≤ 1048576 := by
  unfold atP
  split
  · omega
  · by_cases e : i - 1 < l.length
    · have := (all_getD l cstB 0).1 h (i - 1) e
      unfold cstB at this
      simp only [decide_eq_true_eq] at this
      omega
    · rw [List.getD_eq_getElem?_getD, List.getElem?_eq_none (by omega)]
      simp
theorem gone_closed {n : Nat} {m : Mat} {l : List Int} (hc : clkE n l = true) (h : ClosedZ n m) : ClosedZ n (offM (goneF l m) m) := by
  have g0 : goneB l 0 = false := by
    unfold goneB
    refine decide_eq_false fun hm => ?_
    have := List.all_eq_true.1 hc _ hm
    simp only [decide_eq_true_eq] at this
    omega
  have hr : RightM n (offM (goneF l m) m) := fun i j hi hj => by
    unfold offM goneF
    split
    · exact h.full.right i j hi hj
    · split
      · decide
      · split
        · exact h.full.right i 0 hi (Nat.zero_le _)
        · exact h.full.right i j hi hj
  have hone : ∀ i, i ≤ n → offM (goneF l m) m i i = 1 := fun i hi => by unfold offM; rw [if_pos rfl]; exact h.full.one i hi
  refine ⟨⟨hr, hone, fun j hj => ?_⟩, fun q hq i j hi hj => ?_⟩
  · unfold offM goneF
    rw [g0]
    split
    · exact h.full.top j hj
    · rw [if_neg (by simp)]
      split
      · exact h.full.top 0 (Nat.zero_le _)
      · exact h.full.top j hj
  · have hq' : q ≤ n := by omega
    have hfb : FB (widW (offM (goneF l m) m) i j) := right_fb (hr i j hi hj)
    have hinf : wid 2147483647 = none62 := by decide
    have k0 : ∀ a, a ≤ n → widW (offM (goneF l m) m) a a = 1 := fun a ha => by unfold widW; rw [hone a ha]; decide
    have k1 : ∀ a b, a ≠ b → goneB l a = true → widW (offM (goneF l m) m) a b = none62 := fun a b hab ga => by unfold widW offM goneF; rw [if_neg hab, if_pos ga, hinf]
    have k2 : ∀ a b, a ≠ b → goneB l a = false → goneB l b = true → widW (offM (goneF l m) m) a b = widW m a 0 := fun a b hab ga gb => by unfold widW offM goneF; rw [if_neg hab, ga, if_neg (by simp), if_pos gb]
    have k3 : ∀ a b, a ≠ b → goneB l a = false → goneB l b = false → widW (offM (goneF l m) m) a b = widW m a b := fun a b hab ga gb => by unfold widW offM goneF; rw [if_neg hab, ga, if_neg (by simp), gb, if_neg (by simp)]
    by_cases e1 : i = q
    · subst e1; rw [k0 i hi, wsum_one_left]; exact Int.le_refl _
    · by_cases e2 : q = j
      · subst e2; rw [k0 q hj, wsum_one_right]; exact Int.le_refl _
      · cases gi : goneB l i with
        | true => rw [k1 i q e1 gi, wsum_none_left]; exact hfb.le
        | false =>
          cases gq : goneB l q with
          | true => rw [k1 q j e2 gq, wsum_none_right]; exact hfb.le
          | false =>
            rw [k3 i q e1 gi gq]
            by_cases e3 : i = j
            · subst e3
              rw [k0 i hi, k3 q i e2 gq gi, ← h.wone hi]
              exact h.tri q hq i i hi hi
            · cases gj : goneB l j with
              | true => rw [k2 i j e3 gi gj, k2 q j e2 gq gj]; exact h.tri q hq i 0 hi (Nat.zero_le _)
              | false => rw [k3 i j e3 gi gj, k3 q j e2 gq gj]; exact h.tri q hq i j hi hj
theorem zero_of {n : Nat} (hn : n ≤ 8) : ofP n (flat n fun _ _ => 0) = (some (fun _ _ => 0), 0) := by rw [of_flat hn (right_zero n)]; exact zoneP_zero n
theorem gone_zero {n : Nat} {l : List Int} (hn : n ≤ 8) (hc : clkE n l = true) : goneP n (fun _ _ => 0) l = (some (fun _ _ => 0), 0) := by
  unfold goneP
  rw [if_pos hc, if_pos (by decide)]
  exact zero_of hn
theorem gone_full {n : Nat} {m : Mat} {l : List Int} (hn : n ≤ 8) (hc : clkE n l = true) (h : ClosedZ n m) : goneP n m l = (some (narM n (widW (offM (goneF l m) m))), 0) := by
  unfold goneP
  rw [if_pos hc, if_neg (by rw [h.full.one 0 (Nat.zero_le _)]; omega)]
  exact of_same hn (gone_closed hc h) fun i j _ _ => rfl
theorem gone_ge {n : Nat} {m : Mat} {l : List Int} (h : ClosedZ n m) (i j : Nat) (hi : i ≤ n) (hj : j ≤ n) : m i j ≤ offM (goneF l m) m i j := by
  unfold offM goneF
  split
  · exact Int.le_refl _
  · split
    · exact (right_hi (h.full.right i j hi hj)).2
    · split
      · exact (wid_le (h.full.right i j hi hj) (h.full.right i 0 hi (Nat.zero_le _))).1 (h.to0 hi hj)
      · exact Int.le_refl _

/-! ### a closed form of small bounds is in range -/
def Cap (n : Nat) (V : Int) (m : Mat) : Prop := ∀ i j, i ≤ n → j ≤ n → m i j = none62 ∨ m i j ≤ 2 * V + 1
theorem cap_fw {n k : Nat} {V : Int} {m : Mat} (hk : k ≤ n) (hV : 0 ≤ V) (h : Cap n V m) : Cap n (2 * V) (fw k n m) := fun i j hi hj => by
  unfold fw
  rw [if_pos ⟨hi, hj⟩]
  by_cases a : m i k = none62
  · rw [a, wsum_none_left]
    rcases h i j hi hj with e | e
    · left; rw [e]; rfl
    · right; omega
  · by_cases b : m k j = none62
    · rw [b, wsum_none_right]
      rcases h i j hi hj with e | e
      · left; rw [e]; rfl
      · right; omega
    · right
      have h1 := (h i k hi hk).resolve_left a
      have h2 := (h k j hk hj).resolve_left b
      rw [wsum_min a b]
      omega
theorem cap_fw0 {n : Nat} {V : Int} {m : Mat} (hV : 0 ≤ V) (h : Cap n V m) (h0 : ∀ j, j ≤ n → m 0 j ≤ 1) : Cap n V (fw 0 n m) := fun i j hi hj => by
  unfold fw
  rw [if_pos ⟨hi, hj⟩]
  by_cases a : m i 0 = none62
  · rw [a, wsum_none_left]
    rcases h i j hi hj with e | e
    · left; rw [e]; rfl
    · right; omega
  · have b : m 0 j ≠ none62 := fun e => by have := h0 j hj; rw [e] at this; unfold none62 at this; omega
    right
    have h1 := (h i 0 hi (Nat.zero_le _)).resolve_left a
    have h2 := h0 j hj
    rw [wsum_min a b]
    omega
theorem cap_close {n : Nat} : ∀ s k V m m', k + s = n + 1 → 0 ≤ V → Cap n V m → closeP n s k m = some m' → Cap n (V * 2 ^ s) m'
  | 0, k, V, m, m', _, _, h, e => by
    simp [closeP] at e
    subst e
    rw [Int.pow_zero, Int.mul_one]; exact h
  | s + 1, k, V, m, m', hk, hV, h, e => by
    unfold closeP at e
    split at e
    · have := cap_close s (k + 1) (2 * V) _ m' (by omega) (by omega) (cap_fw (by omega) hV h) e
      rw [show V * 2 ^ (s + 1) = 2 * V * 2 ^ s by rw [Int.pow_succ, Int.mul_comm (2 ^ s) 2, ← Int.mul_assoc, Int.mul_comm V 2]]
      exact this
    · cases e
theorem pow_two_le {n : Nat} (h : n ≤ 8) : (2 : Int) ^ n ≤ 256 := by
  match n, h with
  | 0, _ | 1, _ | 2, _ | 3, _ | 4, _ | 5, _ | 6, _ | 7, _ | 8, _ => decide
theorem closed_cap {n : Nat} {m m' : Mat} (hn : n ≤ 8) (h : Cap n 1048576 m) (h0 : ∀ j, j ≤ n → m 0 j ≤ 1) (e : closed n m = some m') : Cap n 268435456 m' := by
  unfold closed closeP at e
  split at e
  · have h1 := cap_close n 1 1048576 _ m' (by omega) (by omega) (cap_fw0 (by omega) h h0) e
    intro i j hi hj
    rcases h1 i j hi hj with h2 | h2
    · exact .inl h2
    · right
      have := pow_two_le hn
      have : (1048576 : Int) * 2 ^ n ≤ 1048576 * 256 := Int.mul_le_mul_of_nonneg_left this (by omega)
      omega
  · cases e
/-- Cells that are nowhere stricter than a closed zone's, and small where they are bounds, make a zone. -/
theorem widen_is {n : Nat} {W Y : Mat} (hn : n ≤ 8) (hY : ClosedZ n Y) (hW : OkM n W) (hle : ∀ i j, i ≤ n → j ≤ n → Y i j ≤ W i j) (hcap : ∀ i j, i ≤ n → j ≤ n → W i j = 2147483647 ∨ W i j ≤ 2097153) :
    ∃ a, ofP n (flat n W) = (some a, 0) ∧ ClosedZ n a ∧ (∀ i j, i ≤ n → j ≤ n → a i j ≤ W i j) ∧ ∀ e, ClosedZ n e → (∀ i j, i ≤ n → j ≤ n → e i j ≤ W i j) → ∀ i j, i ≤ n → j ≤ n → e i j ≤ a i j := by
  have hge : ∀ e, ClosedZ n e → (∀ i j, i ≤ n → j ≤ n → e i j ≤ W i j) → ∃ C, closed n (widW W) = some C ∧ ∀ i j, i ≤ n → j ≤ n → widW e i j ≤ C i j := fun e he hew =>
    closed_ge hn (fun i j hi hj => he.fb hi hj) he.tri (fun i hi => he.wone hi) hW.fit (fun i j hi hj => (wid_le (he.full.right i j hi hj) (hW.right i j hi hj)).2 (hew i j hi hj))
  obtain ⟨C, hC, hYC⟩ := hge Y hY hle
  have hcp : Cap n 1048576 (widW W) := fun i j hi hj => by
    rcases hcap i j hi hj with e | e
    · left; unfold widW wid; rw [if_pos e]
    · right; unfold widW wid; rw [if_neg (by omega)]; omega
  have hCC := closed_cap hn hcp hW.wtop hC
  have hall : allR n C := fun i hi j hj => by
    rcases hCC i j hi hj with e | e
    · exact .inl e
    · right
      have h1 := hYC i j hi hj
      have h2 := rightB_bd (hY.full.right i j hi hj)
      have h3 : -536870912 ≤ widW Y i j := by
        rcases wid_cases (hY.full.right i j hi hj) with ⟨_, h⟩ | ⟨_, h, h4, _⟩
        · show -536870912 ≤ wid (Y i j); rw [h]; decide
        · show -536870912 ≤ wid (Y i j); rw [h]; exact h4
      omega
  have hi := of_is hn hW
  generalize hrr : ofP n (flat n W) = r at *
  cases hi with
  | empty h => rw [hC] at h; cases h
  | over C' h _ =>
    rw [ofP_wid hn hW] at hrr
    unfold zoneP at hrr
    rw [hC] at hrr
    simp only at hrr
    rw [if_pos hall] at hrr
    cases hrr
  | full C' a h _ ha he hle' =>
    refine ⟨a, rfl, ha, hle', fun e hec hew i j hi hj => ?_⟩
    obtain ⟨C2, hC2, h2⟩ := hge e hec hew
    rw [hC2] at h
    simp only [Option.some.injEq] at h
    subst h
    have := h2 i j hi hj
    rw [← he i j hi hj] at this
    exact (wid_le (hec.full.right i j hi hj) (ha.full.right i j hi hj)).1 this

/-! ### LU -/
theorem wide_ok {n : Nat} {m : Mat} {lo up : List Int} (h0 : lo.all cstB = true) (h1 : up.all cstB = true) (h : ClosedZ n m) :
    OkM n (offM (widP lo up) m) ∧ (∀ i j, i ≤ n → j ≤ n → m i j ≤ offM (widP lo up) m i j) ∧ ∀ i j, i ≤ n → j ≤ n → offM (widP lo up) m i j = 2147483647 ∨ offM (widP lo up) m i j ≤ 2097153 := by
  have hge : ∀ i j, i ≤ n → j ≤ n → m i j ≤ offM (widP lo up) m i j := fun i j hi hj => by
    have hr := right_hi (h.full.right i j hi hj)
    unfold offM widP
    split
    · exact Int.le_refl _
    · split
      · exact hr.2
      · split
        · rename_i e; have := h.full.top j hj; rw [e]; omega
        · omega
  refine ⟨⟨fun i j hi hj => ?_, fun i hi => ?_, fun j hj => ?_⟩, hge, fun i j hi hj => ?_⟩
  · have hr := h.full.right i j hi hj
    have a0 := atP_rng h0 i
    have a1 := atP_rng h1 j
    unfold offM widP
    split
    · exact hr
    · split
      · decide
      · have hd := of_decide_eq_true hr
        split
        · exact decide_eq_true (by omega)
        · exact decide_eq_true (by omega)
  · unfold offM; rw [if_pos rfl]; rw [h.full.one i hi]; exact Int.le_refl _
  · unfold offM widP
    split
    · exact h.full.top j hj
    · rw [if_neg (by omega), if_pos rfl]; omega
  · have a0 := atP_rng h0 i
    have a1 := atP_rng h1 j
    unfold offM widP
    split
    · rename_i e; subst e; right; rw [h.full.one i hi]; omega
    · split
      · exact .inl rfl
      · right
        split
        · omega
        · omega
theorem freeC_clk {lo up : List Int} {n : Nat} : ∀ p, p ≤ n → clkE n (freeC lo up p) = true
  | 0, _ => rfl
  | p + 1, hp => by
    have := freeC_clk (lo := lo) (up := up) p (by omega : p ≤ n)
    unfold freeC
    split
    · unfold clkE at this ⊢
      rw [List.all_append, this]
      simp
      omega
    · exact this
theorem freeC_mem {lo up : List Int} {i : Nat} : ∀ p, goneB (freeC lo up p) i = true ↔ (1 ≤ i ∧ i ≤ p ∧ lo.getD (i - 1) 0 < 0 ∧ up.getD (i - 1) 0 < 0)
  | 0 => by unfold goneB freeC; simp; omega
  | p + 1 => by
    have ih := freeC_mem (lo := lo) (up := up) (i := i) p
    unfold goneB at ih ⊢
    simp only [decide_eq_true_eq] at ih ⊢
    unfold freeC
    split
    · rename_i h
      rw [List.mem_append, ih]
      simp only [List.mem_singleton]
      constructor
      · rintro (a | a)
        · omega
        · have : i = p + 1 := by omega
          subst this
          rw [Nat.add_sub_cancel]
          exact ⟨by omega, by omega, h.1, h.2⟩
      · rintro ⟨a, b, c⟩
        by_cases e : i = p + 1
        · right; subst e; rfl
        · left; exact ⟨a, by omega, c⟩
    · rename_i h
      rw [ih]
      constructor
      · rintro ⟨a, b, c⟩; exact ⟨a, by omega, c⟩
      · rintro ⟨a, b, c⟩
        refine ⟨a, ?_, c⟩
        by_cases e : i = p + 1
        · subst e; rw [Nat.add_sub_cancel] at c; exact absurd c h
        · omega
theorem rightE_zero {n : Nat} {l : List Int} (h : rightE n l = 0) : l.length = n ∧ l.all cstB = true := by
  unfold rightE at h
  split at h
  · rename_i e
    split at h
    · rename_i c; exact ⟨e, c⟩
    · omega
  · omega
/-- The zone of which nothing is said of what is held against nothing. -/
def baseM (n : Nat) (m : Mat) (lo up : List Int) : Mat := narM n (widW (offM (goneF (freeC lo up lo.length) m) m))
theorem base_closed {n : Nat} {m : Mat} {lo up : List Int} (hn : n ≤ 8) (hl : lo.length ≤ n) (h : ClosedZ n m) : ClosedZ n (baseM n m lo up) := nar_closed hn (gone_closed (freeC_clk _ hl) h)
theorem base_cell {n : Nat} {m : Mat} {lo up : List Int} (hn : n ≤ 8) (hl : lo.length ≤ n) (h : ClosedZ n m) : Agree n (baseM n m lo up) (offM (goneF (freeC lo up lo.length) m) m) := nar_agree hn (gone_closed (freeC_clk _ hl) h)
/-- What LU makes of a zone that is not empty. -/
theorem lu_full {n : Nat} {m : Mat} {lo up : List Int} (hn : n ≤ 8) (h : ClosedZ n m) (h0 : rightE n lo = 0) (h1 : rightE n up = 0) :
    ∃ a, luP n m lo up = (some a, 0) ∧ ClosedZ n a ∧ (∀ i j, i ≤ n → j ≤ n → a i j ≤ offM (widP lo up) (baseM n m lo up) i j) ∧
      ∀ e, ClosedZ n e → (∀ i j, i ≤ n → j ≤ n → e i j ≤ offM (widP lo up) (baseM n m lo up) i j) → ∀ i j, i ≤ n → j ≤ n → e i j ≤ a i j := by
  obtain ⟨l0, c0⟩ := rightE_zero h0
  obtain ⟨l1, c1⟩ := rightE_zero h1
  have hb := base_closed (lo := lo) (up := up) hn (by omega) h
  obtain ⟨ok, ge, cap⟩ := wide_ok c0 c1 hb
  have he : luP n m lo up = ofP n (flat n (offM (widP lo up) (baseM n m lo up))) := by
    unfold luP
    rw [if_neg (by omega), if_neg (by omega), if_neg (by rw [h.full.one 0 (Nat.zero_le _)]; omega), gone_full hn (freeC_clk _ (by omega)) h]
    rfl
  rw [he]
  exact widen_is hn hb ok ge cap
theorem lu_zero {n : Nat} {lo up : List Int} (hn : n ≤ 8) (h0 : rightE n lo = 0) (h1 : rightE n up = 0) : luP n (fun _ _ => 0) lo up = (some (fun _ _ => 0), 0) := by
  unfold luP
  rw [if_neg (by omega), if_neg (by omega), if_pos (by decide)]
  exact zero_of hn

end Go.Proofs.YtncgapnooabdgaaDoor

/- Bounds: their numbers, sums and opposites: plain. -/
namespace Go.Proofs.YtncgapnooabdgaaDoor
open Go Go.RowKit
set_option linter.unusedVariables false
set_option linter.unusedSimpArgs false

/-- Is a bound finite, and right? -/
def someB (b : Int) : Bool := rightB b && decide (b ≠ 2147483647)
/-- The bound of a number, or the error. -/
def ofB (v : Int) (r : Bool) : Int × Int := if v < -268435456 ∨ 268435456 < v then (0, 10) else (2 * v + (if r then 1 else 0), 0)
/-- Is one of the first p without a bound? Are all reached? Their sum, as the machine reckons. -/
def infUp (l : List Int) : Nat → Bool
  | 0 => false
  | p + 1 => infUp l p || decide (l.getD p 0 = 2147483647)
def redUp (l : List Int) : Nat → Bool
  | 0 => true
  | p + 1 => redUp l p && decide (l.getD p 0 % 2 = 1)
def sumUp (l : List Int) : Nat → Int
  | 0 => 0
  | p + 1 => wrap64 (sumUp l p + l.getD p 0 / 2)
/-- The bound of the sum of all, or the error. -/
def sumP (l : List Int) : Int × Int := if l.all rightB then (if infUp l l.length then (2147483647, 0) else ofB (sumUp l l.length) (redUp l l.length)) else (0, 7)
theorem infUp_no {l : List Int} : ∀ {N}, infUp l N = false → ∀ q, q < N → l.getD q 0 ≠ 2147483647
  | 0, _, q, hq => by omega
  | N + 1, h, q, hq => by
    simp only [infUp, Bool.or_eq_false_iff, decide_eq_false_iff_not] at h
    by_cases e : q = N
    · subst e; exact h.2
    · exact infUp_no h.1 q (by omega)

/-- What Not tells. -/
def notP (b : Int) : Int × Int := if someB b then ofB (-(b / 2)) (!decide (b % 2 = 1)) else if rightB b then (0, 4) else (0, 7)

/-- A bound's number, and whether it is reached; 0 and no if it has none. -/
def numB (b : Int) : Int := if someB b then b / 2 else 0
def redB (b : Int) : Bool := someB b && decide (b % 2 = 1)
/-- The sum of the first p, as it is reckoned in one pass. -/
def sumAll (l : List Int) : Nat → Int
  | 0 => 0
  | p + 1 => wrap64 (sumAll l p + numB (l.getD p 0))
def redAll (l : List Int) : Nat → Bool
  | 0 => true
  | p + 1 => redAll l p && redB (l.getD p 0)
def badUp (l : List Int) : Nat → Bool
  | 0 => false
  | p + 1 => badUp l p || !rightB (l.getD p 0)
theorem badUp_all (l : List Int) : ∀ p, p ≤ l.length → badUp l p = !(l.take p).all rightB
  | 0, _ => rfl
  | p + 1, h => by
    have e : l.take (p + 1) = l.take p ++ [l.getD p 0] := by
      rw [List.take_succ_eq_append_getElem (by omega), List.getD_eq_getElem?_getD, List.getElem?_eq_getElem (by omega)]
      rfl
    rw [badUp, badUp_all l p (by omega), e, List.all_append]
    simp
theorem bad_all (l : List Int) : badUp l l.length = !l.all rightB := by
  rw [badUp_all l _ (Nat.le_refl _), List.take_length]
theorem same_up {l : List Int} : ∀ p, (∀ q, q < p → someB (l.getD q 0) = true) → sumAll l p = sumUp l p ∧ redAll l p = redUp l p
  | 0, _ => ⟨rfl, rfl⟩
  | p + 1, h => by
    obtain ⟨h1, h2⟩ := same_up p fun q hq => h q (by omega)
    have h3 := h p (by omega)
    exact ⟨by rw [sumAll, sumUp, h1, numB, if_pos h3], by rw [redAll, redUp, h2, redB, h3, Bool.true_and]⟩
theorem getD_right {l : List Int} (h : l.all rightB = true) (q : Nat) (hq : q < l.length) : rightB (l.getD q 0) = true := by
  rw [List.getD_eq_getElem?_getD, List.getElem?_eq_getElem hq]
  exact List.all_eq_true.1 h _ (List.getElem_mem hq)
/-- The answer, out of what one pass gathers. -/
def sumR (v : Int) (r i x : Bool) : Int × Int := if x then (0, 7) else if i then (2147483647, 0) else ofB v r
theorem sum_pass (l : List Int) : sumP l = sumR (sumAll l l.length) (redAll l l.length) (infUp l l.length) (badUp l l.length) := by
  unfold sumP sumR
  rw [bad_all]
  by_cases h : l.all rightB = true
  · rw [if_pos h, h]
    simp only [Bool.not_true, Bool.false_eq_true, if_false]
    by_cases i : infUp l l.length = true
    · rw [if_pos i, if_pos i]
    · rw [if_neg i, if_neg i]
      have := same_up (l := l) l.length fun q hq => by
        unfold someB
        rw [getD_right h q hq, decide_eq_true (infUp_no (by simpa using i) q hq)]
        rfl
      rw [this.1, this.2]
  · rw [if_neg h]
    simp [h]

/-- Does a fraction keep a bound? -/
def keepsB (b x d : Int) : Bool := decide (1 ≤ d ∧ (b = 2147483647 ∨ (someB b = true ∧ x < b / 2 * d + b % 2)))

end Go.Proofs.YtncgapnooabdgaaDoor

/- The document's answers for bounds. -/
namespace Go.Proofs.YtncgapnooabdgaaDoor
open Go Go.RowKit
set_option linter.unusedVariables false
set_option linter.unusedSimpArgs false

theorem tmod_two (b : Int) : b.tmod 2 = 0 ↔ b % 2 = 0 := by
  constructor
  · intro h; have := Int.dvd_of_tmod_eq_zero h; omega
  · intro h; exact Int.tmod_eq_zero_of_dvd (by omega)
theorem tdiv_even {b : Int} (h : b % 2 = 0) : b.tdiv 2 = b / 2 := Int.tdiv_eq_ediv_of_dvd (by omega)

set_option maxRecDepth 100000 in
set_option maxHeartbeats 1000000 in
theorem number_any (b : Int) (w : World) (h0 : -2147483648 ≤ b) (h1 : b ≤ 2147483647) : Calls Tryd.prog 66 #[.int .i32 b] w fun e w' => e = .returned (.int .i64 (b / 2)) ∧ w' = w := by
  by_cases hb : b % 2 = 0
  · have t0 : b.tmod 2 = 0 := (tmod_two b).2 hb
    have t1 : b.tdiv 2 = b / 2 := tdiv_even hb
    obtain ⟨q, hq⟩ : ∃ q, q = b / 2 := ⟨_, rfl⟩
    rw [← hq] at t1 ⊢
    have hq1 : -1073741824 ≤ q := by omega
    have hq2 : q ≤ 1073741823 := by omega
    clear hq hb
    go_enter Tryd.func66, Tryd.ntmps66
    go_wp2
    go_ret
    exact ⟨rfl, rfl⟩
  · have t0 : (b.tmod 2 == 0) = false := by simp; exact fun h => hb ((tmod_two b).1 h)
    have t0' : (b.tmod 2 != 0) = true := by simp; exact fun h => hb ((tmod_two b).1 h)
    have t1 : (b - 1).tdiv 2 = b / 2 := by rw [tdiv_even (by omega)]; omega
    obtain ⟨q, hq⟩ : ∃ q, q = b / 2 := ⟨_, rfl⟩
    rw [← hq] at t1 ⊢
    have hq1 : -1073741824 ≤ q := by omega
    have hq2 : q ≤ 1073741823 := by omega
    have hq3 : b - 1 = 2 * q := by omega
    have HQ := Lib.hid hq3
    clear hq hb hq3
    go_enter Tryd.func66, Tryd.ntmps66
    go_wp2
    go_ret
    exact ⟨by simp [t1], rfl⟩

theorem number_w (b : Int) (w : World) (h0 : -2147483648 ≤ b) (h1 : b ≤ 2147483647) : Calls Tryd.prog 66 #[.int .i32 b] w fun e w' => e = .returned (.int .i64 (b / 2)) ∧ w = w' :=
  (number_any b w h0 h1).mono fun _ _ k => ⟨k.1, k.2.symm⟩

set_option maxRecDepth 100000 in
set_option maxHeartbeats 1000000 in
theorem rright_any (b : Int) (w : World) (h0 : -2147483648 ≤ b) (h1 : b ≤ 2147483647) : Calls Tryd.prog 55 #[.int .i32 b] w fun e w' => e = .returned (.bool (rightB b)) ∧ w = w' := by
  by_cases e0 : b = 2147483647
  · subst e0
    go_enter Tryd.func55, Tryd.ntmps55
    go_wp2
    go_ret
    exact ⟨rfl, rfl⟩
  · have t0 : (b == 2147483647) = false := by simp [e0]
    by_cases e1 : -536870912 ≤ b
    · have d1 : decide ((-268435456 : Int) ≤ b / 2) = true := decide_eq_true (by omega)
      by_cases e2 : b ≤ 536870913
      · have d2 : decide (b / 2 ≤ 268435456) = true := decide_eq_true (by omega)
        have hr : rightB b = true := by unfold rightB; exact decide_eq_true (.inr ⟨e1, e2⟩)
        rw [hr]
        clear hr
        go_enter Tryd.func55, Tryd.ntmps55
        go_wp2_with (go_at_call 66; refine (number_w _ _ (by omega) (by omega)).mono ?_; rintro e w' ⟨rfl, rfl⟩)
        go_ret
        exact ⟨by simp [*], rfl⟩
      · have d2 : decide (b / 2 ≤ 268435456) = false := decide_eq_false (by omega)
        have hr : rightB b = false := by unfold rightB; exact decide_eq_false (by omega)
        rw [hr]
        clear hr
        go_enter Tryd.func55, Tryd.ntmps55
        go_wp2_with (go_at_call 66; refine (number_w _ _ (by omega) (by omega)).mono ?_; rintro e w' ⟨rfl, rfl⟩)
        go_ret
        exact ⟨by simp [*], rfl⟩
    · have d1 : decide ((-268435456 : Int) ≤ b / 2) = false := decide_eq_false (by omega)
      have hr : rightB b = false := by unfold rightB; exact decide_eq_false (by omega)
      rw [hr]
      clear hr
      go_enter Tryd.func55, Tryd.ntmps55
      go_wp2_with (go_at_call 66; refine (number_w _ _ (by omega) (by omega)).mono ?_; rintro e w' ⟨rfl, rfl⟩)
      go_ret
      exact ⟨by simp [*], rfl⟩


theorem rright_yes (b : Int) (w : World) (h : rightB b = true) (h0 : -2147483648 ≤ b) (h1 : b ≤ 2147483647) : Calls Tryd.prog 55 #[.int .i32 b] w fun e w' => e = .returned (.bool true) ∧ w = w' :=
  (rright_any b w h0 h1).mono fun _ _ k => ⟨by rw [k.1, h], k.2⟩
theorem rright_no (b : Int) (w : World) (h : rightB b = false) (h0 : -2147483648 ≤ b) (h1 : b ≤ 2147483647) : Calls Tryd.prog 55 #[.int .i32 b] w fun e w' => e = .returned (.bool false) ∧ w = w' :=
  (rright_any b w h0 h1).mono fun _ _ k => ⟨by rw [k.1, h], k.2⟩

set_option maxRecDepth 100000 in
set_option maxHeartbeats 1000000 in
theorem rvalue_yes (b : Int) (w : World) (h : someB b = true) :
    Calls Tryd.prog 56 #[.int .i32 b] w fun e w' => e = .returned (.tuple #[.int .i64 (b / 2), .bool (decide (b % 2 = 1)), .bool true]) ∧ w = w' := by
  obtain ⟨hr, hn⟩ : rightB b = true ∧ b ≠ 2147483647 := by simpa [someB] using h
  have hb := rightB_bd hr hn
  have t0 : (b == 2147483647) = false := by simp [hn]
  have HR := Lib.hid hr
  have HN := Lib.hid (fun w => number_w b w (by omega) (by omega))
  obtain ⟨q, hq⟩ : ∃ q, q = b / 2 := ⟨_, rfl⟩
  rw [← hq] at HN ⊢
  have hq1 : -268435456 ≤ q := by omega
  have hq2 : q ≤ 268435456 := by omega
  have hb0 := hb.1
  have hb1 := hb.2
  clear h hr hn hb
  by_cases e : b % 2 = 1
  · rw [decide_eq_true e]
    have t1 : (b == 2 * q) = false := by simp; omega
    have t2 : (b != 2 * q) = true := by simp; omega
    clear hq e
    go_enter Tryd.func56, Tryd.ntmps56
    go_wp2_with (first | (go_at_call 55; refine (rright_yes b _ HR.out (by omega) (by omega)).mono ?_; rintro e w' ⟨rfl, rfl⟩) | (go_at_call 66; refine (HN.out _).mono ?_; rintro e w' ⟨rfl, rfl⟩))
    go_ret3
    exact ⟨by simp [t1, t2], rfl⟩
  · rw [decide_eq_false e]
    have t1 : (b == 2 * q) = true := by simp; omega
    have t2 : (b != 2 * q) = false := by simp; omega
    clear hq e
    go_enter Tryd.func56, Tryd.ntmps56
    go_wp2_with (first | (go_at_call 55; refine (rright_yes b _ HR.out (by omega) (by omega)).mono ?_; rintro e w' ⟨rfl, rfl⟩) | (go_at_call 66; refine (HN.out _).mono ?_; rintro e w' ⟨rfl, rfl⟩))
    go_ret3
    exact ⟨by simp [t1, t2], rfl⟩
set_option maxRecDepth 100000 in
set_option maxHeartbeats 1000000 in
theorem rvalue_no (b : Int) (w : World) (h : someB b = false) (h0 : -2147483648 ≤ b) (h1 : b ≤ 2147483647) :
    Calls Tryd.prog 56 #[.int .i32 b] w fun e w' => e = .returned (.tuple #[.int .i64 0, .bool false, .bool false]) ∧ w = w' := by
  by_cases hn : b = 2147483647
  · subst hn
    clear h
    go_enter Tryd.func56, Tryd.ntmps56
    go_wp2
    go_ret3
    exact ⟨rfl, rfl⟩
  · have t0 : (b == 2147483647) = false := by simp [hn]
    have hr : rightB b = false := by simpa [someB, hn] using h
    have HR := Lib.hid hr
    clear h hn hr
    go_enter Tryd.func56, Tryd.ntmps56
    go_wp2_with (go_at_call 55; refine (rright_no b _ HR.out (by omega) (by omega)).mono ?_; rintro e w' ⟨rfl, rfl⟩)
    go_ret3
    exact ⟨rfl, rfl⟩


end Go.Proofs.YtncgapnooabdgaaDoor

/- The document's answers for bounds: the number of a bound, whether it is right, the sum of two wide ones. -/
namespace Go.Proofs.YtncgapnooabdgaaDoor
open Go Go.RowKit
set_option linter.unusedVariables false
set_option linter.unusedSimpArgs false

theorem wsum_plain {a b : Int} (ha : a ≠ none62) (hb : b ≠ none62) : wsum a b = if a % 2 = 0 ∧ b % 2 = 0 then a + b else a + b - 1 := by
  unfold wsum
  rw [if_neg (by simp [ha, hb])]
  rcases two_cases a b with ⟨h, h1⟩ | ⟨h, h1, h2⟩ <;> rw [h]
  · by_cases c : a % 2 = 0 ∧ b % 2 = 0
    · rw [if_pos c]; omega
    · rw [if_neg c]; omega
  · rw [if_neg (by omega)]; omega

set_option maxRecDepth 100000 in
set_option maxHeartbeats 1000000 in
theorem plus_fin (a b : Int) (w : World) (ha1 : -1152921504606846976 ≤ a) (ha2 : a ≤ 1152921504606846976) (hb1 : -1152921504606846976 ≤ b) (hb2 : b ≤ 1152921504606846976) :
    Calls Tryd.prog 77 #[.int .i64 a, .int .i64 b] w fun e w' => e = .returned (.int .i64 (wsum a b)) ∧ w' = w := by
  have t1 : (a == 4611686018427387904) = false := by simp; omega
  have t2 : (b == 4611686018427387904) = false := by simp; omega
  have hs := wsum_plain (a := a) (b := b) (by unfold none62; omega) (by unfold none62; omega)
  by_cases ha : a % 2 = 0
  · have u1 : (a.tmod 2 == 0) = true := by simp; exact (tmod_two a).2 ha
    have u1' : (a.tmod 2 != 0) = false := by simp; exact (tmod_two a).2 ha
    have u1'' : a.tmod 2 = 0 := (tmod_two a).2 ha
    by_cases hb : b % 2 = 0
    · have u2 : (b.tmod 2 == 0) = true := by simp; exact (tmod_two b).2 hb
      have u2' : (b.tmod 2 != 0) = false := by simp; exact (tmod_two b).2 hb
      have u2'' : b.tmod 2 = 0 := (tmod_two b).2 hb
      rw [hs, if_pos ⟨ha, hb⟩]
      clear hs ha hb
      go_enter Tryd.func77, Tryd.ntmps77
      go_wp2
      go_ret
      exact ⟨rfl, rfl⟩
    · have u2 : (b.tmod 2 == 0) = false := by simp; exact fun h => hb ((tmod_two b).1 h)
      have u2' : (b.tmod 2 != 0) = true := by simp; exact fun h => hb ((tmod_two b).1 h)
      rw [hs, if_neg (fun h => hb h.2)]
      clear hs ha hb
      go_enter Tryd.func77, Tryd.ntmps77
      go_wp2
      go_ret
      exact ⟨rfl, rfl⟩
  · have u1 : (a.tmod 2 == 0) = false := by simp; exact fun h => ha ((tmod_two a).1 h)
    have u1' : (a.tmod 2 != 0) = true := by simp; exact fun h => ha ((tmod_two a).1 h)
    rw [hs, if_neg (fun h => ha h.1)]
    clear hs ha
    go_enter Tryd.func77, Tryd.ntmps77
    go_wp2
    go_ret
    exact ⟨rfl, rfl⟩

set_option maxRecDepth 100000 in
set_option maxHeartbeats 1000000 in
theorem plus_left (b : Int) (w : World) :
    Calls Tryd.prog 77 #[.int .i64 4611686018427387904, .int .i64 b] w fun e w' => e = .returned (.int .i64 4611686018427387904) ∧ w' = w := by
  go_enter Tryd.func77, Tryd.ntmps77
  go_wp2
  go_ret
  exact ⟨rfl, rfl⟩
set_option maxRecDepth 100000 in
set_option maxHeartbeats 1000000 in
theorem plus_right (a : Int) (w : World) :
    Calls Tryd.prog 77 #[.int .i64 a, .int .i64 4611686018427387904] w fun e w' => e = .returned (.int .i64 4611686018427387904) ∧ w' = w := by
  by_cases h : a = 4611686018427387904
  · subst h; exact plus_left _ _
  · have t1 : (a == 4611686018427387904) = false := by simp; omega
    clear h
    go_enter Tryd.func77, Tryd.ntmps77
    go_wp2
    go_ret
    exact ⟨rfl, rfl⟩
theorem plus_still (a b : Int) (w : World) (ha : Bd 1152921504606846976 a) (hb : Bd 1152921504606846976 b) :
    Calls Tryd.prog 77 #[.int .i64 a, .int .i64 b] w fun e w' => e = .returned (.int .i64 (wsum a b)) ∧ w' = w := by
  rcases ha with rfl | ha
  · have : wsum none62 b = 4611686018427387904 := by simp [wsum, none62]
    rw [this]; exact plus_left _ _
  · rcases hb with rfl | hb
    · have : wsum a none62 = 4611686018427387904 := by simp [wsum, none62]
      rw [this]; exact plus_right _ _
    · exact plus_fin a b w ha.1 ha.2 hb.1 hb.2

end Go.Proofs.YtncgapnooabdgaaDoor

/- The document's close over a row of wide bounds: the same closed form. -/
namespace Go.Proofs.YtncgapnooabdgaaDoor
open Go Go.RowKit
set_option linter.unusedVariables false
set_option linter.unusedSimpArgs false

/-- The row is cur; nothing else was touched. -/
def RAt (w0 : World) (g n : Nat) (cur : Mat) (wr : World) : Prop := Only g w0 wr ∧ RowAt wr g 2 .i64 (flat n cur)
theorem RAt.step {w0 wr : World} {g n : Nat} {cur : Mat} (h : RAt w0 g n cur wr) {i j : Nat} (hi : i < n + 1) (hj : j < n + 1) (v : Int) (p : Nat) (hp : p = i * (n + 1) + j) :
    RAt w0 g n (upd cur i j v) (wr.setCell ⟨g, p, none⟩ (.int .i64 v)) := by
  subst hp
  refine ⟨h.1.setCell _ _, ?_⟩
  rw [← flat_upd cur hi hj v]
  exact h.2.set _ _
theorem RAt.cell {w0 wr : World} {g n : Nat} {cur : Mat} (h : RAt w0 g n cur wr) {i j : Nat} (hi : i < n + 1) (hj : j < n + 1) (p : Nat) (hp : p = i * (n + 1) + j) :
    wr.cell? ⟨g, p, none⟩ = some (.int .i64 (cur i j)) := by
  subst hp
  have := h.2.cell (i * (n + 1) + j) (by rw [flat_length]; exact at_lt hi hj)
  rwa [flat_at cur hi hj] at this
theorem RAt.drewN {w0 wr : World} {g n : Nat} {cur : Mat} (h : RAt w0 g n cur wr) (q : Nat) : RAt w0 g n cur (wr.drewN q) := ⟨h.1.drewN q, h.2⟩

def ROuter (w0 : World) (b n : Nat) (m0 : Mat) (g k : Nat) (m : Mat) (wr : World) : Prop := RAt w0 b n m wr ∧ RoundOk n m0 k m ∧ g + k = n + 1
def RMid (w0 : World) (b n : Nat) (m : Mat) (k g i : Nat) (cur : Mat) (wr : World) : Prop :=
  RAt w0 b n cur wr ∧ RefOk n (1073741824 * 4 ^ k) m k i 0 cur ∧ i ≤ n + 1 ∧ g + i = n + 1
def RInn (w0 : World) (b n : Nat) (m : Mat) (k i g j : Nat) (cur : Mat) (wr : World) : Prop :=
  RAt w0 b n cur wr ∧ RefOk n (1073741824 * 4 ^ k) m k i j cur ∧ j ≤ n + 1 ∧ g + j = n + 1
def RTest (w0 : World) (b n : Nat) (m : Mat) (k g i : Nat) (cur : Mat) (wr : World) : Prop :=
  RAt w0 b n cur wr ∧ RefOk n (1073741824 * 4 ^ k) m k (n + 1) 0 cur ∧ (∀ a, a < i → 1 ≤ cur a a) ∧ i ≤ n + 1 ∧ g + i = n + 1

theorem RInn.bounds {w0 wr : World} {b n : Nat} {m m0 cur : Mat} {k i g j : Nat} (h : RInn w0 b n m k i g j cur wr) (hr : RoundOk n m0 k m) (hn : n ≤ 8) (hk : k ≤ n) {a c : Nat} (ha : a ≤ n) (hc : c ≤ n) :
    Bd 1152921504606846976 (cur a c) := by
  have h4 := pow2_le (show k ≤ 9 by omega)
  have h1 := one_le_pow2 k
  exact (h.2.1.bounds hr.fit (by omega) hk ha hc).mono (by omega)
theorem RInn.stepTo {w0 wr : World} {b n : Nat} {m m0 cur : Mat} {k i g j : Nat} (h : RInn w0 b n m k i g j cur wr) (hr : RoundOk n m0 k m) (hk : k ≤ n) (hi : i ≤ n) (hj : j ≤ n) (hlt : wsum (cur i k) (cur k j) < cur i j) (p : Nat) (hp : p = i * (n + 1) + j) :
    RInn w0 b n m k i (g - 1) (j + 1) (upd cur i j (wsum (cur i k) (cur k j))) (wr.setCell ⟨b, p, none⟩ (.int .i64 (wsum (cur i k) (cur k j)))) := by
  have h1 := one_le_pow2 k
  have hs := h.2.1.step hr.fit (by omega) hk hi hj
  rw [show min (cur i j) (wsum (cur i k) (cur k j)) = wsum (cur i k) (cur k j) by rw [Int.min_def, if_neg (by omega)]] at hs
  have := h.2.2.2
  exact ⟨h.1.step (by omega) (by omega) _ p hp, hs, by omega, by omega⟩
theorem RInn.stepSame {w0 wr : World} {b n : Nat} {m m0 cur : Mat} {k i g j : Nat} (h : RInn w0 b n m k i g j cur wr) (hr : RoundOk n m0 k m) (hk : k ≤ n) (hi : i ≤ n) (hj : j ≤ n) (hlt : ¬ wsum (cur i k) (cur k j) < cur i j) :
    RInn w0 b n m k i (g - 1) (j + 1) cur wr := by
  have h1 := one_le_pow2 k
  have hs := h.2.1.step hr.fit (by omega) hk hi hj
  have e : upd cur i j (min (cur i j) (wsum (cur i k) (cur k j))) = cur := by
    rw [show min (cur i j) (wsum (cur i k) (cur k j)) = cur i j by rw [Int.min_def, if_pos (by omega)]]
    funext a c; simp only [upd]; split
    · rename_i h; rw [h.1, h.2]
    · rfl
  rw [e] at hs
  have := h.2.2.2
  exact ⟨h.1, hs, by omega, by omega⟩
theorem RInn.drewN {w0 wr : World} {b n : Nat} {m cur : Mat} {k i g j : Nat} (h : RInn w0 b n m k i g j cur wr) (q : Nat) : RInn w0 b n m k i g j cur (wr.drewN q) := ⟨h.1.drewN q, h.2⟩

def RCloseEnds (w0 : World) (g n : Nat) (m0 : Mat) (e : Ending) (w' : World) : Prop :=
  Only g w0 w' ∧ ((closed n m0 = none ∧ e = .returned (.bool false)) ∨ ∃ m', closed n m0 = some m' ∧ e = .returned (.bool true) ∧ RowAt w' g 2 .i64 (flat n m'))

theorem prod_facts (i n : Nat) (hi : i ≤ n) (hn : n ≤ 8) : ∃ P : Nat, (i : Int) * ((n : Int) + 1) = (P : Int) ∧ P ≤ 72 ∧ P = i * (n + 1) ∧ P + n < (n + 1) * (n + 1) := by
  refine ⟨i * (n + 1), by simp, ?_, rfl, at_lt (by omega) (by omega)⟩
  have := Nat.mul_le_mul (show i ≤ 8 by omega) (show n + 1 ≤ 9 by omega)
  omega

set_option maxRecDepth 100000 in
set_option maxHeartbeats 2000000 in
theorem rclose_any (g n N cap : Nat) (m0 : Mat) (w : World) (hn : n ≤ 8) (hN : N = (n + 1) * (n + 1)) (h : RowAt w g 2 .i64 (flat n m0)) (hf : Fit n 1073741824 m0) :
    Calls Tryd.prog 69 #[.int .i64 n, .slice (some ⟨g, 0, none⟩) N cap] w (RCloseEnds w g n m0) := by
  have H0 := Lib.hid (show ROuter w g n m0 (n + 1) 0 m0 w from ⟨⟨Only.refl _ _, h⟩, RoundOk.start hf, by omega⟩)
  have HN := Lib.hid hN
  have hN81 : N ≤ 81 := by
    have := Nat.mul_le_mul (show n + 1 ≤ 9 by omega) (show n + 1 ≤ 9 by omega)
    omega
  clear h hf hN
  go_enter Tryd.func69, Tryd.ntmps69
  go_wp2
  go_loopg [5] (n + 1) (fun q v wr => ∃ k : Nat, ∃ m, v = .int .i64 k ∧ ROuter w g n m0 q k m wr)
  case atStart => exact ⟨0, m0, by simp, H0.out⟩
  case round =>
    clear H0
    obtain ⟨k, m, rfl, H⟩ := hrel
    have HK := Lib.hid H
    clear H
    by_cases hk : k ≤ n
    · have hkk : (k : Int) ≤ (n : Int) := by omega
      have H1 := Lib.hid (show RMid w g n m k (n + 1) 0 m wr from ⟨HK.out.1, HK.out.2.1.ref (by omega), by omega, by omega⟩)
      go_wp2
      go_loopg [6] (n + 1) (fun q v wr => ∃ i : Nat, ∃ cur, v = .int .i64 i ∧ RMid w g n m k q i cur wr)
      case atStart => exact ⟨0, m, by simp, H1.out⟩
      case round =>
        clear H1
        obtain ⟨i, cur, rfl, H⟩ := hrel
        have HI := Lib.hid H
        clear H
        by_cases hi : i ≤ n
        · have hii : (i : Int) ≤ (n : Int) := by omega
          have H1 := Lib.hid (show RInn w g n m k i (n + 1) 0 cur wr from ⟨HI.out.1, HI.out.2.1, by omega, by omega⟩)
          go_wp2
          go_loopg [7] (n + 1) (fun q v wr => ∃ j : Nat, ∃ cur, v = .int .i64 j ∧ RInn w g n m k i q j cur wr)
          case atStart => exact ⟨0, cur, by simp, H1.out⟩
          case round =>
            clear H1
            obtain ⟨j, cur, rfl, H⟩ := hrel
            have HJ := Lib.hid H
            clear H
            by_cases hj : j ≤ n
            · have hjj : (j : Int) ≤ (n : Int) := by omega
              obtain ⟨P, hP, hP1, hP2, hP3⟩ := prod_facts i n hi hn
              obtain ⟨Q, hQ, hQ1, hQ2, hQ3⟩ := prod_facts k n hk hn
              have hPN : P + n < N := by have := HN.out; omega
              have hQN : Q + n < N := by have := HN.out; omega
              have c1 := HJ.out.1.cell (i := i) (j := k) (by omega) (by omega) (P + k) (by omega)
              have c2 := HJ.out.1.cell (i := k) (j := j) (by omega) (by omega) (Q + j) (by omega)
              have c3 := HJ.out.1.cell (i := i) (j := j) (by omega) (by omega) (P + j) (by omega)
              have f1 := HJ.out.1.2.frozen (P + j)
              have HP2 := Lib.hid hP2
              have HQ2 := Lib.hid hQ2
              clear hP2 hQ2 hP3 hQ3
              have HB1 := Lib.hid (HJ.out.bounds HK.out.2.1 hn hk hi hk)
              have HB2 := Lib.hid (HJ.out.bounds HK.out.2.1 hn hk hk hj)
              have g1 : IntKind.i64.wrap ((n : Int) + 1) = (n : Int) + 1 := IntWalk.i64_in _ (by omega)
              have g2 : IntKind.i64.wrap (P : Int) = (P : Int) := IntWalk.i64_in _ (by omega)
              have g3 : IntKind.i64.wrap ((P : Int) + (k : Int)) = (P : Int) + (k : Int) := IntWalk.i64_in _ (by omega)
              have g4 : IntKind.i64.wrap (Q : Int) = (Q : Int) := IntWalk.i64_in _ (by omega)
              have g5 : IntKind.i64.wrap ((Q : Int) + (j : Int)) = (Q : Int) + (j : Int) := IntWalk.i64_in _ (by omega)
              have l1 : (P : Int) + (k : Int) < (N : Int) := by omega
              have l2 : (Q : Int) + (j : Int) < (N : Int) := by omega
              have l3 : 0 ≤ (P : Int) + (k : Int) := by omega
              have l4 : 0 ≤ (Q : Int) + (j : Int) := by omega
              have n1 : ((P : Int) + (k : Int)).toNat = P + k := by omega
              have n2 : ((Q : Int) + (j : Int)).toNat = Q + j := by omega
              go_wp2_with fail
              go_quiet ((go_at_call 77; exact Calls.quiet_of_same (plus_still _ _ _ (by exact HB1.out) (by exact HB2.out))))
              have HQ := Lib.hid (HJ.out.drewN nq)
              clear g1 g2 g3 g4 g5 n1 n2
              by_cases hlt : wsum (cur i k) (cur k j) < cur i j
              · have HS := Lib.hid (HQ.out.stepTo HK.out.2.1 hk hi hj hlt (P + j) (by rw [HP2.out]))
                go_wp2
                go_roundg (gk - 1)
                case measure => have h := HJ.out.2.2.2; omega
                case rel => exact ⟨j + 1, _, by go_num, HS.out⟩
              · have HS := Lib.hid (HQ.out.stepSame HK.out.2.1 hk hi hj hlt)
                go_wp2
                go_roundg (gk - 1)
                case measure => have h := HJ.out.2.2.2; omega
                case rel => exact ⟨j + 1, _, by go_num, HS.out⟩
            · have hjj : ¬ (j : Int) ≤ (n : Int) := by omega
              have e : j = n + 1 := by have := HJ.out.2.2.1; omega
              have HS := Lib.hid (show RMid w g n m k (n - i) (i + 1) cur wr from ⟨HJ.out.1, (by have := HJ.out.2.1; rw [e] at this; exact this.row), by omega, by omega⟩)
              clear e
              go_wp2
              go_roundg (n - i)
              case measure => have h := HI.out.2.2.2; omega
              case rel => exact ⟨i + 1, _, by go_num, HS.out⟩
        · have hii : ¬ (i : Int) ≤ (n : Int) := by omega
          have e : i = n + 1 := by have := HI.out.2.2.1; omega
          have H1 := Lib.hid (show RTest w g n m k (n + 1) 0 cur wr from ⟨HI.out.1, (by have := HI.out.2.1; rw [e] at this; exact this), fun a ha => by omega, by omega, by omega⟩)
          clear e
          go_wp2
          go_loopg [9] (n + 1) (fun q v wr => ∃ i : Nat, v = .int .i64 i ∧ RTest w g n m k q i cur wr)
          case atStart => exact ⟨0, by simp, H1.out⟩
          case round =>
            clear H1
            obtain ⟨a, rfl, H⟩ := hrel
            have HT := Lib.hid H
            clear H
            by_cases ha : a ≤ n
            · have haa : (a : Int) ≤ (n : Int) := by omega
              obtain ⟨P, hP, hP1, hP2, hP3⟩ := prod_facts a n ha hn
              have hPN : P + n < N := by have := HN.out; omega
              have c1 := HT.out.1.cell (i := a) (j := a) (by omega) (by omega) (P + a) (by omega)
              clear hP2 hP3
              by_cases hd : cur a a < 1
              · go_wp2
                go_ret
                exact ⟨HT.out.1.1, .inl ⟨RefOk.fail HK.out.2.1 hk HT.out.2.1 ha hd, rfl⟩⟩
              · have HD := Lib.hid hd
                go_wp2
                go_roundg (gk - 1)
                case measure => have h := HT.out.2.2.2.2; omega
                case rel =>
                  refine ⟨a + 1, by go_num, HT.out.1, HT.out.2.1, fun b hb => ?_, by omega, by have h := HT.out.2.2.2.2; omega⟩
                  by_cases e : b = a
                  · subst e; have h := HD.out; omega
                  · exact HT.out.2.2.1 b (by omega)
            · have haa : ¬ (a : Int) ≤ (n : Int) := by omega
              have HS := Lib.hid (show ROuter w g n m0 (n - k) (k + 1) cur wr from ⟨HT.out.1, RefOk.next HK.out.2.1 hk HT.out.2.1 (fun i hi => HT.out.2.2.1 i (by omega)), by omega⟩)
              go_wp2
              go_roundg (n - k)
              case measure => have h := HK.out.2.2; omega
              case rel => exact ⟨k + 1, _, by go_num, HS.out⟩
    · have hkk : ¬ (k : Int) ≤ (n : Int) := by omega
      go_wp2
      go_ret
      have e : k = n + 1 := by have := HK.out.2.1.le; omega
      have hd := HK.out.2.1
      rw [e] at hd
      exact ⟨HK.out.1.1, .inr ⟨m, hd.done, rfl, HK.out.1.2⟩⟩

end Go.Proofs.YtncgapnooabdgaaDoor

/- The document's zones, made of bounds. -/
namespace Go.Proofs.YtncgapnooabdgaaDoor
open Go Go.RowKit
set_option linter.unusedVariables false
set_option linter.unusedSimpArgs false

theorem infoI : (Tryd.prog.info? 2).map (fun i => (i.zero, i.size, i.bytes)) = some (some (.int .i64 0), 1, 8) := by kernel_rfl
theorem infoRB : (Tryd.prog.info? 44).map (fun i => (i.zero, i.size, i.bytes)) = some (some (.int .i32 0), 1, 4) := by kernel_rfl

/-- The wide row, so far. -/
def WideR (w0 : World) (l : List Int) (p : Nat) (v : Value) (wr : World) : Prop :=
  Below w0.heap.size w0 wr ∧ wr.ownsRow w0.heap.size 2 1 v p (vals .i64 (widUp l p)) ∧ p ≤ l.length
theorem WideR.next {w0 wr w1 : World} {l : List Int} {p : Nat} {v v' : Value} {o : Obj} (h : WideR w0 l p v wr) (hp : p < l.length) (x : Int) (hx : x = wid (l.getD p 0))
    (hown : w1.ownsRow w0.heap.size 2 1 v' (p + 1) (vals .i64 (widUp l p) ++ [.int .i64 x])) (hg : (wr.alloc o).grownBy w1 v.ownBlock) : WideR w0 l (p + 1) v' w1 := by
  refine ⟨(h.1.alloc h.1.size o).grown hg (by have := h.1.size; simp; omega) (fun k hk => (h.2.1.lt k hk).1), ?_, by omega⟩
  have e : vals .i64 (widUp l (p + 1)) = vals .i64 (widUp l p) ++ [.int .i64 x] := by rw [hx]; simp [vals, widUp]
  rw [e]; exact hown

set_option maxRecDepth 100000 in
set_option maxHeartbeats 2000000 in
theorem wide_any (A : Option Addr) (c : Nat) (l : List Int) (w : World) (hI : Ints w .i32 A l) (hl : l.length ≤ 1000) (hr : ∀ q, q < l.length → -2147483648 ≤ l.getD q 0 ∧ l.getD q 0 ≤ 2147483647) :
    Calls Tryd.prog 60 #[.slice A l.length c] w fun e w' => ∃ v, e = .returned v ∧ WideR w l l.length v w' := by
  have HI := Lib.hid hI
  have HR := Lib.hid hr
  clear hI hr
  obtain ⟨i0, hi, hz0, hz1, hz2⟩ := info_parts infoI
  have HInf := Lib.hid (And.intro hi (And.intro hz0 (And.intro hz1 hz2)))
  clear hi hz0 hz1 hz2
  have HS := Lib.hid (show WideR w l 0 (.slice none 0 0) w from ⟨Below.refl _ _, by simpa [widUp, vals] using World.ownsRow_nil w _ _ _, by omega⟩)
  go_enter Tryd.func60, Tryd.ntmps60
  go_wp2
  go_loopg [3, 4] l.length (fun g v x wr => ∃ p : Nat, x = .int .i64 p ∧ WideR w l p v wr ∧ Hid (g + p = l.length))
  case atStart => exact ⟨0, by simp, HS.out, by show _ = _; omega⟩
  case round =>
    clear HS
    obtain ⟨p, rfl, H, HG⟩ := hrel
    have HW := Lib.hid H
    clear H
    by_cases hp : p < l.length
    · obtain ⟨b, off, rfl, hc⟩ := HI.out.below HW.out.1 p hp
      have hb := HR.out p hp
      obtain ⟨x, hx⟩ : ∃ x, x = l.getD p 0 := ⟨_, rfl⟩
      rw [← hx] at hc hb
      have HX := Lib.hid hx
      clear hx
      obtain ⟨hb0, hb1⟩ := hb
      by_cases hinf : x = 2147483647
      · subst hinf
        go_wp2_with (at_builtin; refine wpList_append_own _ rfl _ _ 58 rfl w.heap.size 2 i0 (.int .i64 0) 1 8 Tryd.underlying58 HInf.out.1 HInf.out.2.1 HInf.out.2.2.1 HInf.out.2.2.2 rfl (by decide) _ _ _ rfl (HW.out.2.1.alloc _) ⟨wr.heap.size, 0, none⟩ 1 1 [.int .i64 4611686018427387904] rfl rfl (cell_one_new _ _ _) (by intro u hu; simp at hu; subst hu; rfl) ?c3 ?c4 ?c5 ?_)
        case c3 => unfold maxLen; omega
        case c4 => omega
        case c5 => have := HW.out.1.size; simp; omega
        intro v' w1 hown hgrow _
        have HN := Lib.hid (HW.out.next hp 4611686018427387904 (by rw [← HX.out]; rfl) hown hgrow)
        clear hown hgrow
        go_wp2
        go_roundg (gk - 1)
        case measure => have h := HG.out; omega
        case rel => exact ⟨p + 1, by go_num, HN.out, by have h := HG.out; show _ = _; omega⟩
      · have t1 : (x == 2147483647) = false := by simp [hinf]
        have HNI := Lib.hid hinf
        clear hinf
        go_wp2_with (at_builtin; refine wpList_append_own _ rfl _ _ 58 rfl w.heap.size 2 i0 (.int .i64 0) 1 8 Tryd.underlying58 HInf.out.1 HInf.out.2.1 HInf.out.2.2.1 HInf.out.2.2.2 rfl (by decide) _ _ _ rfl (HW.out.2.1.alloc _) ⟨wr.heap.size, 0, none⟩ 1 1 [.int .i64 x] rfl rfl (cell_one_new _ _ _) (by intro u hu; simp at hu; subst hu; rfl) ?c3 ?c4 ?c5 ?_)
        case c3 => unfold maxLen; omega
        case c4 => omega
        case c5 => have := HW.out.1.size; simp; omega
        intro v' w1 hown hgrow _
        have HN := Lib.hid (HW.out.next hp x (by rw [← HX.out]; unfold wid; rw [if_neg HNI.out]) hown hgrow)
        clear hown hgrow
        go_wp2
        go_roundg (gk - 1)
        case measure => have h := HG.out; omega
        case rel => exact ⟨p + 1, by go_num, HN.out, by have h := HG.out; show _ = _; omega⟩
    · have e : p = l.length := by have := HW.out.2.2; omega
      subst e
      go_wp2
      go_ret
      exact ⟨_, rfl, HW.out⟩

end Go.Proofs.YtncgapnooabdgaaDoor

/- The document's zone: the empty one; the one of wide cells, or the error. -/
namespace Go.Proofs.YtncgapnooabdgaaDoor
open Go Go.RowKit
set_option linter.unusedVariables false
set_option linter.unusedSimpArgs false

/-- A zone of the document's, or nil. -/
def RefZ (w : World) (v : Value) : Option (Nat × Mat) → Prop
  | none => v = .pointer none
  | some (n, m) => ∃ b g cap, v = .pointer (some ⟨b, 0, none⟩) ∧ n ≤ 8 ∧ RightM n m ∧
      w.heap[b]? = some (.cells #[.int .i64 n, .slice (some ⟨g, 0, none⟩) ((n + 1) * (n + 1)) cap] 90 (0, 0)) ∧ RowAt w g 44 .i32 (flat n m)
theorem RefZ.below {w w' : World} {v : Value} {z : Option (Nat × Mat)} (h : RefZ w v z) (hb : Below w.heap.size w w') : RefZ w' v z := by
  match z, h with
  | none, h => exact h
  | some (n, m), ⟨b, g, cap, h1, hn, hr, h2, h3⟩ => exact ⟨b, g, cap, h1, hn, hr, (hb.block b (Array.getElem?_eq_some_iff.1 h2).1).trans h2, h3.later hb⟩
/-- A function that makes a zone of the document's ends with this answer. -/
def MakesR (w0 : World) (n : Nat) (r : Option Mat × Int) (e : Ending) (w' : World) : Prop :=
  Below w0.heap.size w0 w' ∧ ∃ v, e = .returned (.tuple #[v, .int .i64 r.2]) ∧ RefZ w' v (r.1.map fun m => (n, m))

theorem zeros_row (w : World) (N : Nat) (xs : List Int) (hl : xs.length = N) (hx : ∀ p, p < N → xs.getD p 0 = 0) : RowAt (w.alloc (.cells (madeCells #[.int .i32 0] N) 44)) w.heap.size 44 .i32 xs := by
  refine ⟨_, heap_alloc_new _ _, ?_⟩
  subst hl
  apply List.ext_getElem?
  intro p
  by_cases hp : p < xs.length
  · have := hx p hp
    rw [List.getD_eq_getElem?_getD, List.getElem?_eq_getElem hp] at this
    have e : xs[p] = 0 := this
    simp [madeCells, vals, hp, e, Nat.mod_one]
  · simp [madeCells, vals, hp]

set_option maxRecDepth 100000 in
set_option maxHeartbeats 1000000 in
theorem empty1_any (n : Nat) (w : World) (hn : n ≤ 8) :
    Calls Tryd.prog 70 #[.int .i64 n] w fun e w' => ∃ v, e = .returned v ∧ Below w.heap.size w w' ∧ RefZ w' v (some (n, fun _ _ => 0)) := by
  obtain ⟨N, hN⟩ : ∃ N : Nat, N = (n + 1) * (n + 1) := ⟨_, rfl⟩
  have hNi : ((n : Int) + 1) * ((n : Int) + 1) = (N : Int) := by rw [hN]; simp
  have hN81 : N ≤ 81 := by
    have := Nat.mul_le_mul (show n + 1 ≤ 9 by omega) (show n + 1 ≤ 9 by omega)
    omega
  have HN := Lib.hid hN
  clear hN
  have hmk := run_make_row' (P := Tryd.prog) 22 44 (.int .i32 0) 4 Tryd.underlying22 infoRB rfl .i64 .i64 N (by omega) (by omega)
  go_enter Tryd.func70, Tryd.ntmps70
  go_wp2
  go_ret
  have hB : Below w.heap.size w (w.alloc (.cells (madeCells #[.int .i32 0] N) 44)) := (Below.refl _ _).alloc (Nat.le_refl _) _
  have hrow := zeros_row w N (flat n (fun _ _ => 0)) (by rw [flat_length, HN.out]) (fun p hp => by rw [flat_getD _ _ _ (by rw [← HN.out]; exact hp)])
  refine ⟨_, rfl, hB.alloc hB.size _, w.heap.size + 1, w.heap.size, N, rfl, hn, right_zero n, ?_, hrow.later ((Below.refl _ _).alloc (Nat.le_refl _) _)⟩
  rw [← HN.out]
  have := heap_alloc_new (w.alloc (.cells (madeCells #[.int .i32 0] N) 44)) (.cells #[.int .i64 n, .slice (some ⟨w.heap.size, 0, none⟩) N N] 90)
  simpa using this

/-! ### made -/
def ClR (w0 : World) (g n : Nat) (m : Mat) (q i : Nat) (wr : World) : Prop := RAt w0 g n (clUp m i) wr ∧ i ≤ n + 1 ∧ q + i = n + 1
def store1 (c : Bool) (w : World) (a : Addr) : World := if c then w.setCell a (.int .i64 1) else w
theorem RAt.store1 {w0 wr : World} {g n : Nat} {cur : Mat} (h : RAt w0 g n cur wr) {i j : Nat} (hi : i < n + 1) (hj : j < n + 1) (p : Nat) (hp : p = i * (n + 1) + j) (c : Bool) (hc : c = decide (1 < cur i j)) :
    RAt w0 g n (upd cur i j (min (cur i j) 1)) (store1 c wr ⟨g, p, none⟩) := by
  subst hc
  by_cases hlt : 1 < cur i j
  · rw [decide_eq_true hlt]
    have e : min (cur i j) 1 = 1 := by rw [Int.min_def, if_neg (by omega)]
    rw [e]
    exact h.step hi hj 1 p hp
  · rw [decide_eq_false hlt]
    have e : upd cur i j (min (cur i j) 1) = cur := by
      have : min (cur i j) 1 = cur i j := by rw [Int.min_def, if_pos (by omega)]
      rw [this]
      funext a c; simp only [upd]; split
      · rename_i h; rw [h.1, h.2]
      · rfl
    rw [e]
    exact h
theorem ClR.next {w0 wr : World} {g n : Nat} {m : Mat} {q i : Nat} (h : ClR w0 g n m q i wr) (hi : i < n + 1) (p : Nat) (hp : p = i * (n + 1) + i) (c1 c2 : Bool) (h1 : c1 = decide (1 < m i i)) (h2 : c2 = decide (1 < upd (clUp m i) i i (min (clUp m i i i) 1) 0 i)) :
    ClR w0 g n m (q - 1) (i + 1) (store1 c2 (store1 c1 wr ⟨g, p, none⟩) ⟨g, i, none⟩) := by
  have ha := h.1.store1 hi hi p hp c1 (by rw [clUp_at]; exact h1)
  have hb := ha.store1 (i := 0) (j := i) (by omega) hi i (by omega) c2 h2
  rw [clUp_step] at hb
  have := h.2.2
  exact ⟨hb, by omega, by omega⟩

/-- The zone's own cells, so far. -/
def BuildR (w1 : World) (zb g n N : Nat) (m : Mat) (p : Nat) (sv : Value) (wr : World) : Prop :=
  Below zb w1 wr ∧ zb < w1.heap.size ∧ w1.heap.size ≤ wr.heap.size ∧ wr.heap[zb]? = some (.cells #[.int .i64 n, sv] 90 (0, 0)) ∧ wr.ownsRow (zb + 1) 44 1 sv p (vals .i32 (narUp (flat n m) p)) ∧
  (∀ q, q < p → inR ((flat n m).getD q 0)) ∧ p ≤ N
theorem BuildR.cell {w1 wr : World} {zb g n N : Nat} {m : Mat} {p : Nat} {sv : Value} (h : BuildR w1 zb g n N m p sv wr) : wr.cell? ⟨zb, 1, none⟩ = some sv := by
  simp [World.cell?, h.2.2.2.1]
theorem BuildR.frozen {w1 wr : World} {zb g n N : Nat} {m : Mat} {p : Nat} {sv : Value} (h : BuildR w1 zb g n N m p sv wr) : wr.frozen? ⟨zb, 1, none⟩ = false := by
  simp [World.frozen?, h.2.2.2.1]
/-- What an append to the zone's cells leaves, ahead of the store into the field. -/
structure Appended (w1 : World) (zb g n N : Nat) (m : Mat) (p : Nat) (sv sv' : Value) (w2 : World) : Prop where
  below : Below zb w1 w2
  lt : zb < w1.heap.size
  size : w1.heap.size ≤ w2.heap.size
  cell : w2.heap[zb]? = some (.cells #[.int .i64 n, sv] 90 (0, 0))
  own : w2.ownsRow (zb + 1) 44 1 sv' (p + 1) (vals .i32 (narUp (flat n m) (p + 1)))
theorem BuildR.append {w1 wr w2 : World} {zb g n N : Nat} {m : Mat} {p : Nat} {sv sv' : Value} {o : Obj} (h : BuildR w1 zb g n N m p sv wr) (x : Int) (hx : x = nar ((flat n m).getD p 0)) (q : Nat)
    (hown : w2.ownsRow (zb + 1) 44 1 sv' (p + 1) (vals .i32 (narUp (flat n m) p) ++ [.int .i32 x])) (hg : ((wr.alloc o).drewN q).grownBy w2 sv.ownBlock) : Appended w1 zb g n N m p sv sv' w2 := by
  have hne : ∀ k, sv.ownBlock = some k → zb + 1 ≤ k := fun k hk => (h.2.2.2.2.1.lt k hk).1
  have hsz := h.2.2.1
  have hlt := h.2.1
  have hs2 := hg.size
  have hsa : ((wr.alloc o).drewN q).heap.size = wr.heap.size + 1 := by simp
  have ha : Below zb w1 ((wr.alloc o).drewN q) := belowN (h.1.alloc (by omega) o) q
  refine ⟨ha.grown hg (by omega) (fun k hk => by have := hne k hk; omega), hlt, by omega, ?_, ?_⟩
  · rw [hg.block zb (by omega) (fun e => by have := hne zb e.symm; omega)]
    show (wr.alloc o).heap[zb]? = _
    exact (heap_alloc_old wr o (show zb < wr.heap.size by omega)).trans h.2.2.2.1
  · have e : vals .i32 (narUp (flat n m) (p + 1)) = vals .i32 (narUp (flat n m) p) ++ [.int .i32 x] := by rw [hx]; simp [vals, narUp]
    rw [e]; exact hown
theorem Appended.store {w1 w2 : World} {zb g n N : Nat} {m : Mat} {p : Nat} {sv sv' : Value} (h : Appended w1 zb g n N m p sv sv' w2) (hin : ∀ q, q < p → inR ((flat n m).getD q 0)) (hp : inR ((flat n m).getD p 0)) (hN : p < N) :
    BuildR w1 zb g n N m (p + 1) sv' (w2.setCell ⟨zb, 1, none⟩ sv') := by
  refine ⟨h.below.setCell (p := ⟨zb, 1, none⟩) (Nat.le_refl _) _, h.lt, by simpa [World.setCell] using h.size, ?_, ownsRow_setCell_below h.own (by show zb < zb + 1; omega) _, fun q hq => ?_, by omega⟩
  · simp only [World.setCell, Array.getElem?_modify, if_true, h.cell, Option.map_some]
    simp
  · by_cases e : q = p
    · subst e; exact hp
    · exact hin q (by omega)
theorem Appended.at {w1 w2 : World} {zb g n N : Nat} {m : Mat} {p : Nat} {sv sv' : Value} (h : Appended w1 zb g n N m p sv sv' w2) : w2.cell? ⟨zb, 1, none⟩ = some sv ∧ w2.frozen? ⟨zb, 1, none⟩ = false ∧ zb < w2.heap.size := by
  have := h.size
  have := h.lt
  refine ⟨?_, ?_, by omega⟩
  · simp [World.cell?, h.cell]
  · simp [World.frozen?, h.cell]

end Go.Proofs.YtncgapnooabdgaaDoor

/- The document's zone of wide cells. -/
namespace Go.Proofs.YtncgapnooabdgaaDoor
open Go Go.RowKit
set_option linter.unusedVariables false
set_option linter.unusedSimpArgs false

set_option maxRecDepth 100000 in
set_option maxHeartbeats 2000000 in
theorem rmade_any (g n N cap : Nat) (m : Mat) (w : World) (hn : n ≤ 8) (hN : N = (n + 1) * (n + 1)) (h : RowAt w g 2 .i64 (flat n m)) (hf : ∀ i j, i ≤ n → j ≤ n → Bd 1073741824 (m i j)) (B : Nat) (hB : B ≤ g) (hBw : B ≤ w.heap.size) :
    Calls Tryd.prog 59 #[.int .i64 n, .slice (some ⟨g, 0, none⟩) N cap] w fun e w' => Below B w w' ∧ ∃ v, e = .returned (.tuple #[v, .int .i64 (zoneP n (clUp m (n + 1))).2]) ∧ RefZ w' v ((zoneP n (clUp m (n + 1))).1.map fun m => (n, m)) := by
  have H0 := Lib.hid (show ClR w g n m (n + 1) 0 w from ⟨⟨Only.refl _ _, by rw [clUp_zero]; exact h⟩, by omega, by omega⟩)
  have HN := Lib.hid hN
  have HF := Lib.hid (clUp_fit hf)
  have hN81 : N ≤ 81 := by
    have := Nat.mul_le_mul (show n + 1 ≤ 9 by omega) (show n + 1 ≤ 9 by omega)
    omega
  clear h hf hN
  go_enter Tryd.func59, Tryd.ntmps59
  go_wp2
  go_loopg [6] (n + 1) (fun q v wr => ∃ i : Nat, v = .int .i64 i ∧ ClR w g n m q i wr)
  case atStart => exact ⟨0, by simp, H0.out⟩
  case round =>
    clear H0
    obtain ⟨i, rfl, H⟩ := hrel
    have HI := Lib.hid H
    clear H
    by_cases hi : i ≤ n
    · by_cases i0 : i = 0
      · subst i0
        have c1 := HI.out.1.cell (i := 0) (j := 0) (by omega) (by omega) 0 (by omega)
        rw [clUp_at] at c1
        have f1 := HI.out.1.2.frozen 0
        have hN1 : 0 < N := by rw [HN.out]; exact Nat.mul_pos (by omega) (by omega)
        have HX := Lib.hid (HI.out.next (by omega) 0 (by omega))
        have hu : upd (clUp m 0) 0 0 (min (clUp m 0 0 0) 1) 0 0 = min (m 0 0) 1 := by simp [upd, clUp]
        have hu1 : ¬ 1 < min (m 0 0) 1 := by rw [Int.min_def]; split <;> omega
        by_cases a1 : 1 < m 0 0
        · have HS := Lib.hid (HX.out true false (decide_eq_true a1).symm (by rw [hu]; exact (decide_eq_false hu1).symm))
          clear hu hu1 HX
          go_wp2
          go_roundg (gk - 1)
          case measure => have h := HI.out.2.2; omega
          case rel => exact ⟨1, by simp, HS.out⟩
        · have HS := Lib.hid (HX.out false false (decide_eq_false a1).symm (by rw [hu]; exact (decide_eq_false hu1).symm))
          clear hu hu1 HX
          go_wp2
          go_roundg (gk - 1)
          case measure => have h := HI.out.2.2; omega
          case rel => exact ⟨1, by simp, HS.out⟩
      · have hii : (i : Int) ≤ (n : Int) := by omega
        obtain ⟨P, hP, hP1, hP2, hP3⟩ := prod_facts i n hi hn
        have hPN : P + n < N := by have := HN.out; omega
        have c1 := HI.out.1.cell (i := i) (j := i) (by omega) (by omega) (P + i) (by omega)
        rw [clUp_at] at c1
        have c2 := HI.out.1.cell (i := 0) (j := i) (by omega) (by omega) i (by omega)
        rw [clUp_top] at c2
        have f1 := HI.out.1.2.frozen (P + i)
        have f2 := HI.out.1.2.frozen i
        have hP0 : ¬ P = 0 := by
          intro h
          have := Nat.mul_pos (show 0 < i by omega) (show 0 < n + 1 by omega)
          omega
        have HP2 := Lib.hid hP2
        clear hP2 hP3
        have HX := Lib.hid (HI.out.next (by omega) (P + i) (by rw [HP2.out]))
        have hu : upd (clUp m i) i i (min (clUp m i i i) 1) 0 i = m 0 i := by
          unfold upd; rw [if_neg (fun h => i0 h.1.symm), clUp_top]
        have HU := Lib.hid hu
        clear hu
        by_cases a1 : 1 < m i i
        · by_cases a2 : 1 < m 0 i
          · have HS := Lib.hid (HX.out true true (decide_eq_true a1).symm (by rw [HU.out]; exact (decide_eq_true a2).symm))
            clear HX
            go_wp2
            go_roundg (gk - 1)
            case measure => have h := HI.out.2.2; omega
            case rel => exact ⟨i + 1, by go_num, HS.out⟩
          · have HS := Lib.hid (HX.out true false (decide_eq_true a1).symm (by rw [HU.out]; exact (decide_eq_false a2).symm))
            clear HX
            go_wp2
            go_roundg (gk - 1)
            case measure => have h := HI.out.2.2; omega
            case rel => exact ⟨i + 1, by go_num, HS.out⟩
        · by_cases a2 : 1 < m 0 i
          · have HS := Lib.hid (HX.out false true (decide_eq_false a1).symm (by rw [HU.out]; exact (decide_eq_true a2).symm))
            clear HX
            go_wp2
            go_roundg (gk - 1)
            case measure => have h := HI.out.2.2; omega
            case rel => exact ⟨i + 1, by go_num, HS.out⟩
          · have HS := Lib.hid (HX.out false false (decide_eq_false a1).symm (by rw [HU.out]; exact (decide_eq_false a2).symm))
            clear HX
            go_wp2
            go_roundg (gk - 1)
            case measure => have h := HI.out.2.2; omega
            case rel => exact ⟨i + 1, by go_num, HS.out⟩
    · have hii : ¬ (i : Int) ≤ (n : Int) := by omega
      have e : i = n + 1 := by have := HI.out.2.1; omega
      subst e
      go_wp2_with fail
      refine (rclose_any g n N cap (clUp m (n + 1)) wr hn HN.out HI.out.1.2 HF.out).mono ?_
      rintro e w1 ⟨ho, hcl⟩
      have HO := Lib.hid ((HI.out.1.1.trans ho).below hB hBw)
      clear ho
      rcases hcl with ⟨hc, rfl⟩ | ⟨m', hc, rfl, hm⟩
      · have hz : zoneP n (clUp m (n + 1)) = (some (fun _ _ => 0), 0) := by unfold zoneP; rw [hc]
        have HZ := Lib.hid hz
        clear hc hz
        go_wp2_with fail
        refine (empty1_any n _ hn).mono ?_
        rintro e w2 ⟨v, rfl, hb, hv⟩
        have HB := Lib.hid (HO.out.trans (hb.mono (Nat.le_trans hBw HO.out.size)))
        have HV := Lib.hid hv
        clear hb hv
        go_wp2
        go_ret2
        exact ⟨HB.out, v, by rw [HZ.out]; rfl, by rw [HZ.out]; exact HV.out⟩
      · have HC := Lib.hid hc
        have HM := Lib.hid hm
        clear hc hm
        obtain ⟨i0, hi1, hz0, hz1, hz2⟩ := info_parts infoRB
        have HInf := Lib.hid (And.intro hi1 (And.intro hz0 (And.intro hz1 hz2)))
        clear hi1 hz0 hz1 hz2
        have hg1 : g < w1.heap.size := HM.out.lt
        have HS := Lib.hid (show BuildR (w1.alloc (.cells #[.int .i64 n, .slice none 0 0] 90)) w1.heap.size g n N m' 0 (.slice none 0 0) (w1.alloc (.cells #[.int .i64 n, .slice none 0 0] 90)) from
          ⟨Below.refl _ _, by simp, Nat.le_refl _, heap_alloc_new _ _, by simpa [narUp, vals] using World.ownsRow_nil _ _ _ _, fun q h => by omega, by omega⟩)
        have HMA := Lib.hid (HM.out.later ((Below.refl w1.heap.size w1).alloc (Nat.le_refl _) (.cells #[.int .i64 n, .slice none 0 0] 90)))
        have HBA := Lib.hid (HO.out.alloc (Nat.le_trans hBw HO.out.size) (.cells #[.int .i64 n, .slice none 0 0] 90))
        have HlB : B ≤ w1.heap.size := Nat.le_trans hBw HO.out.size
        go_wp2
        generalize w1.alloc (.cells #[.int .i64 n, .slice none 0 0] 90) = w2 at *
        go_loopg [8] N (fun q v wr => ∃ p : Nat, ∃ sv, v = .int .i64 p ∧ BuildR w2 w1.heap.size g n N m' p sv wr ∧ Hid (q + p = N))
        case atStart => exact ⟨0, _, by simp, HS.out, by show _ = _; omega⟩
        case round =>
          clear HS
          obtain ⟨p, sv, rfl, H, HG⟩ := hrel
          have HR := Lib.hid H
          clear H
          by_cases hp : p < N
          · have hrow := (HMA.out.below HR.out.1 hg1)
            have c1 := hrow.cell p (by rw [flat_length, ← HN.out]; exact hp)
            have c2 := HR.out.cell
            have f2 := HR.out.frozen
            obtain ⟨x, hx⟩ : ∃ x, x = (flat n m').getD p 0 := ⟨_, rfl⟩
            rw [← hx] at c1
            have HX := Lib.hid hx
            clear hx hrow
            by_cases h1 : x = none62
            · have hx : x = 4611686018427387904 := h1
              clear h1
              subst hx
              go_wp2_with (at_builtin; refine wpList_append_lies _ rfl _ _ 22 rfl (w1.heap.size + 1) 44 i0 (.int .i32 0) 1 4 Tryd.underlying22 HInf.out.1 HInf.out.2.1 HInf.out.2.2.1 HInf.out.2.2.2 rfl (by decide) _ _ _ rfl (HR.out.2.2.2.2.1.alloc _) ⟨wr.heap.size, 0, none⟩ 1 1 [.int .i32 2147483647] rfl rfl (cell_one_new _ _ _) (by intro u hu; simp at hu; subst hu; rfl) (by decide) ?c3 ?c4 ?c5 _ rfl ?_)
              case c3 => unfold maxLen; omega
              case c4 => omega
              case c5 => have := HR.out.2.2.1; have := HR.out.2.1; simp; omega
              intro gg cp w3 hown hgrow _ _
              have HA := Lib.hid (HR.out.append 2147483647 (by rw [← HX.out]; rfl) 0 hown hgrow)
              obtain ⟨k1, k2, k3⟩ := HA.out.at
              clear hown hgrow
              have HN2 := Lib.hid (HA.out.store HR.out.2.2.2.2.2.1 (by rw [← HX.out]; exact .inl rfl) hp)
              go_wp2
              go_roundg (gk - 1)
              case measure => have h := HG.out; omega
              case rel => exact ⟨p + 1, _, by go_num, HN2.out, by have h := HG.out; show _ = _; omega⟩
            · have t1 : (x == 4611686018427387904) = false := by simpa [none62] using h1
              have H1 := Lib.hid h1
              clear h1
              by_cases h2 : x < -536870912
              · have d2 : decide (x < -536870912) = true := decide_eq_true h2
                have hall : ¬ allR n m' := fun ha => by have := allR_at ha (p := p) (by rw [← HN.out]; exact hp); rw [← HX.out] at this; rcases this with h | h; exact H1.out h; omega
                have hz : zoneP n (clUp m (n + 1)) = (none, 10) := by unfold zoneP; rw [HC.out]; simp only; rw [if_neg hall]
                have HZ := Lib.hid hz
                clear hz hall
                go_wp2
                go_ret2
                exact ⟨HBA.out.trans (HR.out.1.mono HlB), .pointer none, by rw [HZ.out]; rfl, by rw [HZ.out]; rfl⟩
              · have d2 : decide (x < -536870912) = false := decide_eq_false h2
                by_cases h3 : 536870913 < x
                · have d3 : decide (536870913 < x) = true := decide_eq_true h3
                  have hall : ¬ allR n m' := fun ha => by have := allR_at ha (p := p) (by rw [← HN.out]; exact hp); rw [← HX.out] at this; rcases this with h | h; exact H1.out h; omega
                  have hz : zoneP n (clUp m (n + 1)) = (none, 10) := by unfold zoneP; rw [HC.out]; simp only; rw [if_neg hall]
                  have HZ := Lib.hid hz
                  clear hz hall
                  go_wp2
                  go_ret2
                  exact ⟨HBA.out.trans (HR.out.1.mono HlB), .pointer none, by rw [HZ.out]; rfl, by rw [HZ.out]; rfl⟩
                · have d3 : decide (536870913 < x) = false := decide_eq_false h3
                  have hw : IntKind.i32.wrap x = x := by rw [IntKind.wrap_i32]; omega
                  have hne1 : wr.heap.size ≠ w1.heap.size := by have := HR.out.2.2.1; have := HR.out.2.1; omega
                  have hne2 : wr.heap.size ≠ g := by have := HR.out.2.2.1; have := HR.out.2.1; omega
                  have hpN : (p : Int) < (N : Int) := by omega
                  have hl1 : w1.heap.size < wr.heap.size := by have := HR.out.2.2.1; have := HR.out.2.1; omega
                  have hl2 : g < wr.heap.size := by omega
                  go_wp2_with fail
                  go_region_law (first | (refine step_append_lies _ rfl _ _ 22 rfl (w1.heap.size + 1) 44 i0 (.int .i32 0) 1 4 Tryd.underlying22 HInf.out.1 HInf.out.2.1 HInf.out.2.2.1 HInf.out.2.2.2 rfl (by decide) sv p (vals .i32 (narUp (flat n m') p)) rfl (by exact HR.out.2.2.2.2.1.alloc _) ⟨wr.heap.size, 0, none⟩ 1 1 [.int .i32 x] rfl rfl (by exact cell_one_new _ _ _) (by intro u hu; simp at hu; subst hu; rfl) (by decide) (by unfold maxLen; omega) (by omega) (by simp; omega) _ rfl ?_; intro gg cp w3 hown hgrow _ _; have HA := Lib.hid (HR.out.append x (by rw [← HX.out]; unfold nar; rw [if_neg H1.out]) 1 hown (by exact hgrow)); have k1 := HA.out.at.1; have k2 := HA.out.at.2.1; have k3 := HA.out.at.2.2; have k4 : w3.cell? ⟨g, p, none⟩ = some (.int .i64 x) := (by rw [HX.out]; exact (HMA.out.below HA.out.below hg1).cell p (by rw [flat_length, ← HN.out]; exact hp)); clear hown hgrow))
                  go_goals
                  all_goals
                    have HN2 := Lib.hid (HA.out.store HR.out.2.2.2.2.2.1 (by rw [← HX.out]; exact .inr (by omega)) hp)
                    go_wp2
                    go_roundg (gk - 1)
                    case measure => have h := HG.out; omega
                    case rel => exact ⟨p + 1, _, by go_num, HN2.out, by have h := HG.out; show _ = _; omega⟩
          · have e : p = N := by have := HR.out.2.2.2.2.2.2; omega
            subst e
            have hrow := HR.out.2.2.2.2.1
            obtain ⟨gg, cp, hv, hge, hlt⟩ := World.ownsRow.form hrow (by rw [HN.out]; exact Nat.mul_pos (by omega) (by omega))
            have hall : allR n m' := allR_flat fun q hq => HR.out.2.2.2.2.2.1 q (by rw [HN.out]; exact hq)
            have hz : zoneP n (clUp m (n + 1)) = (some (narM n m'), 0) := by unfold zoneP; rw [HC.out]; simp only; rw [if_pos hall]
            have HZ := Lib.hid hz
            have HV := Lib.hid hv
            have HA := Lib.hid hall
            clear hz hv hall hrow
            go_wp2
            go_ret2
            refine ⟨HBA.out.trans (HR.out.1.mono HlB), .pointer (some ⟨w1.heap.size, 0, none⟩), by rw [HZ.out]; rfl, ?_⟩
            rw [HZ.out]
            refine ⟨w1.heap.size, gg, cp, rfl, hn, narM_right HA.out, ?_, ?_⟩
            · have := HR.out.2.2.2.1
              rw [HV.out, HN.out] at this
              exact this
            · have h1 := HR.out.2.2.2.2.1
              rw [HV.out] at h1
              rw [HN.out, narUp_flat] at h1
              obtain ⟨_, h2⟩ := h1
              rcases h2 with ⟨h3, _⟩ | ⟨g2, cap2, cur, h3, _, h4, _, _, _, h5⟩
              · cases h3
              · simp only [Value.slice.injEq, Option.some.injEq, Addr.mk.injEq] at h3
                obtain ⟨⟨rfl, _⟩, _, rfl⟩ := h3
                exact ⟨cur, h4, by rw [flat_length]; simpa using h5⟩

end Go.Proofs.YtncgapnooabdgaaDoor

/- The document's Of. -/
namespace Go.Proofs.YtncgapnooabdgaaDoor
open Go Go.RowKit
set_option linter.unusedVariables false
set_option linter.unusedSimpArgs false

set_option maxRecDepth 100000 in
set_option maxHeartbeats 1000000 in
theorem rof_clock (n : Int) (A : Option Addr) (c : Nat) (cells : List Int) (w : World) (hn : ¬ (0 ≤ n ∧ n ≤ 8)) :
    Calls Tryd.prog 34 #[.int .i64 n, .slice A cells.length c] w (MakesR w n.toNat (ofP n cells)) := by
  have hz : ofP n cells = (none, 12) := by unfold ofP; rw [if_neg hn]
  rw [hz]
  clear hz
  by_cases h0 : n < 0
  · have d0 : decide (n < 0) = true := decide_eq_true h0
    go_enter Tryd.func34, Tryd.ntmps34
    go_wp2
    go_ret2
    exact ⟨Below.refl _ _, .pointer none, rfl, rfl⟩
  · have d0 : decide (n < 0) = false := decide_eq_false h0
    have h8 : 8 < n := by omega
    clear hn
    go_enter Tryd.func34, Tryd.ntmps34
    go_wp2
    go_ret2
    exact ⟨Below.refl _ _, .pointer none, rfl, rfl⟩

set_option maxRecDepth 100000 in
set_option maxHeartbeats 1000000 in
theorem rof_long (n : Nat) (A : Option Addr) (c : Nat) (cells : List Int) (w : World) (hn : n ≤ 8) (hlen : ¬ (cells.length : Int) = ((n : Int) + 1) * ((n : Int) + 1)) (hmax : cells.length ≤ 4611686018427387904) :
    Calls Tryd.prog 34 #[.int .i64 n, .slice A cells.length c] w (MakesR w n (ofP n cells)) := by
  have hz : ofP n cells = (none, 6) := by unfold ofP; rw [if_pos (by omega), if_neg hlen]
  rw [hz]
  clear hz
  have hm : ((n : Int) + 1) * ((n : Int) + 1) ≤ 9 * 9 := Int.mul_le_mul (by omega) (by omega) (by omega) (by omega)
  have hm0 : 0 ≤ ((n : Int) + 1) * ((n : Int) + 1) := Int.mul_nonneg (by omega) (by omega)
  have t1 : ((cells.length : Int) != ((n : Int) + 1) * ((n : Int) + 1)) = true := by simpa using hlen
  have d0 : decide ((n : Int) < 0) = false := decide_eq_false (by omega)
  clear hlen
  go_enter Tryd.func34, Tryd.ntmps34
  go_wp2
  go_ret2
  exact ⟨Below.refl _ _, .pointer none, rfl, rfl⟩

set_option maxRecDepth 100000 in
set_option maxHeartbeats 2000000 in
theorem rof_yes (n : Nat) (A : Option Addr) (c : Nat) (cells : List Int) (w : World) (hn : n ≤ 8) (hI : Ints w .i32 A cells) (hlen : (cells.length : Int) = ((n : Int) + 1) * ((n : Int) + 1))
    (hk : ∀ q, q < cells.length → -2147483648 ≤ cells.getD q 0 ∧ cells.getD q 0 ≤ 2147483647) :
    Calls Tryd.prog 34 #[.int .i64 n, .slice A cells.length c] w (MakesR w n (ofP n cells)) := by
  have hl81 : cells.length ≤ 81 := by
    have : ((n : Int) + 1) * ((n : Int) + 1) ≤ 9 * 9 := Int.mul_le_mul (by omega) (by omega) (by omega) (by omega)
    omega
  have hm : ((n : Int) + 1) * ((n : Int) + 1) ≤ 81 := by omega
  have hm0 : 0 ≤ ((n : Int) + 1) * ((n : Int) + 1) := by omega
  have HL := Lib.hid (show cells.length = (n + 1) * (n + 1) from by
    have : ((cells.length : Nat) : Int) = (((n + 1) * (n + 1) : Nat) : Int) := by rw [hlen]; simp
    omega)
  have HLI := Lib.hid hlen
  have HI := Lib.hid hI
  have HK := Lib.hid hk
  have t1 : ((cells.length : Int) != ((n : Int) + 1) * ((n : Int) + 1)) = false := by simp [hlen]
  have d0 : decide ((n : Int) < 0) = false := decide_eq_false (by omega)
  clear hlen hI hk
  go_enter Tryd.func34, Tryd.ntmps34
  go_wp2
  go_loopg [6] cells.length (fun g v wr => ∃ p : Nat, v = .int .i64 p ∧ w = wr ∧ Hid (p ≤ cells.length ∧ g + p = cells.length ∧ ∀ q, q < p → rightB (cells.getD q 0) = true))
  case atStart => exact ⟨0, by simp, rfl, by omega, by omega, fun q h => by omega⟩
  case round =>
    obtain ⟨p, rfl, rfl, HG⟩ := hrel
    by_cases hp : p < cells.length
    · obtain ⟨b, off, rfl, hc⟩ := HI.out p hp
      have hb := HK.out p hp
      obtain ⟨x, hx⟩ : ∃ x, x = cells.getD p 0 := ⟨_, rfl⟩
      rw [← hx] at hc hb
      have HX := Lib.hid hx
      clear hx
      obtain ⟨hb0, hb1⟩ := hb
      by_cases hr : rightB x = true
      · have HRR := Lib.hid hr
        clear hr
        go_wp2_with fail
        refine (rright_yes _ _ HRR.out hb0 hb1).mono ?_
        rintro e w' ⟨rfl, rfl⟩
        go_wp2
        go_roundg (gk - 1)
        case measure => have := HG.out; omega
        case rel =>
          refine ⟨p + 1, by go_num, rfl, by omega, by have := HG.out.2.1; omega, fun q hq => ?_⟩
          by_cases e : q = p
          · subst e; rw [← HX.out]; exact HRR.out
          · exact HG.out.2.2 q (by omega)
      · have hrf : rightB x = false := by simpa using hr
        have HRR := Lib.hid hrf
        clear hr hrf
        have hall : cells.all rightB = false := by
          rw [Bool.eq_false_iff]
          intro ha
          have := (all_getD cells rightB 0).1 ha p hp
          rw [← HX.out, HRR.out] at this
          cases this
        have hz : ofP n cells = (none, 7) := by
          unfold ofP; rw [if_pos (by omega), if_pos HLI.out, hall]; rfl
        have HZ := Lib.hid hz
        clear hz hall
        go_wp2_with fail
        refine (rright_no _ _ HRR.out hb0 hb1).mono ?_
        rintro e w' ⟨rfl, rfl⟩
        go_wp2
        go_ret2
        exact ⟨Below.refl _ _, .pointer none, by rw [HZ.out]; rfl, by rw [HZ.out]; rfl⟩
    · have e : p = cells.length := by have := HG.out.1; omega
      have hall : cells.all rightB = true := (all_getD cells rightB 0).2 (by rw [← e]; exact HG.out.2.2)
      have hr : ∀ q, q < (n + 1) * (n + 1) → rightB (cells.getD q 0) = true := fun q hq => HG.out.2.2 q (by rw [e, HL.out]; exact hq)
      have hz : ofP n cells = zoneP n (clUp (widM n cells) (n + 1)) := by
        unfold ofP; rw [if_pos (by omega), if_pos HLI.out, if_pos hall, Int.toNat_natCast, HL.out]
        exact (zoneP_agree (keep_wide hr)).symm
      have HZ := Lib.hid hz
      have HRR := Lib.hid hr
      clear hz hall hr e
      go_wp2_with fail
      refine (wide_any A c cells _ HI.out (by omega) HK.out).mono ?_
      rintro e w1 ⟨v, rfl, hw⟩
      have hown : OwnI w1 w.heap.size 2 .i64 v (widUp cells cells.length) := by
        unfold OwnI; rw [widUp_length]; exact hw.2.1
      obtain ⟨g, cp, hv, hge, hrow⟩ := hown.row (by rw [widUp_length, HL.out]; exact Nat.mul_pos (by omega) (by omega))
      rw [widUp_length] at hv
      have HW := Lib.hid hw.1
      have hrow2 : RowAt w1 g 2 .i64 (flat n (widM n cells)) := by
        rw [HL.out, widUp_flat] at hrow; exact hrow
      have HRow := Lib.hid hrow2
      clear hrow hrow2 hown hw
      rw [hv]
      clear hv
      go_wp2_with fail
      refine (rmade_any g n cells.length cp (widM n cells) _ hn HL.out HRow.out (widM_bd HRR.out) w.heap.size hge HW.out.size).mono ?_
      rintro e w2 ⟨hb, v2, rfl, hz2⟩
      have HB := Lib.hid hb
      have HZ2 := Lib.hid hz2
      clear hb hz2
      go_wp2
      go_ret2
      rw [HZ.out]
      exact ⟨HW.out.trans HB.out, v2, rfl, HZ2.out⟩

/-- The document's Of, whatever it is given. -/
theorem rof_any (n : Int) (A : Option Addr) (c : Nat) (cells : List Int) (w : World) (hI : Ints w .i32 A cells) (hmax : cells.length ≤ 4611686018427387904)
    (hk : ∀ q, q < cells.length → -2147483648 ≤ cells.getD q 0 ∧ cells.getD q 0 ≤ 2147483647) :
    Calls Tryd.prog 34 #[.int .i64 n, .slice A cells.length c] w (MakesR w n.toNat (ofP n cells)) := by
  by_cases hn : 0 ≤ n ∧ n ≤ 8
  · obtain ⟨k, rfl⟩ : ∃ k : Nat, n = k := ⟨n.toNat, by omega⟩
    by_cases hl : (cells.length : Int) = ((k : Int) + 1) * ((k : Int) + 1)
    · exact rof_yes k A c cells w (by omega) hI hl hk
    · exact rof_long k A c cells w (by omega) hl hmax
  · exact rof_clock n A c cells w hn

end Go.Proofs.YtncgapnooabdgaaDoor

/- Rows held against one another. -/
namespace Go.Proofs.YtncgapnooabdgaaDoor
open Go Go.RowKit
set_option linter.unusedVariables false
set_option linter.unusedSimpArgs false

/-- Are two rows the same? -/
def sameL (xs ys : List Int) : Bool := decide (xs = ys)
theorem sameL_len {xs ys : List Int} (h : ¬ xs.length = ys.length) : sameL xs ys = false := decide_eq_false fun e => h (by rw [e])
theorem sameL_no {xs ys : List Int} {p : Nat} (h : ¬ xs.getD p 0 = ys.getD p 0) : sameL xs ys = false := decide_eq_false fun e => h (by rw [e])
theorem sameL_yes {xs ys : List Int} (hl : xs.length = ys.length) (h : ∀ p, p < xs.length → xs.getD p 0 = ys.getD p 0) : sameL xs ys = true := decide_eq_true (list_ext0 hl h)

set_option maxRecDepth 100000 in
set_option maxHeartbeats 1000000 in
theorem same_any (A : Option Addr) (c : Nat) (xs : List Int) (A' : Option Addr) (c' : Nat) (ys : List Int) (w : World) (hI : Ints w .i32 A xs) (hI' : Ints w .i32 A' ys) (hx : xs.length ≤ 4611686018427387904) (hy : ys.length ≤ 4611686018427387904) :
    Calls Tryd.prog 17 #[.slice A xs.length c, .slice A' ys.length c'] w fun e w' => e = .returned (.bool (sameL xs ys)) ∧ ∃ q, w' = w.drewN q := by
  have HI := Lib.hid hI
  have HI' := Lib.hid hI'
  clear hI hI'
  by_cases hl : xs.length = ys.length
  · have t1 : ((xs.length : Int) != (ys.length : Int)) = false := by simp [hl]
    have t2 : ((xs.length : Int) == (ys.length : Int)) = true := by simp [hl]
    have HL := Lib.hid hl
    have hle : xs.length ≤ ys.length := by omega
    clear hl
    go_enter Tryd.func17, Tryd.ntmps17
    go_wp2
    go_loopg [5] xs.length (fun g v wr => ∃ p : Nat, v = .int .i64 p ∧ (∃ q, wr = w.drewN q) ∧ Hid (p ≤ xs.length ∧ g + p = xs.length ∧ ∀ q, q < p → xs.getD q 0 = ys.getD q 0))
    case atStart => exact ⟨0, by simp, ⟨0, rfl⟩, by omega, by omega, fun q h => by omega⟩
    case round =>
      obtain ⟨p, rfl, ⟨q, rfl⟩, HG⟩ := hrel
      by_cases hp : p < xs.length
      · obtain ⟨b, off, rfl, hc⟩ := HI.out p hp
        obtain ⟨b', off', rfl, hc'⟩ := HI'.out p (by omega)
        have hpy : p < ys.length := by omega
        have hpi : (p : Int) < (xs.length : Int) := by omega
        have hpyi : (p : Int) < (ys.length : Int) := by omega
        obtain ⟨x, hx⟩ : ∃ x, x = xs.getD p 0 := ⟨_, rfl⟩
        obtain ⟨y, hy⟩ : ∃ y, y = ys.getD p 0 := ⟨_, rfl⟩
        rw [← hx] at hc
        rw [← hy] at hc'
        have HX := Lib.hid hx
        have HY := Lib.hid hy
        clear hx hy
        by_cases he : x = y
        · subst he
          go_wp2_with fail
          go_quiet (fail)
          go_wp2
          go_roundg (gk - 1)
          case measure => have h := HG.out; omega
          case rel =>
            refine ⟨p + 1, by go_num, ⟨_, rfl⟩, by omega, by have h := HG.out.2.1; omega, fun r hr => ?_⟩
            by_cases e : r = p
            · subst e; rw [← HX.out, ← HY.out]
            · exact HG.out.2.2 r (by omega)
        · have t3 : (x != y) = true := by simp [he]
          have t4 : (x == y) = false := by simp [he]
          have hs : sameL xs ys = false := sameL_no (p := p) (by rw [← HX.out, ← HY.out]; exact he)
          have HS := Lib.hid hs
          clear he hs
          go_wp2_with fail
          go_quiet (fail)
          go_wp2
          go_ret
          exact ⟨by rw [HS.out]; rfl, ⟨_, World.drewN_drewN ..⟩⟩
      · have e : p = xs.length := by have := HG.out.1; omega
        have hs : sameL xs ys = true := sameL_yes HL.out (by rw [← e]; exact HG.out.2.2)
        have HS := Lib.hid hs
        clear hs e
        go_wp2
        go_ret
        exact ⟨by rw [HS.out]; rfl, ⟨_, rfl⟩⟩
  · have t1 : ((xs.length : Int) != (ys.length : Int)) = true := by simp; omega
    have t2 : ((xs.length : Int) == (ys.length : Int)) = false := by simp; omega
    have t3 : (xs.length == ys.length) = false := by simp [hl]
    rw [sameL_len hl]
    clear hl
    go_enter Tryd.func17, Tryd.ntmps17
    go_wp2
    go_ret
    exact ⟨rfl, ⟨0, rfl⟩⟩

theorem sameL_self (xs : List Int) : sameL xs xs = true := decide_eq_true rfl

/-- Two rows of the call's own that hold the same. -/
theorem same_own {w : World} {b b' : Nat} {e e' : TypeId} {v v' : Value} {xs : List Int} (h : OwnI w b e .i32 v xs) (h' : OwnI w b' e' .i32 v' xs) (hx : xs.length ≤ 4611686018427387904) :
    Calls Tryd.prog 17 #[v, v'] w fun e w' => e = .returned (.bool true) ∧ ∃ q, w' = w.drewN q := by
  obtain ⟨A, c, rfl, hi⟩ := h.slice
  obtain ⟨A', c', rfl, hi'⟩ := h'.slice
  exact (same_any A c xs A' c' xs w hi hi' hx hx).mono fun _ _ k => ⟨by rw [k.1, sameL_self], k.2⟩


end Go.Proofs.YtncgapnooabdgaaDoor

/- What is asked of the document's zones; rows held against one another. -/
namespace Go.Proofs.YtncgapnooabdgaaDoor
open Go Go.RowKit
set_option linter.unusedVariables false
set_option linter.unusedSimpArgs false

/-! ### the document's zones -/
theorem RefZ.parts {w : World} {v : Value} {n : Nat} {m : Mat} (h : RefZ w v (some (n, m))) : ∃ b g cap, v = .pointer (some ⟨b, 0, none⟩) ∧ n ≤ 8 ∧ RightM n m ∧
    w.cell? ⟨b, 0, none⟩ = some (.int .i64 n) ∧ w.cell? ⟨b, 1, none⟩ = some (.slice (some ⟨g, 0, none⟩) ((n + 1) * (n + 1)) cap) ∧ RowAt w g 44 .i32 (flat n m) := by
  obtain ⟨b, g, cap, h1, h2, h3, h4, h5⟩ := h
  exact ⟨b, g, cap, h1, h2, h3, by simp [World.cell?, h4], by simp [World.cell?, h4], h5⟩

set_option maxRecDepth 100000 in
theorem rdim_any (v : Value) (z : Option (Nat × Mat)) (w : World) (h : RefZ w v z) : Calls Tryd.prog 39 #[v] w fun e w' => e = .returned (.int .i64 (dimP z)) ∧ w = w' := by
  match z, h with
  | none, h =>
    have h : v = .pointer none := h
    subst h
    show Calls Tryd.prog 39 _ _ fun e w' => e = .returned (.int .i64 0) ∧ w = w'
    go_enter Tryd.func39, Tryd.ntmps39
    go_wp2
    go_ret
    exact ⟨rfl, rfl⟩
  | some (n, m), h =>
    obtain ⟨b, g, cap, e, _, _, h0, _, _⟩ := h.parts
    clear h
    subst e
    show Calls Tryd.prog 39 _ _ fun e w' => e = .returned (.int .i64 n) ∧ w = w'
    go_enter Tryd.func39, Tryd.ntmps39
    go_wp2
    go_ret
    exact ⟨rfl, rfl⟩

/-- The document asks it so. -/
def emptyR (z : Option (Nat × Mat)) : Bool := match z with | some (_, m) => decide (m 0 0 ≠ 1) | none => false

set_option maxRecDepth 100000 in
theorem rempty_any (v : Value) (z : Option (Nat × Mat)) (w : World) (h : RefZ w v z) : Calls Tryd.prog 41 #[v] w fun e w' => e = .returned (.bool (emptyR z)) ∧ w = w' := by
  match z, h with
  | none, h =>
    have h : v = .pointer none := h
    subst h
    show Calls Tryd.prog 41 _ _ fun e w' => e = .returned (.bool false) ∧ w = w'
    go_enter Tryd.func41, Tryd.ntmps41
    go_wp2
    go_ret
    exact ⟨rfl, rfl⟩
  | some (n, m), h =>
    obtain ⟨b, g, cap, e, _, _, h0, h1, hr⟩ := h.parts
    clear h
    subst e
    have c0 := hr.cell 0 (by rw [flat_length]; exact Nat.mul_pos (by omega) (by omega))
    have e0 : (flat n m).getD 0 0 = m 0 0 := by have := flat_at m (show 0 < n + 1 by omega) (show 0 < n + 1 by omega); simpa using this
    rw [e0] at c0
    obtain ⟨N, hN⟩ : ∃ N, N = (n + 1) * (n + 1) := ⟨_, rfl⟩
    have hN0 : 0 < N := by rw [hN]; exact Nat.mul_pos (by omega) (by omega)
    have hN1 : (0 : Int) < (N : Int) := by omega
    rw [← hN] at h1
    clear hr e0 hN
    by_cases he : m 0 0 = 1
    · have hz : emptyR (some (n, m)) = false := decide_eq_false (fun h => h he)
      have t1 : (m 0 0 != 1) = false := by simp [he]
      rw [hz]
      clear hz he
      go_enter Tryd.func41, Tryd.ntmps41
      go_wp2
      go_ret
      exact ⟨by simp [t1], rfl⟩
    · have hz : emptyR (some (n, m)) = true := decide_eq_true he
      have t1 : (m 0 0 != 1) = true := by simp [he]
      rw [hz]
      clear hz he
      go_enter Tryd.func41, Tryd.ntmps41
      go_wp2
      go_ret
      exact ⟨by simp [t1], rfl⟩

end Go.Proofs.YtncgapnooabdgaaDoor

/- Cell and Cells of the document's zones. -/
namespace Go.Proofs.YtncgapnooabdgaaDoor
open Go Go.RowKit
set_option linter.unusedVariables false
set_option linter.unusedSimpArgs false

set_option maxRecDepth 100000 in
set_option maxHeartbeats 1000000 in
theorem rcells_nil (w : World) : Calls Tryd.prog 19 #[.pointer none] w (TellsL w []) := by
  go_enter Tryd.func19, Tryd.ntmps19
  go_wp2
  go_ret
  exact tells_nil w _ rfl

set_option maxRecDepth 100000 in
set_option maxHeartbeats 1000000 in
theorem rcells_zone (b g cap n : Nat) (m : Mat) (w : World) (hn : n ≤ 8) (h1 : w.cell? ⟨b, 1, none⟩ = some (.slice (some ⟨g, 0, none⟩) ((n + 1) * (n + 1)) cap)) (hr : RowAt w g 44 .i32 (flat n m)) :
    Calls Tryd.prog 19 #[.pointer (some ⟨b, 0, none⟩)] w (TellsL w (flat n m)) := by
  obtain ⟨i0, hi1, hz0, hz1, hz2⟩ := info_parts infoRB
  have HInf := Lib.hid (And.intro hi1 (And.intro hz0 (And.intro hz1 hz2)))
  clear hi1 hz0 hz1 hz2
  have HR := Lib.hid hr
  have hN81 : (n + 1) * (n + 1) ≤ 81 := by
    have := Nat.mul_le_mul (show n + 1 ≤ 9 by omega) (show n + 1 ≤ 9 by omega)
    omega
  have hN0 : 0 < (n + 1) * (n + 1) := Nat.mul_pos (by omega) (by omega)
  have hfl := flat_length n m
  have HFL := Lib.hid hfl
  obtain ⟨N, hN⟩ : ∃ N, N = (n + 1) * (n + 1) := ⟨_, rfl⟩
  rw [← hN] at h1 hN81 hN0
  have HN := Lib.hid hN
  clear hr hN hfl
  go_enter Tryd.func19, Tryd.ntmps19
  go_wp2_with (at_builtin; refine wpList_append_lies _ rfl _ _ 22 rfl w.heap.size 44 i0 (.int .i32 0) 1 4 Tryd.underlying22 HInf.out.1 HInf.out.2.1 HInf.out.2.2.1 HInf.out.2.2.2 rfl (by decide) _ _ _ rfl (World.ownsRow_nil _ _ _ _) ⟨g, 0, none⟩ N cap (vals .i32 (flat n m)) rfl (by rw [Nat.mul_one, HN.out, ← HFL.out]; simp [vals]) (by exact row_vals HR.out) (by intro u hu; obtain ⟨c, _, rfl⟩ := List.mem_map.1 hu; rfl) (by omega) ?c3 ?c4 ?c5 _ rfl ?_)
  case c3 => unfold maxLen; omega
  case c4 => omega
  case c5 => exact Nat.le_refl _
  intro gg cp w3 hown hgrow _ _
  have HO := Lib.hid hown
  have HG := Lib.hid hgrow
  clear hown hgrow
  go_wp2
  go_ret
  refine ⟨_, rfl, (Below.refl _ _).grown HG.out (Nat.le_refl _) (fun k hk => by simp [Value.ownBlock] at hk), ?_⟩
  have := HO.out
  unfold OwnI
  rw [HFL.out, ← HN.out]
  exact this

theorem rcells_any (v : Value) (z : Option (Nat × Mat)) (w : World) (h : RefZ w v z) : Calls Tryd.prog 19 #[v] w (TellsL w (cellsP z)) := by
  match z, h with
  | none, h =>
    have h : v = .pointer none := h
    subst h
    exact rcells_nil w
  | some (n, m), h =>
    obtain ⟨b, g, cap, e, hn, _, h0, h1, hr⟩ := h.parts
    subst e
    exact rcells_zone b g cap n m w hn h1 hr

end Go.Proofs.YtncgapnooabdgaaDoor
