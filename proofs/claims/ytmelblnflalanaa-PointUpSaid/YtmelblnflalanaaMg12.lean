/- Texts of ours, laid together: Jy, Yl, Bh, Vp, Jh, Jk. -/
import Derived.Deep.DeepCutAuto
import Derived.Test.YtmelblnflalanaaMg11
/- Which points of fractions are in Up, Down, Reset, Unset, Guards, And of a zone: plain. -/
namespace Go.Proofs.Ytmelblnflalanaa
set_option linter.unusedVariables false
set_option linter.unusedSimpArgs false

theorem grid_upto (d : Nat → Int × Int) : ∀ p, (∀ i, i < p → 0 < (d i).2 ∧ 0 ≤ (d i).1) → ∃ (G : Int) (u : Nat → Int), 0 < G ∧ (∀ i, i < p → 0 ≤ u i) ∧ ∀ i, i < p → u i * (d i).2 = (d i).1 * G
  | 0, _ => ⟨1, fun _ => 0, by decide, fun i h => by omega, fun i h => by omega⟩
  | p + 1, h => by
    obtain ⟨G, u, hG, h0, hu⟩ := grid_upto d p (fun i hi => h i (by omega))
    obtain ⟨a, b⟩ := h p (by omega)
    refine ⟨G * (d p).2, fun i => if i = p then (d p).1 * G else u i * (d p).2, Int.mul_pos hG a, fun i hi => ?_, fun i hi => ?_⟩
    · by_cases e : i = p
      · simp only [if_pos e]; exact Int.mul_nonneg b (by omega)
      · simp only [if_neg e]; exact Int.mul_nonneg (h0 i (by omega)) (by omega)
    · by_cases e : i = p
      · subst e; simp only [if_true]; rw [Int.mul_assoc]
      · simp only [if_neg e]; have := hu i (by omega); rw [Int.mul_right_comm, this, Int.mul_assoc]
/-- A grid on which a valuation and one more fraction lie. -/
theorem grid_two {n : Nat} {v : List (Int × Int)} {d : Int × Int} (hv : rightV v = true) (hl : v.length = n) (hd : 0 < d.2) (hd0 : 0 ≤ d.1) :
    ∃ (G : Int) (u : Nat → Int) (x : Int), 0 < G ∧ u 0 = 0 ∧ (∀ i, i ≤ n → 0 ≤ u i) ∧ 0 ≤ x ∧ (∀ i, i ≤ n → cq v i = (u i : Rat) / (G : Rat)) ∧ qv d = (x : Rat) / (G : Rat) := by
  obtain ⟨G, u, hG, h0, hu⟩ := grid_upto (fun i => if i ≤ n then clockV v i else d) (n + 2) (fun i hi => by
    by_cases e : i ≤ n
    · rw [if_pos e]; exact ⟨clock_pos hv (by omega), (clock_right hv (by omega)).2⟩
    · rw [if_neg e]; exact ⟨hd, hd0⟩)
  have hx := hu (n + 1) (by omega)
  rw [if_neg (by omega)] at hx
  have h00 := hu 0 (by omega)
  rw [if_pos (Nat.zero_le n), show clockV v 0 = (0, 1) from rfl] at h00
  refine ⟨G, u, u (n + 1), hG, by simpa using h00, fun i hi => h0 i (by omega), h0 (n + 1) (by omega), fun i hi => ?_, qv_grid hd hG hx⟩
  have := hu i (by omega)
  rw [if_pos hi] at this
  exact qv_grid (clock_pos hv (by omega)) hG this
theorem add_grid {a b : Int} {G : Rat} : (a : Rat) / G + (b : Rat) / G = ((a + b : Int) : Rat) / G := by rw [Rat.intCast_add, Rat.div_def, Rat.div_def, Rat.div_def]; grind
theorem sub_grid {a b : Int} {G : Rat} : (a : Rat) / G - (b : Rat) / G = ((a - b : Int) : Rat) / G := by rw [Rat.intCast_sub, Rat.div_def, Rat.div_def, Rat.div_def]; grind
theorem kind_right {n : Nat} {m : Mat} (h : m = (fun _ _ => 0) ∨ ClosedZ n m) : RightM n m := by
  rcases h with rfl | h
  · exact right_zero n
  · exact h.full.right
theorem kind_ok {n : Nat} {m : Mat} (h : m = (fun _ _ => 0) ∨ ClosedZ n m) : OkM n m := by
  rcases h with rfl | h
  · exact ⟨right_zero n, fun _ _ => by decide, fun _ _ => by decide⟩
  · exact h.full.ok
theorem of_kind {n : Nat} {cells : List Int} {a : Mat} (e : ofP n cells = (some a, 0)) : a = (fun _ _ => 0) ∨ ClosedZ n a := by
  have h : zOf (n : Int) cells = some (n, a) := by unfold zOf; rw [e]; rfl
  exact zone_closed h
theorem in_zero {n : Nat} {v : List (Int × Int)} (hv : rightV v = true) (hl : v.length = n) : inP n (fun _ _ => 0) v = false := by
  rw [Bool.eq_false_iff]
  intro h
  obtain ⟨G, u, x, hG, h0, hu, hx, hc, hq⟩ := grid_two (d := (0, 1)) hv hl (by decide) (by decide)
  rw [in_sat hG (right_zero n) hv hl hc] at h
  exact satM_none n G u h

/-! ### later -/
theorem up06 {n : Nat} {m a : Mat} {v : List (Int × Int)} {d : Int × Int} (hn : n ≤ 8) (hm : m = (fun _ _ => 0) ∨ ClosedZ n m) (e : ofP n (flat n (upW (some (n, m)))) = (some a, 0)) (hw : (waitA v d).2 = 0) (hl : v.length = n) (h : inP n m v = true) : inP n a (waitA v d).1 = true := by
  obtain ⟨e1, hv, hd, hd0, hv', hc'⟩ := wait_good hw
  rw [e1]
  obtain ⟨G, u, x, hG, h0, hu, hx, hc, hq⟩ := grid_two (d := d) hv hl (rq_pos hd) hd0
  rw [in_sat hG (kind_right hm) hv hl hc] at h
  rw [in_sat (u := fun i => if i = 0 then 0 else u i + x) hG (kind_right (of_kind e)) hv' ((waitV_length v d).trans hl) (fun i hi => by
    by_cases e0 : i = 0
    · subst e0; rw [cq_zero, if_pos rfl, Rat.intCast_zero, Rat.div_def, Rat.zero_mul]
    · rw [hc' i (by omega) (by omega), hc i hi, hq, if_neg e0, add_grid])]
  exact up_sat hn hm e h0 (if_pos rfl) hx (fun i h1 _ => if_neg (by omega)) h
theorem up06_self {n : Nat} {m a : Mat} {v : List (Int × Int)} (hn : n ≤ 8) (hm : m = (fun _ _ => 0) ∨ ClosedZ n m) (e : ofP n (flat n (upW (some (n, m)))) = (some a, 0)) (hv : rightV v = true) (hl : v.length = n) (h : inP n m v = true) : inP n a v = true := by
  obtain ⟨G, u, x, hG, h0, hu, hx, hc, hq⟩ := grid_two (d := (0, 1)) hv hl (by decide) (by decide)
  rw [in_sat hG (kind_right hm) hv hl hc] at h
  rw [in_sat hG (kind_right (of_kind e)) hv hl hc]
  exact up_sat hn hm e h0 h0 (Int.le_refl 0) (fun i h1 _ => (Int.add_zero _).symm) h

/-! ### earlier -/
theorem span_some {s : SpanP} (hs : spanOk s) (h : spanEnd s = true) : ∃ q, spanHas s q := by
  unfold spanEnd at h
  rcases hs.2 with he | he
  · refine ⟨qv s.lo + 1, .inl (by grind), .inl he⟩
  · by_cases hev : s.ever = true
    · exact ⟨qv s.lo + 1, .inl (by grind), .inl hev⟩
    · obtain ⟨a1, a2, a3⟩ := cmp_qv hs.1 he
      simp only [hev, Bool.false_or, Bool.and_eq_true, Bool.or_eq_true, Bool.not_eq_true', decide_eq_false_iff_not] at h
      rw [a2, a3] at h
      obtain ⟨h1, h2⟩ := h
      by_cases e : qv s.lo = qv s.hi
      · rcases h2 with h2 | ⟨h2, h3⟩
        · exact absurd e h2
        · exact ⟨qv s.lo, .inr ⟨rfl, h2⟩, .inr (.inr ⟨e, h3⟩)⟩
      · exact ⟨(qv s.lo + qv s.hi) / 2, .inl (by grind), .inr (.inl (by grind))⟩
theorem down06 {n : Nat} {m a : Mat} {v : List (Int × Int)} {s : SpanP} (hn : n ≤ 8) (hm : m = (fun _ _ => 0) ∨ ClosedZ n m) (e : ofP n (flat n (downW (some (n, m)))) = (some a, 0)) (hs : delaysP n m v = some s) : inP n a v = true := by
  unfold delaysP at hs
  split at hs
  case isFalse => cases hs
  case isTrue hc0 =>
  obtain ⟨hv, hl, hne⟩ := hc0
  cases ef : delayFrom n m v ((n + 1) * (n + 1)) 0 ⟨(0, 1), (0, 0), true, false, true⟩ with
  | none => rw [ef] at hs; cases hs
  | some t =>
    rw [ef, Option.bind_some] at hs
    split at hs
    case isFalse => cases hs
    case isTrue hend =>
    cases hs
    have hs0 : spanOk ⟨(0, 1), (0, 0), true, false, true⟩ := ⟨right_one 0, .inl rfl⟩
    obtain ⟨b1, b2⟩ := (from_has (m := m) hv hl ((n + 1) * (n + 1)) 0 ⟨(0, 1), (0, 0), true, false, true⟩ (by omega) hs0).1 _ ef
    obtain ⟨q, hq⟩ := span_some b1 hend
    obtain ⟨h1, h2⟩ := (b2 q).1 hq
    have hq0 : 0 ≤ q := by
      have z := h1.1
      rw [show qv (0, 1) = 0 by rw [qv_int]; rfl] at z
      grind
    have hqd : qv (q.num, (q.den : Int)) = q := by
      show (q.num : Rat) / ((q.den : Int) : Rat) = q
      rw [← Rat.divInt_eq_div]; exact Rat.num_divInt_den q
    have hall : ∀ i j, i ≤ n → j ≤ n → kq (m i j) (dq v q i - dq v q j) := cells_all.1 fun k hk => h2 k (Nat.zero_le _) (by omega)
    obtain ⟨G, u, x, hG, h0, hu, hx, hc, hqx⟩ := grid_two (d := (q.num, (q.den : Int))) hv hl (by have := q.den_pos; omega) (Rat.num_nonneg.2 hq0)
    rw [hqd] at hqx
    have hr := kind_right hm
    have hdq : ∀ i, i ≤ n → dq v q i = ((if i = 0 then 0 else u i + x : Int) : Rat) / (G : Rat) := fun i hi => by
      unfold dq
      by_cases e0 : i = 0
      · rw [if_pos e0, if_pos e0, Rat.intCast_zero, Rat.div_def, Rat.zero_mul]
      · rw [if_neg e0, if_neg e0, hc i hi, hqx, add_grid]
    have hsat : satM n G (widW m) fun i => if i = 0 then 0 else u i + x := fun i j hi hj => by
      have hb : m i j ≤ 2147483647 := by have := hr i j hi hj; unfold rightB at this; have := of_decide_eq_true this; omega
      have := hall i j hi hj
      rw [hdq i hi, hdq j hj, sub_grid] at this
      exact (kq_sat hG hb).1 this
    rw [in_sat hG (kind_right (of_kind e)) hv hl hc]
    exact down_sat hn hm e h0 (if_pos rfl) hu hx (fun i h1 _ => if_neg (by omega)) hsat
/-- A span with one delay lets it. -/
theorem delays_one {n : Nat} {m : Mat} {v : List (Int × Int)} {s : SpanP} (hs : delaysP n m v = some s) (h1 : s.loIn = false) (h2 : s.lo = s.hi) : s.ever = true := by
  unfold delaysP at hs
  split at hs
  case isFalse => cases hs
  case isTrue hc0 =>
  obtain ⟨hv, hl, hne⟩ := hc0
  cases ef : delayFrom n m v ((n + 1) * (n + 1)) 0 ⟨(0, 1), (0, 0), true, false, true⟩ with
  | none => rw [ef] at hs; cases hs
  | some t =>
    rw [ef, Option.bind_some] at hs
    split at hs
    case isFalse => cases hs
    case isTrue hend =>
    cases hs
    have hs0 : spanOk ⟨(0, 1), (0, 0), true, false, true⟩ := ⟨right_one 0, .inl rfl⟩
    obtain ⟨b1, b2⟩ := (from_has (m := m) hv hl ((n + 1) * (n + 1)) 0 ⟨(0, 1), (0, 0), true, false, true⟩ (by omega) hs0).1 _ ef
    obtain ⟨q, hq⟩ := span_some b1 hend
    obtain ⟨hq1, hq2⟩ := hq
    rw [h1] at hq1
    rw [h2] at hq1
    rcases hq1 with a | a
    · rcases hq2 with b | b | b
      · exact b
      · exact absurd a (by grind)
      · rw [b.1] at a; exact absurd a (by grind)
    · exact absurd a.2 (by decide)

/-! ### a clock is set -/
/-- A valuation with a clock set. -/
def setV (v : List (Int × Int)) (c : Nat) (k : Int) : List (Int × Int) := v.set (c - 1) (k, 1)
theorem setV_length (v : List (Int × Int)) (c : Nat) (k : Int) : (setV v c k).length = v.length := by simp [setV]
theorem setV_right {v : List (Int × Int)} {c : Nat} {k : Int} (hv : rightV v = true) (hk : 0 ≤ k) : rightV (setV v c k) = true := by
  unfold rightV at hv ⊢
  rw [setV_length]
  rw [Bool.and_eq_true] at hv ⊢
  refine ⟨hv.1, ?_⟩
  rw [List.all_eq_true]
  intro r hr
  rcases List.mem_or_eq_of_mem_set hr with h | h
  · exact (List.all_eq_true.1 hv.2) r h
  · rw [h, right_one, decide_eq_true (show 0 ≤ (k, (1 : Int)).1 from hk)]; rfl
theorem clock_set {v : List (Int × Int)} {c : Nat} {k : Int} (hc : 1 ≤ c ∧ c ≤ v.length) (i : Nat) : clockV (setV v c k) i = if i = c then (k, 1) else clockV v i := by
  unfold clockV setV
  by_cases e : i = c
  · subst e
    rw [if_neg (by omega), if_pos rfl, List.getD_eq_getElem?_getD, List.getElem?_set_self (by omega)]; rfl
  · rw [if_neg e]
    by_cases e0 : i = 0
    · rw [if_pos e0, if_pos e0]
    · rw [if_neg e0, if_neg e0, List.getD_eq_getElem?_getD, List.getD_eq_getElem?_getD, List.getElem?_set_ne (by omega)]
theorem cq_set {v : List (Int × Int)} {c : Nat} {k G : Int} {u : Nat → Int} {n : Nat} (hG : 0 < G) (hc : 1 ≤ c ∧ c ≤ v.length) (h : ∀ i, i ≤ n → cq v i = (u i : Rat) / (G : Rat)) : ∀ i, i ≤ n → cq (setV v c k) i = ((if i = c then k * G else u i : Int) : Rat) / (G : Rat) := fun i hi => by
  unfold cq
  rw [clock_set hc]
  by_cases e : i = c
  · rw [if_pos e, if_pos e]
    exact qv_grid (x := (k, 1)) (show (0 : Int) < 1 by decide) hG (Int.mul_one _)
  · rw [if_neg e, if_neg e]; exact h i hi
theorem one_of {x : Int × Int} {k : Int} (hx : rightR x = true) (h : qv x = (k : Rat)) : x = (k, 1) := by
  have hp := rq_pos hx
  rw [← qv_int k, qv_eq hp (show (0 : Int) < 1 by decide)] at h
  have hg := (of_decide_eq_true hx).2
  obtain ⟨a, b⟩ := x
  simp only at h hp hg
  have ea : a = k * b := by omega
  subst ea
  have e1 : Nat.gcd (k * b).natAbs b.natAbs = b.natAbs := by
    rw [Int.natAbs_mul]; exact Nat.gcd_mul_left_left _ _
  rw [e1] at hg
  have eb : b = 1 := by omega
  subst eb
  rw [Int.mul_one]
theorem reset06 {n c : Nat} {k : Int} {m a : Mat} {v : List (Int × Int)} (hn : n ≤ 8) (hc : 1 ≤ c ∧ c ≤ n) (hk : 0 ≤ k ∧ k ≤ 1048576) (hm : m = (fun _ _ => 0) ∨ ClosedZ n m) (e : ofP n (flat n (resetW (some (n, m)) c k)) = (some a, 0)) (hv : rightV v = true) (hl : v.length = n) :
    (inP n m v = true → inP n a (setV v c k) = true) ∧ (inP n a v = true → v.getD (c - 1) (0, 0) = (k, 1)) := by
  have hc' : 1 ≤ c ∧ c ≤ v.length := by omega
  rcases hm with rfl | hm
  · rw [reset_zero k hn] at e
    simp only [Prod.mk.injEq, Option.some.injEq, and_true] at e
    subst e
    rw [in_zero hv hl]
    exact ⟨fun h => (by cases h), fun h => (by cases h)⟩
  · obtain ⟨G, u, x, hG, h0, hu, hx, hcq, hq⟩ := grid_two (d := (0, 1)) hv hl (by decide) (by decide)
    have hra := kind_right (of_kind e)
    rw [in_sat hG hm.full.right hv hl hcq, in_sat hG hra hv hl hcq, in_sat hG hra (setV_right hv hk.1) ((setV_length v c k).trans hl) (cq_set hG hc' hcq)]
    have hs0 : (fun i => if i = c then k * G else u i) 0 = 0 := by show (if 0 = c then k * G else u 0) = 0; rw [if_neg (by omega)]; exact h0
    have hkG : 0 ≤ k * G := Int.mul_nonneg hk.1 (by omega)
    refine ⟨fun h => ?_, fun h => ?_⟩
    · rw [reset_sat hn (by omega) hc hk hm e hs0]
      refine ⟨fgt_of hc h0 ?_ (fun i _ hne => if_neg hne) h, if_pos rfl⟩
      show 0 ≤ (if c = c then k * G else u c)
      rw [if_pos rfl]; exact hkG
    · have hh := ((reset_sat hn (by omega) hc hk hm e h0).1 h).2
      have e1 := hcq c hc.2
      rw [hh] at e1
      have e2 : clockV v c = v.getD (c - 1) (0, 0) := by unfold clockV; rw [if_neg (by omega)]
      rw [← e2]
      refine one_of (clock_right hv (by omega)).1 ?_
      have hGr := cast_pos hG
      show cq v c = _
      rw [e1, Rat.intCast_mul]
      exact Rat.mul_div_cancel (by grind)
theorem unset06 {n c : Nat} {k : Int} {m a : Mat} {v : List (Int × Int)} (hn : n ≤ 8) (hc : 1 ≤ c ∧ c ≤ n) (hk : 0 ≤ k ∧ k ≤ 1048576) (hm : m = (fun _ _ => 0) ∨ ClosedZ n m) (e : unsetP n m c k = (some a, 0)) (hra : RightM n a) (hv : rightV v = true) (hl : v.length = n) :
    inP n a v = inP n m (setV v c k) := by
  have hc' : 1 ≤ c ∧ c ≤ v.length := by omega
  have hv' := setV_right (c := c) hv hk.1
  have hl' := (setV_length v c k).trans hl
  rcases hm with rfl | hm
  · rw [unset_zero k hn] at e
    simp only [Prod.mk.injEq, Option.some.injEq, and_true] at e
    subst e
    rw [in_zero hv hl, in_zero hv' hl']
  · obtain ⟨G, u, x, hG, h0, hu, hx, hcq, hq⟩ := grid_two (d := (0, 1)) hv hl (by decide) (by decide)
    rw [Bool.eq_iff_iff, in_sat hG hra hv hl hcq, in_sat hG hm.full.right hv' hl' (cq_set hG hc' hcq)]
    exact unset_sat hn (by omega) hc hk hm e h0 (hu c hc.2) (if_pos rfl) (fun i _ hne => if_neg hne)

/-! ### guards -/
/-- Does a valuation keep a limit? -/
def lkV (v : List (Int × Int)) (x : Int × Int × Int) : Bool := keepsQ (clockV v x.1.toNat) (clockV v x.2.1.toNat) x.2.2
/-- Do the guards from p on hold; fuel: how many are left. -/
def holdsFrom (v : List (Int × Int)) (l : List (Int × Int × Int × Int)) : Nat → Nat → Bool → Bool × Int
  | 0, _, b => (b, 0)
  | g + 1, p, b => if (guardP (l.getD p (0, 0, 0, 0))).2 ≠ 0 then (false, (guardP (l.getD p (0, 0, 0, 0))).2)
    else if (v.length : Int) < (l.getD p (0, 0, 0, 0)).1 ∨ (v.length : Int) < (l.getD p (0, 0, 0, 0)).2.1 then (false, 12)
    else holdsFrom v l g (p + 1) (b && (guardP (l.getD p (0, 0, 0, 0))).1.all (lkV v))
def holdsA (v : List (Int × Int)) (l : List (Int × Int × Int × Int)) : Bool × Int := if rightV v = true then holdsFrom v l l.length 0 true else (false, 7)
theorem gsE_all : ∀ (l : List (Int × Int × Int × Int)), gsE l = 0 → ∀ q, q < l.length → (guardP (l.getD q (0, 0, 0, 0))).2 = 0
  | [], _, q, h => by simp at h
  | g :: l, h, q, hq => by
    unfold gsE at h
    by_cases e : (guardP g).2 = 0
    · rw [if_pos e] at h
      cases q with
      | zero => simpa using e
      | succ q => simpa using gsE_all l h q (by simpa using hq)
    · rw [if_neg e] at h
      exact absurd h e
theorem gsL_mem {l : List (Int × Int × Int × Int)} {x : Int × Int × Int} : ∀ {p q}, q < p → x ∈ (guardP (l.getD q (0, 0, 0, 0))).1 → x ∈ gsL l p
  | 0, q, h, _ => absurd h (by omega)
  | p + 1, q, h, hx => by
    rw [gsL, List.mem_append]
    by_cases e : q = p
    · subst e; exact .inr hx
    · exact .inl (gsL_mem (by omega) hx)
theorem guard_clocks {g : Int × Int × Int × Int} (h : (guardP g).2 = 0) : ∃ x, x ∈ (guardP g).1 ∧ ((x.1 = g.1 ∧ x.2.1 = g.2.1) ∨ (x.1 = g.2.1 ∧ x.2.1 = g.1)) := by
  unfold guardP at h ⊢
  by_cases h1 : ¬ (0 ≤ g.1 ∧ g.1 ≤ 8 ∧ 0 ≤ g.2.1 ∧ g.2.1 ≤ 8)
  · rw [if_pos h1] at h; exact absurd h (by decide)
  rw [if_neg h1] at h ⊢
  by_cases h2 : ¬ (1 ≤ g.2.2.1 ∧ g.2.2.1 ≤ 5)
  · rw [if_pos h2] at h; exact absurd h (by decide)
  rw [if_neg h2] at h ⊢
  by_cases h3 : ¬ (-1048576 ≤ g.2.2.2 ∧ g.2.2.2 ≤ 1048576)
  · rw [if_pos h3] at h; exact absurd h (by decide)
  rw [if_neg h3] at h ⊢
  split
  · exact ⟨_, List.mem_singleton.2 rfl, .inl ⟨rfl, rfl⟩⟩
  · split
    · exact ⟨_, List.mem_singleton.2 rfl, .inl ⟨rfl, rfl⟩⟩
    · split
      · exact ⟨_, List.mem_singleton.2 rfl, .inr ⟨rfl, rfl⟩⟩
      · split
        · exact ⟨_, List.mem_singleton.2 rfl, .inr ⟨rfl, rfl⟩⟩
        · exact ⟨_, List.mem_cons_self, .inl ⟨rfl, rfl⟩⟩
theorem holds_all {v : List (Int × Int)} {l : List (Int × Int × Int × Int)} (h1 : ∀ q, q < l.length → (guardP (l.getD q (0, 0, 0, 0))).2 = 0) (h2 : ∀ q, q < l.length → (l.getD q (0, 0, 0, 0)).1 ≤ v.length ∧ (l.getD q (0, 0, 0, 0)).2.1 ≤ v.length) :
    ∀ g p, p + g = l.length → holdsFrom v l g p ((gsL l p).all (lkV v)) = ((gsL l l.length).all (lkV v), 0)
  | 0, p, h => by rw [show l.length = p by omega]; rfl
  | g + 1, p, h => by
    have a := h2 p (by omega)
    unfold holdsFrom
    rw [if_neg (not_not_intro (h1 p (by omega))), if_neg (by omega), ← List.all_append]
    exact holds_all h1 h2 g (p + 1) (by omega)
theorem guards06 {n : Nat} {m a : Mat} {v : List (Int × Int)} {l : List (Int × Int × Int × Int)} (hn : n ≤ 8) (hm : m = (fun _ _ => 0) ∨ ClosedZ n m) (e : gdA (some (n, m)) l = (some a, 0)) (hra : RightM n a) (hv : rightV v = true) (hl : v.length = n) :
    (holdsA v l).2 = 0 ∧ inP n a v = (inP n m v && (holdsA v l).1) := by
  have e : (if gsE l = 0 then conA (some (n, m)) (gsL l l.length) else (none, gsE l)) = (some a, 0) := e
  by_cases hE : gsE l = 0
  · rw [if_pos hE] at e
    have e : conP n (openW (some (n, m))) (gsL l l.length) = (some a, 0) := e
    have e' := e
    unfold conP at e'
    by_cases hc : conE n (gsL l l.length) = 0
    · obtain ⟨c1, c2⟩ := conE_parts hc
      have hg := gsE_all l hE
      have hclk : ∀ q, q < l.length → (l.getD q (0, 0, 0, 0)).1 ≤ v.length ∧ (l.getD q (0, 0, 0, 0)).2.1 ≤ v.length := fun q hq => by
        obtain ⟨x, hx, hxe⟩ := guard_clocks (hg q hq)
        have := (List.all_eq_true.1 c1) x (gsL_mem hq hx)
        unfold clkB anyB at this
        simp only [Bool.and_eq_true, decide_eq_true_eq] at this
        rw [hl]
        rcases hxe with ⟨a1, a2⟩ | ⟨a1, a2⟩ <;> (rw [a1, a2] at this; omega)
      have hh : holdsA v l = ((gsL l l.length).all (lkV v), 0) := by
        unfold holdsA
        rw [if_pos hv]
        exact holds_all hg hclk l.length 0 (by omega)
      rw [hh]
      refine ⟨rfl, ?_⟩
      obtain ⟨G, u, x, hG, h0, hu, hx, hcq, hq⟩ := grid_two (d := (0, 1)) hv hl (by decide) (by decide)
      rw [Bool.eq_iff_iff, in_sat hG hra hv hl hcq, Bool.and_eq_true, in_sat hG (kind_right hm) hv hl hcq, cons_sat hn (by omega) (kind_ok hm) e, all_getD _ _ (0, 0, 0)]
      have hk : ∀ q, q < (gsL l l.length).length → (lkV v ((gsL l l.length).getD q (0, 0, 0)) = true ↔ sat G (wid ((gsL l l.length).getD q (0, 0, 0)).2.2) (u ((gsL l l.length).getD q (0, 0, 0)).1.toNat - u ((gsL l l.length).getD q (0, 0, 0)).2.1.toNat)) := fun q hq => by
        have b1 := (all_getD _ _ (0, 0, 0)).1 c1 q hq
        have b2 := (all_getD _ _ (0, 0, 0)).1 c2 q hq
        generalize (gsL l l.length).getD q (0, 0, 0) = y at *
        unfold clkB anyB at b1
        simp only [Bool.and_eq_true, decide_eq_true_eq] at b1
        unfold bdB rightB at b2
        have b3 := of_decide_eq_true b2
        unfold lkV
        rw [keeps_kq (clock_pos hv (by omega)) (clock_pos hv (by omega))]
        show kq _ (cq v _ - cq v _) ↔ _
        rw [hcq _ (by omega), hcq _ (by omega), sub_grid]
        exact kq_sat hG (by omega)
      exact ⟨fun h => ⟨h.1, fun q hq => (hk q hq).2 (h.2 q hq)⟩, fun h => ⟨h.1, fun q hq => (hk q hq).1 (h.2 q hq)⟩⟩
    · rw [if_neg hc] at e'; cases e'
  · rw [if_neg hE] at e; cases e

/-! ### in both -/
theorem zero_of' {n : Nat} (hn : n ≤ 8) : ofP n (flat n (minM (fun _ _ => 0) (fun _ _ => 0))) = (some (fun _ _ => 0), 0) := by
  have e : flat n (minM (fun _ _ => 0) (fun _ _ => 0)) = flat n (openW (some (n, fun _ _ => 0))) := flat_congr fun i j hi hj => ((open_agree n (fun _ _ => 0)) i j hi hj).symm
  rw [e]
  exact ofP_zero n hn
theorem and06 {n : Nat} {m a : Mat} {v : List (Int × Int)} (hn : n ≤ 8) (hm : m = (fun _ _ => 0) ∨ ClosedZ n m) (e : ofP n (flat n (upW (some (n, m)))) = (some a, 0)) (hv : rightV v = true) (hl : v.length = n) :
    ∃ b, andA (some (n, m)) [some (n, a)] = (some b, 0) ∧ inP n b v = inP n m v := by
  have e1 : alE n [some (n, a)] = 0 := by
    refine alE_ok (fun j hj => ?_) (fun j hj => ?_) <;> (have : j = 0 := by simpa using hj) <;> subst this
    · exact fun h => by cases h
    · rfl
  have e2 : andA (some (n, m)) [some (n, a)] = ofP n (flat n (andUp n (openW (some (n, m))) [a] 1)) := by
    show (if alE n [some (n, a)] = 0 then _ else _) = _
    rw [if_pos e1]; rfl
  have hex : ∃ b, ofP n (flat n (andUp n (openW (some (n, m))) [a] 1)) = (some b, 0) := by
    rw [flat_congr (and_one (kind_right hm))]
    rcases hm with rfl | hc
    · have ea := e
      rw [up_zero n hn] at ea
      simp only [Prod.mk.injEq, Option.some.injEq, and_true] at ea
      subst ea
      exact ⟨_, zero_of' hn⟩
    · have huc := up_closed hc
      have ea := e
      rw [of_same hn huc (upW_agree hc)] at ea
      simp only [Prod.mk.injEq, Option.some.injEq, and_true] at ea
      subst ea
      refine ⟨_, of_same hn hc fun i j hi hj => ?_⟩
      rw [minM_cell hc.full.right hi hj, nar_agree hn huc i j hi hj]
      unfold upM
      split
      · have := hc.full.right i j hi hj; unfold rightB at this; have := of_decide_eq_true this; omega
      · omega
  obtain ⟨b, hb⟩ := hex
  refine ⟨b, e2.trans hb, ?_⟩
  obtain ⟨G, u, x, hG, h0, hu, hx, hcq, hq⟩ := grid_two (d := (0, 1)) hv hl (by decide) (by decide)
  rw [Bool.eq_iff_iff, in_sat hG (kind_right (of_kind hb)) hv hl hcq, in_sat hG (kind_right hm) hv hl hcq, both_sat hn (by omega) (kind_ok hm) (kind_ok (of_kind e)) hb]
  exact ⟨fun h => h.1, fun h => ⟨h, up_sat hn hm e h0 h0 (Int.le_refl 0) (fun i h1 _ => (Int.add_zero _).symm) h⟩⟩

end Go.Proofs.Ytmelblnflalanaa

/- A drawn region by one invariant: guarded operations too. -/
namespace Go.Proofs.Ytmelblnflalanaa
open Go Go.RowKit
set_option linter.unusedVariables false
set_option linter.unusedSimpArgs false

section
variable {P : Program} {ops : Array Oper} {Q : Exit → Act → World → Prop}
/-- A guarded operation is run: the guard's slot holds what is wanted. -/
theorem want_on {o : Oper} {a : Act} {j d : Nat} {b : Bool} (hg : o.guard = some (j, b)) (hj : (ops[j]?).bind (·.dst) = some d) (hv : a.eval (.tmp d) = .bool b) : Region.wanted o (yielded ops a.tmps) = true := by
  have hv' : a.tmps.getD d undef = .bool b := hv
  have ht : a.tmps[d]? = some (.bool b) := by
    rw [Array.getD_eq_getD_getElem?] at hv'
    cases h : a.tmps[d]? with
    | none => rw [h] at hv'; cases hv'
    | some x => rw [h] at hv'; exact congrArg some hv'
  unfold Region.wanted
  rw [hg]
  show (yielded ops a.tmps j == some b) = true
  unfold yielded
  rw [hj]
  show ((match (a.tmps[d]? : Option Value) with | some (.bool b) => some b | _ => none) == some b) = true
  rw [ht]
  simp
theorem want_off {o : Oper} {a : Act} {j d : Nat} {b : Bool} (hg : o.guard = some (j, b)) (hj : (ops[j]?).bind (·.dst) = some d) (hv : a.eval (.tmp d) = .bool (!b)) : Region.wanted o (yielded ops a.tmps) = false := by
  have hv' : a.tmps.getD d undef = .bool (!b) := hv
  have ht : a.tmps[d]? = some (.bool (!b)) := by
    rw [Array.getD_eq_getD_getElem?] at hv'
    cases h : a.tmps[d]? with
    | none => rw [h] at hv'; cases hv'
    | some x => rw [h] at hv'; exact congrArg some hv'
  unfold Region.wanted
  rw [hg]
  show (yielded ops a.tmps j == some b) = false
  unfold yielded
  rw [hj]
  show ((match (a.tmps[d]? : Option Value) with | some (.bool b) => some b | _ => none) == some b) = false
  rw [ht]
  cases b <;> rfl
theorem wpOp_want {i : Nat} {o : Oper} {K : Act → World → Prop} {a : Act} {w : World} (ho : ops[i]? = some o) (hg : Region.wanted o (yielded ops a.tmps) = true) (h : o.wp P a w K Q) : wpOp P ops Q i K a w := by
  unfold wpOp
  rw [ho]
  simp only [hg, if_true]
  exact .inl h
/-- A guarded operation that is left out. -/
theorem op_skip {i : Nat} {o : Oper} {K : Act → World → Prop} {a : Act} {w : World} {d : Nat} (ho : ops[i]? = some o) (hg : Region.wanted o (yielded ops a.tmps) = false) (hd : o.dst = some d) (h : K (a.put (some d) undef) w) : wpOp P ops Q i K a w := by
  unfold wpOp
  rw [ho]
  simp only [hg]
  rw [hd]
  exact h
theorem op_moveG {i : Nat} {o : Oper} {K : Act → World → Prop} {a : Act} {w : World} {d : Nat} {s : Operand} (ho : ops[i]? = some o) (hg : Region.wanted o (yielded ops a.tmps) = true) (hop : o.op = .move s) (hd : o.dst = some d)
    {v : Value} (hx : a.eval s = v) (h : K (a.put (some d) v) w) : wpOp P ops Q i K a w :=
  wpOp_want ho hg (BigFrame.wp_move _ hop (by rw [hx, hd]; exact h))
theorem op_assignG {i : Nat} {o : Oper} {K : Act → World → Prop} {a : Act} {w : World} {d : Nat} {s : Operand} (ho : ops[i]? = some o) (hg : Region.wanted o (yielded ops a.tmps) = true) (hop : o.op = .assign s) (hd : o.dst = some d)
    {v : Value} (hx : a.eval s = v) (h : K (a.put (some d) v) w) : wpOp P ops Q i K a w :=
  wpOp_want ho hg (BigFrame.wp_assign _ hop (by rw [hx, hd]; exact h))
theorem op_loadG {i : Nat} {o : Oper} {K : Act → World → Prop} {a : Act} {w : World} {d g : Nat} {x : Operand} {ty t : TypeId} {cs : Array Value} {td : TypeDesc} (ho : ops[i]? = some o) (hg : Region.wanted o (yielded ops a.tmps) = true) (hop : o.op = .load ty x) (hd : o.dst = some d)
    (hu : P.underlying ty = some td) (hdd : (match td with | .struct _ | .array _ _ => true | _ => false) = true) (hi : (P.info? ty).map (·.size) = some cs.size)
    (hx : a.eval x = .pointer (some ⟨g, 0, none⟩)) (hw : w.heap[g]? = some (.cells cs t)) (h : K (a.put (some d) (.agg cs)) w) : wpOp P ops Q i K a w :=
  wpOp_want ho hg (wp_load_row ty x hop g hx t cs (0, 0) td hw hu hdd hi (by rw [hd]; exact h))
theorem op_valueG {i : Nat} {o : Oper} {K : Act → World → Prop} {a : Act} {w w' : World} {d : Nat} {v : Value} (ho : ops[i]? = some o) (hg : Region.wanted o (yielded ops a.tmps) = true)
    (hd : o.dst = some d) (hx : (execOp a.eval o).run P w = .ok (.value v) w') (h : K (a.put (some d) v) w') : wpOp P ops Q i K a w := by
  refine wpOp_want ho hg ?_
  unfold Oper.wp
  rw [hx, Oper.upon_value, hd]
  exact h
theorem op_goG {i : Nat} {o : Oper} {K : Act → World → Prop} {a : Act} {w : World} {d : Nat} {f : FuncId} {xs : Array Operand} {ats : Array TypeId} {args : Array Value} {fn : Func} {c : Code} {v : Value} (ho : ops[i]? = some o) (hg : Region.wanted o (yielded ops a.tmps) = true)
    (hop : o.op = .call { callee := .value (.func f), args := xs, argTypes := ats }) (hd : o.dst = some d) (hf : P.funcs[f]? = some fn) (hn : (fn.name == "runtime.NumGoroutine") = false) (hb : fn.body = some c)
    (hx : xs.map a.eval = args) {R : World → Prop} (hc : Calls P f args w fun e w' => e = .returned v ∧ R w') (h : ∀ w', R w' → K (a.put (some d) v) w') : wpOp P ops Q i K a w := by
  refine wpOp_want ho hg ?_
  have e : execOp a.eval o = callFunc f (#[] ++ xs.map a.eval ++ #[]) := by
    obtain ⟨dst, op, ty, pos, after, guard⟩ := o
    simp only at hop
    subst hop
    rfl
  unfold Oper.wp
  rw [e, hx, show #[] ++ args ++ #[] = args by simp, enter_run hf hn hb args w, Oper.upon_enter]
  refine hc.mono ?_
  rintro e w' ⟨rfl, hr⟩
  rw [hd]
  exact h w' hr
end

/-- The keys of a table, but for one place, are others. -/
def keysB (ks : List (Nat × Nat)) (j i d : Nat) : Bool := (List.range ks.length).all fun k => k == j || (!((ks.getD k (0, 0)).1 == i) && !((ks.getD k (0, 0)).2 == d))
section
variable {tbl : List (Nat × Nat × Value)} {base : List (Nat × Value)} {L : Nat → Bool} {vals : Nat → Value}
theorem TabR.set (h : TabR tbl base L vals) (j : Nat) {i d : Nat} {x : Value} (hj : tbl[j]? = some (i, d, x)) (hk : keysB (tbl.map fun t => (t.1, t.2.1)) j i d = true) (h2 : ((base.map (·.1)).all fun b => !(b == d)) = true) :
    TabR tbl base (fun k => k == i || L k) (fun k => if k = d then x else vals k) := by
  refine h.put (fun t ht hor => ?_) (fun b hb => ?_)
  · obtain ⟨k, hk1, hk2⟩ := List.getElem_of_mem ht
    have h3 := (List.all_eq_true.1 hk) k (List.mem_range.2 (by simpa using hk1))
    by_cases hkj : k = j
    · subst hkj
      rw [List.getElem?_eq_getElem hk1, hk2] at hj
      exact Option.some.inj hj
    · exfalso
      have e : (tbl.map fun t => (t.1, t.2.1)).getD k (0, 0) = (t.1, t.2.1) := by
        rw [List.getD_eq_getElem?_getD, List.getElem?_map, List.getElem?_eq_getElem hk1, hk2]
        rfl
      rw [e] at h3
      simp only [Bool.or_eq_true, beq_iff_eq, hkj, false_or, Bool.and_eq_true, Bool.not_eq_true', beq_eq_false_iff_ne, ne_eq] at h3
      rcases hor with h4 | h4
      · exact h3.1 h4
      · exact h3.2 h4
  · have := (List.all_eq_true.1 h2) b.1 (List.mem_map_of_mem hb)
    simpa using this
end

end Go.Proofs.Ytmelblnflalanaa

/- Holds of the program: of whatever bound and fraction. -/
namespace Go.Proofs.Ytmelblnflalanaa
open Go Go.RowKit
set_option linter.unusedVariables false
set_option linter.unusedSimpArgs false

set_option maxRecDepth 100000 in
set_option maxHeartbeats 1000000 in
/-- The product of a number of a bound and of one above 0, in two words. -/
theorem product_any (v d : Int) (w : World) (hv0 : -268435456 ≤ v) (hv1 : v ≤ 268435456) (hd0 : 1 ≤ d) (hd1 : d ≤ 9223372036854775807) :
    Calls Try.prog 82 #[.int .i64 v, .int .i64 d] w fun e w' => e = .returned (.tuple #[.int .i64 (v * d / 18446744073709551616), .int .u64 (v * d % 18446744073709551616)]) ∧ w = w' := by
  have hP0 : -2475880078570760549798248448 ≤ v * d ∧ v * d ≤ 2475880078570760549798248448 := by
    have e1 : -(268435456 * d) ≤ v * d := by
      have := Int.mul_le_mul_of_nonneg_right hv0 (show (0 : Int) ≤ d by omega)
      rw [Int.neg_mul] at this
      exact this
    have e2 : v * d ≤ 268435456 * d := Int.mul_le_mul_of_nonneg_right hv1 (by omega)
    omega
  obtain ⟨D, hD⟩ : ∃ D : Nat, d = D := ⟨d.toNat, by omega⟩
  subst hD
  by_cases hn : v < 0
  · obtain ⟨V, hV⟩ : ∃ V : Nat, v + 18446744073709551616 = V := ⟨(v + 18446744073709551616).toNat, by omega⟩
    have HM := Lib.hid (fun w => mul64_any V D (by omega) (by omega) w)
    have hVD : ((V * D : Nat) : Int) = v * D + 18446744073709551616 * D := by
      rw [Int.natCast_mul, ← hV, Int.add_mul]
    obtain ⟨P, hP⟩ : ∃ P, P = v * (D : Int) := ⟨_, rfl⟩
    rw [← hP] at hVD hP0 ⊢
    obtain ⟨Q, hQ⟩ : ∃ Q, Q = V * D := ⟨_, rfl⟩
    rw [← hQ] at hVD HM
    clear hP hQ
    have g0 : IntKind.u64.wrap v = (V : Int) := by rw [IntKind.wrap_u64]; omega
    have g1 : IntKind.u64.wrap (D : Int) = (D : Int) := by rw [IntKind.wrap_u64]; omega
    have g2 : IntKind.i64.wrap (IntKind.u64.wrap (((Q / 18446744073709551616 : Nat) : Int) - D)) = P / 18446744073709551616 := by rw [IntKind.wrap_u64, IntKind.wrap_i64]; omega
    have g3 : ((Q % 18446744073709551616 : Nat) : Int) = P % 18446744073709551616 := by omega
    have d1 : decide (v < 0) = true := decide_eq_true hn
    have d2 : decide ((D : Int) < 0) = false := decide_eq_false (by omega)
    rw [g3] at HM
    obtain ⟨h, hh⟩ : ∃ h, h = ((Q / 18446744073709551616 : Nat) : Int) := ⟨_, rfl⟩
    rw [← hh] at HM g2
    obtain ⟨u, hu⟩ : ∃ u, u = P % 18446744073709551616 := ⟨_, rfl⟩
    rw [← hu] at HM ⊢
    obtain ⟨z, hz⟩ : ∃ z, z = P / 18446744073709551616 := ⟨_, rfl⟩
    rw [← hz] at g2 ⊢
    clear g3 hVD hP0 hu hh hV hz hv0 hv1 hd0 hd1
    have hd : ¬ (D : Int) < 0 := by omega
    go_enter Try.func82, Try.ntmps82
    go_wp2_with fail
    refine (HM.out _).mono ?_
    rintro e w' ⟨rfl, rfl⟩
    go_wp2
    go_ret2
    exact ⟨by simp [g2], rfl⟩
  · obtain ⟨V, hV⟩ : ∃ V : Nat, v = V := ⟨v.toNat, by omega⟩
    subst hV
    have HM := Lib.hid (fun w => mul64_any V D (by omega) (by omega) w)
    have hVD : ((V * D : Nat) : Int) = (V : Int) * D := Int.natCast_mul _ _
    rw [← hVD] at hP0 ⊢
    obtain ⟨Q, hQ⟩ : ∃ Q, Q = V * D := ⟨_, rfl⟩
    rw [← hQ] at hP0 HM ⊢
    have g0 : IntKind.u64.wrap (V : Int) = (V : Int) := by rw [IntKind.wrap_u64]; omega
    have g1 : IntKind.u64.wrap (D : Int) = (D : Int) := by rw [IntKind.wrap_u64]; omega
    have g2 : IntKind.i64.wrap ((Q / 18446744073709551616 : Nat) : Int) = (Q : Int) / 18446744073709551616 := by rw [IntKind.wrap_i64]; omega
    have g3 : ((Q % 18446744073709551616 : Nat) : Int) = (Q : Int) % 18446744073709551616 := by omega
    rw [g3] at HM
    obtain ⟨h, hh⟩ : ∃ h, h = ((Q / 18446744073709551616 : Nat) : Int) := ⟨_, rfl⟩
    rw [← hh] at HM g2
    obtain ⟨u, hu⟩ : ∃ u, u = (Q : Int) % 18446744073709551616 := ⟨_, rfl⟩
    rw [← hu] at HM ⊢
    obtain ⟨z, hz⟩ : ∃ z, z = (Q : Int) / 18446744073709551616 := ⟨_, rfl⟩
    rw [← hz] at g2 ⊢
    have hd : ¬ (D : Int) < 0 := by omega
    clear g3 hVD hP0 hu hh hz hv0 hv1 hd0 hd1 hQ
    go_enter Try.func82, Try.ntmps82
    go_wp2_with fail
    refine (HM.out _).mono ?_
    rintro e w' ⟨rfl, rfl⟩
    go_wp2
    go_ret2
    exact ⟨by simp [g2], rfl⟩

/-- Two numbers held against one another by their words. -/
theorem words_lt (x P r : Int) (hx0 : -9223372036854775808 ≤ x) (hx1 : x ≤ 9223372036854775807) (hr : r = 0 ∨ r = 1) :
    decide (x < P + r) = (if (if x < 0 then -1 else 0) ≠ P / 18446744073709551616 then decide ((if x < 0 then -1 else 0 : Int) < P / 18446744073709551616)
      else (decide (x % 18446744073709551616 < P % 18446744073709551616) || (decide (x % 18446744073709551616 = P % 18446744073709551616) && decide (r = 1)))) := by
  by_cases hn : x < 0
  · rw [if_pos hn]
    by_cases hh : (-1 : Int) = P / 18446744073709551616
    · rw [if_neg (by simp [hh])]
      by_cases c : x % 18446744073709551616 < P % 18446744073709551616
      · rw [decide_eq_true c, decide_eq_true (by omega)]; rfl
      · rw [decide_eq_false c, Bool.false_or]
        by_cases c2 : x % 18446744073709551616 = P % 18446744073709551616
        · rw [decide_eq_true c2, Bool.true_and]
          by_cases c3 : r = 1
          · rw [decide_eq_true c3, decide_eq_true (by omega)]
          · rw [decide_eq_false c3, decide_eq_false (by omega)]
        · rw [decide_eq_false c2, Bool.false_and, decide_eq_false (by omega)]
    · rw [if_pos hh]
      by_cases c : (-1 : Int) < P / 18446744073709551616
      · rw [decide_eq_true c, decide_eq_true (by omega)]
      · rw [decide_eq_false c, decide_eq_false (by omega)]
  · rw [if_neg hn]
    by_cases hh : (0 : Int) = P / 18446744073709551616
    · rw [if_neg (by simp [← hh])]
      by_cases c : x % 18446744073709551616 < P % 18446744073709551616
      · rw [decide_eq_true c, decide_eq_true (by omega)]; rfl
      · rw [decide_eq_false c, Bool.false_or]
        by_cases c2 : x % 18446744073709551616 = P % 18446744073709551616
        · rw [decide_eq_true c2, Bool.true_and]
          by_cases c3 : r = 1
          · rw [decide_eq_true c3, decide_eq_true (by omega)]
          · rw [decide_eq_false c3, decide_eq_false (by omega)]
        · rw [decide_eq_false c2, Bool.false_and, decide_eq_false (by omega)]
    · rw [if_pos hh]
      by_cases c : (0 : Int) < P / 18446744073709551616
      · rw [decide_eq_true c, decide_eq_true (by omega)]
      · rw [decide_eq_false c, decide_eq_false (by omega)]

set_option maxRecDepth 100000 in
set_option maxHeartbeats 1000000 in
theorem holds_any (b x d : Int) (w : World) (hx0 : -9223372036854775808 ≤ x) (hx1 : x ≤ 9223372036854775807) (hd1 : d ≤ 9223372036854775807) :
    Calls Try.prog 64 #[.int .i32 b, .int .i64 x, .int .i64 d] w fun e w' => e = .returned (.bool (keepsB b x d)) ∧ w = w' := by
  by_cases h : someB b = true
  · have HV := Lib.hid (fun w => value_yes b w h)
    obtain ⟨hr, hn⟩ : rightB b = true ∧ b ≠ 2147483647 := by simpa [someB] using h
    have hbd := rightB_bd hr hn
    have t1 : (b != 2147483647) = true := by simp [hn]
    by_cases hd : d < 1
    · rw [show keepsB b x d = false from decide_eq_false (by omega)]
      clear hr hn hbd h
      obtain ⟨q, hq⟩ : ∃ q, q = b / 2 := ⟨_, rfl⟩
      obtain ⟨z, hz⟩ : ∃ z, z = decide (b % 2 = 1) := ⟨_, rfl⟩
      rw [← hq, ← hz] at HV
      clear hq hz
      go_enter Try.func64, Try.ntmps64
      go_wp2_with fail
      refine (HV.out _).mono ?_
      rintro e w' ⟨rfl, rfl⟩
      go_wp2
      go_ret
      exact ⟨rfl, rfl⟩
    · have hk : keepsB b x d = decide (x < b / 2 * d + b % 2) := by
        unfold keepsB
        congr 1
        simp [h, hn]
        omega
      have HP := Lib.hid (fun w => product_any (b / 2) d w (by omega) (by omega) (by omega) hd1)
      have hw := words_lt x (b / 2 * d) (b % 2) hx0 hx1 (by omega)
      rw [hk, hw]
      generalize b / 2 * d = P at *
      obtain ⟨q, hq⟩ : ∃ q, q = b / 2 := ⟨_, rfl⟩
      obtain ⟨z, hz⟩ : ∃ z, z = decide (b % 2 = 1) := ⟨_, rfl⟩
      rw [← hq, ← hz] at HV
      rw [← hq] at HP
      have hz' : decide (b % 2 = 1) = z := hz.symm
      generalize P / 18446744073709551616 = ph at *
      generalize P % 18446744073709551616 = pl at *
      have g0 : IntKind.u64.wrap x = x % 18446744073709551616 := by rw [IntKind.wrap_u64]
      generalize x % 18446744073709551616 = xl at *
      clear hr hn hbd h hk hw hq hz t1
      have hd' : ¬ d < 1 := hd
      by_cases hn : x < 0
      · rw [if_pos hn]
        by_cases hh : (-1 : Int) = ph
        · subst hh
          rw [if_neg (by simp)]
          by_cases c : xl < pl
          · rw [decide_eq_true c, Bool.true_or]
            go_enter Try.func64, Try.ntmps64
            go_wp2_with fail
            refine (HV.out _).mono ?_
            rintro e w' ⟨rfl, rfl⟩
            go_wp2_with fail
            refine (HP.out _).mono ?_
            rintro e w' ⟨rfl, rfl⟩
            go_wp2
            go_ret
            exact ⟨by first | rfl | simp [*], rfl⟩
          · rw [decide_eq_false c, Bool.false_or]
            by_cases c2 : xl = pl
            · subst c2
              rw [decide_eq_true rfl, Bool.true_and, hz']
              cases z
              · go_enter Try.func64, Try.ntmps64
                go_wp2_with fail
                refine (HV.out _).mono ?_
                rintro e w' ⟨rfl, rfl⟩
                go_wp2_with fail
                refine (HP.out _).mono ?_
                rintro e w' ⟨rfl, rfl⟩
                go_wp2
                go_ret
                exact ⟨by first | rfl | simp [*], rfl⟩
              · go_enter Try.func64, Try.ntmps64
                go_wp2_with fail
                refine (HV.out _).mono ?_
                rintro e w' ⟨rfl, rfl⟩
                go_wp2_with fail
                refine (HP.out _).mono ?_
                rintro e w' ⟨rfl, rfl⟩
                go_wp2
                go_ret
                exact ⟨by first | rfl | simp [*], rfl⟩
            · rw [decide_eq_false c2, Bool.false_and]
              have t2 : (xl == pl) = false := by simp [c2]
              go_enter Try.func64, Try.ntmps64
              go_wp2_with fail
              refine (HV.out _).mono ?_
              rintro e w' ⟨rfl, rfl⟩
              go_wp2_with fail
              refine (HP.out _).mono ?_
              rintro e w' ⟨rfl, rfl⟩
              go_wp2
              go_ret
              exact ⟨by first | rfl | simp [*], rfl⟩
        · rw [if_pos hh]
          have t2 : ((-1 : Int) != ph) = true := by simp [hh]
          obtain ⟨u, hu⟩ : ∃ u, u = decide ((-1 : Int) < ph) := ⟨_, rfl⟩
          go_enter Try.func64, Try.ntmps64
          go_wp2_with fail
          refine (HV.out _).mono ?_
          rintro e w' ⟨rfl, rfl⟩
          go_wp2_with fail
          refine (HP.out _).mono ?_
          rintro e w' ⟨rfl, rfl⟩
          go_wp2
          go_ret
          exact ⟨by first | rfl | simp [*], rfl⟩
      · rw [if_neg hn]
        by_cases hh : (0 : Int) = ph
        · subst hh
          rw [if_neg (by simp)]
          by_cases c : xl < pl
          · rw [decide_eq_true c, Bool.true_or]
            go_enter Try.func64, Try.ntmps64
            go_wp2_with fail
            refine (HV.out _).mono ?_
            rintro e w' ⟨rfl, rfl⟩
            go_wp2_with fail
            refine (HP.out _).mono ?_
            rintro e w' ⟨rfl, rfl⟩
            go_wp2
            go_ret
            exact ⟨by first | rfl | simp [*], rfl⟩
          · rw [decide_eq_false c, Bool.false_or]
            by_cases c2 : xl = pl
            · subst c2
              rw [decide_eq_true rfl, Bool.true_and, hz']
              cases z
              · go_enter Try.func64, Try.ntmps64
                go_wp2_with fail
                refine (HV.out _).mono ?_
                rintro e w' ⟨rfl, rfl⟩
                go_wp2_with fail
                refine (HP.out _).mono ?_
                rintro e w' ⟨rfl, rfl⟩
                go_wp2
                go_ret
                exact ⟨by first | rfl | simp [*], rfl⟩
              · go_enter Try.func64, Try.ntmps64
                go_wp2_with fail
                refine (HV.out _).mono ?_
                rintro e w' ⟨rfl, rfl⟩
                go_wp2_with fail
                refine (HP.out _).mono ?_
                rintro e w' ⟨rfl, rfl⟩
                go_wp2
                go_ret
                exact ⟨by first | rfl | simp [*], rfl⟩
            · rw [decide_eq_false c2, Bool.false_and]
              have t2 : (xl == pl) = false := by simp [c2]
              go_enter Try.func64, Try.ntmps64
              go_wp2_with fail
              refine (HV.out _).mono ?_
              rintro e w' ⟨rfl, rfl⟩
              go_wp2_with fail
              refine (HP.out _).mono ?_
              rintro e w' ⟨rfl, rfl⟩
              go_wp2
              go_ret
              exact ⟨by first | rfl | simp [*], rfl⟩
        · rw [if_pos hh]
          have t2 : ((0 : Int) != ph) = true := by simp [hh]
          obtain ⟨u, hu⟩ : ∃ u, u = decide ((0 : Int) < ph) := ⟨_, rfl⟩
          go_enter Try.func64, Try.ntmps64
          go_wp2_with fail
          refine (HV.out _).mono ?_
          rintro e w' ⟨rfl, rfl⟩
          go_wp2_with fail
          refine (HP.out _).mono ?_
          rintro e w' ⟨rfl, rfl⟩
          go_wp2
          go_ret
          exact ⟨by first | rfl | simp [*], rfl⟩
  · have h : someB b = false := by simpa using h
    have HV := Lib.hid (fun w => value_no b w h)
    by_cases hd : d < 1
    · rw [show keepsB b x d = false from decide_eq_false (by omega)]
      clear h
      go_enter Try.func64, Try.ntmps64
      go_wp2_with fail
      refine (HV.out _).mono ?_
      rintro e w' ⟨rfl, rfl⟩
      go_wp2
      go_ret
      exact ⟨rfl, rfl⟩
    · by_cases hn : b = 2147483647
      · subst hn
        rw [show keepsB 2147483647 x d = true from decide_eq_true ⟨by omega, .inl rfl⟩]
        clear h
        go_enter Try.func64, Try.ntmps64
        go_wp2_with fail
        refine (HV.out _).mono ?_
        rintro e w' ⟨rfl, rfl⟩
        go_wp2
        go_ret
        exact ⟨rfl, rfl⟩
      · rw [show keepsB b x d = false from decide_eq_false (by simp [h, hn])]
        have t1 : (b != 2147483647) = true := by simp [hn]
        clear h hn
        go_enter Try.func64, Try.ntmps64
        go_wp2_with fail
        refine (HV.out _).mono ?_
        rintro e w' ⟨rfl, rfl⟩
        go_wp2
        go_ret
        exact ⟨rfl, rfl⟩

end Go.Proofs.Ytmelblnflalanaa

/- Which of two fractions is greater, as rat holds them. -/
namespace Go.Proofs.Ytmelblnflalanaa
open Go Go.RowKit
set_option linter.unusedVariables false
set_option linter.unusedSimpArgs false

/-- Two fractions in blocks. -/
structure Rc2 (w0 : World) (x1 x2 y1 y2 : Int) (wr : World) : Prop where
  below : Below w0.heap.size w0 wr
  ha : wr.heap[w0.heap.size]? = some (.cells #[.int .i64 x1, .int .i64 x2] 25)
  hb : wr.heap[w0.heap.size + 1]? = some (.cells #[.int .i64 y1, .int .i64 y2] 25)
section
variable {w0 wr w' : World} {x1 x2 y1 y2 : Int}
theorem Rc2.step (h : Rc2 w0 x1 x2 y1 y2 wr) (hb : Below wr.heap.size wr w') : Rc2 w0 x1 x2 y1 y2 w' :=
  ⟨h.below.trans (hb.mono h.below.size), heap_keep h.ha hb, heap_keep h.hb hb⟩
theorem Rc2.drew (h : Rc2 w0 x1 x2 y1 y2 wr) : Rc2 w0 x1 x2 y1 y2 wr.drew := ⟨Below.drew h.below, h.ha, h.hb⟩
theorem Rc2.four (h : Rc2 w0 x1 x2 y1 y2 wr) : wr.cell? ⟨w0.heap.size, 0, none⟩ = some (.int .i64 x1) ∧ wr.cell? ⟨w0.heap.size, 1, none⟩ = some (.int .i64 x2) ∧ wr.cell? ⟨w0.heap.size + 1, 0, none⟩ = some (.int .i64 y1) ∧ wr.cell? ⟨w0.heap.size + 1, 1, none⟩ = some (.int .i64 y2) := by
  obtain ⟨a1, a2, _, _⟩ := cell_two h.ha
  obtain ⟨b1, b2, _, _⟩ := cell_two h.hb
  exact ⟨a1, a2, b1, b2⟩
end
theorem Rc2.fourX {w0 wr : World} {x1 x2 y1 y2 : Int} (h : Rc2 w0 x1 x2 y1 y2 wr) {g : Nat} (hg : w0.heap.size + 1 < g) (x y z : Value) :
    (((wr.setCell ⟨g, 0, none⟩ x).setCell ⟨g, 1, none⟩ y).setCell ⟨g, 2, none⟩ z).cell? ⟨w0.heap.size, 0, none⟩ = some (.int .i64 x1) ∧ (((wr.setCell ⟨g, 0, none⟩ x).setCell ⟨g, 1, none⟩ y).setCell ⟨g, 2, none⟩ z).cell? ⟨w0.heap.size, 1, none⟩ = some (.int .i64 x2) ∧
    (((wr.setCell ⟨g, 0, none⟩ x).setCell ⟨g, 1, none⟩ y).setCell ⟨g, 2, none⟩ z).cell? ⟨w0.heap.size + 1, 0, none⟩ = some (.int .i64 y1) ∧ (((wr.setCell ⟨g, 0, none⟩ x).setCell ⟨g, 1, none⟩ y).setCell ⟨g, 2, none⟩ z).cell? ⟨w0.heap.size + 1, 1, none⟩ = some (.int .i64 y2) := by
  have e1 := heap_other (c := 2) (g := g) z (heap_other (c := 1) (g := g) y (heap_other (c := 0) (g := g) x h.ha (by omega)) (by omega)) (by omega)
  have e2 := heap_other (c := 2) (g := g) z (heap_other (c := 1) (g := g) y (heap_other (c := 0) (g := g) x h.hb (by omega)) (by omega)) (by omega)
  obtain ⟨a1, a2, _, _⟩ := cell_two e1
  obtain ⟨b1, b2, _, _⟩ := cell_two e2
  exact ⟨a1, a2, b1, b2⟩
theorem Rc2.belowX {w0 wr : World} {x1 x2 y1 y2 : Int} (h : Rc2 w0 x1 x2 y1 y2 wr) {g : Nat} (hg : w0.heap.size + 1 < g) (x y z : Value) : Below w0.heap.size w0 (((wr.setCell ⟨g, 0, none⟩ x).setCell ⟨g, 1, none⟩ y).setCell ⟨g, 2, none⟩ z) := by
  have hl : w0.heap.size ≤ g := by omega
  exact ((h.below.setCell (p := ⟨g, 0, none⟩) hl _).setCell (p := ⟨g, 1, none⟩) hl _).setCell (p := ⟨g, 2, none⟩) hl _
theorem Rc2.made (w : World) (x1 x2 y1 y2 : Int) : Rc2 w x1 x2 y1 y2 ((w.alloc (.cells #[.int .i64 x1, .int .i64 x2] 25)).alloc (.cells #[.int .i64 y1, .int .i64 y2] 25)) := by
  obtain ⟨h1, h2⟩ := two_fr w (.cells #[.int .i64 x1, .int .i64 x2] 25) (.cells #[.int .i64 y1, .int .i64 y2] 25)
  exact ⟨below_two _ _ _, h1, h2⟩
theorem cmpI_neg {x : Int} (h : x < 0) : cmpQI x = -1 := by unfold cmpQI; rw [if_pos h]
theorem cmpI_zero : cmpQI 0 = 0 := rfl
theorem cmpI_pos {x : Int} (h : 0 < x) : cmpQI x = 1 := by unfold cmpQI; rw [if_neg (by omega), if_neg (by omega)]

set_option maxRecDepth 100000 in
set_option maxHeartbeats 8000000 in
theorem compare_any (x1 x2 y1 y2 : Int) (hx1 : I64 x1) (hx2 : I64 x2) (hy1 : I64 y1) (hy2 : I64 y2) (w : World) :
    Calls Try.prog 41 #[.agg #[.int .i64 x1, .int .i64 x2], .agg #[.int .i64 y1, .int .i64 y2]] w fun e w' => e = .returned (.int .i64 (cmpP (x1, x2) (y1, y2))) ∧ Below w.heap.size w w' := by
  have HBO := Lib.hid (fun W => both_any x1 x2 y1 y2 hx1 hx2 hy1 hy2 W)
  have HA1 := Lib.hid (show (rightR (x1, x2) && rightR (y1, y2)) = true → cmpP (x1, x2) (y1, y2) = cmpQI (x1 * y2 - y1 * x2) from fun h => by unfold cmpP; rw [if_pos h])
  have HA0 := Lib.hid (show (rightR (x1, x2) && rightR (y1, y2)) = false → cmpP (x1, x2) (y1, y2) = 0 from fun h => by unfold cmpP; rw [if_neg (by rw [h]; decide)])
  obtain ⟨AP, hAP⟩ : ∃ AP, AP = cmpP (x1, x2) (y1, y2) := ⟨_, rfl⟩
  obtain ⟨rb, hrb⟩ : ∃ rb, rb = (rightR (x1, x2) && rightR (y1, y2)) := ⟨_, rfl⟩
  rw [← hAP] at HA1 HA0 ⊢
  rw [← hrb] at HA1 HA0 HBO
  clear hAP hrb
  have HT1 := Lib.hid (fun W => times_any x1 y2 hx1 hy2 W)
  have HT2 := Lib.hid (fun W => times_any y1 x2 hy1 hx2 W)
  have HOP := Lib.hid (fun W => opposite_any (y1 * x2) W)
  have HSU := Lib.hid (fun W => sumq_any (x1 * y2) (-(y1 * x2)) W (prod_abs hx1 hy2) (by rw [Int.natAbs_neg]; exact prod_abs hy1 hx2))
  rw [show x1 * y2 + -(y1 * x2) = x1 * y2 - y1 * x2 from rfl] at HSU
  obtain ⟨X, hX⟩ : ∃ X, X = x1 * y2 - y1 * x2 := ⟨_, rfl⟩
  rw [← hX] at HSU HA1
  have HSU : Hid (∀ W, Calls Try.prog 61 #[wdV (x1 * y2), wdV (-(y1 * x2))] W fun e w' => e = .returned (.agg #[.int .u64 (hiN X.natAbs), .int .u64 (loN X.natAbs), .bool (decide (X < 0))]) ∧ Below W.heap.size W w') := HSU
  have HSZ : Hid (∀ W, Calls Try.prog 67 #[.agg #[.int .u64 (hiN X.natAbs), .int .u64 (loN X.natAbs)]] W fun e w' => e = .returned (.bool (decide (X.natAbs = 0))) ∧ Below W.heap.size W w') := Lib.hid (fun W => szero_any X.natAbs W)
  have HW := Lib.hid (Rc2.made w x1 x2 y1 y2)
  clear hX hx1 hx2 hy1 hy2
  go_enter Try.func41, Try.ntmps41
  go_upto_region 1 with fail
  generalize (w.alloc (.cells #[.int .i64 x1, .int .i64 x2] 25)).alloc (.cells #[.int .i64 y1, .int .i64 y2] 25) = w1 at *
  obtain ⟨k1, k2, k3, k4⟩ := HW.out.four
  go_wp2_with fail
  refine (HBO.out _).mono ?_
  rintro e w2 ⟨rfl, hb⟩
  have HW2 := Lib.hid (HW.out.step hb)
  clear hb HW HBO k1 k2 k3 k4
  cases rb with
  | false =>
    go_wp2
    go_ret
    exact ⟨by rw [HA0.out (by simp)]; rfl, HW2.out.below⟩
  | true =>
    have HE := Lib.hid (HA1.out (by simp))
    clear HA1 HA0
    go_upto_region 3 with fail
    go_cut [5] (fun s5 wx => ∃ g : Nat, s5 = .pointer (some ⟨g, 0, none⟩) ∧ Hid (wx.heap[g]? = some (.cells #[.int .u64 (hiN X.natAbs), .int .u64 (loN X.natAbs), .bool (decide (X < 0))] 121)) ∧ Hid (Below w.heap.size w wx))
    case first =>
      have kb := HW2.out.drew
      go_region_held3 (fun wr => wr.cell? ⟨w.heap.size, 0, none⟩ = some (.int .i64 x1) ∧ wr.cell? ⟨w.heap.size, 1, none⟩ = some (.int .i64 x2) ∧ wr.cell? ⟨w.heap.size + 1, 0, none⟩ = some (.int .i64 y1) ∧ wr.cell? ⟨w.heap.size + 1, 1, none⟩ = some (.int .i64 y2))
        (first | exact kb.four | exact (kb.step (below_one v7 _)).four | exact kb.fourX hlt _ _ _ | exact (kb.step (below_one _ _)).four | go_keep)
        (first | (go_at_call_of 60 x1; refine (HT1.out _).mono ?_; rintro e v1 ⟨rfl, hb⟩; have hz := heap_keep hz hb; have kb := kb.step hb; obtain ⟨z1, z2, z3, z4⟩ := cell_three hz; obtain ⟨z5, z6, z7⟩ := three_frozen hz; clear hb) | (go_at_call_of 60 x1; refine (HT1.out _).mono ?_; rintro e v1 ⟨rfl, hb⟩; have kb := kb.step hb; clear hb) | (go_at_call_of 60 x1; refine (HT1.out _).mono ?_; rintro e v1 ⟨rfl, hb⟩; have hlt := heap_lt2 kb.hb; have hz := heap_keep (heap_alloc_new _ _) hb; have kb := (kb.step (below_one _ _)).step hb; obtain ⟨z1, z2, z3, z4⟩ := cell_three hz; obtain ⟨z5, z6, z7⟩ := three_frozen hz; clear hb) | (go_at_call_of 60 x1; refine (HT1.out _).mono ?_; rintro e v1 ⟨rfl, hb⟩; have hlt := heap_lt2 HW2.out.hb; have hz := heap_keep (w := (w2.alloc _).drew) (heap_alloc_new w2 _) hb; have kb := (HW2.out.step (below_one w2 _)).drew.step hb; obtain ⟨z1, z2, z3, z4⟩ := cell_three hz; obtain ⟨z5, z6, z7⟩ := three_frozen hz; clear hb) | (go_at_call_of 60 y1; refine (HT2.out _).mono ?_; rintro e v2 ⟨rfl, hb⟩; have hz := heap_keep hz hb; have kb := kb.step hb; obtain ⟨z1, z2, z3, z4⟩ := cell_three hz; obtain ⟨z5, z6, z7⟩ := three_frozen hz; clear hb) | (go_at_call_of 60 y1; refine (HT2.out _).mono ?_; rintro e v2 ⟨rfl, hb⟩; have kb := kb.step hb; clear hb) | (go_at_call_of 60 y1; refine (HT2.out _).mono ?_; rintro e v2 ⟨rfl, hb⟩; have hlt := heap_lt2 kb.hb; have hz := heap_keep (heap_alloc_new _ _) hb; have kb := (kb.step (below_one _ _)).step hb; obtain ⟨z1, z2, z3, z4⟩ := cell_three hz; obtain ⟨z5, z6, z7⟩ := three_frozen hz; clear hb) | (go_at_call_of 60 y1; refine (HT2.out _).mono ?_; rintro e v2 ⟨rfl, hb⟩; have hlt := heap_lt2 HW2.out.hb; have hz := heap_keep (w := (w2.alloc _).drew) (heap_alloc_new w2 _) hb; have kb := (HW2.out.step (below_one w2 _)).drew.step hb; obtain ⟨z1, z2, z3, z4⟩ := cell_three hz; obtain ⟨z5, z6, z7⟩ := three_frozen hz; clear hb) | (go_at_call 61; refine (HSU.out _).mono ?_; rintro e v7 ⟨rfl, hb⟩; have hz := heap_keep hz hb; have kb := kb.step hb; obtain ⟨z1, z2, z3, z4⟩ := cell_three hz; obtain ⟨z5, z6, z7⟩ := three_frozen hz; clear hb) | (go_at_call 61; refine (HSU.out _).mono ?_; rintro e v7 ⟨rfl, hb⟩; have kb := kb.step hb; clear hb) | (go_at_call 61; refine (HSU.out _).mono ?_; rintro e v7 ⟨rfl, hb⟩; have hlt := heap_lt2 kb.hb; have hz := heap_keep (heap_alloc_new _ _) hb; have kb := (kb.step (below_one _ _)).step hb; obtain ⟨z1, z2, z3, z4⟩ := cell_three hz; obtain ⟨z5, z6, z7⟩ := three_frozen hz; clear hb) | (go_at_call 66; refine (HOP.out _).mono ?_; rintro e v8 ⟨rfl, hb⟩; have hz := heap_keep hz hb; have kb := kb.step hb; obtain ⟨z1, z2, z3, z4⟩ := cell_three hz; obtain ⟨z5, z6, z7⟩ := three_frozen hz; clear hb) | (go_at_call 66; refine (HOP.out _).mono ?_; rintro e v8 ⟨rfl, hb⟩; have kb := kb.step hb; clear hb) | (go_at_call 66; refine (HOP.out _).mono ?_; rintro e v8 ⟨rfl, hb⟩; have hlt := heap_lt2 kb.hb; have hz := heap_keep (heap_alloc_new _ _) hb; have kb := (kb.step (below_one _ _)).step hb; obtain ⟨z1, z2, z3, z4⟩ := cell_three hz; obtain ⟨z5, z6, z7⟩ := three_frozen hz; clear hb))
      all_goals
        first
          | (have HX := Lib.hid (three_set hz (.int .u64 (hiN X.natAbs)) (.int .u64 (loN X.natAbs)) (.bool (decide (X < 0))))
             have HY := Lib.hid (kb.belowX hlt (.int .u64 (hiN X.natAbs)) (.int .u64 (loN X.natAbs)) (.bool (decide (X < 0))))
             go_wp2_with fail
             go_meet
             exact ⟨_, rfl, HX, HY⟩)
          | (have HX := Lib.hid (heap_alloc_new v7 (.cells #[.int .u64 (hiN X.natAbs), .int .u64 (loN X.natAbs), .bool (decide (X < 0))] 121))
             have HY := Lib.hid (kb.step (below_one v7 (.cells #[.int .u64 (hiN X.natAbs), .int .u64 (loN X.natAbs), .bool (decide (X < 0))] 121))).below
             go_wp2_with fail
             go_meet
             exact ⟨_, rfl, HX, HY⟩)
    case rest =>
      obtain ⟨g, rfl, H5, HB⟩ := hcut
      obtain ⟨c1, c2, c3, _⟩ := cell_three H5.out
      go_wp2_with fail
      refine (HSZ.out _).mono ?_
      rintro e w4 ⟨rfl, hb⟩
      have H6 := Lib.hid (heap_keep H5.out hb)
      have HB4 := Lib.hid (HB.out.trans (hb.mono HB.out.size))
      clear hb c1 c2 c3 H5 HB
      obtain ⟨c1, c2, c3, _⟩ := cell_three H6.out
      rcases Int.lt_trichotomy X 0 with hx | hx | hx
      · have d1 : decide (X.natAbs = 0) = false := decide_eq_false (by omega)
        have d2 : decide (X < 0) = true := decide_eq_true hx
        have HR := Lib.hid (HE.out.trans (cmpI_neg hx))
        rw [d1]
        rw [d2] at c3
        clear hx HE d1 d2
        go_wp2
        go_ret
        exact ⟨by rw [HR.out]; rfl, HB4.out⟩
      · have d1 : decide (X.natAbs = 0) = true := decide_eq_true (by omega)
        have HR := Lib.hid (show AP = 0 by rw [HE.out, hx]; rfl)
        rw [d1]
        clear hx HE d1
        go_wp2
        go_ret
        exact ⟨by rw [HR.out]; rfl, HB4.out⟩
      · have d1 : decide (X.natAbs = 0) = false := decide_eq_false (by omega)
        have d2 : decide (X < 0) = false := decide_eq_false (by omega)
        have HR := Lib.hid (HE.out.trans (cmpI_pos hx))
        rw [d1]
        rw [d2] at c3
        clear hx HE d1 d2
        go_wp2
        go_ret
        exact ⟨by rw [HR.out]; rfl, HB4.out⟩

end Go.Proofs.Ytmelblnflalanaa

/- A clock's value, and whether a difference keeps a bound, as point tells them. -/
namespace Go.Proofs.Ytmelblnflalanaa
open Go Go.RowKit
set_option linter.unusedVariables false
set_option linter.unusedSimpArgs false

theorem clock64 {l : List (Int × Int)} (h : All64v l) {i : Nat} (hi : i ≤ l.length) : I64 (clockV l i).1 ∧ I64 (clockV l i).2 := by
  unfold clockV
  split
  · exact ⟨⟨by decide, by decide⟩, ⟨by decide, by decide⟩⟩
  · exact h (i - 1) (by omega)

set_option maxRecDepth 100000 in
set_option maxHeartbeats 1000000 in
theorem at_val (A : Option Addr) (c : Nat) (l : List (Int × Int)) (i : Nat) (hi : i ≤ l.length) (hmax : l.length ≤ 8796093022000) (w : World) (hI : RatsA w A l) :
    Calls Try.prog 39 #[.slice A l.length c, .int .i64 i] w fun e w' => e = .returned (.agg #[.int .i64 (clockV l i).1, .int .i64 (clockV l i).2]) ∧ Below w.heap.size w w' := by
  have K := Lib.hid ((Blx.start w).new #[.int .i64 0, .int .i64 0] 25)
  by_cases h0 : i = 0
  · subst h0
    have HO := Lib.hid (fun W => rof2_any 0 W)
    rw [show clockV l 0 = (0, 1) from rfl]
    clear hI hi hmax
    go_enter Try.func39, Try.ntmps39
    go_upto_block 0 with fail
    generalize w.alloc (.cells #[.int .i64 0, .int .i64 0] 25) = w1 at *
    go_wp2_with fail
    refine (HO.out _).mono ?_
    rintro e w2 ⟨rfl, hb⟩
    replace K := Lib.hid (K.out.step hb)
    clear hb
    obtain ⟨k1, k2, k3, k4⟩ := K.out.cells2 0 rfl
    replace K := Lib.hid ((K.out.set 0 rfl 0 (.int .i64 0)).set 0 rfl 1 (.int .i64 1))
    go_wp2
    refine bodyPost_ret (results_cell_row (fn := Try.f39) rfl _ _ w.heap.size _ _ _ _ rfl (K.out.l _ (List.mem_singleton.2 rfl)) Try.underlying25 rfl (by kernel_rfl)) rfl ?_
    exact ⟨rfl, K.out.below⟩
  · have e0 : ((i : Int) == 0) = false := by simp; omega
    have HI := Lib.hid hI
    obtain ⟨b, off, rfl, d1, d2⟩ := HI.out.below K.out.below (i - 1) (by omega)
    rw [show clockV l i = l.getD (i - 1) (0, 0) by unfold clockV; rw [if_neg h0]]
    obtain ⟨x, hx⟩ : ∃ q, q = l.getD (i - 1) (0, 0) := ⟨_, rfl⟩
    rw [← hx] at d1 d2 ⊢
    obtain ⟨x1, x2⟩ := x
    have f1 : IntKind.i64.wrap ((i : Int) - 1) = ((i - 1 : Nat) : Int) := by rw [IntWalk.i64_in _ (by omega)]; omega
    have f2 : ((i - 1 : Nat) : Int) < (l.length : Int) := by omega
    clear hx hI HI hi h0
    go_enter Try.func39, Try.ntmps39
    go_wp2
    refine bodyPost_ret (results_cell_row (fn := Try.f39) rfl _ _ w.heap.size _ _ _ _ rfl (heap_alloc_new _ _) Try.underlying25 rfl (by kernel_rfl)) rfl ?_
    exact ⟨rfl, below_one _ _⟩

/-- What wide tells by the difference of the whole parts, and which of the rests is greater. -/
def wideKP (k n c : Int) (r : Bool) : Bool := if k = n then (decide (c < 0) || (decide (c = 0) && r)) else decide (k < n)

def tbWideA (x1 x2 y1 y2 f g k : Int) (g1 g2 : Nat) : List (Nat × Nat × Value) :=
  [(0, 11, .agg #[.int .i64 x1, .int .i64 x2]), (1, 12, .int .i64 f), (2, 13, .agg #[.int .i64 y1, .int .i64 y2]), (3, 14, .int .i64 g), (4, 15, .int .i64 k), (5, 9, .int .i64 k)]
def bsWideA (x1 x2 y1 y2 f g k : Int) (g1 g2 : Nat) : List (Nat × Value) := [(4, .pointer (some ⟨g1, 0, none⟩)), (5, .pointer (some ⟨g2, 0, none⟩))]

def tbWideB (x1 x2 y1 y2 p1 p2 q1 q2 c k : Int) (g1 g2 : Nat) : List (Nat × Nat × Value) :=
  [(0, 16, .agg #[.int .i64 x1, .int .i64 x2]), (1, 17, .agg #[.int .i64 p1, .int .i64 p2]), (2, 18, .agg #[.int .i64 y1, .int .i64 y2]), (3, 19, .agg #[.int .i64 q1, .int .i64 q2]), (4, 20, .int .i64 c), (5, 10, .int .i64 c)]
def bsWideB (x1 x2 y1 y2 p1 p2 q1 q2 c k : Int) (g1 g2 : Nat) : List (Nat × Value) := [(4, .pointer (some ⟨g1, 0, none⟩)), (5, .pointer (some ⟨g2, 0, none⟩)), (9, .int .i64 k)]

set_option maxRecDepth 100000 in
set_option maxHeartbeats 8000000 in
theorem wideq_any (x1 x2 y1 y2 n : Int) (r : Bool) (hx1 : I64 x1) (hx2 : I64 x2) (hy1 : I64 y1) (hy2 : I64 y2) (h0 : 0 ≤ floorP (x1, x2)) (h1 : 0 ≤ floorP (y1, y2)) (hn : -268435456 ≤ n ∧ n ≤ 268435456) (w : World) :
    Calls Try.prog 65 #[.agg #[.int .i64 x1, .int .i64 x2], .agg #[.int .i64 y1, .int .i64 y2], .int .i64 n, .bool r] w fun e w' => e = .returned (.bool (wideKP (floorP (x1, x2) - floorP (y1, y2)) n (cmpP (partP (x1, x2)) (partP (y1, y2))) r)) ∧ Below w.heap.size w w' := by
  have HFX := Lib.hid (fun W => floor_any x1 x2 hx1 hx2 W)
  have HFY := Lib.hid (fun W => floor_any y1 y2 hy1 hy2 W)
  have HPX := Lib.hid (fun W => frac_any x1 x2 hx1 hx2 W)
  have HPY := Lib.hid (fun W => frac_any y1 y2 hy1 hy2 W)
  have px := part64 (r := (x1, x2)) hx1 hx2
  have py := part64 (r := (y1, y2)) hy1 hy2
  have f64 := floor64 (r := (x1, x2)) hx1
  have g64 := floor64 (r := (y1, y2)) hy1
  obtain ⟨f, hf⟩ : ∃ q, q = floorP (x1, x2) := ⟨_, rfl⟩
  obtain ⟨g, hg⟩ : ∃ q, q = floorP (y1, y2) := ⟨_, rfl⟩
  obtain ⟨p, hp⟩ : ∃ q, q = partP (x1, x2) := ⟨_, rfl⟩
  obtain ⟨q, hq⟩ : ∃ z, z = partP (y1, y2) := ⟨_, rfl⟩
  rw [← hf] at HFX h0 f64 ⊢
  rw [← hg] at HFY h1 g64 ⊢
  rw [← hp] at HPX px ⊢
  rw [← hq] at HPY py ⊢
  obtain ⟨p1, p2⟩ := p
  obtain ⟨q1, q2⟩ := q
  unfold rtV at HPX HPY
  have HC := Lib.hid (fun W => compare_any p1 p2 q1 q2 px.1 px.2 py.1 py.2 W)
  obtain ⟨c, hc⟩ : ∃ z, z = cmpP (p1, p2) (q1, q2) := ⟨_, rfl⟩
  rw [← hc] at HC ⊢
  obtain ⟨k, hk⟩ : ∃ z, z = f - g := ⟨_, rfl⟩
  have w1 : IntKind.i64.wrap (f - g) = k := by
    obtain ⟨_, _⟩ := f64
    obtain ⟨_, _⟩ := g64
    rw [IntWalk.i64_in _ (by omega)]; exact hk.symm
  have w2 : IntKind.i64.wrap (n + 1) = n + 1 := IntWalk.i64_in _ (by omega)
  have w3 : IntKind.i64.wrap (n - 1) = n - 1 := IntWalk.i64_in _ (by omega)
  rw [← hk]
  obtain ⟨R, hR⟩ : ∃ z, z = wideKP k n c r := ⟨_, rfl⟩
  rw [← hR]
  have HR := Lib.hid hR
  have K := Lib.hid (((Blx.start w).new #[.int .i64 x1, .int .i64 x2] 25).new #[.int .i64 y1, .int .i64 y2] 25)
  rw [show (w.alloc (.cells #[.int .i64 x1, .int .i64 x2] 25)).heap.size = w.heap.size + 1 by simp] at K
  clear hf hg hp hq hc hk hR h0 h1 f64 g64 px py hx1 hx2 hy1 hy2 hn
  go_enter Try.func65, Try.ntmps65
  go_upto_block 0 with fail
  generalize (w.alloc (.cells #[.int .i64 x1, .int .i64 x2] 25)).alloc (.cells #[.int .i64 y1, .int .i64 y2] 25) = wa at *
  simp only [List.cons_append, List.nil_append] at K
  go_upto_region 1 with fail
  refine wp_region_tab (by kernel_rfl) [4, 5, 11, 12, 13, 14, 15, 9] [[], [0], [], [1, 2], [1, 3], [0, 1, 2, 3, 4]]
    (fun L vals wx => Blx w [(w.heap.size, #[.int .i64 x1, .int .i64 x2], 25), (w.heap.size + 1, #[.int .i64 y1, .int .i64 y2], 25)] wx ∧ TabR (tbWideA x1 x2 y1 y2 f g k w.heap.size (w.heap.size + 1)) (bsWideA x1 x2 y1 y2 f g k w.heap.size (w.heap.size + 1)) L vals) (by kernel_rfl) rfl ?_ ?_ ?_
  · exact ⟨K.out.drew, TabR.start (by simp [bsWideA])⟩
  · intro i hi a L vals wx E hJ hLi hn K hK hK0
    obtain ⟨hI, hT⟩ := hJ
    match i, hi with
    | 0, _ => exact op_loadG rfl rfl rfl rfl Try.underlying25 rfl (by kernel_rfl) ((E 4 (by decide)).trans (hT.rd 0 rfl)) (hI.l (w.heap.size, #[.int .i64 x1, .int .i64 x2], 25) (by simp)) (hK 11 _ _ (by decide) ⟨hI, hT.set 0 rfl (by kernel_rfl) (by kernel_rfl)⟩)
    | 1, _ =>
      have e1 := (E 11 (by decide)).trans (hT.val 0 rfl (hn 0 (by decide)))
      exact op_goG rfl rfl rfl rfl Try.func83 (by kernel_rfl) rfl (by simp only [List.map_toArray, List.map_cons, List.map_nil, e1]) (HFX.out _) (fun w' hb => hK 12 _ _ (by decide) ⟨hI.step hb, hT.set 1 rfl (by kernel_rfl) (by kernel_rfl)⟩)
    | 2, _ => exact op_loadG rfl rfl rfl rfl Try.underlying25 rfl (by kernel_rfl) ((E 5 (by decide)).trans (hT.rd 1 rfl)) (hI.l (w.heap.size + 1, #[.int .i64 y1, .int .i64 y2], 25) (by simp)) (hK 13 _ _ (by decide) ⟨hI, hT.set 2 rfl (by kernel_rfl) (by kernel_rfl)⟩)
    | 3, _ =>
      have e1 := (E 13 (by decide)).trans (hT.val 2 rfl (hn 2 (by decide)))
      exact op_goG rfl rfl rfl rfl Try.func83 (by kernel_rfl) rfl (by simp only [List.map_toArray, List.map_cons, List.map_nil, e1]) (HFY.out _) (fun w' hb => hK 14 _ _ (by decide) ⟨hI.step hb, hT.set 3 rfl (by kernel_rfl) (by kernel_rfl)⟩)
    | 4, _ =>
      have e1 := (E 12 (by decide)).trans (hT.val 1 rfl (hn 1 (by decide)))
      have e2 := (E 14 (by decide)).trans (hT.val 3 rfl (hn 3 (by decide)))
      refine op_valueG (w' := wx) (v := .int .i64 k) rfl rfl rfl ?_ (hK 15 _ _ (by decide) ⟨hI, hT.set 4 rfl (by kernel_rfl) (by kernel_rfl)⟩)
      clear hK hK0 hT E
      revert e1 e2
      generalize a.eval = ρ
      intro e1 e2
      go_simp
    | 5, _ => exact op_assignG rfl rfl rfl rfl ((E 15 (by decide)).trans (hT.val 4 rfl (hn 4 (by decide)))) (hK 9 _ _ (by decide) ⟨hI, hT.set 5 rfl (by kernel_rfl) (by kernel_rfl)⟩)
    | k + 6, h => exact absurd (show k + 6 < 6 from h) (by omega)
  · intro L vals wx hJ hall
    obtain ⟨hI, hT⟩ := hJ
    have HI := Lib.hid hI
    have v4 : vals 4 = .pointer (some ⟨w.heap.size, 0, none⟩) := hT.rd 0 rfl
    have v5 : vals 5 = .pointer (some ⟨(w.heap.size + 1), 0, none⟩) := hT.rd 1 rfl
    have v9 : vals 9 = .int .i64 k := hT.val 5 rfl (hall 5 (by decide))
    simp only [overA, Act.put, List.setIfInBounds_toArray, List.set_cons_zero, List.set_cons_succ]
    rw [v4, v5, v9]
    clear hI hT hall v4 v5 v9
    replace K := HI
    clear HI
    generalize wx = wb at *
    go_upto_region 2 with fail
    refine wp_region_tab (by kernel_rfl) [4, 5, 9, 16, 17, 18, 19, 20, 10] [[], [0], [], [1, 2], [1, 3], [0, 1, 2, 3, 4]]
      (fun L vals wx => Blx w [(w.heap.size, #[.int .i64 x1, .int .i64 x2], 25), (w.heap.size + 1, #[.int .i64 y1, .int .i64 y2], 25)] wx ∧ TabR (tbWideB x1 x2 y1 y2 p1 p2 q1 q2 c k w.heap.size (w.heap.size + 1)) (bsWideB x1 x2 y1 y2 p1 p2 q1 q2 c k w.heap.size (w.heap.size + 1)) L vals) (by kernel_rfl) rfl ?_ ?_ ?_
    · exact ⟨K.out.drew, TabR.start (by simp [bsWideB])⟩
    · intro i hi a L vals wx E hJ hLi hn K hK hK0
      obtain ⟨hI, hT⟩ := hJ
      match i, hi with
      | 0, _ => exact op_loadG rfl rfl rfl rfl Try.underlying25 rfl (by kernel_rfl) ((E 4 (by decide)).trans (hT.rd 0 rfl)) (hI.l (w.heap.size, #[.int .i64 x1, .int .i64 x2], 25) (by simp)) (hK 16 _ _ (by decide) ⟨hI, hT.set 0 rfl (by kernel_rfl) (by kernel_rfl)⟩)
      | 1, _ =>
        have e1 := (E 16 (by decide)).trans (hT.val 0 rfl (hn 0 (by decide)))
        exact op_goG rfl rfl rfl rfl Try.func84 (by kernel_rfl) rfl (by simp only [List.map_toArray, List.map_cons, List.map_nil, e1]) (HPX.out _) (fun w' hb => hK 17 _ _ (by decide) ⟨hI.step hb, hT.set 1 rfl (by kernel_rfl) (by kernel_rfl)⟩)
      | 2, _ => exact op_loadG rfl rfl rfl rfl Try.underlying25 rfl (by kernel_rfl) ((E 5 (by decide)).trans (hT.rd 1 rfl)) (hI.l (w.heap.size + 1, #[.int .i64 y1, .int .i64 y2], 25) (by simp)) (hK 18 _ _ (by decide) ⟨hI, hT.set 2 rfl (by kernel_rfl) (by kernel_rfl)⟩)
      | 3, _ =>
        have e1 := (E 18 (by decide)).trans (hT.val 2 rfl (hn 2 (by decide)))
        exact op_goG rfl rfl rfl rfl Try.func84 (by kernel_rfl) rfl (by simp only [List.map_toArray, List.map_cons, List.map_nil, e1]) (HPY.out _) (fun w' hb => hK 19 _ _ (by decide) ⟨hI.step hb, hT.set 3 rfl (by kernel_rfl) (by kernel_rfl)⟩)
      | 4, _ =>
        have e1 := (E 17 (by decide)).trans (hT.val 1 rfl (hn 1 (by decide)))
        have e2 := (E 19 (by decide)).trans (hT.val 3 rfl (hn 3 (by decide)))
        exact op_goG rfl rfl rfl rfl Try.func41 (by kernel_rfl) rfl (by simp only [List.map_toArray, List.map_cons, List.map_nil, e1, e2]) (HC.out _) (fun w' hb => hK 20 _ _ (by decide) ⟨hI.step hb, hT.set 4 rfl (by kernel_rfl) (by kernel_rfl)⟩)
      | 5, _ => exact op_assignG rfl rfl rfl rfl ((E 20 (by decide)).trans (hT.val 4 rfl (hn 4 (by decide)))) (hK 10 _ _ (by decide) ⟨hI, hT.set 5 rfl (by kernel_rfl) (by kernel_rfl)⟩)
      | k + 6, h => exact absurd (show k + 6 < 6 from h) (by omega)
    · intro L vals wx hJ hall
      obtain ⟨hI, hT⟩ := hJ
      have HI := Lib.hid hI
      have v4 : vals 4 = .pointer (some ⟨w.heap.size, 0, none⟩) := hT.rd 0 rfl
      have v5 : vals 5 = .pointer (some ⟨(w.heap.size + 1), 0, none⟩) := hT.rd 1 rfl
      have v9 : vals 9 = .int .i64 k := hT.rd 2 rfl
      have v10 : vals 10 = .int .i64 c := hT.val 5 rfl (hall 5 (by decide))
      simp only [overA, Act.put, List.setIfInBounds_toArray, List.set_cons_zero, List.set_cons_succ]
      rw [v4, v5, v9, v10]
      clear hI hT hall v4 v5 v9 v10
      clear HFX HFY HPX HPY HC K
      by_cases ck : k = n
      · subst ck
        by_cases c0 : c < 0
        · have d0 : decide (c < 0) = true := decide_eq_true c0
          have HE : Hid (R = true) := Lib.hid (by rw [HR.out]; unfold wideKP; rw [if_pos rfl, d0]; rfl)
          go_wp2
          go_ret
          exact ⟨by rw [HE.out]; rfl, HI.out.below⟩
        · have d0 : decide (c < 0) = false := decide_eq_false c0
          by_cases c1 : c = 0
          · have e1 : (c == 0) = true := by simp [c1]
            have HE : Hid (R = r) := Lib.hid (by rw [HR.out]; unfold wideKP; rw [if_pos rfl, d0, decide_eq_true c1]; rfl)
            go_wp2
            go_ret
            exact ⟨by rw [HE.out]; rfl, HI.out.below⟩
          · have e1 : (c == 0) = false := by simp [c1]
            have HE : Hid (R = false) := Lib.hid (by rw [HR.out]; unfold wideKP; rw [if_pos rfl, d0, decide_eq_false c1]; rfl)
            go_wp2
            go_ret
            exact ⟨by rw [HE.out]; rfl, HI.out.below⟩
      · have e0 : (k == n) = false := by simp [ck]
        by_cases c1 : k = n + 1
        · have e1 : (k == n + 1) = true := by simp [c1]
          have HE : Hid (R = false) := Lib.hid (by rw [HR.out]; unfold wideKP; rw [if_neg ck, decide_eq_false (by omega)])
          clear ck c1
          go_wp2
          go_ret
          exact ⟨by rw [HE.out]; rfl, HI.out.below⟩
        · have e1 : (k == n + 1) = false := by simp [c1]
          by_cases c2 : k = n - 1
          · have e2 : (k == n - 1) = true := by simp [c2]
            have HE : Hid (R = true) := Lib.hid (by rw [HR.out]; unfold wideKP; rw [if_neg ck, decide_eq_true (by omega)])
            clear ck c1 c2
            go_wp2
            go_ret
            exact ⟨by rw [HE.out]; rfl, HI.out.below⟩
          · have e2 : (k == n - 1) = false := by simp [c2]
            have HE : Hid (R = decide (k < n)) := Lib.hid (by rw [HR.out]; unfold wideKP; rw [if_neg ck])
            clear ck c1 c2
            go_wp2
            go_ret
            exact ⟨by rw [HE.out]; rfl, HI.out.below⟩

theorem floor_pos {x1 x2 : Int} (h : rightR (x1, x2) = true) (h0 : 0 ≤ x1) : 0 ≤ floorP (x1, x2) := by
  unfold floorP
  rw [if_pos h]
  exact Int.ediv_nonneg h0 (Int.le_of_lt (of_decide_eq_true h).1)
theorem keeps_hold {x y : Int × Int} {b : Int} (hx : rightR x = true) (hy : rightR y = true) (hb : rightB b = true) (hn : b ≠ 2147483647) (h : (subP x y).2 = 0) : keepsB b (subP x y).1.1 (subP x y).1.2 = keepsQ x y b := by
  have e : subP x y = fracP (x.1 * y.2 - y.1 * x.2) (x.2 * y.2) := by unfold subP; rw [if_pos (by rw [hx, hy]; rfl)]
  have hp := Int.mul_pos (of_decide_eq_true hx).1 (of_decide_eq_true hy).1
  have hd : 0 < (subP x y).1.2 := by
    rw [e] at h ⊢
    exact (of_decide_eq_true (frac_right (by omega) h).1).1
  rw [← keeps_sub hx hy h]
  unfold keepsB
  have hs : someB b = true := by unfold someB; rw [hb]; simp [hn]
  refine decide_eq_decide.2 ⟨fun a => a.2.imp id (fun z => z.2), fun a => ⟨by omega, a.imp id (fun z => ⟨hs, z⟩)⟩⟩
theorem keeps_wide {x y : Int × Int} {b : Int} (hx : rightR x = true) (hy : rightR y = true) (hn : b ≠ 2147483647) : wideKP (floorP x - floorP y) (b / 2) (cmpP (partP x) (partP y)) (decide (b % 2 = 1)) = keepsQ x y b := (keeps_parts hx hy hn).symm
theorem keepsq_inf (x y : Int × Int) : keepsQ x y 2147483647 = true := decide_eq_true (.inl rfl)

set_option maxRecDepth 100000 in
set_option maxHeartbeats 4000000 in
theorem keepsq_any (x1 x2 y1 y2 b : Int) (hx1 : I64 x1) (hx2 : I64 x2) (hy1 : I64 y1) (hy2 : I64 y2) (hx : rightR (x1, x2) = true) (hy : rightR (y1, y2) = true) (h0 : 0 ≤ x1) (h1 : 0 ≤ y1) (hb : rightB b = true) (w : World) :
    Calls Try.prog 38 #[.agg #[.int .i64 x1, .int .i64 x2], .agg #[.int .i64 y1, .int .i64 y2], .int .i32 b] w fun e w' => e = .returned (.bool (keepsQ (x1, x2) (y1, y2) b)) ∧ Below w.heap.size w w' := by
  have K := Lib.hid (((Blx.start w).new #[.int .i64 x1, .int .i64 x2] 25).new #[.int .i64 y1, .int .i64 y2] 25)
  rw [show (w.alloc (.cells #[.int .i64 x1, .int .i64 x2] 25)).heap.size = w.heap.size + 1 by simp] at K
  by_cases hn : b = 2147483647
  · subst hn
    rw [keepsq_inf]
    clear hx hy h0 h1 hb hx1 hx2 hy1 hy2
    go_enter Try.func38, Try.ntmps38
    go_upto_block 0 with fail
    generalize (w.alloc (.cells #[.int .i64 x1, .int .i64 x2] 25)).alloc (.cells #[.int .i64 y1, .int .i64 y2] 25) = wa at *
    go_wp2
    go_ret
    exact ⟨rfl, K.out.below⟩
  · have b0 : (b == 2147483647) = false := by simp [hn]
    have hs : someB b = true := by unfold someB; rw [hb]; simp [hn]
    have HV := Lib.hid (fun W => value_yes b W hs)
    have hbd := rightB_bd hb hn
    have HS := Lib.hid (fun W => sub_any x1 x2 y1 y2 hx1 hx2 hy1 hy2 W)
    have HW := Lib.hid (fun W => wideq_any x1 x2 y1 y2 (b / 2) (decide (b % 2 = 1)) hx1 hx2 hy1 hy2 (floor_pos hx h0) (floor_pos hy h1) (by omega) W)
    rw [keeps_wide hx hy hn] at HW
    have d64 := subP64 (x1, x2) (y1, y2)
    have HH := Lib.hid (fun W => holds_any b (subP (x1, x2) (y1, y2)).1.1 (subP (x1, x2) (y1, y2)).1.2 W d64.1.1 d64.1.2 d64.2.2)
    have HK := Lib.hid (keeps_hold hx hy hb hn)
    obtain ⟨R, hR⟩ : ∃ q, q = keepsQ (x1, x2) (y1, y2) b := ⟨_, rfl⟩
    rw [← hR] at HW HK ⊢
    obtain ⟨D, hD⟩ : ∃ q, q = subP (x1, x2) (y1, y2) := ⟨_, rfl⟩
    rw [← hD] at HS HH HK
    obtain ⟨⟨d1, d2⟩, de⟩ := D
    unfold rtV at HS
    obtain ⟨n, hnn⟩ : ∃ q, q = b / 2 := ⟨_, rfl⟩
    obtain ⟨rc, hrc⟩ : ∃ q, q = decide (b % 2 = 1) := ⟨_, rfl⟩
    rw [← hnn, ← hrc] at HV HW
    clear hx hy h0 h1 hb hx1 hx2 hy1 hy2 hbd hn hs d64 hR hD hnn hrc
    go_enter Try.func38, Try.ntmps38
    go_upto_block 0 with fail
    generalize (w.alloc (.cells #[.int .i64 x1, .int .i64 x2] 25)).alloc (.cells #[.int .i64 y1, .int .i64 y2] 25) = wa at *
    simp only [List.cons_append, List.nil_append] at K
    go_wp2_with fail
    refine (HV.out _).mono ?_
    rintro e w' ⟨rfl, rfl⟩
    obtain ⟨k1, k2, _, _⟩ := K.out.cells2 0 rfl
    obtain ⟨k3, k4, _, _⟩ := K.out.cells2 1 rfl
    go_wp2_with fail
    refine (HS.out _).mono ?_
    rintro e w2 ⟨rfl, hb⟩
    replace K := Lib.hid (K.out.step hb)
    clear hb k1 k2 k3 k4 HS HV
    go_upto_region 5 with fail
    replace K := Lib.hid (K.out.new #[.int .i64 d1, .int .i64 d2] 25)
    generalize w2.alloc (.cells #[.int .i64 d1, .int .i64 d2] 25) = w3 at *
    generalize w2.heap.size = g3 at *
    simp only [List.cons_append, List.nil_append] at K
    by_cases e0 : de = 0
    · subst e0
      have HE := Lib.hid (HK.out rfl)
      obtain ⟨k5, k6, _, _⟩ := K.out.cells2 2 rfl
      go_wp2_with fail
      refine (HH.out _).mono ?_
      rintro e w4 ⟨rfl, rfl⟩
      go_wp2
      go_ret
      exact ⟨by rw [← HE.out]; rfl, K.out.below⟩
    · have e1 : (de == 0) = false := by simp [e0]
      clear e0
      obtain ⟨k1, k2, _, _⟩ := K.out.cells2 0 rfl
      obtain ⟨k3, k4, _, _⟩ := K.out.cells2 1 rfl
      go_wp2_with fail
      refine (HW.out _).mono ?_
      rintro e w4 ⟨rfl, hb⟩
      replace K := Lib.hid (K.out.step hb)
      clear hb
      go_wp2
      go_ret
      exact ⟨rfl, K.out.below⟩

end Go.Proofs.Ytmelblnflalanaa

/- Whether a valuation is in a zone, as point tells it. -/
namespace Go.Proofs.Ytmelblnflalanaa
open Go Go.RowKit
set_option linter.unusedVariables false
set_option linter.unusedSimpArgs false

theorem zdimq_any (v : Value) (z : Option (Nat × Mat)) (w : World) (h : ZoneV 109 w v z) : Calls Try.prog 35 #[v] w fun e w' => e = .returned (.int .i64 (dimP z)) ∧ w = w' := by
  match z, h with
  | none, h =>
    have h : v = .pointer none := h
    subst h
    exact dim_nil w
  | some (n, m), ⟨b, e, hn, _, hm⟩ =>
    subst e
    exact dim_zone b n m w hm
theorem quo_rem {k n i j : Nat} (hi : i = k / (n + 1)) (hj : j = k % (n + 1)) : Int.tdiv (k : Int) ((n : Int) + 1) = (i : Int) ∧ Int.tmod (k : Int) ((n : Int) + 1) = (j : Int) := by
  have e : (n : Int) + 1 = ((n + 1 : Nat) : Int) := by omega
  rw [e, Int.tdiv_eq_ediv_of_nonneg (by omega), Int.tmod_eq_emod_of_nonneg (by omega), hi, hj]
  exact ⟨(Int.natCast_ediv k (n + 1)).symm, (Int.natCast_emod k (n + 1)).symm⟩
/-- Which cell is broken, in a limit; and whether one is. -/
def BrkEnds (w : World) (r : Bool) (e : Ending) (w' : World) : Prop := (∃ i j b, e = .returned (.tuple #[.agg #[.int .i64 i, .int .i64 j, .int .i32 b], .bool r])) ∧ Below w.heap.size w w'

set_option maxRecDepth 100000 in
set_option maxHeartbeats 4000000 in
theorem breaks_any (b n : Nat) (m : Mat) (A : Option Addr) (c : Nat) (l : List (Int × Int)) (w : World) (hn : n ≤ 8) (hm : MatAt w b 109 .i32 n m) (hr : RightM n m) (hI : RatsA w A l) (h64 : All64v l) (hv : rightV l = true) (hl : l.length = n) :
    Calls Try.prog 36 #[.pointer (some ⟨b, 0, none⟩), .slice A l.length c] w (BrkEnds w (breaksP n m l).isSome) := by
  have HR := Lib.hid (fun W (hb : Below w.heap.size w W) => right_val A c l W (hI.below hb) (by omega) h64)
  rw [hv] at HR
  have HD := Lib.hid (fun W (hb : Below w.heap.size w W) => dim_zone b n m W (hm.later hb))
  have HC := Lib.hid (fun W (hb : Below w.heap.size w W) => cells_zone b n m W hn (hm.later hb))
  have HA := Lib.hid (fun W (hb : Below w.heap.size w W) (i : Nat) (hi : i ≤ n) => at_val A c l i (by omega) (by omega) W (hI.below hb))
  have HK := Lib.hid (fun W (i j : Nat) (hi : i ≤ n) (hj : j ≤ n) => keepsq_any (clockV l i).1 (clockV l i).2 (clockV l j).1 (clockV l j).2 (m i j) (clock64 h64 (by omega)).1 (clock64 h64 (by omega)).2 (clock64 h64 (by omega)).1 (clock64 h64 (by omega)).2 (clock_right hv (by omega)).1 (clock_right hv (by omega)).1 (clock_right hv (by omega)).2 (clock_right hv (by omega)).2 (hr i j hi hj) W)
  obtain ⟨N, hN⟩ : ∃ q, q = (n + 1) * (n + 1) := ⟨_, rfl⟩
  obtain ⟨R, hR⟩ : ∃ q, q = (breaksP n m l).isSome := ⟨_, rfl⟩
  rw [← hR]
  have HE : Hid (R = (breakFrom n m l N 0).isSome) := Lib.hid (by rw [hR, hN]; rfl)
  have K := Lib.hid ((Blx.start w).new #[.int .i64 0, .int .i64 0, .int .i32 0] 54)
  have HN := Lib.hid hN
  have HN9 := Lib.hid (And.intro hn hl)
  have hlen : ((l.length : Nat) : Int) = (n : Int) := by rw [hl]
  clear hR hI h64 hv hr hm hN hn hl
  go_enter Try.func36, Try.ntmps36
  go_upto_block 0 with fail
  generalize w.alloc (.cells #[.int .i64 0, .int .i64 0, .int .i32 0] 54) = w1 at *
  go_wp2_with fail
  refine (HR.out _ K.out.below).mono ?_
  rintro e w2 ⟨rfl, hb⟩
  replace K := Lib.hid (K.out.step hb)
  clear hb HR
  go_wp2_with fail
  refine (HD.out _ K.out.below).mono ?_
  rintro e w3 ⟨rfl, rfl⟩
  clear HD
  go_wp2_with fail
  refine (HC.out _ K.out.below).mono ?_
  rintro e w4 ⟨v, rfl, hb, hown⟩
  replace K := Lib.hid (K.out.step hb)
  clear hb HC
  obtain ⟨Af, cf, rfl, hints⟩ := hown.slice
  have hfl : (flat n m).length = N := by rw [flat_length, HN.out]
  rw [hfl]
  have HF := Lib.hid hints
  clear hown hints
  go_wp2
  go_loopg [28] N (fun g s28 wr => ∃ k : Nat, s28 = .int .i64 k ∧ Hid (Blx w [(w.heap.size, #[.int .i64 0, .int .i64 0, .int .i32 0], 54)] wr ∧ Ints wr .i32 Af (flat n m)) ∧ Hid (k ≤ N ∧ g + k = N ∧ R = (breakFrom n m l g k).isSome))
  case atStart => exact ⟨0, by simp, Lib.hid ⟨K.out, HF.out⟩, Lib.hid ⟨by omega, by omega, HE.out⟩⟩
  case round =>
    clear K HF HE
    obtain ⟨k, rfl, K, HG⟩ := hrel
    by_cases hk : k < N
    · have hki : (k : Int) < (N : Int) := by omega
      obtain ⟨bf, off, rfl, hc⟩ := K.out.2 k (by rw [hfl]; exact hk)
      rw [flat_getD n m k (by rw [← HN.out]; exact hk)] at hc
      have HST : Hid (R = (if keptAt n m l k = true then breakFrom n m l (gk - 1) (k + 1) else some k).isSome) := Lib.hid (by
        have h := HG.out.2.2
        rw [show gk = (gk - 1) + 1 by have := HG.out.2.1; omega] at h
        exact h)
      have d1 : k / (n + 1) < n + 1 := Nat.div_lt_of_lt_mul (by rw [← HN.out]; exact hk)
      have d2 := Nat.mod_lt k (show 0 < n + 1 by omega)
      have HKE : Hid (keptAt n m l k = keepsQ (clockV l (k / (n + 1))) (clockV l (k % (n + 1))) (m (k / (n + 1)) (k % (n + 1)))) := Lib.hid rfl
      obtain ⟨i, hi⟩ : ∃ i, i = k / (n + 1) := ⟨_, rfl⟩
      obtain ⟨j, hj⟩ : ∃ j, j = k % (n + 1) := ⟨_, rfl⟩
      obtain ⟨t1, t2⟩ := quo_rem hi hj
      rw [← hi, ← hj] at HKE hc
      rw [← hi] at d1
      rw [← hj] at d2
      have n9 := HN9.out.1
      have k81 : k ≤ 81 := by have := Nat.mul_le_mul (show n + 1 ≤ 9 by omega) (show n + 1 ≤ 9 by omega); have := HN.out; omega
      have q1 : IntKind.i64.wrap ((n : Int) + 1) = (n : Int) + 1 := IntWalk.i64_in _ (by omega)
      have q2 : IntKind.i64.wrap (i : Int) = (i : Int) := IntWalk.i64_in _ (by omega)
      have q3 : IntKind.i64.wrap (j : Int) = (j : Int) := IntWalk.i64_in _ (by omega)
      have q4 : ((n : Int) + 1 == 0) = false := by simp; omega
      have w5 : IntKind.i64.wrap ((k : Int) + 1) = ((k + 1 : Nat) : Int) := by rw [IntWalk.i64_in _ (by omega)]; omega
      obtain ⟨b', hb'⟩ : ∃ b, b = m i j := ⟨_, rfl⟩
      have HAI := Lib.hid (fun W hb => HA.out W hb i (by omega))
      have HAJ := Lib.hid (fun W hb => HA.out W hb j (by omega))
      have HKK := Lib.hid (fun W => HK.out W i j (by omega) (by omega))
      rw [← hb'] at HKK HKE hc
      obtain ⟨x, hx⟩ : ∃ x, x = clockV l i := ⟨_, rfl⟩
      obtain ⟨y, hy⟩ : ∃ y, y = clockV l j := ⟨_, rfl⟩
      rw [← hx] at HAI HKK HKE
      rw [← hy] at HAJ HKK HKE
      obtain ⟨x1, x2⟩ := x
      obtain ⟨y1, y2⟩ := y
      simp only at HAI HAJ HKK
      obtain ⟨kb, hkb⟩ : ∃ q, q = keepsQ (x1, x2) (y1, y2) b' := ⟨_, rfl⟩
      rw [← hkb] at HKK HKE
      rw [HKE.out] at HST
      clear HKE hkb hx hy hb' hi hj n9 k81
      go_wp2_with fail
      go_quiet (fail)
      generalize nq = nq at *
      replace K := Lib.hid (And.intro (K.out.1.drewN nq) (show Ints (wr.drewN nq) .i32 (some ⟨bf, off, none⟩) (flat n m) from K.out.2.below (belowN (Below.refl _ _) nq)))
      generalize wr.drewN nq = wq at *
      clear t1 t2 q1 q2 q3 q4 hc
      go_wp2_with fail
      refine (HAI.out _ K.out.1.below).mono ?_
      rintro e wa ⟨rfl, hb⟩
      replace K := Lib.hid (And.intro (K.out.1.step hb) (K.out.2.below hb))
      clear hb HAI
      go_wp2_with fail
      refine (HAJ.out _ K.out.1.below).mono ?_
      rintro e wb ⟨rfl, hb⟩
      replace K := Lib.hid (And.intro (K.out.1.step hb) (K.out.2.below hb))
      clear hb HAJ
      go_wp2_with fail
      refine (HKK.out _).mono ?_
      rintro e wc ⟨rfl, hb⟩
      replace K := Lib.hid (And.intro (K.out.1.step hb) (K.out.2.below hb))
      clear hb HKK
      cases kb with
      | false =>
        rw [if_neg (by decide)] at HST
        obtain ⟨k1, k2, k3, k4, k5, k6⟩ := K.out.1.cells3 0 rfl
        replace K := Lib.hid (((K.out.1.set 0 rfl 0 (.int .i64 i)).set 0 rfl 1 (.int .i64 j)).set 0 rfl 2 (.int .i32 b'))
        go_wp2
        refine bodyPost_ret (results_row_tmp (fn := Try.f36) rfl _ _ w.heap.size _ _ _ _ rfl (K.out.l _ (List.mem_singleton.2 rfl)) Try.underlying54 rfl (by kernel_rfl)) rfl ?_
        exact ⟨⟨_, _, _, by rw [HST.out]; rfl⟩, K.out.below⟩
      | true =>
        rw [if_pos rfl] at HST
        go_wp2
        go_roundg (gk - 1)
        case measure => have h := HG.out.2.1; omega
        case rel => exact ⟨k + 1, by go_num, K, Lib.hid ⟨by omega, by have h := HG.out.2.1; omega, HST.out⟩⟩
    · have hki : ¬ (k : Int) < (N : Int) := by omega
      have HE : Hid (R = false) := Lib.hid (by
        have h := HG.out.2.2
        rw [show gk = 0 by have := HG.out.2.1; omega] at h
        exact h)
      obtain ⟨k1, k2, k3, k4, k5, k6⟩ := K.out.1.cells3 0 rfl
      replace K := Lib.hid (((K.out.1.set 0 rfl 0 (.int .i64 0)).set 0 rfl 1 (.int .i64 0)).set 0 rfl 2 (.int .i32 0))
      go_wp2
      refine bodyPost_ret (results_row_tmp (fn := Try.f36) rfl _ _ w.heap.size _ _ _ _ rfl (K.out.l _ (List.mem_singleton.2 rfl)) Try.underlying54 rfl (by kernel_rfl)) rfl ?_
      exact ⟨⟨_, _, _, by rw [HE.out]; rfl⟩, K.out.below⟩

/-- Is a valuation in a zone, or in none? -/
def inZ (z : Option (Nat × Mat)) (l : List (Int × Int)) : Bool := match z with | some (n, m) => inP n m l | none => false
set_option maxRecDepth 100000 in
set_option maxHeartbeats 2000000 in
theorem in_nil (A : Option Addr) (c : Nat) (l : List (Int × Int)) (w : World) :
    Calls Try.prog 10 #[.pointer none, .slice A l.length c] w fun e w' => e = .returned (.bool false) ∧ Below w.heap.size w w' := by
  have HB := Lib.hid (Below.refl w.heap.size w)
  go_enter Try.func10, Try.ntmps10
  go_wp2
  go_ret
  exact ⟨rfl, HB.out⟩
set_option maxRecDepth 100000 in
set_option maxHeartbeats 2000000 in
theorem in_zone (b n : Nat) (m : Mat) (A : Option Addr) (c : Nat) (l : List (Int × Int)) (w : World) (hn : n ≤ 8) (hm : MatAt w b 109 .i32 n m) (hr : RightM n m) (hI : RatsA w A l) (hmax : l.length ≤ 8796093022000) (h64 : All64v l) :
    Calls Try.prog 10 #[.pointer (some ⟨b, 0, none⟩), .slice A l.length c] w fun e w' => e = .returned (.bool (inP n m l)) ∧ Below w.heap.size w w' := by
  have HR := Lib.hid (fun W (hb : Below w.heap.size w W) => right_val A c l W (hI.below hb) (by omega) h64)
  have HB := Lib.hid (Below.refl w.heap.size w)
  have HBR := Lib.hid (fun W (hb : Below w.heap.size w W) (hv : rightV l = true) (hl : l.length = n) => breaks_any b n m A c l W hn (hm.later hb) hr (hI.below hb) h64 hv hl)
  obtain ⟨R, hR⟩ : ∃ q, q = inP n m l := ⟨_, rfl⟩
  rw [← hR]
  have HE : Hid (R = (rightV l && decide (l.length = n) && (breaksP n m l).isNone)) := Lib.hid hR
  clear hR
  by_cases hv : rightV l = true
  · rw [hv] at HR HE
    have HD := Lib.hid (fun W (hb : Below w.heap.size w W) => dim_zone b n m W (hm.later hb))
    by_cases hl : l.length = n
    · have HBR := Lib.hid (fun W hb => HBR.out W hb hv hl)
      rw [decide_eq_true hl] at HE
      have hlen : ((l.length : Nat) : Int) = (n : Int) := by rw [hl]
      obtain ⟨k, hk⟩ : ∃ q, q = breaksP n m l := ⟨_, rfl⟩
      rw [← hk] at HBR HE
      clear hk hI hm hr h64 hv hl hn hmax
      go_enter Try.func10, Try.ntmps10
      go_wp2_with fail
      refine (HR.out _ HB.out).mono ?_
      rintro e w2 ⟨rfl, hb⟩
      have K := Lib.hid hb
      clear hb HR
      go_wp2_with fail
      refine (HD.out _ K.out).mono ?_
      rintro e w3 ⟨rfl, rfl⟩
      go_wp2_with fail
      refine (HBR.out _ K.out).mono ?_
      rintro e w4 ⟨⟨ci, cj, cb, rfl⟩, hb⟩
      replace K := Lib.hid (K.out.trans (hb.mono K.out.size))
      clear hb HBR
      obtain ⟨s, hs⟩ : ∃ s, s = k.isSome := ⟨_, rfl⟩
      rw [← hs]
      have HE : Hid (R = !s) := Lib.hid (by rw [HE.out, hs]; cases k <;> rfl)
      clear hs
      go_wp2
      go_ret
      exact ⟨by rw [HE.out]; rfl, K.out.alloc K.out.size _⟩
    · have HE : Hid (R = false) := Lib.hid (by rw [HE.out, decide_eq_false hl]; rfl)
      have hlen : ¬ ((l.length : Nat) : Int) = (n : Int) := by omega
      clear hI hm hr h64 hv hl hn hmax
      go_enter Try.func10, Try.ntmps10
      go_wp2_with fail
      refine (HR.out _ HB.out).mono ?_
      rintro e w2 ⟨rfl, hb⟩
      have K := Lib.hid hb
      clear hb HR
      go_wp2_with fail
      refine (HD.out _ K.out).mono ?_
      rintro e w3 ⟨rfl, rfl⟩
      go_wp2
      go_ret
      exact ⟨by rw [HE.out]; rfl, K.out⟩
  · have hv : rightV l = false := by simpa using hv
    rw [hv] at HR HE
    have HE : Hid (R = false) := HE
    clear hI hm hr h64 hv hn hmax
    go_enter Try.func10, Try.ntmps10
    go_wp2_with fail
    refine (HR.out _ HB.out).mono ?_
    rintro e w2 ⟨rfl, hb⟩
    have K := Lib.hid hb
    clear hb HR
    go_wp2
    go_ret
    exact ⟨by rw [HE.out]; rfl, K.out⟩

theorem in_any (v : Value) (z : Option (Nat × Mat)) (A : Option Addr) (c : Nat) (l : List (Int × Int)) (w : World) (hz : ZoneV 109 w v z) (hI : RatsA w A l) (hmax : l.length ≤ 8796093022000) (h64 : All64v l) :
    Calls Try.prog 10 #[v, .slice A l.length c] w fun e w' => e = .returned (.bool (inZ z l)) ∧ Below w.heap.size w w' := by
  match z, hz with
  | none, h =>
    have h : v = .pointer none := h
    subst h
    exact in_nil A c l w
  | some (n, m), ⟨b, e, hn, hr, hm⟩ =>
    subst e
    exact in_zone b n m A c l w hn hm hr hI hmax h64

end Go.Proofs.Ytmelblnflalanaa
