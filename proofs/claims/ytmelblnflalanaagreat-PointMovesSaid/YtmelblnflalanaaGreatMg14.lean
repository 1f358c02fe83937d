/- Texts of ours, laid together: Jy, Jk, Jp, Jm. -/
import Derived.Test.YtmelblnflalanaaGreatMg13
/- Which points of fractions are in Up, Down, Reset, Unset, Guards, And of a zone: plain. -/
namespace Go.Proofs.YtmelblnflalanaaGreat
set_option linter.unusedVariables false
set_option linter.unusedSimpArgs false

theorem grid_upto (d : Nat → Int × Int) : ∀ p, (∀ i, i < p → 0 < (d i).2 ∧ 0 ≤ (d i).1) → ∃ (G : Int) (u : Nat → Int), 0 < G ∧ (∀ i, i < p → 0 ≤ u i) ∧ ∀ i, i < p → u i * (d i).2 = (d i).1 * G
  | 0, _ => ⟨1, fun _ => 0, by decide, fun i h => by omega, fun i h => by omega⟩
  | p + 1, h => by
    obtain ⟨G, u, hG, h0, hu⟩ := grid_upto d p (fun i hi => h i (by omega))
    obtain ⟨a, b⟩ := h p (by omega)
    refine ⟨G * (d p).2, fun i => if i = p then (d p).1 * G else u i * (d p).2, Int.mul_pos hG a, fun i hi => ?_, fun i hi => ?_⟩
    · by_cases e : i = p
      · simp only [if_pos e]; exact Int.mul_nonneg b (by omega)
      · simp only [if_neg e]; exact Int.mul_nonneg (h0 i (by omega)) (by omega)
    · by_cases e : i = p
      · subst e; simp only [if_true]; rw [Int.mul_assoc]
      · simp only [if_neg e]; have := hu i (by omega); rw [Int.mul_right_comm, this, Int.mul_assoc]
/-- A grid on which a valuation and one more fraction lie. -/
theorem grid_two {n : Nat} {v : List (Int × Int)} {d : Int × Int} (hv : rightV v = true) (hl : v.length = n) (hd : 0 < d.2) (hd0 : 0 ≤ d.1) :
    ∃ (G : Int) (u : Nat → Int) (x : Int), 0 < G ∧ u 0 = 0 ∧ (∀ i, i ≤ n → 0 ≤ u i) ∧ 0 ≤ x ∧ (∀ i, i ≤ n → cq v i = (u i : Rat) / (G : Rat)) ∧ qv d = (x : Rat) / (G : Rat) := by
  obtain ⟨G, u, hG, h0, hu⟩ := grid_upto (fun i => if i ≤ n then clockV v i else d) (n + 2) (fun i hi => by
    by_cases e : i ≤ n
    · rw [if_pos e]; exact ⟨clock_pos hv (by omega), (clock_right hv (by omega)).2⟩
    · rw [if_neg e]; exact ⟨hd, hd0⟩)
  have hx := hu (n + 1) (by omega)
  rw [if_neg (by omega)] at hx
  have h00 := hu 0 (by omega)
  rw [if_pos (Nat.zero_le n), show clockV v 0 = (0, 1) from rfl] at h00
  refine ⟨G, u, u (n + 1), hG, by simpa using h00, fun i hi => h0 i (by omega), h0 (n + 1) (by omega), fun i hi => ?_, qv_grid hd hG hx⟩
  have := hu i (by omega)
  rw [if_pos hi] at this
  exact qv_grid (clock_pos hv (by omega)) hG this
theorem add_grid {a b : Int} {G : Rat} : (a : Rat) / G + (b : Rat) / G = ((a + b : Int) : Rat) / G := by rw [Rat.intCast_add, Rat.div_def, Rat.div_def, Rat.div_def]; grind
theorem sub_grid {a b : Int} {G : Rat} : (a : Rat) / G - (b : Rat) / G = ((a - b : Int) : Rat) / G := by rw [Rat.intCast_sub, Rat.div_def, Rat.div_def, Rat.div_def]; grind
theorem kind_right {n : Nat} {m : Mat} (h : m = (fun _ _ => 0) ∨ ClosedZ n m) : RightM n m := by
  rcases h with rfl | h
  · exact right_zero n
  · exact h.full.right
theorem kind_ok {n : Nat} {m : Mat} (h : m = (fun _ _ => 0) ∨ ClosedZ n m) : OkM n m := by
  rcases h with rfl | h
  · exact ⟨right_zero n, fun _ _ => by decide, fun _ _ => by decide⟩
  · exact h.full.ok
theorem of_kind {n : Nat} {cells : List Int} {a : Mat} (e : ofP n cells = (some a, 0)) : a = (fun _ _ => 0) ∨ ClosedZ n a := by
  have h : zOf (n : Int) cells = some (n, a) := by unfold zOf; rw [e]; rfl
  exact zone_closed h
theorem in_zero {n : Nat} {v : List (Int × Int)} (hv : rightV v = true) (hl : v.length = n) : inP n (fun _ _ => 0) v = false := by
  rw [Bool.eq_false_iff]
  intro h
  obtain ⟨G, u, x, hG, h0, hu, hx, hc, hq⟩ := grid_two (d := (0, 1)) hv hl (by decide) (by decide)
  rw [in_sat hG (right_zero n) hv hl hc] at h
  exact satM_none n G u h

/-! ### later -/
theorem up06 {n : Nat} {m a : Mat} {v : List (Int × Int)} {d : Int × Int} (hn : n ≤ 8) (hm : m = (fun _ _ => 0) ∨ ClosedZ n m) (e : ofP n (flat n (upW (some (n, m)))) = (some a, 0)) (hw : (waitA v d).2 = 0) (hl : v.length = n) (h : inP n m v = true) : inP n a (waitA v d).1 = true := by
  obtain ⟨e1, hv, hd, hd0, hv', hc'⟩ := wait_good hw
  rw [e1]
  obtain ⟨G, u, x, hG, h0, hu, hx, hc, hq⟩ := grid_two (d := d) hv hl (rq_pos hd) hd0
  rw [in_sat hG (kind_right hm) hv hl hc] at h
  rw [in_sat (u := fun i => if i = 0 then 0 else u i + x) hG (kind_right (of_kind e)) hv' ((waitV_length v d).trans hl) (fun i hi => by
    by_cases e0 : i = 0
    · subst e0; rw [cq_zero, if_pos rfl, Rat.intCast_zero, Rat.div_def, Rat.zero_mul]
    · rw [hc' i (by omega) (by omega), hc i hi, hq, if_neg e0, add_grid])]
  exact up_sat hn hm e h0 (if_pos rfl) hx (fun i h1 _ => if_neg (by omega)) h
theorem up06_self {n : Nat} {m a : Mat} {v : List (Int × Int)} (hn : n ≤ 8) (hm : m = (fun _ _ => 0) ∨ ClosedZ n m) (e : ofP n (flat n (upW (some (n, m)))) = (some a, 0)) (hv : rightV v = true) (hl : v.length = n) (h : inP n m v = true) : inP n a v = true := by
  obtain ⟨G, u, x, hG, h0, hu, hx, hc, hq⟩ := grid_two (d := (0, 1)) hv hl (by decide) (by decide)
  rw [in_sat hG (kind_right hm) hv hl hc] at h
  rw [in_sat hG (kind_right (of_kind e)) hv hl hc]
  exact up_sat hn hm e h0 h0 (Int.le_refl 0) (fun i h1 _ => (Int.add_zero _).symm) h

/-! ### earlier -/
theorem span_some {s : SpanP} (hs : spanOk s) (h : spanEnd s = true) : ∃ q, spanHas s q := by
  unfold spanEnd at h
  rcases hs.2 with he | he
  · refine ⟨qv s.lo + 1, .inl (by grind), .inl he⟩
  · by_cases hev : s.ever = true
    · exact ⟨qv s.lo + 1, .inl (by grind), .inl hev⟩
    · obtain ⟨a1, a2, a3⟩ := cmp_qv hs.1 he
      simp only [hev, Bool.false_or, Bool.and_eq_true, Bool.or_eq_true, Bool.not_eq_true', decide_eq_false_iff_not] at h
      rw [a2, a3] at h
      obtain ⟨h1, h2⟩ := h
      by_cases e : qv s.lo = qv s.hi
      · rcases h2 with h2 | ⟨h2, h3⟩
        · exact absurd e h2
        · exact ⟨qv s.lo, .inr ⟨rfl, h2⟩, .inr (.inr ⟨e, h3⟩)⟩
      · exact ⟨(qv s.lo + qv s.hi) / 2, .inl (by grind), .inr (.inl (by grind))⟩
theorem down06 {n : Nat} {m a : Mat} {v : List (Int × Int)} {s : SpanP} (hn : n ≤ 8) (hm : m = (fun _ _ => 0) ∨ ClosedZ n m) (e : ofP n (flat n (downW (some (n, m)))) = (some a, 0)) (hs : delaysP n m v = some s) : inP n a v = true := by
  unfold delaysP at hs
  split at hs
  case isFalse => cases hs
  case isTrue hc0 =>
  obtain ⟨hv, hl, hne⟩ := hc0
  cases ef : delayFrom n m v ((n + 1) * (n + 1)) 0 ⟨(0, 1), (0, 0), true, false, true⟩ with
  | none => rw [ef] at hs; cases hs
  | some t =>
    rw [ef, Option.bind_some] at hs
    split at hs
    case isFalse => cases hs
    case isTrue hend =>
    cases hs
    have hs0 : spanOk ⟨(0, 1), (0, 0), true, false, true⟩ := ⟨right_one 0, .inl rfl⟩
    obtain ⟨b1, b2⟩ := (from_has (m := m) hv hl ((n + 1) * (n + 1)) 0 ⟨(0, 1), (0, 0), true, false, true⟩ (by omega) hs0).1 _ ef
    obtain ⟨q, hq⟩ := span_some b1 hend
    obtain ⟨h1, h2⟩ := (b2 q).1 hq
    have hq0 : 0 ≤ q := by
      have z := h1.1
      rw [show qv (0, 1) = 0 by rw [qv_int]; rfl] at z
      grind
    have hqd : qv (q.num, (q.den : Int)) = q := by
      show (q.num : Rat) / ((q.den : Int) : Rat) = q
      rw [← Rat.divInt_eq_div]; exact Rat.num_divInt_den q
    have hall : ∀ i j, i ≤ n → j ≤ n → kq (m i j) (dq v q i - dq v q j) := cells_all.1 fun k hk => h2 k (Nat.zero_le _) (by omega)
    obtain ⟨G, u, x, hG, h0, hu, hx, hc, hqx⟩ := grid_two (d := (q.num, (q.den : Int))) hv hl (by have := q.den_pos; omega) (Rat.num_nonneg.2 hq0)
    rw [hqd] at hqx
    have hr := kind_right hm
    have hdq : ∀ i, i ≤ n → dq v q i = ((if i = 0 then 0 else u i + x : Int) : Rat) / (G : Rat) := fun i hi => by
      unfold dq
      by_cases e0 : i = 0
      · rw [if_pos e0, if_pos e0, Rat.intCast_zero, Rat.div_def, Rat.zero_mul]
      · rw [if_neg e0, if_neg e0, hc i hi, hqx, add_grid]
    have hsat : satM n G (widW m) fun i => if i = 0 then 0 else u i + x := fun i j hi hj => by
      have hb : m i j ≤ 2147483647 := by have := hr i j hi hj; unfold rightB at this; have := of_decide_eq_true this; omega
      have := hall i j hi hj
      rw [hdq i hi, hdq j hj, sub_grid] at this
      exact (kq_sat hG hb).1 this
    rw [in_sat hG (kind_right (of_kind e)) hv hl hc]
    exact down_sat hn hm e h0 (if_pos rfl) hu hx (fun i h1 _ => if_neg (by omega)) hsat
/-- A span with one delay lets it. -/
theorem delays_one {n : Nat} {m : Mat} {v : List (Int × Int)} {s : SpanP} (hs : delaysP n m v = some s) (h1 : s.loIn = false) (h2 : s.lo = s.hi) : s.ever = true := by
  unfold delaysP at hs
  split at hs
  case isFalse => cases hs
  case isTrue hc0 =>
  obtain ⟨hv, hl, hne⟩ := hc0
  cases ef : delayFrom n m v ((n + 1) * (n + 1)) 0 ⟨(0, 1), (0, 0), true, false, true⟩ with
  | none => rw [ef] at hs; cases hs
  | some t =>
    rw [ef, Option.bind_some] at hs
    split at hs
    case isFalse => cases hs
    case isTrue hend =>
    cases hs
    have hs0 : spanOk ⟨(0, 1), (0, 0), true, false, true⟩ := ⟨right_one 0, .inl rfl⟩
    obtain ⟨b1, b2⟩ := (from_has (m := m) hv hl ((n + 1) * (n + 1)) 0 ⟨(0, 1), (0, 0), true, false, true⟩ (by omega) hs0).1 _ ef
    obtain ⟨q, hq⟩ := span_some b1 hend
    obtain ⟨hq1, hq2⟩ := hq
    rw [h1] at hq1
    rw [h2] at hq1
    rcases hq1 with a | a
    · rcases hq2 with b | b | b
      · exact b
      · exact absurd a (by grind)
      · rw [b.1] at a; exact absurd a (by grind)
    · exact absurd a.2 (by decide)

/-! ### a clock is set -/
/-- A valuation with a clock set. -/
def setV (v : List (Int × Int)) (c : Nat) (k : Int) : List (Int × Int) := v.set (c - 1) (k, 1)
theorem setV_length (v : List (Int × Int)) (c : Nat) (k : Int) : (setV v c k).length = v.length := by simp [setV]
theorem setV_right {v : List (Int × Int)} {c : Nat} {k : Int} (hv : rightV v = true) (hk : 0 ≤ k) : rightV (setV v c k) = true := by
  unfold rightV at hv ⊢
  rw [setV_length]
  rw [Bool.and_eq_true] at hv ⊢
  refine ⟨hv.1, ?_⟩
  rw [List.all_eq_true]
  intro r hr
  rcases List.mem_or_eq_of_mem_set hr with h | h
  · exact (List.all_eq_true.1 hv.2) r h
  · rw [h, right_one, decide_eq_true (show 0 ≤ (k, (1 : Int)).1 from hk)]; rfl
theorem clock_set {v : List (Int × Int)} {c : Nat} {k : Int} (hc : 1 ≤ c ∧ c ≤ v.length) (i : Nat) : clockV (setV v c k) i = if i = c then (k, 1) else clockV v i := by
  unfold clockV setV
  by_cases e : i = c
  · subst e
    rw [if_neg (by omega), if_pos rfl, List.getD_eq_getElem?_getD, List.getElem?_set_self (by omega)]; rfl
  · rw [if_neg e]
    by_cases e0 : i = 0
    · rw [if_pos e0, if_pos e0]
    · rw [if_neg e0, if_neg e0, List.getD_eq_getElem?_getD, List.getD_eq_getElem?_getD, List.getElem?_set_ne (by omega)]
theorem cq_set {v : List (Int × Int)} {c : Nat} {k G : Int} {u : Nat → Int} {n : Nat} (hG : 0 < G) (hc : 1 ≤ c ∧ c ≤ v.length) (h : ∀ i, i ≤ n → cq v i = (u i : Rat) / (G : Rat)) : ∀ i, i ≤ n → cq (setV v c k) i = ((if i = c then k * G else u i : Int) : Rat) / (G : Rat) := fun i hi => by
  unfold cq
  rw [clock_set hc]
  by_cases e : i = c
  · rw [if_pos e, if_pos e]
    exact qv_grid (x := (k, 1)) (show (0 : Int) < 1 by decide) hG (Int.mul_one _)
  · rw [if_neg e, if_neg e]; exact h i hi
theorem one_of {x : Int × Int} {k : Int} (hx : rightR x = true) (h : qv x = (k : Rat)) : x = (k, 1) := by
  have hp := rq_pos hx
  rw [← qv_int k, qv_eq hp (show (0 : Int) < 1 by decide)] at h
  have hg := (of_decide_eq_true hx).2
  obtain ⟨a, b⟩ := x
  simp only at h hp hg
  have ea : a = k * b := by omega
  subst ea
  have e1 : Nat.gcd (k * b).natAbs b.natAbs = b.natAbs := by
    rw [Int.natAbs_mul]; exact Nat.gcd_mul_left_left _ _
  rw [e1] at hg
  have eb : b = 1 := by omega
  subst eb
  rw [Int.mul_one]
theorem reset06 {n c : Nat} {k : Int} {m a : Mat} {v : List (Int × Int)} (hn : n ≤ 8) (hc : 1 ≤ c ∧ c ≤ n) (hk : 0 ≤ k ∧ k ≤ 1048576) (hm : m = (fun _ _ => 0) ∨ ClosedZ n m) (e : ofP n (flat n (resetW (some (n, m)) c k)) = (some a, 0)) (hv : rightV v = true) (hl : v.length = n) :
    (inP n m v = true → inP n a (setV v c k) = true) ∧ (inP n a v = true → v.getD (c - 1) (0, 0) = (k, 1)) := by
  have hc' : 1 ≤ c ∧ c ≤ v.length := by omega
  rcases hm with rfl | hm
  · rw [reset_zero k hn] at e
    simp only [Prod.mk.injEq, Option.some.injEq, and_true] at e
    subst e
    rw [in_zero hv hl]
    exact ⟨fun h => (by cases h), fun h => (by cases h)⟩
  · obtain ⟨G, u, x, hG, h0, hu, hx, hcq, hq⟩ := grid_two (d := (0, 1)) hv hl (by decide) (by decide)
    have hra := kind_right (of_kind e)
    rw [in_sat hG hm.full.right hv hl hcq, in_sat hG hra hv hl hcq, in_sat hG hra (setV_right hv hk.1) ((setV_length v c k).trans hl) (cq_set hG hc' hcq)]
    have hs0 : (fun i => if i = c then k * G else u i) 0 = 0 := by show (if 0 = c then k * G else u 0) = 0; rw [if_neg (by omega)]; exact h0
    have hkG : 0 ≤ k * G := Int.mul_nonneg hk.1 (by omega)
    refine ⟨fun h => ?_, fun h => ?_⟩
    · rw [reset_sat hn (by omega) hc hk hm e hs0]
      refine ⟨fgt_of hc h0 ?_ (fun i _ hne => if_neg hne) h, if_pos rfl⟩
      show 0 ≤ (if c = c then k * G else u c)
      rw [if_pos rfl]; exact hkG
    · have hh := ((reset_sat hn (by omega) hc hk hm e h0).1 h).2
      have e1 := hcq c hc.2
      rw [hh] at e1
      have e2 : clockV v c = v.getD (c - 1) (0, 0) := by unfold clockV; rw [if_neg (by omega)]
      rw [← e2]
      refine one_of (clock_right hv (by omega)).1 ?_
      have hGr := cast_pos hG
      show cq v c = _
      rw [e1, Rat.intCast_mul]
      exact Rat.mul_div_cancel (by grind)
theorem unset06 {n c : Nat} {k : Int} {m a : Mat} {v : List (Int × Int)} (hn : n ≤ 8) (hc : 1 ≤ c ∧ c ≤ n) (hk : 0 ≤ k ∧ k ≤ 1048576) (hm : m = (fun _ _ => 0) ∨ ClosedZ n m) (e : unsetP n m c k = (some a, 0)) (hra : RightM n a) (hv : rightV v = true) (hl : v.length = n) :
    inP n a v = inP n m (setV v c k) := by
  have hc' : 1 ≤ c ∧ c ≤ v.length := by omega
  have hv' := setV_right (c := c) hv hk.1
  have hl' := (setV_length v c k).trans hl
  rcases hm with rfl | hm
  · rw [unset_zero k hn] at e
    simp only [Prod.mk.injEq, Option.some.injEq, and_true] at e
    subst e
    rw [in_zero hv hl, in_zero hv' hl']
  · obtain ⟨G, u, x, hG, h0, hu, hx, hcq, hq⟩ := grid_two (d := (0, 1)) hv hl (by decide) (by decide)
    rw [Bool.eq_iff_iff, in_sat hG hra hv hl hcq, in_sat hG hm.full.right hv' hl' (cq_set hG hc' hcq)]
    exact unset_sat hn (by omega) hc hk hm e h0 (hu c hc.2) (if_pos rfl) (fun i _ hne => if_neg hne)

/-! ### guards -/
/-- Does a valuation keep a limit? -/
def lkV (v : List (Int × Int)) (x : Int × Int × Int) : Bool := keepsQ (clockV v x.1.toNat) (clockV v x.2.1.toNat) x.2.2
/-- Do the guards from p on hold; fuel: how many are left. -/
def holdsFrom (v : List (Int × Int)) (l : List (Int × Int × Int × Int)) : Nat → Nat → Bool → Bool × Int
  | 0, _, b => (b, 0)
  | g + 1, p, b => if (guardP (l.getD p (0, 0, 0, 0))).2 ≠ 0 then (false, (guardP (l.getD p (0, 0, 0, 0))).2)
    else if (v.length : Int) < (l.getD p (0, 0, 0, 0)).1 ∨ (v.length : Int) < (l.getD p (0, 0, 0, 0)).2.1 then (false, 12)
    else holdsFrom v l g (p + 1) (b && (guardP (l.getD p (0, 0, 0, 0))).1.all (lkV v))
def holdsA (v : List (Int × Int)) (l : List (Int × Int × Int × Int)) : Bool × Int := if rightV v = true then holdsFrom v l l.length 0 true else (false, 7)
theorem gsE_all : ∀ (l : List (Int × Int × Int × Int)), gsE l = 0 → ∀ q, q < l.length → (guardP (l.getD q (0, 0, 0, 0))).2 = 0
  | [], _, q, h => by simp at h
  | g :: l, h, q, hq => by
    unfold gsE at h
    by_cases e : (guardP g).2 = 0
    · rw [if_pos e] at h
      cases q with
      | zero => simpa using e
      | succ q => simpa using gsE_all l h q (by simpa using hq)
    · rw [if_neg e] at h
      exact absurd h e
theorem gsL_mem {l : List (Int × Int × Int × Int)} {x : Int × Int × Int} : ∀ {p q}, q < p → x ∈ (guardP (l.getD q (0, 0, 0, 0))).1 → x ∈ gsL l p
  | 0, q, h, _ => absurd h (by omega)
  | p + 1, q, h, hx => by
    rw [gsL, List.mem_append]
    by_cases e : q = p
    · subst e; exact .inr hx
    · exact .inl (gsL_mem (by omega) hx)
theorem guard_clocks {g : Int × Int × Int × Int} (h : (guardP g).2 = 0) : ∃ x, x ∈ (guardP g).1 ∧ ((x.1 = g.1 ∧ x.2.1 = g.2.1) ∨ (x.1 = g.2.1 ∧ x.2.1 = g.1)) := by
  unfold guardP at h ⊢
  by_cases h1 : ¬ (0 ≤ g.1 ∧ g.1 ≤ 8 ∧ 0 ≤ g.2.1 ∧ g.2.1 ≤ 8)
  · rw [if_pos h1] at h; exact absurd h (by decide)
  rw [if_neg h1] at h ⊢
  by_cases h2 : ¬ (1 ≤ g.2.2.1 ∧ g.2.2.1 ≤ 5)
  · rw [if_pos h2] at h; exact absurd h (by decide)
  rw [if_neg h2] at h ⊢
  by_cases h3 : ¬ (-1048576 ≤ g.2.2.2 ∧ g.2.2.2 ≤ 1048576)
  · rw [if_pos h3] at h; exact absurd h (by decide)
  rw [if_neg h3] at h ⊢
  split
  · exact ⟨_, List.mem_singleton.2 rfl, .inl ⟨rfl, rfl⟩⟩
  · split
    · exact ⟨_, List.mem_singleton.2 rfl, .inl ⟨rfl, rfl⟩⟩
    · split
      · exact ⟨_, List.mem_singleton.2 rfl, .inr ⟨rfl, rfl⟩⟩
      · split
        · exact ⟨_, List.mem_singleton.2 rfl, .inr ⟨rfl, rfl⟩⟩
        · exact ⟨_, List.mem_cons_self, .inl ⟨rfl, rfl⟩⟩
theorem holds_all {v : List (Int × Int)} {l : List (Int × Int × Int × Int)} (h1 : ∀ q, q < l.length → (guardP (l.getD q (0, 0, 0, 0))).2 = 0) (h2 : ∀ q, q < l.length → (l.getD q (0, 0, 0, 0)).1 ≤ v.length ∧ (l.getD q (0, 0, 0, 0)).2.1 ≤ v.length) :
    ∀ g p, p + g = l.length → holdsFrom v l g p ((gsL l p).all (lkV v)) = ((gsL l l.length).all (lkV v), 0)
  | 0, p, h => by rw [show l.length = p by omega]; rfl
  | g + 1, p, h => by
    have a := h2 p (by omega)
    unfold holdsFrom
    rw [if_neg (not_not_intro (h1 p (by omega))), if_neg (by omega), ← List.all_append]
    exact holds_all h1 h2 g (p + 1) (by omega)
theorem guards06 {n : Nat} {m a : Mat} {v : List (Int × Int)} {l : List (Int × Int × Int × Int)} (hn : n ≤ 8) (hm : m = (fun _ _ => 0) ∨ ClosedZ n m) (e : gdA (some (n, m)) l = (some a, 0)) (hra : RightM n a) (hv : rightV v = true) (hl : v.length = n) :
    (holdsA v l).2 = 0 ∧ inP n a v = (inP n m v && (holdsA v l).1) := by
  have e : (if gsE l = 0 then conA (some (n, m)) (gsL l l.length) else (none, gsE l)) = (some a, 0) := e
  by_cases hE : gsE l = 0
  · rw [if_pos hE] at e
    have e : conP n (openW (some (n, m))) (gsL l l.length) = (some a, 0) := e
    have e' := e
    unfold conP at e'
    by_cases hc : conE n (gsL l l.length) = 0
    · obtain ⟨c1, c2⟩ := conE_parts hc
      have hg := gsE_all l hE
      have hclk : ∀ q, q < l.length → (l.getD q (0, 0, 0, 0)).1 ≤ v.length ∧ (l.getD q (0, 0, 0, 0)).2.1 ≤ v.length := fun q hq => by
        obtain ⟨x, hx, hxe⟩ := guard_clocks (hg q hq)
        have := (List.all_eq_true.1 c1) x (gsL_mem hq hx)
        unfold clkB anyB at this
        simp only [Bool.and_eq_true, decide_eq_true_eq] at this
        rw [hl]
        rcases hxe with ⟨a1, a2⟩ | ⟨a1, a2⟩ <;> (rw [a1, a2] at this; omega)
      have hh : holdsA v l = ((gsL l l.length).all (lkV v), 0) := by
        unfold holdsA
        rw [if_pos hv]
        exact holds_all hg hclk l.length 0 (by omega)
      rw [hh]
      refine ⟨rfl, ?_⟩
      obtain ⟨G, u, x, hG, h0, hu, hx, hcq, hq⟩ := grid_two (d := (0, 1)) hv hl (by decide) (by decide)
      rw [Bool.eq_iff_iff, in_sat hG hra hv hl hcq, Bool.and_eq_true, in_sat hG (kind_right hm) hv hl hcq, cons_sat hn (by omega) (kind_ok hm) e, all_getD _ _ (0, 0, 0)]
      have hk : ∀ q, q < (gsL l l.length).length → (lkV v ((gsL l l.length).getD q (0, 0, 0)) = true ↔ sat G (wid ((gsL l l.length).getD q (0, 0, 0)).2.2) (u ((gsL l l.length).getD q (0, 0, 0)).1.toNat - u ((gsL l l.length).getD q (0, 0, 0)).2.1.toNat)) := fun q hq => by
        have b1 := (all_getD _ _ (0, 0, 0)).1 c1 q hq
        have b2 := (all_getD _ _ (0, 0, 0)).1 c2 q hq
        generalize (gsL l l.length).getD q (0, 0, 0) = y at *
        unfold clkB anyB at b1
        simp only [Bool.and_eq_true, decide_eq_true_eq] at b1
        unfold bdB rightB at b2
        have b3 := of_decide_eq_true b2
        unfold lkV
        rw [keeps_kq (clock_pos hv (by omega)) (clock_pos hv (by omega))]
        show kq _ (cq v _ - cq v _) ↔ _
        rw [hcq _ (by omega), hcq _ (by omega), sub_grid]
        exact kq_sat hG (by omega)
      exact ⟨fun h => ⟨h.1, fun q hq => (hk q hq).2 (h.2 q hq)⟩, fun h => ⟨h.1, fun q hq => (hk q hq).1 (h.2 q hq)⟩⟩
    · rw [if_neg hc] at e'; cases e'
  · rw [if_neg hE] at e; cases e

/-! ### in both -/
theorem zero_of' {n : Nat} (hn : n ≤ 8) : ofP n (flat n (minM (fun _ _ => 0) (fun _ _ => 0))) = (some (fun _ _ => 0), 0) := by
  have e : flat n (minM (fun _ _ => 0) (fun _ _ => 0)) = flat n (openW (some (n, fun _ _ => 0))) := flat_congr fun i j hi hj => ((open_agree n (fun _ _ => 0)) i j hi hj).symm
  rw [e]
  exact ofP_zero n hn
theorem and06 {n : Nat} {m a : Mat} {v : List (Int × Int)} (hn : n ≤ 8) (hm : m = (fun _ _ => 0) ∨ ClosedZ n m) (e : ofP n (flat n (upW (some (n, m)))) = (some a, 0)) (hv : rightV v = true) (hl : v.length = n) :
    ∃ b, andA (some (n, m)) [some (n, a)] = (some b, 0) ∧ inP n b v = inP n m v := by
  have e1 : alE n [some (n, a)] = 0 := by
    refine alE_ok (fun j hj => ?_) (fun j hj => ?_) <;> (have : j = 0 := by simpa using hj) <;> subst this
    · exact fun h => by cases h
    · rfl
  have e2 : andA (some (n, m)) [some (n, a)] = ofP n (flat n (andUp n (openW (some (n, m))) [a] 1)) := by
    show (if alE n [some (n, a)] = 0 then _ else _) = _
    rw [if_pos e1]; rfl
  have hex : ∃ b, ofP n (flat n (andUp n (openW (some (n, m))) [a] 1)) = (some b, 0) := by
    rw [flat_congr (and_one (kind_right hm))]
    rcases hm with rfl | hc
    · have ea := e
      rw [up_zero n hn] at ea
      simp only [Prod.mk.injEq, Option.some.injEq, and_true] at ea
      subst ea
      exact ⟨_, zero_of' hn⟩
    · have huc := up_closed hc
      have ea := e
      rw [of_same hn huc (upW_agree hc)] at ea
      simp only [Prod.mk.injEq, Option.some.injEq, and_true] at ea
      subst ea
      refine ⟨_, of_same hn hc fun i j hi hj => ?_⟩
      rw [minM_cell hc.full.right hi hj, nar_agree hn huc i j hi hj]
      unfold upM
      split
      · have := hc.full.right i j hi hj; unfold rightB at this; have := of_decide_eq_true this; omega
      · omega
  obtain ⟨b, hb⟩ := hex
  refine ⟨b, e2.trans hb, ?_⟩
  obtain ⟨G, u, x, hG, h0, hu, hx, hcq, hq⟩ := grid_two (d := (0, 1)) hv hl (by decide) (by decide)
  rw [Bool.eq_iff_iff, in_sat hG (kind_right (of_kind hb)) hv hl hcq, in_sat hG (kind_right hm) hv hl hcq, both_sat hn (by omega) (kind_ok hm) (kind_ok (of_kind e)) hb]
  exact ⟨fun h => h.1, fun h => ⟨h, up_sat hn hm e h0 h0 (Int.le_refl 0) (fun i h1 _ => (Int.add_zero _).symm) h⟩⟩

end Go.Proofs.YtmelblnflalanaaGreat

/- Whether a valuation is in a zone, as point tells it. -/
namespace Go.Proofs.YtmelblnflalanaaGreat
open Go Go.RowKit
set_option linter.unusedVariables false
set_option linter.unusedSimpArgs false

theorem zdimq_any (v : Value) (z : Option (Nat × Mat)) (w : World) (h : ZoneV 173 w v z) : Calls Tryz.prog 77 #[v] w fun e w' => e = .returned (.int .i64 (dimP z)) ∧ w = w' := by
  match z, h with
  | none, h =>
    have h : v = .pointer none := h
    subst h
    exact dim_nil w
  | some (n, m), ⟨b, e, hn, _, hm⟩ =>
    subst e
    exact dim_zone b n m w hm
theorem quo_rem {k n i j : Nat} (hi : i = k / (n + 1)) (hj : j = k % (n + 1)) : Int.tdiv (k : Int) ((n : Int) + 1) = (i : Int) ∧ Int.tmod (k : Int) ((n : Int) + 1) = (j : Int) := by
  have e : (n : Int) + 1 = ((n + 1 : Nat) : Int) := by omega
  rw [e, Int.tdiv_eq_ediv_of_nonneg (by omega), Int.tmod_eq_emod_of_nonneg (by omega), hi, hj]
  exact ⟨(Int.natCast_ediv k (n + 1)).symm, (Int.natCast_emod k (n + 1)).symm⟩
/-- Which cell is broken, in a limit; and whether one is. -/
def BrkEnds (w : World) (r : Bool) (e : Ending) (w' : World) : Prop := (∃ i j b, e = .returned (.tuple #[.agg #[.int .i64 i, .int .i64 j, .int .i32 b], .bool r])) ∧ Below w.heap.size w w'

set_option maxRecDepth 100000 in
set_option maxHeartbeats 4000000 in
theorem breaks_any (b n : Nat) (m : Mat) (A : Option Addr) (c : Nat) (l : List (Int × Int)) (w : World) (hn : n ≤ 8) (hm : MatAt w b 173 .i32 n m) (hr : RightM n m) (hI : RatsA w A l) (h64 : All64v l) (hv : rightV l = true) (hl : l.length = n) :
    Calls Tryz.prog 82 #[.pointer (some ⟨b, 0, none⟩), .slice A l.length c] w (BrkEnds w (breaksP n m l).isSome) := by
  have HR := Lib.hid (fun W (hb : Below w.heap.size w W) => right_val A c l W (hI.below hb) (by omega) h64)
  rw [hv] at HR
  have HD := Lib.hid (fun W (hb : Below w.heap.size w W) => dim_zone b n m W (hm.later hb))
  have HC := Lib.hid (fun W (hb : Below w.heap.size w W) => cells_zone b n m W hn (hm.later hb))
  have HA := Lib.hid (fun W (hb : Below w.heap.size w W) (i : Nat) (hi : i ≤ n) => at_val A c l i (by omega) (by omega) W (hI.below hb))
  have HK := Lib.hid (fun W (i j : Nat) (hi : i ≤ n) (hj : j ≤ n) => keepsq_any (clockV l i).1 (clockV l i).2 (clockV l j).1 (clockV l j).2 (m i j) (clock64 h64 (by omega)).1 (clock64 h64 (by omega)).2 (clock64 h64 (by omega)).1 (clock64 h64 (by omega)).2 (clock_right hv (by omega)).1 (clock_right hv (by omega)).1 (clock_right hv (by omega)).2 (clock_right hv (by omega)).2 (hr i j hi hj) W)
  obtain ⟨N, hN⟩ : ∃ q, q = (n + 1) * (n + 1) := ⟨_, rfl⟩
  obtain ⟨R, hR⟩ : ∃ q, q = (breaksP n m l).isSome := ⟨_, rfl⟩
  rw [← hR]
  have HE : Hid (R = (breakFrom n m l N 0).isSome) := Lib.hid (by rw [hR, hN]; rfl)
  have K := Lib.hid ((Blx.start w).new #[.int .i64 0, .int .i64 0, .int .i32 0] 72)
  have HN := Lib.hid hN
  have HN9 := Lib.hid (And.intro hn hl)
  have hlen : ((l.length : Nat) : Int) = (n : Int) := by rw [hl]
  clear hR hI h64 hv hr hm hN hn hl
  go_enter Tryz.func82, Tryz.ntmps82
  go_upto_block 0 with fail
  generalize w.alloc (.cells #[.int .i64 0, .int .i64 0, .int .i32 0] 72) = w1 at *
  go_wp2_with fail
  refine (HR.out _ K.out.below).mono ?_
  rintro e w2 ⟨rfl, hb⟩
  replace K := Lib.hid (K.out.step hb)
  clear hb HR
  go_wp2_with fail
  refine (HD.out _ K.out.below).mono ?_
  rintro e w3 ⟨rfl, rfl⟩
  clear HD
  go_wp2_with fail
  refine (HC.out _ K.out.below).mono ?_
  rintro e w4 ⟨v, rfl, hb, hown⟩
  replace K := Lib.hid (K.out.step hb)
  clear hb HC
  obtain ⟨Af, cf, rfl, hints⟩ := hown.slice
  have hfl : (flat n m).length = N := by rw [flat_length, HN.out]
  rw [hfl]
  have HF := Lib.hid hints
  clear hown hints
  go_wp2
  go_loopg [28] N (fun g s28 wr => ∃ k : Nat, s28 = .int .i64 k ∧ Hid (Blx w [(w.heap.size, #[.int .i64 0, .int .i64 0, .int .i32 0], 72)] wr ∧ Ints wr .i32 Af (flat n m)) ∧ Hid (k ≤ N ∧ g + k = N ∧ R = (breakFrom n m l g k).isSome))
  case atStart => exact ⟨0, by simp, Lib.hid ⟨K.out, HF.out⟩, Lib.hid ⟨by omega, by omega, HE.out⟩⟩
  case round =>
    clear K HF HE
    obtain ⟨k, rfl, K, HG⟩ := hrel
    by_cases hk : k < N
    · have hki : (k : Int) < (N : Int) := by omega
      obtain ⟨bf, off, rfl, hc⟩ := K.out.2 k (by rw [hfl]; exact hk)
      rw [flat_getD n m k (by rw [← HN.out]; exact hk)] at hc
      have HST : Hid (R = (if keptAt n m l k = true then breakFrom n m l (gk - 1) (k + 1) else some k).isSome) := Lib.hid (by
        have h := HG.out.2.2
        rw [show gk = (gk - 1) + 1 by have := HG.out.2.1; omega] at h
        exact h)
      have d1 : k / (n + 1) < n + 1 := Nat.div_lt_of_lt_mul (by rw [← HN.out]; exact hk)
      have d2 := Nat.mod_lt k (show 0 < n + 1 by omega)
      have HKE : Hid (keptAt n m l k = keepsQ (clockV l (k / (n + 1))) (clockV l (k % (n + 1))) (m (k / (n + 1)) (k % (n + 1)))) := Lib.hid rfl
      obtain ⟨i, hi⟩ : ∃ i, i = k / (n + 1) := ⟨_, rfl⟩
      obtain ⟨j, hj⟩ : ∃ j, j = k % (n + 1) := ⟨_, rfl⟩
      obtain ⟨t1, t2⟩ := quo_rem hi hj
      rw [← hi, ← hj] at HKE hc
      rw [← hi] at d1
      rw [← hj] at d2
      have n9 := HN9.out.1
      have k81 : k ≤ 81 := by have := Nat.mul_le_mul (show n + 1 ≤ 9 by omega) (show n + 1 ≤ 9 by omega); have := HN.out; omega
      have q1 : IntKind.i64.wrap ((n : Int) + 1) = (n : Int) + 1 := IntWalk.i64_in _ (by omega)
      have q2 : IntKind.i64.wrap (i : Int) = (i : Int) := IntWalk.i64_in _ (by omega)
      have q3 : IntKind.i64.wrap (j : Int) = (j : Int) := IntWalk.i64_in _ (by omega)
      have q4 : ((n : Int) + 1 == 0) = false := by simp; omega
      have w5 : IntKind.i64.wrap ((k : Int) + 1) = ((k + 1 : Nat) : Int) := by rw [IntWalk.i64_in _ (by omega)]; omega
      obtain ⟨b', hb'⟩ : ∃ b, b = m i j := ⟨_, rfl⟩
      have HAI := Lib.hid (fun W hb => HA.out W hb i (by omega))
      have HAJ := Lib.hid (fun W hb => HA.out W hb j (by omega))
      have HKK := Lib.hid (fun W => HK.out W i j (by omega) (by omega))
      rw [← hb'] at HKK HKE hc
      obtain ⟨x, hx⟩ : ∃ x, x = clockV l i := ⟨_, rfl⟩
      obtain ⟨y, hy⟩ : ∃ y, y = clockV l j := ⟨_, rfl⟩
      rw [← hx] at HAI HKK HKE
      rw [← hy] at HAJ HKK HKE
      obtain ⟨x1, x2⟩ := x
      obtain ⟨y1, y2⟩ := y
      simp only at HAI HAJ HKK
      obtain ⟨kb, hkb⟩ : ∃ q, q = keepsQ (x1, x2) (y1, y2) b' := ⟨_, rfl⟩
      rw [← hkb] at HKK HKE
      rw [HKE.out] at HST
      clear HKE hkb hx hy hb' hi hj n9 k81
      go_wp2_with fail
      go_quiet (fail)
      generalize nq = nq at *
      replace K := Lib.hid (And.intro (K.out.1.drewN nq) (show Ints (wr.drewN nq) .i32 (some ⟨bf, off, none⟩) (flat n m) from K.out.2.below (belowN (Below.refl _ _) nq)))
      generalize wr.drewN nq = wq at *
      clear t1 t2 q1 q2 q3 q4 hc
      go_wp2_with fail
      refine (HAI.out _ K.out.1.below).mono ?_
      rintro e wa ⟨rfl, hb⟩
      replace K := Lib.hid (And.intro (K.out.1.step hb) (K.out.2.below hb))
      clear hb HAI
      go_wp2_with fail
      refine (HAJ.out _ K.out.1.below).mono ?_
      rintro e wb ⟨rfl, hb⟩
      replace K := Lib.hid (And.intro (K.out.1.step hb) (K.out.2.below hb))
      clear hb HAJ
      go_wp2_with fail
      refine (HKK.out _).mono ?_
      rintro e wc ⟨rfl, hb⟩
      replace K := Lib.hid (And.intro (K.out.1.step hb) (K.out.2.below hb))
      clear hb HKK
      cases kb with
      | false =>
        rw [if_neg (by decide)] at HST
        obtain ⟨k1, k2, k3, k4, k5, k6⟩ := K.out.1.cells3 0 rfl
        replace K := Lib.hid (((K.out.1.set 0 rfl 0 (.int .i64 i)).set 0 rfl 1 (.int .i64 j)).set 0 rfl 2 (.int .i32 b'))
        go_wp2
        refine bodyPost_ret (results_row_tmp (fn := Tryz.f82) rfl _ _ w.heap.size _ _ _ _ rfl (K.out.l _ (List.mem_singleton.2 rfl)) Tryz.underlying72 rfl (by kernel_rfl)) rfl ?_
        exact ⟨⟨_, _, _, by rw [HST.out]; rfl⟩, K.out.below⟩
      | true =>
        rw [if_pos rfl] at HST
        go_wp2
        go_roundg (gk - 1)
        case measure => have h := HG.out.2.1; omega
        case rel => exact ⟨k + 1, by go_num, K, Lib.hid ⟨by omega, by have h := HG.out.2.1; omega, HST.out⟩⟩
    · have hki : ¬ (k : Int) < (N : Int) := by omega
      have HE : Hid (R = false) := Lib.hid (by
        have h := HG.out.2.2
        rw [show gk = 0 by have := HG.out.2.1; omega] at h
        exact h)
      obtain ⟨k1, k2, k3, k4, k5, k6⟩ := K.out.1.cells3 0 rfl
      replace K := Lib.hid (((K.out.1.set 0 rfl 0 (.int .i64 0)).set 0 rfl 1 (.int .i64 0)).set 0 rfl 2 (.int .i32 0))
      go_wp2
      refine bodyPost_ret (results_row_tmp (fn := Tryz.f82) rfl _ _ w.heap.size _ _ _ _ rfl (K.out.l _ (List.mem_singleton.2 rfl)) Tryz.underlying72 rfl (by kernel_rfl)) rfl ?_
      exact ⟨⟨_, _, _, by rw [HE.out]; rfl⟩, K.out.below⟩

/-- Is a valuation in a zone, or in none? -/
def inZ (z : Option (Nat × Mat)) (l : List (Int × Int)) : Bool := match z with | some (n, m) => inP n m l | none => false
set_option maxRecDepth 100000 in
set_option maxHeartbeats 2000000 in
theorem in_nil (A : Option Addr) (c : Nat) (l : List (Int × Int)) (w : World) :
    Calls Tryz.prog 36 #[.pointer none, .slice A l.length c] w fun e w' => e = .returned (.bool false) ∧ Below w.heap.size w w' := by
  have HB := Lib.hid (Below.refl w.heap.size w)
  go_enter Tryz.func36, Tryz.ntmps36
  go_wp2
  go_ret
  exact ⟨rfl, HB.out⟩
set_option maxRecDepth 100000 in
set_option maxHeartbeats 2000000 in
theorem in_zone (b n : Nat) (m : Mat) (A : Option Addr) (c : Nat) (l : List (Int × Int)) (w : World) (hn : n ≤ 8) (hm : MatAt w b 173 .i32 n m) (hr : RightM n m) (hI : RatsA w A l) (hmax : l.length ≤ 8796093022000) (h64 : All64v l) :
    Calls Tryz.prog 36 #[.pointer (some ⟨b, 0, none⟩), .slice A l.length c] w fun e w' => e = .returned (.bool (inP n m l)) ∧ Below w.heap.size w w' := by
  have HR := Lib.hid (fun W (hb : Below w.heap.size w W) => right_val A c l W (hI.below hb) (by omega) h64)
  have HB := Lib.hid (Below.refl w.heap.size w)
  have HBR := Lib.hid (fun W (hb : Below w.heap.size w W) (hv : rightV l = true) (hl : l.length = n) => breaks_any b n m A c l W hn (hm.later hb) hr (hI.below hb) h64 hv hl)
  obtain ⟨R, hR⟩ : ∃ q, q = inP n m l := ⟨_, rfl⟩
  rw [← hR]
  have HE : Hid (R = (rightV l && decide (l.length = n) && (breaksP n m l).isNone)) := Lib.hid hR
  clear hR
  by_cases hv : rightV l = true
  · rw [hv] at HR HE
    have HD := Lib.hid (fun W (hb : Below w.heap.size w W) => dim_zone b n m W (hm.later hb))
    by_cases hl : l.length = n
    · have HBR := Lib.hid (fun W hb => HBR.out W hb hv hl)
      rw [decide_eq_true hl] at HE
      have hlen : ((l.length : Nat) : Int) = (n : Int) := by rw [hl]
      obtain ⟨k, hk⟩ : ∃ q, q = breaksP n m l := ⟨_, rfl⟩
      rw [← hk] at HBR HE
      clear hk hI hm hr h64 hv hl hn hmax
      go_enter Tryz.func36, Tryz.ntmps36
      go_wp2_with fail
      refine (HR.out _ HB.out).mono ?_
      rintro e w2 ⟨rfl, hb⟩
      have K := Lib.hid hb
      clear hb HR
      go_wp2_with fail
      refine (HD.out _ K.out).mono ?_
      rintro e w3 ⟨rfl, rfl⟩
      go_wp2_with fail
      refine (HBR.out _ K.out).mono ?_
      rintro e w4 ⟨⟨ci, cj, cb, rfl⟩, hb⟩
      replace K := Lib.hid (K.out.trans (hb.mono K.out.size))
      clear hb HBR
      obtain ⟨s, hs⟩ : ∃ s, s = k.isSome := ⟨_, rfl⟩
      rw [← hs]
      have HE : Hid (R = !s) := Lib.hid (by rw [HE.out, hs]; cases k <;> rfl)
      clear hs
      go_wp2
      go_ret
      exact ⟨by rw [HE.out]; rfl, K.out.alloc K.out.size _⟩
    · have HE : Hid (R = false) := Lib.hid (by rw [HE.out, decide_eq_false hl]; rfl)
      have hlen : ¬ ((l.length : Nat) : Int) = (n : Int) := by omega
      clear hI hm hr h64 hv hl hn hmax
      go_enter Tryz.func36, Tryz.ntmps36
      go_wp2_with fail
      refine (HR.out _ HB.out).mono ?_
      rintro e w2 ⟨rfl, hb⟩
      have K := Lib.hid hb
      clear hb HR
      go_wp2_with fail
      refine (HD.out _ K.out).mono ?_
      rintro e w3 ⟨rfl, rfl⟩
      go_wp2
      go_ret
      exact ⟨by rw [HE.out]; rfl, K.out⟩
  · have hv : rightV l = false := by simpa using hv
    rw [hv] at HR HE
    have HE : Hid (R = false) := HE
    clear hI hm hr h64 hv hn hmax
    go_enter Tryz.func36, Tryz.ntmps36
    go_wp2_with fail
    refine (HR.out _ HB.out).mono ?_
    rintro e w2 ⟨rfl, hb⟩
    have K := Lib.hid hb
    clear hb HR
    go_wp2
    go_ret
    exact ⟨by rw [HE.out]; rfl, K.out⟩

theorem in_any (v : Value) (z : Option (Nat × Mat)) (A : Option Addr) (c : Nat) (l : List (Int × Int)) (w : World) (hz : ZoneV 173 w v z) (hI : RatsA w A l) (hmax : l.length ≤ 8796093022000) (h64 : All64v l) :
    Calls Tryz.prog 36 #[v, .slice A l.length c] w fun e w' => e = .returned (.bool (inZ z l)) ∧ Below w.heap.size w w' := by
  match z, hz with
  | none, h =>
    have h : v = .pointer none := h
    subst h
    exact in_nil A c l w
  | some (n, m), ⟨b, e, hn, hr, hm⟩ =>
    subst e
    exact in_zone b n m A c l w hn hm hr hI hmax h64

end Go.Proofs.YtmelblnflalanaaGreat

/- A span made smaller, as point does it. -/
namespace Go.Proofs.YtmelblnflalanaaGreat
open Go Go.RowKit
set_option linter.unusedVariables false
set_option linter.unusedSimpArgs false

/-- The cells of a span. -/
def spanCs (s : SpanP) : Array Value := #[.int .i64 s.lo.1, .int .i64 s.lo.2, .int .i64 s.hi.1, .int .i64 s.hi.2, .bool s.loIn, .bool s.hiIn, .bool s.ever]
def Span64 (s : SpanP) : Prop := (I64 s.lo.1 ∧ I64 s.lo.2) ∧ I64 s.hi.1 ∧ I64 s.hi.2
/-- What narrow leaves. -/
def NarEnds (w0 : World) (g : Nat) (s : SpanP) (o : Option SpanP) (e : Ending) (w' : World) : Prop := match o with
  | some t => e = .returned (.bool true) ∧ Blx w0 [(g, spanCs t, 80)] w'
  | none => e = .returned (.bool false) ∧ Blx w0 [(g, spanCs s, 80)] w'
theorem even_dec {b : Int} : (b % 2 = 0) = (decide (b % 2 = 1) = false) := by
  refine propext ?_
  rw [decide_eq_false_iff_not]; omega

def tbNrA (gx : Nat) (x1 x2 q d1 d2 de : Int) : List (Nat × Nat × Value) :=
  [(0, 27, .int .i64 q), (1, 28, .agg #[.int .i64 q, .int .i64 1]), (2, 29, .agg #[.int .i64 x1, .int .i64 x2]), (3, 30, .tuple #[.agg #[.int .i64 d1, .int .i64 d2], .int .i64 de]), (4, 26, .tuple #[.agg #[.int .i64 d1, .int .i64 d2], .int .i64 de]), (5, 31, .agg #[.int .i64 d1, .int .i64 d2]), (6, 32, .int .i64 de), (9, 13, .int .i64 de)]
def bsNrA (gx : Nat) (x1 x2 q d1 d2 de : Int) : List (Nat × Value) := [(5, .pointer (some ⟨gx, 0, none⟩)), (9, .int .i64 q)]
def bkNrA (gx : Nat) (x1 x2 q d1 d2 de : Int) : List BlkR := [⟨7, 12, 8, #[.int .i64 0, .int .i64 0], #[.int .i64 d1, .int .i64 d2], 24⟩]

def tbNcA (g gd : Nat) (d1 d2 h1 h2 c : Int) : List (Nat × Nat × Value) :=
  [(0, 36, .agg #[.int .i64 d1, .int .i64 d2]), (1, 37, .pointer (some ⟨g, 0, none⟩)), (2, 38, .pointer (some ⟨g, 0, none⟩)), (3, 39, .pointer (some ⟨g, 2, none⟩)), (4, 40, .agg #[.int .i64 h1, .int .i64 h2]), (5, 41, .int .i64 c), (6, 14, .int .i64 c)]
def bsNcA (g gd : Nat) (d1 d2 h1 h2 c : Int) : List (Nat × Value) := [(0, .pointer (some ⟨g, 0, none⟩)), (12, .pointer (some ⟨gd, 0, none⟩))]

set_option maxRecDepth 100000 in
set_option maxHeartbeats 8000000 in
theorem narrow_above (w0 w : World) (g : Nat) (s : SpanP) (x1 x2 b : Int) (hx1 : I64 x1) (hx2 : I64 x2) (hs : Span64 s) (hb : rightB b = true) (hn : b ≠ 2147483647) (K : Blx w0 [(g, spanCs s, 80)] w) :
    Calls Tryz.prog 80 #[.pointer (some ⟨g, 0, none⟩), .agg #[.int .i64 x1, .int .i64 x2], .int .i32 b, .bool true] w (NarEnds w0 g s (narrowP s (x1, x2) b true)) := by
  obtain ⟨⟨a1, a2⟩, ⟨h1, h2⟩, li, hi, ev⟩ := s
  obtain ⟨⟨s1, s2⟩, s3, s4⟩ := hs
  have K := Lib.hid (K.new #[.int .i64 x1, .int .i64 x2] 24)
  have hso : someB b = true := by unfold someB; rw [hb]; simp [hn]
  have HV := Lib.hid (fun W => value_yes b W hso)
  have hbd := rightB_bd hb hn
  have HN : narrowP ⟨(a1, a2), (h1, h2), li, hi, ev⟩ (x1, x2) b true = if (subP (b / 2, 1) (x1, x2)).2 = 0 then (if ev = true ∨ cmpP (subP (b / 2, 1) (x1, x2)).1 (h1, h2) < 0 ∨ (cmpP (subP (b / 2, 1) (x1, x2)).1 (h1, h2) = 0 ∧ decide (b % 2 = 1) = false) then some ⟨(a1, a2), (subP (b / 2, 1) (x1, x2)).1, li, decide (b % 2 = 1), false⟩ else some ⟨(a1, a2), (h1, h2), li, hi, ev⟩) else none := by
    unfold narrowP
    simp only [if_true, even_dec]


  have q64 : I64 (b / 2) := by unfold I64; omega
  have one64 : I64 1 := by unfold I64; omega
  have HOF := Lib.hid (fun W => rof2_any (b / 2) W)
  have HSB := Lib.hid (fun W => sub_any (b / 2) 1 x1 x2 q64 one64 hx1 hx2 W)
  have D64 := subP64 (b / 2, 1) (x1, x2)
  obtain ⟨D, hD⟩ : ∃ D, D = subP (b / 2, 1) (x1, x2) := ⟨_, rfl⟩
  rw [← hD] at HSB D64 HN
  obtain ⟨⟨d1, d2⟩, de⟩ := D
  unfold rtV at HSB
  have HCM := Lib.hid (fun W => compare_any d1 d2 h1 h2 D64.1 D64.2 s3 s4 W)
  obtain ⟨c, hc⟩ : ∃ c, c = cmpP (d1, d2) (h1, h2) := ⟨_, rfl⟩
  simp only at HN
  rw [← hc] at HCM HN
  obtain ⟨n, hnn⟩ : ∃ n, n = b / 2 := ⟨_, rfl⟩
  obtain ⟨rc, hrc⟩ : ∃ rc, rc = decide (b % 2 = 1) := ⟨_, rfl⟩
  rw [← hnn] at HV HOF HSB
  rw [← hrc] at HV HN
  obtain ⟨s, hs⟩ : ∃ s : SpanP, s = ⟨(a1, a2), (h1, h2), li, hi, ev⟩ := ⟨_, rfl⟩
  rw [← hs] at HN ⊢
  have HS := Lib.hid hs
  replace HN := Lib.hid HN
  clear hs hc hD hx1 hx2 hb hn hso hbd s1 s2 s3 s4 D64 one64 q64 hrc hnn
  go_enter Tryz.func80, Tryz.ntmps80
  go_upto_block 0 with fail
  generalize w.alloc (.cells #[.int .i64 x1, .int .i64 x2] 24) = wa at *
  generalize w.heap.size = gx at *
  simp only [List.cons_append, List.nil_append] at K
  go_wp2_with fail
  refine (HV.out _).mono ?_
  rintro e w' ⟨rfl, rfl⟩
  have hB0 := K.out.below.size
  have hlB := K.out.after
  go_upto_region 4 with fail

  refine wp_region_tab (by kernel_rfl) [5, 9, 27, 28, 29, 30, 26, 31, 32, 12, 13] [[], [0], [], [1, 2], [3], [4], [4], [], [0, 1, 2, 3, 4, 5, 7], [0, 1, 2, 3, 4, 5, 6, 7, 8]]
    (fun L vals wx => Blx w0 [(g, spanCs ⟨(a1, a2), (h1, h2), li, hi, ev⟩, 80), (gx, #[.int .i64 x1, .int .i64 x2], 24)] wx ∧ TabR (tbNrA gx x1 x2 n d1 d2 de) (bsNrA gx x1 x2 n d1 d2 de) L vals ∧ BlksR (bkNrA gx x1 x2 n d1 d2 de) wa.heap.size L vals wx) (by kernel_rfl) rfl ?_ ?_ ?_
  · exact ⟨K.out.drew, TabR.start (by simp [bsNrA]), BlksR.start _ (Nat.le_refl _)⟩
  · intro i hi a L vals wx E hJ hLi hn K hK hK0
    obtain ⟨hI, hT, hB⟩ := hJ
    match i, hi with
    | 0, _ => exact op_moveG rfl rfl rfl rfl ((E 9 (by decide)).trans (hT.rd 1 rfl)) (hK 27 _ _ (by decide) ⟨hI, hT.set 0 rfl (by kernel_rfl) (by kernel_rfl), hB.keep (Below.refl _ _) (by simp [bkNrA])⟩)
    | 1, _ =>
      have e1 := (E 27 (by decide)).trans (hT.val 0 rfl (hn 0 (by decide)))
      exact op_goG rfl rfl rfl rfl Tryz.func25 (by kernel_rfl) rfl (by simp only [List.map_toArray, List.map_cons, List.map_nil, e1]) (HOF.out _) (fun w' hb => hK 28 _ _ (by decide) ⟨hI.step hb, hT.set 1 rfl (by kernel_rfl) (by kernel_rfl), hB.keep hb (by simp [bkNrA])⟩)
    | 2, _ => exact op_loadG rfl rfl rfl rfl Tryz.underlying24 rfl (by kernel_rfl) ((E 5 (by decide)).trans (hT.rd 0 rfl)) (hI.l (gx, #[.int .i64 x1, .int .i64 x2], 24) (by simp)) (hK 29 _ _ (by decide) ⟨hI, hT.set 2 rfl (by kernel_rfl) (by kernel_rfl), hB.keep (Below.refl _ _) (by simp [bkNrA])⟩)
    | 3, _ =>
      have e1 := (E 28 (by decide)).trans (hT.val 1 rfl (hn 1 (by decide)))
      have e2 := (E 29 (by decide)).trans (hT.val 2 rfl (hn 2 (by decide)))
      exact op_goG rfl rfl rfl rfl Tryz.func63 (by kernel_rfl) rfl (by simp only [List.map_toArray, List.map_cons, List.map_nil, e1, e2]) (HSB.out _) (fun w' hb => hK 30 _ _ (by decide) ⟨hI.step hb, hT.set 3 rfl (by kernel_rfl) (by kernel_rfl), hB.keep hb (by simp [bkNrA])⟩)
    | 4, _ => exact op_moveG rfl rfl rfl rfl ((E 30 (by decide)).trans (hT.val 3 rfl (hn 3 (by decide)))) (hK 26 _ _ (by decide) ⟨hI, hT.set 4 rfl (by kernel_rfl) (by kernel_rfl), hB.keep (Below.refl _ _) (by simp [bkNrA])⟩)
    | 5, _ =>
      have e1 := (E 26 (by decide)).trans (hT.val 4 rfl (hn 4 (by decide)))
      refine op_valueG (w' := wx) (v := .agg #[.int .i64 d1, .int .i64 d2]) rfl rfl rfl ?_ (hK 31 _ _ (by decide) ⟨hI, hT.set 5 rfl (by kernel_rfl) (by kernel_rfl), hB.keep (Below.refl _ _) (by simp [bkNrA])⟩)
      clear hK hK0 hT E hB
      revert e1
      generalize a.eval = ρ
      intro e1
      go_simp
    | 6, _ =>
      have e1 := (E 26 (by decide)).trans (hT.val 4 rfl (hn 4 (by decide)))
      refine op_valueG (w' := wx) (v := .int .i64 de) rfl rfl rfl ?_ (hK 32 _ _ (by decide) ⟨hI, hT.set 6 rfl (by kernel_rfl) (by kernel_rfl), hB.keep (Below.refl _ _) (by simp [bkNrA])⟩)
      clear hK hK0 hT E hB
      revert e1
      generalize a.eval = ρ
      intro e1
      go_simp
    | 7, _ =>
      refine op_valueG (w' := wx.alloc (.cells #[.int .i64 0, .int .i64 0] 24)) (v := .pointer (some ⟨wx.heap.size, 0, none⟩)) rfl rfl rfl ?_ (hK 12 _ _ (by decide) ⟨hI.step (below_one _ _), hT.put (by simp [tbNrA]) (by simp [bsNrA]), hB.new 0 rfl hLi (by simp [bkNrA]) (by simp [bkNrA])⟩)
      clear hK hK0 hT hB E
      go_simp
    | 8, _ =>
      obtain ⟨ga, e1, e2, e3⟩ := hB.blk 0 rfl (hn 7 (by decide))
      rw [if_neg (by rw [hLi]; decide)] at e3
      exact op_store (old := #[.int .i64 0, .int .i64 0]) (cs := #[.int .i64 d1, .int .i64 d2]) rfl rfl rfl rfl (by kernel_rfl) rfl (by kernel_rfl) ((E 12 (by decide)).trans e1) ((E 31 (by decide)).trans (hT.val 5 rfl (hn 5 (by decide)))) e3
        (hK0 _ ⟨hI.own hB0 hlB e2 _, hT.skip (by simp [tbNrA]), hB.st 0 rfl (hn 7 (by decide)) (by simp [bkNrA]) (by simp [bkNrA]) (by simp [bkNrA]) e1⟩)
    | 9, _ => exact op_assignG rfl rfl rfl rfl ((E 32 (by decide)).trans (hT.val 6 rfl (hn 6 (by decide)))) (hK 13 _ _ (by decide) ⟨hI, hT.set 7 rfl (by kernel_rfl) (by kernel_rfl), hB.keep (Below.refl _ _) (by simp [bkNrA])⟩)
    | k + 10, h => exact absurd (show k + 10 < 10 from h) (by omega)
  · intro L vals wx hJ hall
    obtain ⟨hI, hT, hB⟩ := hJ
    have HI := Lib.hid hI
    have v5 : vals 5 = .pointer (some ⟨gx, 0, none⟩) := hT.rd 0 rfl
    have v9 : vals 9 = .int .i64 n := hT.rd 1 rfl
    have v13 : vals 13 = .int .i64 de := hT.val 7 rfl (hall 9 (by decide))
    obtain ⟨gn0, m0, n0, r0⟩ := hB.blk 0 rfl (hall 7 (by decide))
    rw [if_pos (hall 8 (by decide))] at r0
    have v12 : vals 12 = .pointer (some ⟨gn0, 0, none⟩) := m0
    simp only [overA, Act.put, List.setIfInBounds_toArray, List.set_cons_zero, List.set_cons_succ]
    rw [v5, v9, v13, v12]
    clear hI hT hall v5 v9 v13 v12 hB
    replace K := Lib.hid (HI.out.with (fun t ht => Nat.lt_of_lt_of_le (hlB t ht) n0) (Nat.le_trans hB0 n0) r0)
    clear HI hB0 hlB n0 r0 m0 HOF HSB HV
    generalize gn0 = gd at *
    generalize wx = wb at *
    simp only [List.cons_append, List.nil_append] at K
    by_cases hde : de = 0
    · subst hde
      have HN := Lib.hid (HN.out.trans (if_pos rfl))
      go_upto_region 8 with fail

      refine wp_region_tab (by kernel_rfl) [0, 12, 36, 37, 38, 39, 40, 41, 14] [[], [], [1], [2], [3], [0, 4], [0, 1, 2, 3, 4, 5]]
        (fun L vals wx => Blx w0 [(g, spanCs ⟨(a1, a2), (h1, h2), li, hi, ev⟩, 80), (gx, #[.int .i64 x1, .int .i64 x2], 24), (gd, #[.int .i64 d1, .int .i64 d2], 24)] wx ∧ TabR (tbNcA g gd d1 d2 h1 h2 c) (bsNcA g gd d1 d2 h1 h2 c) L vals) (by kernel_rfl) rfl ?_ ?_ ?_
      · exact ⟨K.out.drew, TabR.start (by simp [bsNcA])⟩
      · intro i hi a L vals wx E hJ hLi hn K hK hK0
        obtain ⟨hI, hT⟩ := hJ
        match i, hi with
        | 0, _ => exact op_loadG rfl rfl rfl rfl Tryz.underlying24 rfl (by kernel_rfl) ((E 12 (by decide)).trans (hT.rd 1 rfl)) (hI.l (gd, #[.int .i64 d1, .int .i64 d2], 24) (by simp)) (hK 36 _ _ (by decide) ⟨hI, hT.set 0 rfl (by kernel_rfl) (by kernel_rfl)⟩)
        | 1, _ => exact op_moveG rfl rfl rfl rfl ((E 0 (by decide)).trans (hT.rd 0 rfl)) (hK 37 _ _ (by decide) ⟨hI, hT.set 1 rfl (by kernel_rfl) (by kernel_rfl)⟩)
        | 2, _ =>
          have e1 := (E 37 (by decide)).trans (hT.val 1 rfl (hn 1 (by decide)))
          refine op_valueG (w' := wx) (v := .pointer (some ⟨g, 0, none⟩)) rfl rfl rfl ?_ (hK 38 _ _ (by decide) ⟨hI, hT.set 2 rfl (by kernel_rfl) (by kernel_rfl)⟩)
          clear hK hK0 hT E
          revert e1
          generalize a.eval = ρ
          intro e1
          go_simp
        | 3, _ =>
          have e1 := (E 38 (by decide)).trans (hT.val 2 rfl (hn 2 (by decide)))
          refine op_valueG (w' := wx) (v := .pointer (some ⟨g, 2, none⟩)) rfl rfl rfl ?_ (hK 39 _ _ (by decide) ⟨hI, hT.set 3 rfl (by kernel_rfl) (by kernel_rfl)⟩)
          clear hK hK0 hT E
          revert e1
          generalize a.eval = ρ
          intro e1
          go_simp
        | 4, _ =>
          have e1 := (E 39 (by decide)).trans (hT.val 3 rfl (hn 3 (by decide)))
          have d1' := (hI.cell 0 rfl 2 (v := .int .i64 h1) rfl).1
          have d2' := (hI.cell 0 rfl 3 (v := .int .i64 h2) rfl).1
          refine op_valueG (w' := wx) (v := .agg #[.int .i64 h1, .int .i64 h2]) rfl rfl rfl ?_ (hK 40 _ _ (by decide) ⟨hI, hT.set 4 rfl (by kernel_rfl) (by kernel_rfl)⟩)
          clear hK hK0 hT E
          revert e1
          generalize a.eval = ρ
          intro e1
          go_simp
        | 5, _ =>
          have e1 := (E 36 (by decide)).trans (hT.val 0 rfl (hn 0 (by decide)))
          have e2 := (E 40 (by decide)).trans (hT.val 4 rfl (hn 4 (by decide)))
          exact op_goG rfl rfl rfl rfl Tryz.func81 (by kernel_rfl) rfl (by simp only [List.map_toArray, List.map_cons, List.map_nil, e1, e2]) (HCM.out _) (fun w' hb => hK 41 _ _ (by decide) ⟨hI.step hb, hT.set 5 rfl (by kernel_rfl) (by kernel_rfl)⟩)
        | 6, _ => exact op_assignG rfl rfl rfl rfl ((E 41 (by decide)).trans (hT.val 5 rfl (hn 5 (by decide)))) (hK 14 _ _ (by decide) ⟨hI, hT.set 6 rfl (by kernel_rfl) (by kernel_rfl)⟩)
        | k + 7, h => exact absurd (show k + 7 < 7 from h) (by omega)
      · intro L vals wx hJ hall
        obtain ⟨hI, hT⟩ := hJ
        have HI := Lib.hid hI
        have v0 : vals 0 = .pointer (some ⟨g, 0, none⟩) := hT.rd 0 rfl
        have v12 : vals 12 = .pointer (some ⟨gd, 0, none⟩) := hT.rd 1 rfl
        have v14 : vals 14 = .int .i64 c := hT.val 6 rfl (hall 6 (by decide))
        simp only [overA, Act.put, List.setIfInBounds_toArray, List.set_cons_zero, List.set_cons_succ]
        rw [v0, v12, v14]
        clear hI hT hall v0 v12 v14
        replace K := HI
        clear HI HCM
        generalize wx = wc at *
        obtain ⟨k1, k2, _, _⟩ := K.out.cells2 2 rfl
        obtain ⟨c2', f2⟩ := K.out.cell 0 rfl 2 (v := .int .i64 h1) rfl
        obtain ⟨c3', f3⟩ := K.out.cell 0 rfl 3 (v := .int .i64 h2) rfl
        obtain ⟨c5', f5⟩ := K.out.cell 0 rfl 5 (v := .bool hi) rfl
        obtain ⟨c6', f6⟩ := K.out.cell 0 rfl 6 (v := .bool ev) rfl
        have KN := Lib.hid (((((K.out.set 0 rfl 2 (.int .i64 d1)).set 0 rfl 3 (.int .i64 d2)).set 0 rfl 5 (.bool rc)).set 0 rfl 6 (.bool false)).front (L := [(g, spanCs ⟨(a1, a2), (d1, d2), li, rc, false⟩, 80)]) (M := [(gx, #[.int .i64 x1, .int .i64 x2], 24), (gd, #[.int .i64 d1, .int .i64 d2], 24)]))
        replace K := Lib.hid (K.out.front (L := [(g, spanCs ⟨(a1, a2), (h1, h2), li, hi, ev⟩, 80)]) (M := [(gx, #[.int .i64 x1, .int .i64 x2], 24), (gd, #[.int .i64 d1, .int .i64 d2], 24)]))
        by_cases hq : ev = true ∨ c < 0 ∨ (c = 0 ∧ rc = false)
        · have HN := Lib.hid (HN.out.trans (if_pos hq))
          have fin : ∀ (e : Ending) (w' : World), e = .returned (.bool true) ∧ Blx w0 [(g, spanCs ⟨(a1, a2), (d1, d2), li, rc, false⟩, 80)] w' → NarEnds w0 g s (narrowP s (x1, x2) b true) e w' := fun e w' h => by
            rw [HN.out]; exact h
          clear HN
          by_cases q1 : ev = true
          · subst q1
            go_wp2
            go_ret
            exact fin _ _ ⟨rfl, KN.out⟩
          · have q1 : ev = false := by simpa using q1
            subst q1
            by_cases q2 : c < 0
            · have e1 : decide (c < 0) = true := decide_eq_true q2
              go_wp2
              go_ret
              exact fin _ _ ⟨rfl, KN.out⟩
            · have e1 : decide (c < 0) = false := decide_eq_false q2
              have q3 : c = 0 ∧ rc = false := by simpa [q2] using hq
              obtain ⟨q3, q4⟩ := q3
              subst q3; subst q4
              clear hq q2
              go_wp2
              go_ret
              exact fin _ _ ⟨rfl, KN.out⟩
        · have HN3 := Lib.hid (HN.out.trans (if_neg hq))
          have q1 : ev = false := by cases ev with
            | false => rfl
            | true => exact absurd (.inl rfl) hq
          subst q1
          have q2 : ¬ c < 0 := fun h => hq (.inr (.inl h))
          have e1 : decide (c < 0) = false := decide_eq_false q2
          have fin : ∀ (e : Ending) (w' : World), e = .returned (.bool true) ∧ Blx w0 [(g, spanCs ⟨(a1, a2), (h1, h2), li, hi, false⟩, 80)] w' → NarEnds w0 g s (narrowP s (x1, x2) b true) e w' := fun e w' h => by
            rw [HN3.out, HS.out]; exact h
          clear HN HN3
          by_cases q3 : c = 0
          · subst q3
            have q4 : rc = true := by cases rc with
              | true => rfl
              | false => exact absurd (.inr (.inr ⟨rfl, rfl⟩)) hq
            subst q4
            clear hq q2
            go_wp2
            go_ret
            exact fin _ _ ⟨rfl, K.out⟩
          · have e2 : (c == 0) = false := by simp [q3]
            clear hq q2 q3
            go_wp2
            go_ret
            exact fin _ _ ⟨rfl, K.out⟩

    · have hde2 : (de == 0) = false := by simp [hde]
      have HN := Lib.hid (HN.out.trans (if_neg hde))
      have K := Lib.hid (K.out.front (L := [(g, spanCs ⟨(a1, a2), (h1, h2), li, hi, ev⟩, 80)]) (M := [(gx, #[.int .i64 x1, .int .i64 x2], 24), (gd, #[.int .i64 d1, .int .i64 d2], 24)]))
      go_wp2
      go_ret
      rw [HN.out, HS.out]
      exact ⟨rfl, K.out⟩

def tbNrB (gx : Nat) (x1 x2 q d1 d2 de : Int) : List (Nat × Nat × Value) :=
  [(0, 27, .int .i64 q), (1, 28, .agg #[.int .i64 q, .int .i64 1]), (2, 29, .agg #[.int .i64 x1, .int .i64 x2]), (3, 30, .tuple #[.agg #[.int .i64 d1, .int .i64 d2], .int .i64 de]), (4, 26, .tuple #[.agg #[.int .i64 d1, .int .i64 d2], .int .i64 de]), (5, 31, .agg #[.int .i64 d1, .int .i64 d2]), (6, 32, .int .i64 de), (9, 13, .int .i64 de)]
def bsNrB (gx : Nat) (x1 x2 q d1 d2 de : Int) : List (Nat × Value) := [(5, .pointer (some ⟨gx, 0, none⟩)), (9, .int .i64 q)]
def bkNrB (gx : Nat) (x1 x2 q d1 d2 de : Int) : List BlkR := [⟨7, 12, 8, #[.int .i64 0, .int .i64 0], #[.int .i64 d1, .int .i64 d2], 24⟩]

def tbNcB (g gd : Nat) (d1 d2 a1 a2 c : Int) : List (Nat × Nat × Value) :=
  [(0, 69, .agg #[.int .i64 d1, .int .i64 d2]), (1, 70, .pointer (some ⟨g, 0, none⟩)), (2, 71, .pointer (some ⟨g, 0, none⟩)), (3, 72, .pointer (some ⟨g, 0, none⟩)), (4, 73, .agg #[.int .i64 a1, .int .i64 a2]), (5, 74, .int .i64 c), (6, 15, .int .i64 c)]
def bsNcB (g gd : Nat) (d1 d2 a1 a2 c : Int) : List (Nat × Value) := [(0, .pointer (some ⟨g, 0, none⟩)), (12, .pointer (some ⟨gd, 0, none⟩))]

set_option maxRecDepth 100000 in
set_option maxHeartbeats 8000000 in
theorem narrow_below (w0 w : World) (g : Nat) (s : SpanP) (x1 x2 b : Int) (hx1 : I64 x1) (hx2 : I64 x2) (hs : Span64 s) (hb : rightB b = true) (hn : b ≠ 2147483647) (K : Blx w0 [(g, spanCs s, 80)] w) :
    Calls Tryz.prog 80 #[.pointer (some ⟨g, 0, none⟩), .agg #[.int .i64 x1, .int .i64 x2], .int .i32 b, .bool false] w (NarEnds w0 g s (narrowP s (x1, x2) b false)) := by
  obtain ⟨⟨a1, a2⟩, ⟨h1, h2⟩, li, hi, ev⟩ := s
  obtain ⟨⟨s1, s2⟩, s3, s4⟩ := hs
  have K := Lib.hid (K.new #[.int .i64 x1, .int .i64 x2] 24)
  have hso : someB b = true := by unfold someB; rw [hb]; simp [hn]
  have HV := Lib.hid (fun W => value_yes b W hso)
  have hbd := rightB_bd hb hn
  have HN : narrowP ⟨(a1, a2), (h1, h2), li, hi, ev⟩ (x1, x2) b false = if (subP (-(b / 2), 1) (x1, x2)).2 = 0 then (if 0 < cmpP (subP (-(b / 2), 1) (x1, x2)).1 (a1, a2) ∨ (cmpP (subP (-(b / 2), 1) (x1, x2)).1 (a1, a2) = 0 ∧ decide (b % 2 = 1) = false) then some ⟨(subP (-(b / 2), 1) (x1, x2)).1, (h1, h2), decide (b % 2 = 1), hi, ev⟩ else some ⟨(a1, a2), (h1, h2), li, hi, ev⟩) else none := by
    unfold narrowP
    simp only [Bool.false_eq_true, if_false, even_dec]


  have q64 : I64 (-(b / 2)) := by unfold I64; omega
  have one64 : I64 1 := by unfold I64; omega
  have HOF := Lib.hid (fun W => rof2_any (-(b / 2)) W)
  have HSB := Lib.hid (fun W => sub_any (-(b / 2)) 1 x1 x2 q64 one64 hx1 hx2 W)
  have D64 := subP64 (-(b / 2), 1) (x1, x2)
  obtain ⟨D, hD⟩ : ∃ D, D = subP (-(b / 2), 1) (x1, x2) := ⟨_, rfl⟩
  rw [← hD] at HSB D64 HN
  obtain ⟨⟨d1, d2⟩, de⟩ := D
  unfold rtV at HSB
  have HCM := Lib.hid (fun W => compare_any d1 d2 a1 a2 D64.1 D64.2 s1 s2 W)
  obtain ⟨c, hc⟩ : ∃ c, c = cmpP (d1, d2) (a1, a2) := ⟨_, rfl⟩
  simp only at HN
  rw [← hc] at HCM HN
  obtain ⟨n, hnn⟩ : ∃ n, n = b / 2 := ⟨_, rfl⟩
  obtain ⟨rc, hrc⟩ : ∃ rc, rc = decide (b % 2 = 1) := ⟨_, rfl⟩
  rw [← hnn] at HV HOF HSB
  rw [← hrc] at HV HN
  have q3 : IntKind.i64.wrap (-n) = -n := IntWalk.i64_in _ (by omega)
  obtain ⟨s, hs⟩ : ∃ s : SpanP, s = ⟨(a1, a2), (h1, h2), li, hi, ev⟩ := ⟨_, rfl⟩
  rw [← hs] at HN ⊢
  have HS := Lib.hid hs
  replace HN := Lib.hid HN
  clear hs hc hD hx1 hx2 hb hn hso hbd s1 s2 s3 s4 D64 one64 q64 hrc hnn
  go_enter Tryz.func80, Tryz.ntmps80
  go_upto_block 0 with fail
  generalize w.alloc (.cells #[.int .i64 x1, .int .i64 x2] 24) = wa at *
  generalize w.heap.size = gx at *
  simp only [List.cons_append, List.nil_append] at K
  go_wp2_with fail
  refine (HV.out _).mono ?_
  rintro e w' ⟨rfl, rfl⟩
  have hB0 := K.out.below.size
  have hlB := K.out.after
  go_upto_region 4 with fail

  refine wp_region_tab (by kernel_rfl) [5, 9, 27, 28, 29, 30, 26, 31, 32, 12, 13] [[], [0], [], [1, 2], [3], [4], [4], [], [0, 1, 2, 3, 4, 5, 7], [0, 1, 2, 3, 4, 5, 6, 7, 8]]
    (fun L vals wx => Blx w0 [(g, spanCs ⟨(a1, a2), (h1, h2), li, hi, ev⟩, 80), (gx, #[.int .i64 x1, .int .i64 x2], 24)] wx ∧ TabR (tbNrB gx x1 x2 (-n) d1 d2 de) (bsNrB gx x1 x2 (-n) d1 d2 de) L vals ∧ BlksR (bkNrB gx x1 x2 (-n) d1 d2 de) wa.heap.size L vals wx) (by kernel_rfl) rfl ?_ ?_ ?_
  · exact ⟨K.out.drew, TabR.start (by simp [bsNrB]), BlksR.start _ (Nat.le_refl _)⟩
  · intro i hi a L vals wx E hJ hLi hn K hK hK0
    obtain ⟨hI, hT, hB⟩ := hJ
    match i, hi with
    | 0, _ => exact op_moveG rfl rfl rfl rfl ((E 9 (by decide)).trans (hT.rd 1 rfl)) (hK 27 _ _ (by decide) ⟨hI, hT.set 0 rfl (by kernel_rfl) (by kernel_rfl), hB.keep (Below.refl _ _) (by simp [bkNrB])⟩)
    | 1, _ =>
      have e1 := (E 27 (by decide)).trans (hT.val 0 rfl (hn 0 (by decide)))
      exact op_goG rfl rfl rfl rfl Tryz.func25 (by kernel_rfl) rfl (by simp only [List.map_toArray, List.map_cons, List.map_nil, e1]) (HOF.out _) (fun w' hb => hK 28 _ _ (by decide) ⟨hI.step hb, hT.set 1 rfl (by kernel_rfl) (by kernel_rfl), hB.keep hb (by simp [bkNrB])⟩)
    | 2, _ => exact op_loadG rfl rfl rfl rfl Tryz.underlying24 rfl (by kernel_rfl) ((E 5 (by decide)).trans (hT.rd 0 rfl)) (hI.l (gx, #[.int .i64 x1, .int .i64 x2], 24) (by simp)) (hK 29 _ _ (by decide) ⟨hI, hT.set 2 rfl (by kernel_rfl) (by kernel_rfl), hB.keep (Below.refl _ _) (by simp [bkNrB])⟩)
    | 3, _ =>
      have e1 := (E 28 (by decide)).trans (hT.val 1 rfl (hn 1 (by decide)))
      have e2 := (E 29 (by decide)).trans (hT.val 2 rfl (hn 2 (by decide)))
      exact op_goG rfl rfl rfl rfl Tryz.func63 (by kernel_rfl) rfl (by simp only [List.map_toArray, List.map_cons, List.map_nil, e1, e2]) (HSB.out _) (fun w' hb => hK 30 _ _ (by decide) ⟨hI.step hb, hT.set 3 rfl (by kernel_rfl) (by kernel_rfl), hB.keep hb (by simp [bkNrB])⟩)
    | 4, _ => exact op_moveG rfl rfl rfl rfl ((E 30 (by decide)).trans (hT.val 3 rfl (hn 3 (by decide)))) (hK 26 _ _ (by decide) ⟨hI, hT.set 4 rfl (by kernel_rfl) (by kernel_rfl), hB.keep (Below.refl _ _) (by simp [bkNrB])⟩)
    | 5, _ =>
      have e1 := (E 26 (by decide)).trans (hT.val 4 rfl (hn 4 (by decide)))
      refine op_valueG (w' := wx) (v := .agg #[.int .i64 d1, .int .i64 d2]) rfl rfl rfl ?_ (hK 31 _ _ (by decide) ⟨hI, hT.set 5 rfl (by kernel_rfl) (by kernel_rfl), hB.keep (Below.refl _ _) (by simp [bkNrB])⟩)
      clear hK hK0 hT E hB
      revert e1
      generalize a.eval = ρ
      intro e1
      go_simp
    | 6, _ =>
      have e1 := (E 26 (by decide)).trans (hT.val 4 rfl (hn 4 (by decide)))
      refine op_valueG (w' := wx) (v := .int .i64 de) rfl rfl rfl ?_ (hK 32 _ _ (by decide) ⟨hI, hT.set 6 rfl (by kernel_rfl) (by kernel_rfl), hB.keep (Below.refl _ _) (by simp [bkNrB])⟩)
      clear hK hK0 hT E hB
      revert e1
      generalize a.eval = ρ
      intro e1
      go_simp
    | 7, _ =>
      refine op_valueG (w' := wx.alloc (.cells #[.int .i64 0, .int .i64 0] 24)) (v := .pointer (some ⟨wx.heap.size, 0, none⟩)) rfl rfl rfl ?_ (hK 12 _ _ (by decide) ⟨hI.step (below_one _ _), hT.put (by simp [tbNrB]) (by simp [bsNrB]), hB.new 0 rfl hLi (by simp [bkNrB]) (by simp [bkNrB])⟩)
      clear hK hK0 hT hB E
      go_simp
    | 8, _ =>
      obtain ⟨ga, e1, e2, e3⟩ := hB.blk 0 rfl (hn 7 (by decide))
      rw [if_neg (by rw [hLi]; decide)] at e3
      exact op_store (old := #[.int .i64 0, .int .i64 0]) (cs := #[.int .i64 d1, .int .i64 d2]) rfl rfl rfl rfl (by kernel_rfl) rfl (by kernel_rfl) ((E 12 (by decide)).trans e1) ((E 31 (by decide)).trans (hT.val 5 rfl (hn 5 (by decide)))) e3
        (hK0 _ ⟨hI.own hB0 hlB e2 _, hT.skip (by simp [tbNrB]), hB.st 0 rfl (hn 7 (by decide)) (by simp [bkNrB]) (by simp [bkNrB]) (by simp [bkNrB]) e1⟩)
    | 9, _ => exact op_assignG rfl rfl rfl rfl ((E 32 (by decide)).trans (hT.val 6 rfl (hn 6 (by decide)))) (hK 13 _ _ (by decide) ⟨hI, hT.set 7 rfl (by kernel_rfl) (by kernel_rfl), hB.keep (Below.refl _ _) (by simp [bkNrB])⟩)
    | k + 10, h => exact absurd (show k + 10 < 10 from h) (by omega)
  · intro L vals wx hJ hall
    obtain ⟨hI, hT, hB⟩ := hJ
    have HI := Lib.hid hI
    have v5 : vals 5 = .pointer (some ⟨gx, 0, none⟩) := hT.rd 0 rfl
    have v9 : vals 9 = .int .i64 (-n) := hT.rd 1 rfl
    have v13 : vals 13 = .int .i64 de := hT.val 7 rfl (hall 9 (by decide))
    obtain ⟨gn0, m0, n0, r0⟩ := hB.blk 0 rfl (hall 7 (by decide))
    rw [if_pos (hall 8 (by decide))] at r0
    have v12 : vals 12 = .pointer (some ⟨gn0, 0, none⟩) := m0
    simp only [overA, Act.put, List.setIfInBounds_toArray, List.set_cons_zero, List.set_cons_succ]
    rw [v5, v9, v13, v12]
    clear hI hT hall v5 v9 v13 v12 hB
    replace K := Lib.hid (HI.out.with (fun t ht => Nat.lt_of_lt_of_le (hlB t ht) n0) (Nat.le_trans hB0 n0) r0)
    clear HI hB0 hlB n0 r0 m0 HOF HSB HV
    generalize gn0 = gd at *
    generalize wx = wb at *
    simp only [List.cons_append, List.nil_append] at K
    by_cases hde : de = 0
    · subst hde
      have HN := Lib.hid (HN.out.trans (if_pos rfl))
      go_upto_region 12 with fail

      refine wp_region_tab (by kernel_rfl) [0, 12, 69, 70, 71, 72, 73, 74, 15] [[], [], [1], [2], [3], [0, 4], [0, 1, 2, 3, 4, 5]]
        (fun L vals wx => Blx w0 [(g, spanCs ⟨(a1, a2), (h1, h2), li, hi, ev⟩, 80), (gx, #[.int .i64 x1, .int .i64 x2], 24), (gd, #[.int .i64 d1, .int .i64 d2], 24)] wx ∧ TabR (tbNcB g gd d1 d2 a1 a2 c) (bsNcB g gd d1 d2 a1 a2 c) L vals) (by kernel_rfl) rfl ?_ ?_ ?_
      · exact ⟨K.out.drew, TabR.start (by simp [bsNcB])⟩
      · intro i hi a L vals wx E hJ hLi hn K hK hK0
        obtain ⟨hI, hT⟩ := hJ
        match i, hi with
        | 0, _ => exact op_loadG rfl rfl rfl rfl Tryz.underlying24 rfl (by kernel_rfl) ((E 12 (by decide)).trans (hT.rd 1 rfl)) (hI.l (gd, #[.int .i64 d1, .int .i64 d2], 24) (by simp)) (hK 69 _ _ (by decide) ⟨hI, hT.set 0 rfl (by kernel_rfl) (by kernel_rfl)⟩)
        | 1, _ => exact op_moveG rfl rfl rfl rfl ((E 0 (by decide)).trans (hT.rd 0 rfl)) (hK 70 _ _ (by decide) ⟨hI, hT.set 1 rfl (by kernel_rfl) (by kernel_rfl)⟩)
        | 2, _ =>
          have e1 := (E 70 (by decide)).trans (hT.val 1 rfl (hn 1 (by decide)))
          refine op_valueG (w' := wx) (v := .pointer (some ⟨g, 0, none⟩)) rfl rfl rfl ?_ (hK 71 _ _ (by decide) ⟨hI, hT.set 2 rfl (by kernel_rfl) (by kernel_rfl)⟩)
          clear hK hK0 hT E
          revert e1
          generalize a.eval = ρ
          intro e1
          go_simp
        | 3, _ =>
          have e1 := (E 71 (by decide)).trans (hT.val 2 rfl (hn 2 (by decide)))
          refine op_valueG (w' := wx) (v := .pointer (some ⟨g, 0, none⟩)) rfl rfl rfl ?_ (hK 72 _ _ (by decide) ⟨hI, hT.set 3 rfl (by kernel_rfl) (by kernel_rfl)⟩)
          clear hK hK0 hT E
          revert e1
          generalize a.eval = ρ
          intro e1
          go_simp
        | 4, _ =>
          have e1 := (E 72 (by decide)).trans (hT.val 3 rfl (hn 3 (by decide)))
          have d1' := (hI.cell 0 rfl 0 (v := .int .i64 a1) rfl).1
          have d2' := (hI.cell 0 rfl 1 (v := .int .i64 a2) rfl).1
          refine op_valueG (w' := wx) (v := .agg #[.int .i64 a1, .int .i64 a2]) rfl rfl rfl ?_ (hK 73 _ _ (by decide) ⟨hI, hT.set 4 rfl (by kernel_rfl) (by kernel_rfl)⟩)
          clear hK hK0 hT E
          revert e1
          generalize a.eval = ρ
          intro e1
          go_simp
        | 5, _ =>
          have e1 := (E 69 (by decide)).trans (hT.val 0 rfl (hn 0 (by decide)))
          have e2 := (E 73 (by decide)).trans (hT.val 4 rfl (hn 4 (by decide)))
          exact op_goG rfl rfl rfl rfl Tryz.func81 (by kernel_rfl) rfl (by simp only [List.map_toArray, List.map_cons, List.map_nil, e1, e2]) (HCM.out _) (fun w' hb => hK 74 _ _ (by decide) ⟨hI.step hb, hT.set 5 rfl (by kernel_rfl) (by kernel_rfl)⟩)
        | 6, _ => exact op_assignG rfl rfl rfl rfl ((E 74 (by decide)).trans (hT.val 5 rfl (hn 5 (by decide)))) (hK 15 _ _ (by decide) ⟨hI, hT.set 6 rfl (by kernel_rfl) (by kernel_rfl)⟩)
        | k + 7, h => exact absurd (show k + 7 < 7 from h) (by omega)
      · intro L vals wx hJ hall
        obtain ⟨hI, hT⟩ := hJ
        have HI := Lib.hid hI
        have v0 : vals 0 = .pointer (some ⟨g, 0, none⟩) := hT.rd 0 rfl
        have v12 : vals 12 = .pointer (some ⟨gd, 0, none⟩) := hT.rd 1 rfl
        have v15 : vals 15 = .int .i64 c := hT.val 6 rfl (hall 6 (by decide))
        simp only [overA, Act.put, List.setIfInBounds_toArray, List.set_cons_zero, List.set_cons_succ]
        rw [v0, v12, v15]
        clear hI hT hall v0 v12 v15
        replace K := HI
        clear HI HCM
        generalize wx = wc at *
        obtain ⟨k1, k2, _, _⟩ := K.out.cells2 2 rfl
        obtain ⟨c2', f2⟩ := K.out.cell 0 rfl 0 (v := .int .i64 a1) rfl
        obtain ⟨c3', f3⟩ := K.out.cell 0 rfl 1 (v := .int .i64 a2) rfl
        obtain ⟨c5', f5⟩ := K.out.cell 0 rfl 4 (v := .bool li) rfl
        have KN := Lib.hid ((((K.out.set 0 rfl 0 (.int .i64 d1)).set 0 rfl 1 (.int .i64 d2)).set 0 rfl 4 (.bool rc)).front (L := [(g, spanCs ⟨(d1, d2), (h1, h2), rc, hi, ev⟩, 80)]) (M := [(gx, #[.int .i64 x1, .int .i64 x2], 24), (gd, #[.int .i64 d1, .int .i64 d2], 24)]))
        replace K := Lib.hid (K.out.front (L := [(g, spanCs ⟨(a1, a2), (h1, h2), li, hi, ev⟩, 80)]) (M := [(gx, #[.int .i64 x1, .int .i64 x2], 24), (gd, #[.int .i64 d1, .int .i64 d2], 24)]))
        by_cases hq : 0 < c ∨ (c = 0 ∧ rc = false)
        · have HN := Lib.hid (HN.out.trans (if_pos hq))
          have fin : ∀ (e : Ending) (w' : World), e = .returned (.bool true) ∧ Blx w0 [(g, spanCs ⟨(d1, d2), (h1, h2), rc, hi, ev⟩, 80)] w' → NarEnds w0 g s (narrowP s (x1, x2) b false) e w' := fun e w' h => by
            rw [HN.out]; exact h
          clear HN
          by_cases q2 : 0 < c
          · have e1 : decide (0 < c) = true := decide_eq_true q2
            go_wp2
            go_ret
            exact fin _ _ ⟨rfl, KN.out⟩
          · have e1 : decide (0 < c) = false := decide_eq_false q2
            have q3 : c = 0 ∧ rc = false := by simpa [q2] using hq
            obtain ⟨q3, q4⟩ := q3
            subst q3; subst q4
            clear hq q2
            go_wp2
            go_ret
            exact fin _ _ ⟨rfl, KN.out⟩
        · have HN3 := Lib.hid (HN.out.trans (if_neg hq))
          have q2 : ¬ 0 < c := fun h => hq (.inl h)
          have e1 : decide (0 < c) = false := decide_eq_false q2
          have fin : ∀ (e : Ending) (w' : World), e = .returned (.bool true) ∧ Blx w0 [(g, spanCs ⟨(a1, a2), (h1, h2), li, hi, ev⟩, 80)] w' → NarEnds w0 g s (narrowP s (x1, x2) b false) e w' := fun e w' h => by
            rw [HN3.out, HS.out]; exact h
          clear HN HN3
          by_cases q3 : c = 0
          · subst q3
            have q4 : rc = true := by cases rc with
              | true => rfl
              | false => exact absurd (.inr ⟨rfl, rfl⟩) hq
            subst q4
            clear hq q2
            go_wp2
            go_ret
            exact fin _ _ ⟨rfl, K.out⟩
          · have e2 : (c == 0) = false := by simp [q3]
            clear hq q2 q3
            go_wp2
            go_ret
            exact fin _ _ ⟨rfl, K.out⟩

    · have hde2 : (de == 0) = false := by simp [hde]
      have HN := Lib.hid (HN.out.trans (if_neg hde))
      have K := Lib.hid (K.out.front (L := [(g, spanCs ⟨(a1, a2), (h1, h2), li, hi, ev⟩, 80)]) (M := [(gx, #[.int .i64 x1, .int .i64 x2], 24), (gd, #[.int .i64 d1, .int .i64 d2], 24)]))
      go_wp2
      go_ret
      rw [HN.out, HS.out]
      exact ⟨rfl, K.out⟩


end Go.Proofs.YtmelblnflalanaaGreat

/- The rounds of the least valuation, cell by cell: plain. -/
namespace Go.Proofs.YtmelblnflalanaaGreat
set_option linter.unusedVariables false
set_option linter.unusedSimpArgs false

/-- Behind the first k cells of a round. -/
def insK (n : Nat) (g : Int) (m : Mat) (v : Nat → Int) : Nat → Nat → Int
  | 0 => v
  | k + 1 => insS g m (insK n g m v k) (k / (n + 1)) (k % (n + 1))
theorem insK_row (n : Nat) (g : Int) (m : Mat) (v : Nat → Int) : ∀ i j, j ≤ n + 1 → insK n g m v (i * (n + 1) + j) = insJ g m (insI n g m v i) i j := by
  intro i
  induction i with
  | zero =>
    intro j
    induction j with
    | zero => intro _; rw [Nat.zero_mul]; rfl
    | succ j ih =>
      intro hj
      rw [show 0 * (n + 1) + (j + 1) = (0 * (n + 1) + j) + 1 by omega]
      show insS g m (insK n g m v (0 * (n + 1) + j)) _ _ = insS g m (insJ g m (insI n g m v 0) 0 j) 0 j
      rw [ih (by omega), show 0 * (n + 1) + j = j by omega, Nat.div_eq_of_lt (by omega), Nat.mod_eq_of_lt (by omega)]
  | succ i ihi =>
    intro j
    induction j with
    | zero =>
      intro _
      have := ihi (n + 1) (Nat.le_refl _)
      rw [show (i + 1) * (n + 1) + 0 = i * (n + 1) + (n + 1) by rw [Nat.succ_mul]; omega, this]
      rfl
    | succ j ih =>
      intro hj
      rw [show (i + 1) * (n + 1) + (j + 1) = ((i + 1) * (n + 1) + j) + 1 by omega]
      show insS g m (insK n g m v ((i + 1) * (n + 1) + j)) _ _ = insS g m (insJ g m (insI n g m v (i + 1)) (i + 1) j) (i + 1) j
      rw [ih (by omega), show ((i + 1) * (n + 1) + j) / (n + 1) = i + 1 by rw [Nat.mul_comm, Nat.mul_add_div (by omega), Nat.div_eq_of_lt (by omega)], show ((i + 1) * (n + 1) + j) % (n + 1) = j by rw [Nat.mul_comm, Nat.mul_add_mod, Nat.mod_eq_of_lt (by omega)]]
theorem insK_all (n : Nat) (g : Int) (m : Mat) (v : Nat → Int) : insK n g m v ((n + 1) * (n + 1)) = insI n g m v (n + 1) := by
  have := insK_row n g m v (n + 1) 0 (by omega)
  rw [Nat.add_zero] at this
  exact this
theorem insK_ge (n : Nat) (g : Int) (m : Mat) (v : Nat → Int) (a : Nat) : ∀ k, v a ≤ insK n g m v k a
  | 0 => Int.le_refl _
  | k + 1 => Int.le_trans (insK_ge n g m v a k) (insS_ge g m _ _ _ a)
theorem insK_le {n : Nat} {g : Int} {m : Mat} {u v : Nat → Int} (hu : Sol n g m u) (hv : ∀ a, a ≤ n → v a ≤ u a) : ∀ k, k ≤ (n + 1) * (n + 1) → ∀ a, a ≤ n → insK n g m v k a ≤ u a
  | 0, _ => hv
  | k + 1, h => by
    have d1 : k / (n + 1) < n + 1 := Nat.div_lt_of_lt_mul h
    have d2 := Nat.mod_lt k (show 0 < n + 1 by omega)
    exact insS_le hu (insK_le hu hv k (by omega)) (by omega) (by omega)
theorem insS_max {g : Int} {m : Mat} {v : Nat → Int} {i j : Nat} (h : m i j ≠ none62) : insS g m v i j = fun a => if a = j then max (v j) (v i - (m i j / 2 * g - (1 - m i j % 2))) else v a := by
  unfold insS
  by_cases hc : v j < v i - (m i j / 2 * g - (1 - m i j % 2))
  · rw [if_pos ⟨h, hc⟩, Int.max_eq_right (by omega)]
  · rw [if_neg (fun hh => hc hh.2), Int.max_eq_left (by omega)]
    funext a
    split
    · rename_i e; rw [e]
    · rfl
theorem insS_inf {g : Int} {m : Mat} {v : Nat → Int} {i j : Nat} (h : m i j = none62) : insS g m v i j = v := if_neg (fun hh => hh.1 h)

end Go.Proofs.YtmelblnflalanaaGreat
