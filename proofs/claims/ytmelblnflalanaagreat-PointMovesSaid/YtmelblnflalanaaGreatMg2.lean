/- Texts of ours, laid together: Vb, Vc, Vd, Ja, Jc, Vg, Vh, Vi. -/
import Derived.Test.YtmelblnflalanaaGreatShelf
import Derived.Shelf.Spec.BitsCarry
import Derived.Lib.Hide
import Derived.Deep.LoopGhost
import Derived.Deep.QuietTactic
import Derived.BigQuiet
import Derived.BigRegion
import Derived.StillTailTactics
import Derived.KernelRfl
import Derived.Deep.DeepCutAuto
import Derived.Deep.CutBlock
import Derived.Test.YtmelblnflalanaaGreatMg1
/- Fractions in lowest terms: plain laws. -/
namespace Go.Proofs.YtmelblnflalanaaGreat
set_option linter.unusedVariables false
set_option linter.unusedSimpArgs false

/-- The fraction of a sign and two sizes. -/
def fracS (neg : Bool) (n d : Nat) : (Int × Int) × Int :=
  if fitsI (sgnI neg (n / Nat.gcd n d)) = true ∧ d / Nat.gcd n d ≤ 9223372036854775807 then ((sgnI neg (n / Nat.gcd n d), ((d / Nat.gcd n d : Nat) : Int)), 0) else ((0, 0), 20)
theorem frac_is (X D : Int) : fracP X D = fracS (decide (X < 0) != decide (D < 0)) X.natAbs D.natAbs := rfl
theorem sgn_zero (b : Bool) : sgnI b 0 = 0 := by cases b <;> rfl
theorem sgn_abs (X : Int) : sgnI (decide (X < 0)) X.natAbs = X := by
  unfold sgnI
  by_cases h : X < 0
  · simp [h]; omega
  · simp [h]; omega
theorem abs_sgn (b : Bool) (n : Nat) : (sgnI b n).natAbs = n := by cases b <;> simp [sgnI]
theorem fracS_zero (b b' : Bool) (d : Nat) : fracS b 0 d = fracS b' 0 d := by unfold fracS; rw [Nat.zero_div, sgn_zero, sgn_zero]
theorem frac_sgn (neg : Bool) (n d : Nat) (hd : 0 < d) : fracS neg n d = fracP (sgnI neg n) d := by
  rw [frac_is, abs_sgn, Int.natAbs_natCast, show decide ((d : Int) < 0) = false from decide_eq_false (by omega)]
  by_cases h : n = 0
  · subst h; exact fracS_zero _ _ _
  · have e : decide (sgnI neg n < 0) = neg := by
      cases neg
      · exact decide_eq_false (by show ¬ ((n : Int) < 0); omega)
      · exact decide_eq_true (by show -(n : Int) < 0; omega)
    rw [e]
    cases neg <;> rfl
/-- What the fraction is worth. -/
theorem frac_value {X D : Int} (hD : D ≠ 0) (h : (fracP X D).2 = 0) : (fracP X D).1.1 * D = X * (fracP X D).1.2 := by
  unfold fracP at h ⊢
  by_cases hc : fitsI (sgnI (decide (X < 0) != decide (D < 0)) (X.natAbs / Nat.gcd X.natAbs D.natAbs)) = true ∧ D.natAbs / Nat.gcd X.natAbs D.natAbs ≤ 9223372036854775807
  · rw [if_pos hc]
    have hg : 0 < Nat.gcd X.natAbs D.natAbs := Nat.gcd_pos_of_pos_right _ (by omega)
    obtain ⟨n, hn⟩ := Nat.gcd_dvd_left X.natAbs D.natAbs
    obtain ⟨d, hd⟩ := Nat.gcd_dvd_right X.natAbs D.natAbs
    have e1 : X.natAbs / Nat.gcd X.natAbs D.natAbs = n := by rw [Nat.div_eq_of_eq_mul_right hg hn]
    have e2 : D.natAbs / Nat.gcd X.natAbs D.natAbs = d := by rw [Nat.div_eq_of_eq_mul_right hg hd]
    rw [e1, e2]
    show sgnI (decide (X < 0) != decide (D < 0)) n * D = X * (d : Int)
    generalize Nat.gcd X.natAbs D.natAbs = g at *
    have hX : (X.natAbs : Int) = (g : Int) * n := by rw [hn]; simp
    have hDn : (D.natAbs : Int) = (g : Int) * d := by rw [hd]; simp
    have key : (n : Int) * ((g : Int) * d) = (g : Int) * n * d := by rw [← Int.mul_assoc, Int.mul_comm (n : Int) g]
    by_cases hx : X < 0 <;> by_cases hdd : D < 0
    · have ex : X = -((g : Int) * n) := by omega
      have ed : D = -((g : Int) * d) := by omega
      simp only [hx, hdd, decide_true, bne_self_eq_false, sgnI]
      rw [ex, ed]
      simp only [Bool.false_eq_true, if_false, Int.mul_neg, Int.neg_mul]
      rw [key]
    · have ex : X = -((g : Int) * n) := by omega
      have ed : D = (g : Int) * d := by omega
      simp only [hx, hdd, decide_true, decide_false, sgnI, bne_iff_ne, ne_eq, Bool.true_eq_false, not_false_eq_true, if_true]
      rw [ex, ed]
      simp only [Int.mul_neg, Int.neg_mul]
      rw [key]
    · have ex : X = (g : Int) * n := by omega
      have ed : D = -((g : Int) * d) := by omega
      simp only [hx, hdd, decide_true, decide_false, sgnI, bne_iff_ne, ne_eq, Bool.false_eq_true, not_false_eq_true, if_true]
      rw [ex, ed]
      simp only [Int.mul_neg, Int.neg_mul, Int.neg_neg]
      rw [key]
    · have ex : X = (g : Int) * n := by omega
      have ed : D = (g : Int) * d := by omega
      simp only [hx, hdd, decide_false, bne_self_eq_false, sgnI]
      rw [ex, ed]
      simp only [Bool.false_eq_true, if_false]
      rw [key]
  · rw [if_neg hc] at h
    exact absurd h (by decide)
/-- A fraction in lowest terms is what fracP tells of all that are worth as much. -/
theorem frac_of_right {X D : Int} {a : Int × Int} (hD : D ≠ 0) (ha : rightR a = true) (hf : fitsI a.1 = true) (h2 : a.2 ≤ 9223372036854775807) (he : X * a.2 = a.1 * D) : fracP X D = (a, 0) := by
  obtain ⟨h0, h1⟩ := of_decide_eq_true ha
  have hN : X.natAbs * a.2.natAbs = a.1.natAbs * D.natAbs := by rw [← Int.natAbs_mul, ← Int.natAbs_mul, he]
  have hdvd : a.2.natAbs ∣ D.natAbs := gcd_one_dvd h1 D.natAbs ⟨X.natAbs, by rw [← hN, Nat.mul_comm]⟩
  obtain ⟨k, hk⟩ := hdvd
  have ha2 : 0 < a.2.natAbs := by omega
  have hkp : 0 < k := by
    rcases Nat.eq_zero_or_pos k with e | e
    · subst e; omega
    · exact e
  have hX : X.natAbs = a.1.natAbs * k := by
    rw [hk, Nat.mul_left_comm] at hN
    rw [Nat.mul_comm X.natAbs] at hN
    exact Nat.eq_of_mul_eq_mul_left ha2 hN
  have hg : Nat.gcd X.natAbs D.natAbs = k := by rw [hX, hk, Nat.gcd_mul_right, h1, Nat.one_mul]
  have e1 : X.natAbs / k = a.1.natAbs := by rw [hX]; exact Nat.mul_div_cancel _ hkp
  have e2 : D.natAbs / k = a.2.natAbs := by rw [hk]; exact Nat.mul_div_cancel _ hkp
  have es : sgnI (decide (X < 0) != decide (D < 0)) a.1.natAbs = a.1 := by
    by_cases hz : a.1 = 0
    · rw [hz]; exact sgn_zero _
    · have hb : (decide (X < 0) != decide (D < 0)) = decide (a.1 < 0) := by
        have k1 : X < 0 ↔ a.1 * D < 0 := by
          rw [← he]
          constructor
          · exact fun h => Int.mul_neg_of_neg_of_pos h h0
          · intro h
            rcases Int.lt_trichotomy X 0 with e | e | e
            · exact e
            · subst e; rw [Int.zero_mul] at h; exact absurd h (by decide)
            · have := Int.mul_pos e h0; omega
        rcases Int.lt_trichotomy D 0 with hd | hd | hd
        · rcases Int.lt_trichotomy a.1 0 with hn | hn | hn
          · have p1 : 0 < a.1 * D := Int.mul_pos_of_neg_of_neg hn hd
            rw [show decide (X < 0) = false from decide_eq_false (by omega), show decide (D < 0) = true from decide_eq_true hd, show decide (a.1 < 0) = true from decide_eq_true hn]; rfl
          · exact absurd hn hz
          · have p1 : a.1 * D < 0 := Int.mul_neg_of_pos_of_neg hn hd
            rw [show decide (X < 0) = true from decide_eq_true (by omega), show decide (D < 0) = true from decide_eq_true hd, show decide (a.1 < 0) = false from decide_eq_false (by omega)]; rfl
        · exact absurd hd hD
        · rcases Int.lt_trichotomy a.1 0 with hn | hn | hn
          · have p1 : a.1 * D < 0 := Int.mul_neg_of_neg_of_pos hn hd
            rw [show decide (X < 0) = true from decide_eq_true (by omega), show decide (D < 0) = false from decide_eq_false (by omega), show decide (a.1 < 0) = true from decide_eq_true hn]; rfl
          · exact absurd hn hz
          · have p1 : 0 < a.1 * D := Int.mul_pos hn hd
            rw [show decide (X < 0) = false from decide_eq_false (by omega), show decide (D < 0) = false from decide_eq_false (by omega), show decide (a.1 < 0) = false from decide_eq_false (by omega)]; rfl
      rw [hb, sgn_abs]
  unfold fracP
  rw [hg, e1, e2, es, if_pos ⟨hf, by omega⟩]
  rw [show ((a.2.natAbs : Nat) : Int) = a.2 by omega]
theorem right_unique {a b : Int × Int} (ha : rightR a = true) (hb : rightR b = true) (hf : fitsI a.1 = true) (h2 : a.2 ≤ 9223372036854775807) (hg : fitsI b.1 = true) (h3 : b.2 ≤ 9223372036854775807) (he : a.1 * b.2 = b.1 * a.2) : a = b := by
  have hb0 := (of_decide_eq_true hb).1
  have h := frac_of_right (X := a.1) (D := a.2) (a := b) (by have := (of_decide_eq_true ha).1; omega) hb hg h3 he
  rw [right_frac ha hf h2] at h
  exact congrArg Prod.fst h

end Go.Proofs.YtmelblnflalanaaGreat

/- Fractions by the document, and what it says of sums: plain. -/
namespace Go.Proofs.YtmelblnflalanaaGreat
set_option linter.unusedVariables false
set_option linter.unusedSimpArgs false

/-! ### the document's answers -/
def heldP (neg : Bool) (n d : Nat) : (Int × Int) × Int := if d = 0 then ((0, 0), 21) else fracS neg n d
theorem held_is (neg : Bool) (n d : Nat) (hd : 0 < d) : heldP neg n d = fracP (sgnI neg n) d := by unfold heldP; rw [if_neg (by omega), frac_sgn _ _ _ hd]
def dnewP (n d : Int) : (Int × Int) × Int := heldP (decide (n < 0) != decide (d < 0)) n.natAbs d.natAbs
theorem dnew_is (n d : Int) : dnewP n d = newP n d := by
  unfold dnewP heldP newP
  by_cases h : d = 0
  · rw [if_pos (by omega), if_pos h]
  · rw [if_neg (by omega), if_neg h, frac_is]
theorem prod_sgn (a b : Int) (hb : 0 ≤ b) : a * b = sgnI (decide (a < 0)) (a.natAbs * b.natAbs) := by
  have e : ((a.natAbs * b.natAbs : Nat) : Int) = (a.natAbs : Int) * b := by
    have h : (b.natAbs : Int) = b := by omega
    rw [Int.natCast_mul, h]
  by_cases h : a < 0
  · simp only [h, decide_true, sgnI, if_true]
    rw [e, show (a.natAbs : Int) = -a by omega, Int.neg_mul, Int.neg_neg]
  · simp only [h, decide_false, sgnI, Bool.false_eq_true, if_false]
    rw [e, show (a.natAbs : Int) = a by omega]
theorem den_sgn (a b : Int) (ha : 0 < a) (hb : 0 < b) : ((a.natAbs * b.natAbs : Nat) : Int) = a * b ∧ 0 < a.natAbs * b.natAbs := by
  have h1 : (a.natAbs : Int) = a := by omega
  have h2 : (b.natAbs : Int) = b := by omega
  exact ⟨by rw [Int.natCast_mul, h1, h2], Nat.mul_pos (by omega) (by omega)⟩
theorem sgn_same (s : Bool) (x y : Nat) : sgnI s x + sgnI s y = sgnI s (x + y) := by cases s <;> simp [sgnI]; omega
theorem sgn_less (s t : Bool) (h : s ≠ t) (x y : Nat) (hxy : x < y) : sgnI s x + sgnI t y = sgnI t (y - x) := by
  cases s <;> cases t <;> first | exact absurd rfl h | (simp [sgnI]; omega)
theorem sgn_more (s t : Bool) (h : s ≠ t) (x y : Nat) (hxy : ¬ x < y) : sgnI s x + sgnI t y = sgnI s (x - y) := by
  cases s <;> cases t <;> first | exact absurd rfl h | (simp [sgnI]; omega)
theorem sgn_neg (s : Bool) (x : Nat) : -sgnI s x = sgnI (!s) x := by cases s <;> simp [sgnI]
/-- A sum of signs and sizes, as the document makes it. -/
def dsumS (s t : Bool) (x y den : Nat) : (Int × Int) × Int := if s = t then heldP s (x + y) den else if x < y then heldP t (y - x) den else heldP s (x - y) den
theorem dsumS_is (s t : Bool) (x y den : Nat) (hd : 0 < den) : dsumS s t x y den = fracP (sgnI s x + sgnI t y) den := by
  unfold dsumS
  by_cases h : s = t
  · subst h; rw [if_pos rfl, held_is _ _ _ hd, sgn_same]
  · rw [if_neg h]
    by_cases hxy : x < y
    · rw [if_pos hxy, held_is _ _ _ hd, sgn_less s t h x y hxy]
    · rw [if_neg hxy, held_is _ _ _ hd, sgn_more s t h x y hxy]
def dsumP (a b : Int × Int) : (Int × Int) × Int := dsumS (decide (a.1 < 0)) (decide (b.1 < 0)) (a.1.natAbs * b.2.natAbs) (b.1.natAbs * a.2.natAbs) (a.2.natAbs * b.2.natAbs)
theorem dsum_is (a b : Int × Int) (ha : 0 < a.2) (hb : 0 < b.2) : dsumP a b = fracP (a.1 * b.2 + b.1 * a.2) (a.2 * b.2) := by
  obtain ⟨e, hd⟩ := den_sgn a.2 b.2 ha hb
  unfold dsumP
  rw [dsumS_is _ _ _ _ _ hd, e, ← prod_sgn a.1 b.2 (by omega), ← prod_sgn b.1 a.2 (by omega)]
def dlessP (a b : Int × Int) : (Int × Int) × Int := dsumS (decide (a.1 < 0)) (!decide (b.1 < 0)) (a.1.natAbs * b.2.natAbs) (b.1.natAbs * a.2.natAbs) (a.2.natAbs * b.2.natAbs)
theorem dless_is (a b : Int × Int) (ha : 0 < a.2) (hb : 0 < b.2) : dlessP a b = fracP (a.1 * b.2 - b.1 * a.2) (a.2 * b.2) := by
  obtain ⟨e, hd⟩ := den_sgn a.2 b.2 ha hb
  unfold dlessP
  rw [dsumS_is _ _ _ _ _ hd, e, ← sgn_neg, ← prod_sgn a.1 b.2 (by omega), ← prod_sgn b.1 a.2 (by omega)]
  rfl
def dmulP (a b : Int × Int) : (Int × Int) × Int := heldP (decide (a.1 < 0) != decide (b.1 < 0)) (a.1.natAbs * b.1.natAbs) (a.2.natAbs * b.2.natAbs)
theorem sgn_mul (a b : Int) : sgnI (decide (a < 0) != decide (b < 0)) (a.natAbs * b.natAbs) = a * b := by
  by_cases h : b < 0
  · have h1 := prod_sgn a (-b) (by omega)
    rw [Int.natAbs_neg] at h1
    have h2 : a * b = -(a * -b) := by rw [Int.mul_neg, Int.neg_neg]
    rw [h2, h1, sgn_neg]
    simp [h]
  · rw [prod_sgn a b (by omega)]
    simp [h]
theorem dmul_is (a b : Int × Int) (ha : 0 < a.2) (hb : 0 < b.2) : dmulP a b = fracP (a.1 * b.1) (a.2 * b.2) := by
  obtain ⟨e, hd⟩ := den_sgn a.2 b.2 ha hb
  unfold dmulP
  rw [held_is _ _ _ hd, e, sgn_mul]
def ddivP (a b : Int × Int) : (Int × Int) × Int := heldP (decide (a.1 < 0) != decide (b.1 < 0)) (a.1.natAbs * b.2.natAbs) (a.2.natAbs * b.1.natAbs)
theorem ddiv_is (a b : Int × Int) (ha : 0 < a.2) (hb : 0 < b.2) : ddivP a b = if b.1 = 0 then ((0, 0), 21) else fracP (a.1 * b.2) (a.2 * b.1) := by
  unfold ddivP heldP
  by_cases h : b.1 = 0
  · rw [if_pos h, if_pos (by rw [h]; rfl)]
  · have h1 : 0 < a.2.natAbs * b.1.natAbs := Nat.mul_pos (by omega) (by omega)
    rw [if_neg h, if_neg (by omega), frac_is, Int.natAbs_mul, Int.natAbs_mul]
    have e1 : decide (a.1 * b.2 < 0) = decide (a.1 < 0) := by
      rw [decide_eq_decide]
      constructor
      · intro h; by_cases h' : a.1 < 0
        · exact h'
        · have := Int.mul_nonneg (show 0 ≤ a.1 by omega) (show 0 ≤ b.2 by omega); omega
      · intro h; exact Int.mul_neg_of_neg_of_pos h hb
    have e2 : decide (a.2 * b.1 < 0) = decide (b.1 < 0) := by
      rw [decide_eq_decide]
      constructor
      · intro h; by_cases h' : b.1 < 0
        · exact h'
        · have := Int.mul_nonneg (show 0 ≤ a.2 by omega) (show 0 ≤ b.1 by omega); omega
      · intro h; exact Int.mul_neg_of_pos_of_neg ha h
    rw [e1, e2]
/-- Which is greater, as the document holds them. -/
def dcmpS (s t : Bool) (x y : Nat) : Int := if s = true ∧ t = false ∨ (s = t ∧ (if s = true ∧ t = true then y < x else x < y)) then -1 else if s = false ∧ t = true ∨ (if s = true ∧ t = true then x < y else y < x) then 1 else 0
def dcmpP (a b : Int × Int) : Int := dcmpS (decide (a.1 < 0)) (decide (b.1 < 0)) (a.1.natAbs * b.2.natAbs) (b.1.natAbs * a.2.natAbs)
theorem dcmpS_is (s t : Bool) (x y : Nat) (hs : s = true → 0 < x) (ht : t = true → 0 < y) : dcmpS s t x y = cmpQI (sgnI s x - sgnI t y) := by
  unfold dcmpS cmpQI
  cases s <;> cases t
  · simp only [sgnI, Bool.false_eq_true, false_and, and_self, if_false, true_and, false_or, and_false]
    split
    · rw [if_pos (by omega)]
    · split
      · rw [if_neg (by omega), if_neg (by omega)]
      · rw [if_neg (by omega), if_pos (by omega)]
  · have := ht rfl
    simp [sgnI]
    rw [if_neg (by omega), if_neg (by omega)]
  · have := hs rfl
    simp [sgnI]
    omega
  · simp only [sgnI, and_self, if_true, true_and, Bool.true_eq_false, false_and, and_false, false_or, Bool.false_eq_true]
    split
    · rw [if_pos (by omega)]
    · split
      · rw [if_neg (by omega), if_neg (by omega)]
      · rw [if_neg (by omega), if_pos (by omega)]
theorem dcmp_is (a b : Int × Int) (ha : 0 < a.2) (hb : 0 < b.2) : dcmpP a b = cmpQI (a.1 * b.2 - b.1 * a.2) := by
  unfold dcmpP
  rw [dcmpS_is _ _ _ _ (fun h => Nat.mul_pos (by have := of_decide_eq_true h; omega) (by omega)) (fun h => Nat.mul_pos (by have := of_decide_eq_true h; omega) (by omega)), ← prod_sgn a.1 b.2 (by omega), ← prod_sgn b.1 a.2 (by omega)]

end Go.Proofs.YtmelblnflalanaaGreat

/- What RatTurns, RatOrders and RatParts say: plain. -/
namespace Go.Proofs.YtmelblnflalanaaGreat
set_option linter.unusedVariables false
set_option linter.unusedSimpArgs false

/-- A right fraction that can be held. -/
def Held (r : Int × Int) : Prop := rightR r = true ∧ fitsI r.1 = true ∧ r.2 ≤ 9223372036854775807
theorem Held.pos {r : Int × Int} (h : Held r) : 0 < r.2 := (of_decide_eq_true h.1).1
theorem frac_held {X D : Int} (hD : D ≠ 0) (h : (fracP X D).2 = 0) : Held (fracP X D).1 := frac_right hD h
theorem add_comm (a b : Int × Int) : addP a b = addP b a := by
  unfold addP
  rw [Bool.and_comm, Int.add_comm, Int.mul_comm a.2]
theorem mul_comm (a b : Int × Int) : mulP a b = mulP b a := by
  unfold mulP
  rw [Bool.and_comm, Int.mul_comm a.1, Int.mul_comm a.2]
theorem two_right {a b : Int × Int} {x y : (Int × Int) × Int} (h : (if (rightR a && rightR b) = true then x else ((0, 0), 7)).2 = 0) : rightR a = true ∧ rightR b = true := by
  by_cases c : (rightR a && rightR b) = true
  · exact Bool.and_eq_true_iff.1 c
  · rw [if_neg c] at h; exact absurd h (by decide)
theorem den_pos {a b : Int × Int} (ha : rightR a = true) (hb : rightR b = true) : a.2 * b.2 ≠ 0 := by
  have h1 := (of_decide_eq_true ha).1
  have h2 := (of_decide_eq_true hb).1
  have := Int.mul_pos h1 h2
  omega
/-- What is added and taken off is what was there. -/
theorem sub_back {a b : Int × Int} (ha : fitsI a.1 = true ∧ a.2 ≤ 9223372036854775807) (h : (addP a b).2 = 0) : subP (addP a b).1 b = (a, 0) := by
  obtain ⟨r1, r2⟩ := two_right (y := ((0, 0), 0)) (show (if (rightR a && rightR b) = true then fracP (a.1 * b.2 + b.1 * a.2) (a.2 * b.2) else ((0, 0), 7)).2 = 0 from h)
  have e : addP a b = fracP (a.1 * b.2 + b.1 * a.2) (a.2 * b.2) := by unfold addP; rw [if_pos (by rw [r1, r2]; rfl)]
  rw [e] at h ⊢
  have hd := den_pos r1 r2
  have hs := frac_held hd h
  have hv := frac_value hd h
  obtain ⟨s, hs'⟩ : ∃ s, s = (fracP (a.1 * b.2 + b.1 * a.2) (a.2 * b.2)).1 := ⟨_, rfl⟩
  rw [← hs'] at hs hv ⊢
  unfold subP
  rw [if_pos (by rw [hs.1, r2]; rfl)]
  have p1 := (of_decide_eq_true r2).1
  refine frac_of_right (by have := Int.mul_pos hs.pos p1; omega) r1 ha.1 ha.2 ?_
  calc (s.1 * b.2 - b.1 * s.2) * a.2 = s.1 * (a.2 * b.2) - b.1 * a.2 * s.2 := by rw [Int.sub_mul]; congr 1 <;> ac_rfl
    _ = (a.1 * b.2 + b.1 * a.2) * s.2 - b.1 * a.2 * s.2 := by rw [hv]
    _ = a.1 * (s.2 * b.2) := by rw [Int.add_mul, Int.add_sub_cancel]; ac_rfl
theorem div_back {a b : Int × Int} (ha : fitsI a.1 = true ∧ a.2 ≤ 9223372036854775807) (hb : b.1 ≠ 0) (h : (mulP a b).2 = 0) : divP (mulP a b).1 b = (a, 0) := by
  obtain ⟨r1, r2⟩ := two_right (y := ((0, 0), 0)) (show (if (rightR a && rightR b) = true then fracP (a.1 * b.1) (a.2 * b.2) else ((0, 0), 7)).2 = 0 from h)
  have e : mulP a b = fracP (a.1 * b.1) (a.2 * b.2) := by unfold mulP; rw [if_pos (by rw [r1, r2]; rfl)]
  rw [e] at h ⊢
  have hd := den_pos r1 r2
  have hs := frac_held hd h
  have hv := frac_value hd h
  obtain ⟨s, hs'⟩ : ∃ s, s = (fracP (a.1 * b.1) (a.2 * b.2)).1 := ⟨_, rfl⟩
  rw [← hs'] at hs hv ⊢
  unfold divP
  rw [if_pos (by rw [hs.1, r2]; rfl), if_neg hb]
  refine frac_of_right (fun e => by
    rcases Int.mul_eq_zero.1 e with e | e
    · have := hs.pos; omega
    · exact hb e) r1 ha.1 ha.2 ?_
  calc s.1 * b.2 * a.2 = s.1 * (a.2 * b.2) := by ac_rfl
    _ = a.1 * b.1 * s.2 := hv
    _ = a.1 * (s.2 * b.1) := by ac_rfl

/-! ### the order -/
theorem cmp_cases (x : Int) : (x < 0 ∧ cmpQI x = -1) ∨ (x = 0 ∧ cmpQI x = 0) ∨ (0 < x ∧ cmpQI x = 1) := by
  unfold cmpQI
  by_cases h : x < 0
  · exact .inl ⟨h, by rw [if_pos h]⟩
  · by_cases h0 : x = 0
    · exact .inr (.inl ⟨h0, by rw [if_neg h, if_pos h0]⟩)
    · exact .inr (.inr ⟨by omega, by rw [if_neg h, if_neg h0]⟩)
theorem cmp_neg (a b : Int × Int) : cmpP a b = -cmpP b a := by
  unfold cmpP
  rw [Bool.and_comm]
  by_cases h : (rightR b && rightR a) = true
  · rw [if_pos h, if_pos h]
    have e : b.1 * a.2 - a.1 * b.2 = -(a.1 * b.2 - b.1 * a.2) := by omega
    rw [e]
    rcases cmp_cases (a.1 * b.2 - b.1 * a.2) with ⟨h1, h2⟩ | ⟨h1, h2⟩ | ⟨h1, h2⟩ <;> rcases cmp_cases (-(a.1 * b.2 - b.1 * a.2)) with ⟨h3, h4⟩ | ⟨h3, h4⟩ | ⟨h3, h4⟩ <;> omega
  · rw [if_neg h, if_neg h]; rfl
theorem cmp_right {a b : Int × Int} (ha : Held a) (hb : Held b) : cmpP a b = cmpQI (a.1 * b.2 - b.1 * a.2) := by unfold cmpP; rw [if_pos (by rw [ha.1, hb.1]; rfl)]
theorem cmp_zero {a b : Int × Int} (ha : Held a) (hb : Held b) : cmpP a b = 0 ↔ a = b := by
  rw [cmp_right ha hb]
  constructor
  · intro h
    rcases cmp_cases (a.1 * b.2 - b.1 * a.2) with ⟨h1, h2⟩ | ⟨h1, h2⟩ | ⟨h1, h2⟩
    · omega
    · exact right_unique ha.1 hb.1 ha.2.1 ha.2.2 hb.2.1 hb.2.2 (by omega)
    · omega
  · intro h; subst h; rw [Int.sub_self]; rfl
theorem lt_trans3 {a b c : Int × Int} (ha : Held a) (hb : Held b) (hc : Held c) (h1 : a.1 * b.2 < b.1 * a.2) (h2 : b.1 * c.2 < c.1 * b.2) : a.1 * c.2 < c.1 * a.2 := by
  have e1 : a.1 * b.2 * c.2 < b.1 * a.2 * c.2 := Int.mul_lt_mul_of_pos_right h1 hc.pos
  have e2 : b.1 * c.2 * a.2 < c.1 * b.2 * a.2 := Int.mul_lt_mul_of_pos_right h2 ha.pos
  have e3 : b.1 * a.2 * c.2 = b.1 * c.2 * a.2 := by ac_rfl
  have e4 : (a.1 * c.2) * b.2 < (c.1 * a.2) * b.2 := by
    have f1 : a.1 * b.2 * c.2 = (a.1 * c.2) * b.2 := by ac_rfl
    have f2 : c.1 * b.2 * a.2 = (c.1 * a.2) * b.2 := by ac_rfl
    rw [← f1, ← f2]
    omega
  exact Int.lt_of_mul_lt_mul_right e4 (Int.le_of_lt hb.pos)
/-- Of three the order is one. -/
theorem orders_law {a b c : Int × Int} (ha : Held a) (hb : Held b) (hc : Held c) :
    0 < cmpP a b ∨ 0 < cmpP b c ∨ cmpP a c = cmpP a b + cmpP b c ∨ (cmpP a c = -1 ∧ cmpP a b + cmpP b c = -2) := by
  have hx := cmp_zero ha hb
  have hy := cmp_zero hb hc
  rw [cmp_right ha hb, cmp_right hb hc, cmp_right ha hc] at *
  rcases cmp_cases (a.1 * b.2 - b.1 * a.2) with ⟨h1, h2⟩ | ⟨h1, h2⟩ | ⟨h1, h2⟩
  · rcases cmp_cases (b.1 * c.2 - c.1 * b.2) with ⟨h3, h4⟩ | ⟨h3, h4⟩ | ⟨h3, h4⟩
    · right; right; right
      have := lt_trans3 ha hb hc (by omega) (by omega)
      rcases cmp_cases (a.1 * c.2 - c.1 * a.2) with ⟨h5, h6⟩ | ⟨h5, h6⟩ | ⟨h5, h6⟩ <;> omega
    · obtain rfl := hy.1 h4
      right; right; left; rw [h4]; omega
    · right; left; omega
  · obtain rfl := hx.1 h2
    right; right; left; rw [h2]; omega
  · left; omega
theorem less_law {a b : Int × Int} (ha : Held a) (hb : Held b) (h : (subP a b).2 = 0) : ((subP a b).1.1 < 0 ↔ cmpP a b < 0) ∧ ((subP a b).1.1 = 0 ↔ cmpP a b = 0) := by
  have e : subP a b = fracP (a.1 * b.2 - b.1 * a.2) (a.2 * b.2) := by unfold subP; rw [if_pos (by rw [ha.1, hb.1]; rfl)]
  rw [e] at h ⊢
  have hd := Int.mul_pos ha.pos hb.pos
  have hv := frac_value (by omega) h
  have hs := (frac_held (by omega) h).pos
  rw [cmp_right ha hb]
  generalize fracP (a.1 * b.2 - b.1 * a.2) (a.2 * b.2) = f at *
  generalize a.2 * b.2 = D at *
  generalize a.1 * b.2 - b.1 * a.2 = X at *
  have k1 : f.1.1 < 0 ↔ X < 0 := by
    constructor
    · intro h1
      have h2 := Int.mul_neg_of_neg_of_pos h1 hd
      rw [hv] at h2
      by_cases h3 : X < 0
      · exact h3
      · have := Int.mul_nonneg (show 0 ≤ X by omega) (Int.le_of_lt hs); omega
    · intro h1
      have h2 := Int.mul_neg_of_neg_of_pos h1 hs
      rw [← hv] at h2
      by_cases h3 : f.1.1 < 0
      · exact h3
      · have := Int.mul_nonneg (show 0 ≤ f.1.1 by omega) (Int.le_of_lt hd); omega
  have k2 : f.1.1 = 0 ↔ X = 0 := by
    constructor
    · intro h1
      rw [h1, Int.zero_mul] at hv
      rcases Int.mul_eq_zero.1 hv.symm with h | h
      · exact h
      · omega
    · intro h1
      rw [h1, Int.zero_mul] at hv
      rcases Int.mul_eq_zero.1 hv with h | h
      · exact h
      · omega
  rcases cmp_cases X with ⟨h1, h2⟩ | ⟨h1, h2⟩ | ⟨h1, h2⟩ <;> rw [h2] <;> constructor <;> first | (rw [k1]; omega) | (rw [k2]; omega)

/-! ### whole numbers below and above -/
def floorP (r : Int × Int) : Int := if rightR r = true then r.1 / r.2 else 0
def ceilP (r : Int × Int) : Int := if rightR r = true then (if r.1 % r.2 = 0 then r.1 / r.2 else r.1 / r.2 + 1) else 0
def partP (r : Int × Int) : Int × Int := if rightR r = true then (r.1 % r.2, r.2) else (0, 0)
/-- Go's division and the floor. -/
theorem tdiv_floor (x d : Int) (hd : 0 < d) : (x.tmod d < 0 → x.tdiv d - 1 = x / d ∧ x.tmod d + d = x % d) ∧ (¬ x.tmod d < 0 → x.tdiv d = x / d ∧ x.tmod d = x % d) := by
  have h1 := Int.mul_tdiv_add_tmod x d
  have h2 := Int.mul_ediv_add_emod x d
  have h3 := Int.emod_nonneg x (show d ≠ 0 by omega)
  have h4 := Int.emod_lt_of_pos x hd
  have key : ∀ q m : Int, d * q + m = x → 0 ≤ m → m < d → q = x / d ∧ m = x % d := fun q m hq h0 h1 => by
    have e1 : x / d = q := by rw [← hq, Int.add_comm, Int.add_mul_ediv_left _ _ (by omega), Int.ediv_eq_zero_of_lt h0 h1, Int.zero_add]
    have e2 : x % d = m := by rw [← hq, Int.add_comm, Int.add_mul_emod_self_left, Int.emod_eq_of_lt h0 h1]
    exact ⟨e1.symm, e2.symm⟩
  have h5 : x.tmod d < d := Int.tmod_lt_of_pos x hd
  have h6 : -d < x.tmod d := by
    have := Int.tmod_lt_of_pos (-x) hd
    rw [Int.neg_tmod] at this
    omega
  constructor
  · intro hm
    exact key (x.tdiv d - 1) (x.tmod d + d) (by rw [Int.mul_sub, Int.mul_one]; omega) (by omega) (by omega)
  · intro hm
    exact key (x.tdiv d) (x.tmod d) h1 (by omega) h5
theorem floor_part {r : Int × Int} (h : Held r) : addP (floorP r, 1) (partP r) = (r, 0) ∧ 0 ≤ (partP r).1 ∧ (partP r).1 < (partP r).2 ∧ ceilP r = if (partP r).1 = 0 then floorP r else floorP r + 1 := by
  have hp := h.pos
  have hf : floorP r = r.1 / r.2 := by unfold floorP; rw [if_pos h.1]
  have hc : partP r = (r.1 % r.2, r.2) := by unfold partP; rw [if_pos h.1]
  have h3 := Int.emod_nonneg r.1 (show r.2 ≠ 0 by omega)
  have h4 := Int.emod_lt_of_pos r.1 hp
  have g1 : Nat.gcd (r.1 % r.2).natAbs r.2.natAbs = 1 := by
    have h1 := (of_decide_eq_true h.1).2
    have h2 : Int.gcd (r.1 % r.2) r.2 = Int.gcd r.1 r.2 := by
      have e : r.1 = r.1 % r.2 + r.2 * (r.1 / r.2) := by have := Int.mul_ediv_add_emod r.1 r.2; omega
      have h := Int.gcd_add_mul_left_left r.2 (r.1 % r.2) (r.1 / r.2)
      rw [← e] at h
      exact h.symm
    exact h2.trans h1
  have r1 : rightR (r.1 / r.2, 1) = true := decide_eq_true ⟨by show (0 : Int) < 1; omega, by simp⟩
  have r2 : rightR (r.1 % r.2, r.2) = true := decide_eq_true ⟨hp, g1⟩
  rw [hf, hc]
  refine ⟨?_, h3, h4, ?_⟩
  · unfold addP
    rw [if_pos (by rw [r1, r2]; rfl)]
    have e : r.1 / r.2 * r.2 + r.1 % r.2 * 1 = r.1 := by rw [Int.mul_one, Int.mul_comm]; exact Int.mul_ediv_add_emod r.1 r.2
    show fracP (r.1 / r.2 * r.2 + r.1 % r.2 * 1) (1 * r.2) = (r, 0)
    rw [e, Int.one_mul]
    exact right_frac h.1 h.2.1 h.2.2
  · unfold ceilP
    rw [if_pos h.1]

end Go.Proofs.YtmelblnflalanaaGreat

/- Whether a difference of two fractions keeps a bound: plain. -/
namespace Go.Proofs.YtmelblnflalanaaGreat
set_option linter.unusedVariables false
set_option linter.unusedSimpArgs false

/-- x less y keeps the bound b: by cross products. -/
def keepsQ (x y : Int × Int) (b : Int) : Bool := decide (b = 2147483647 ∨ x.1 * y.2 - y.1 * x.2 - b / 2 * (x.2 * y.2) < b % 2)
theorem sign_mul {a b p q : Int} (hp : 0 < p) (hq : 0 < q) (h : a * p = b * q) : (a < 0 ↔ b < 0) ∧ (a ≤ 0 ↔ b ≤ 0) := by
  refine ⟨⟨fun ha => ?_, fun hb => ?_⟩, ⟨fun ha => ?_, fun hb => ?_⟩⟩
  · have h1 : a * p < 0 := Int.mul_neg_of_neg_of_pos ha hp
    rcases Int.lt_or_le b 0 with hb | hb
    · exact hb
    · have := Int.mul_nonneg hb (Int.le_of_lt hq); omega
  · have h1 : b * q < 0 := Int.mul_neg_of_neg_of_pos hb hq
    rcases Int.lt_or_le a 0 with ha | ha
    · exact ha
    · have := Int.mul_nonneg ha (Int.le_of_lt hp); omega
  · have h1 : a * p ≤ 0 := Int.mul_nonpos_of_nonpos_of_nonneg ha (Int.le_of_lt hp)
    rcases Int.lt_or_le 0 b with hb | hb
    · have := Int.mul_pos hb hq; omega
    · exact hb
  · have h1 : b * q ≤ 0 := Int.mul_nonpos_of_nonpos_of_nonneg hb (Int.le_of_lt hq)
    rcases Int.lt_or_le 0 a with ha | ha
    · have := Int.mul_pos ha hp; omega
    · exact ha
/-- By the difference, where it can be held. -/
theorem keeps_sub {x y : Int × Int} {b : Int} (hx : rightR x = true) (hy : rightR y = true) (h : (subP x y).2 = 0) :
    decide (b = 2147483647 ∨ (subP x y).1.1 < b / 2 * (subP x y).1.2 + b % 2) = keepsQ x y b := by
  have px : 0 < x.2 := (of_decide_eq_true hx).1
  have py : 0 < y.2 := (of_decide_eq_true hy).1
  have hP := Int.mul_pos px py
  have e : subP x y = fracP (x.1 * y.2 - y.1 * x.2) (x.2 * y.2) := by unfold subP; rw [if_pos (by rw [hx, hy]; rfl)]
  rw [e] at h ⊢
  have hv := frac_value (by omega) h
  have hd : 0 < (fracP (x.1 * y.2 - y.1 * x.2) (x.2 * y.2)).1.2 := (of_decide_eq_true (frac_right (by omega) h).1).1
  obtain ⟨d, hd'⟩ : ∃ d, d = (fracP (x.1 * y.2 - y.1 * x.2) (x.2 * y.2)).1 := ⟨_, rfl⟩
  rw [← hd'] at hv hd ⊢
  obtain ⟨t, ht⟩ : ∃ t, t = x.1 * y.2 - y.1 * x.2 := ⟨_, rfl⟩
  obtain ⟨p, hp⟩ : ∃ p, p = x.2 * y.2 := ⟨_, rfl⟩
  unfold keepsQ
  rw [← ht, ← hp] at hv ⊢
  rw [← hp] at hP
  have key : (d.1 - b / 2 * d.2) * p = (t - b / 2 * p) * d.2 := by
    rw [Int.sub_mul, Int.sub_mul, hv, Int.mul_assoc, Int.mul_assoc, Int.mul_comm d.2 p]
  obtain ⟨k1, k2⟩ := sign_mul hP hd key
  refine decide_eq_decide.2 (or_congr Iff.rfl ?_)
  have hm : b % 2 = 0 ∨ b % 2 = 1 := by omega
  rcases hm with hm | hm
  · rw [hm]; constructor
    · intro h1; have := k1.1 (by omega); omega
    · intro h1; have := k1.2 (by omega); omega
  · rw [hm]; constructor
    · intro h1; have := k2.1 (by omega); omega
    · intro h1; have := k2.2 (by omega); omega
/-- By whole parts and rests. -/
theorem keeps_parts {x y : Int × Int} {b : Int} (hx : rightR x = true) (hy : rightR y = true) (hb : b ≠ 2147483647) :
    keepsQ x y b = if floorP x - floorP y = b / 2 then (decide (cmpP (partP x) (partP y) < 0) || (decide (cmpP (partP x) (partP y) = 0) && decide (b % 2 = 1))) else decide (floorP x - floorP y < b / 2) := by
  have px : 0 < x.2 := (of_decide_eq_true hx).1
  have py : 0 < y.2 := (of_decide_eq_true hy).1
  have fx : floorP x = x.1 / x.2 := by unfold floorP; rw [if_pos hx]
  have fy : floorP y = y.1 / y.2 := by unfold floorP; rw [if_pos hy]
  have gx : partP x = (x.1 % x.2, x.2) := by unfold partP; rw [if_pos hx]
  have gy : partP y = (y.1 % y.2, y.2) := by unfold partP; rw [if_pos hy]
  have rx : rightR (x.1 % x.2, x.2) = true := by
    refine decide_eq_true ⟨px, ?_⟩
    have h := (of_decide_eq_true hx).2
    show Int.gcd (x.1 % x.2) x.2 = 1
    have h : Int.gcd x.1 x.2 = 1 := h
    have e := Int.mul_ediv_add_emod x.1 x.2
    rw [← h]
    conv => rhs; rw [← e, Int.add_comm, Int.gcd_add_mul_left_left]
  have ry : rightR (y.1 % y.2, y.2) = true := by
    refine decide_eq_true ⟨py, ?_⟩
    have h := (of_decide_eq_true hy).2
    show Int.gcd (y.1 % y.2) y.2 = 1
    have h : Int.gcd y.1 y.2 = 1 := h
    have e := Int.mul_ediv_add_emod y.1 y.2
    rw [← h]
    conv => rhs; rw [← e, Int.add_comm, Int.gcd_add_mul_left_left]
  have hc : cmpP (partP x) (partP y) = cmpQI (x.1 % x.2 * y.2 - y.1 % y.2 * x.2) := by
    rw [gx, gy]; unfold cmpP; rw [if_pos (by rw [rx, ry]; rfl)]
  have mx := Int.mul_ediv_add_emod x.1 x.2
  have my := Int.mul_ediv_add_emod y.1 y.2
  have bx := Int.emod_nonneg x.1 (show x.2 ≠ 0 by omega)
  have by' := Int.emod_nonneg y.1 (show y.2 ≠ 0 by omega)
  have cx := Int.emod_lt_of_pos x.1 px
  have cy := Int.emod_lt_of_pos y.1 py
  rw [hc]
  rw [← fx] at mx
  rw [← fy] at my
  obtain ⟨X, hX⟩ : ∃ X, X = floorP x := ⟨_, rfl⟩
  obtain ⟨Y, hY⟩ : ∃ Y, Y = floorP y := ⟨_, rfl⟩
  obtain ⟨r, hr⟩ : ∃ r, r = x.1 % x.2 := ⟨_, rfl⟩
  obtain ⟨s, hs⟩ : ∃ s, s = y.1 % y.2 := ⟨_, rfl⟩
  rw [← hX] at mx
  rw [← hY] at my
  rw [← hr] at mx bx cx
  rw [← hs] at my by' cy
  rw [← hX, ← hY, ← hr, ← hs]
  obtain ⟨P, hP⟩ : ∃ P, P = x.2 * y.2 := ⟨_, rfl⟩
  have hP0 : 0 < P := by rw [hP]; exact Int.mul_pos px py
  have e1 : x.1 * y.2 = X * P + r * y.2 := by
    rw [← mx, Int.add_mul, hP]; congr 1; rw [Int.mul_comm x.2 X, Int.mul_assoc]
  have e2 : y.1 * x.2 = Y * P + s * x.2 := by
    rw [← my, Int.add_mul, hP]; congr 1; rw [Int.mul_comm y.2 Y, Int.mul_assoc, Int.mul_comm y.2 x.2]
  have r1 : r * y.2 < P := by rw [hP]; exact Int.mul_lt_mul_of_pos_right cx py
  have s1 : s * x.2 < P := by rw [hP, Int.mul_comm x.2 y.2]; exact Int.mul_lt_mul_of_pos_right cy px
  have r0 : 0 ≤ r * y.2 := Int.mul_nonneg bx (Int.le_of_lt py)
  have s0 : 0 ≤ s * x.2 := Int.mul_nonneg by' (Int.le_of_lt px)
  unfold keepsQ
  rw [← hP, e1, e2]
  obtain ⟨n, hn⟩ : ∃ n, n = b / 2 := ⟨_, rfl⟩
  obtain ⟨k, hk⟩ : ∃ k, k = X - Y - n := ⟨_, rfl⟩
  rw [← hn]
  have e3 : X * P + r * y.2 - (Y * P + s * x.2) - n * P = k * P + (r * y.2 - s * x.2) := by
    rw [hk, Int.sub_mul, Int.sub_mul]; omega
  rw [e3]
  have hm : b % 2 = 0 ∨ b % 2 = 1 := by omega
  by_cases h0 : X - Y = n
  · rw [if_pos h0]
    have hk0 : k = 0 := by omega
    rw [hk0, Int.zero_mul, Int.zero_add]
    rcases cmp_cases (r * y.2 - s * x.2) with ⟨h1, h2⟩ | ⟨h1, h2⟩ | ⟨h1, h2⟩
    · rw [h2, decide_eq_true (by omega)]; rfl
    · rw [h2, h1]
      rcases hm with hm | hm <;> rw [hm]
      · rw [decide_eq_false (by omega)]; decide
      · rw [decide_eq_true (by omega)]; decide
    · rw [h2, decide_eq_false (by omega)]
      rfl
  · rw [if_neg h0]
    refine decide_eq_decide.2 ⟨fun h => ?_, fun h => ?_⟩
    · have h := h.resolve_left hb
      rcases Int.lt_or_le k 0 with hk1 | hk1
      · omega
      · exfalso
        have : 1 * P ≤ k * P := Int.mul_le_mul_of_nonneg_right (by omega) (Int.le_of_lt hP0)
        omega
    · refine .inr ?_
      have : k * P ≤ (-1) * P := Int.mul_le_mul_of_nonneg_right (by omega) (Int.le_of_lt hP0)
      omega

end Go.Proofs.YtmelblnflalanaaGreat

/- Points of fractions: what is right, what they break, what delays there are: plain. -/
namespace Go.Proofs.YtmelblnflalanaaGreat
set_option linter.unusedVariables false
set_option linter.unusedSimpArgs false

/-- A valuation that may be one. -/
def rightV (v : List (Int × Int)) : Bool := decide (v.length ≤ 8) && v.all fun r => rightR r && decide (0 ≤ r.1)
/-- A clock's value; of the clock 0: 0. -/
def clockV (v : List (Int × Int)) (i : Nat) : Int × Int := if i = 0 then (0, 1) else v.getD (i - 1) (0, 0)
theorem clock_right {v : List (Int × Int)} (h : rightV v = true) {i : Nat} (hi : i ≤ v.length) : rightR (clockV v i) = true ∧ 0 ≤ (clockV v i).1 := by
  unfold clockV
  split
  · exact ⟨by decide, by decide⟩
  · obtain ⟨_, h2⟩ := Bool.and_eq_true_iff.1 h
    have hlt : i - 1 < v.length := by omega
    have h3 := List.all_eq_true.1 h2 v[i - 1] (List.getElem_mem hlt)
    rw [List.getD_eq_getElem?_getD, List.getElem?_eq_getElem hlt]
    obtain ⟨a, b⟩ := Bool.and_eq_true_iff.1 h3
    exact ⟨a, of_decide_eq_true b⟩
/-- The cell k is kept. -/
def keptAt (n : Nat) (m : Mat) (v : List (Int × Int)) (k : Nat) : Bool := keepsQ (clockV v (k / (n + 1))) (clockV v (k % (n + 1))) (m (k / (n + 1)) (k % (n + 1)))
/-- The first cell from k on that is not kept; fuel: how many are left. -/
def breakFrom (n : Nat) (m : Mat) (v : List (Int × Int)) : Nat → Nat → Option Nat
  | 0, _ => none
  | g + 1, k => if keptAt n m v k = true then breakFrom n m v g (k + 1) else some k
def breaksP (n : Nat) (m : Mat) (v : List (Int × Int)) : Option Nat := breakFrom n m v ((n + 1) * (n + 1)) 0
/-- A valuation is in a zone. -/
def inP (n : Nat) (m : Mat) (v : List (Int × Int)) : Bool := rightV v && decide (v.length = n) && (breaksP n m v).isNone

/-! ### delays -/
structure SpanP where
  lo : Int × Int
  hi : Int × Int
  loIn : Bool
  hiIn : Bool
  ever : Bool
def narrowP (s : SpanP) (x : Int × Int) (b : Int) (above : Bool) : Option SpanP :=
  if (subP (if above = true then b / 2 else -(b / 2), 1) x).2 = 0 then
    (if above = true then
      (if s.ever = true ∨ cmpP (subP (b / 2, 1) x).1 s.hi < 0 ∨ (cmpP (subP (b / 2, 1) x).1 s.hi = 0 ∧ b % 2 = 0) then some { s with hi := (subP (b / 2, 1) x).1, hiIn := decide (b % 2 = 1), ever := false } else some s)
    else
      (if 0 < cmpP (subP (-(b / 2), 1) x).1 s.lo ∨ (cmpP (subP (-(b / 2), 1) x).1 s.lo = 0 ∧ b % 2 = 0) then some { s with lo := (subP (-(b / 2), 1) x).1, loIn := decide (b % 2 = 1) } else some s))
  else none
def delayStep (n : Nat) (m : Mat) (v : List (Int × Int)) (i j : Nat) (s : SpanP) : Option SpanP :=
  if decide (i = 0) = decide (j = 0) then (if keepsQ (clockV v i) (clockV v j) (m i j) = true then some s else none)
  else if m i j = 2147483647 then some s
  else narrowP s (clockV v (max i j)) (m i j) (decide (0 < i))
def delayFrom (n : Nat) (m : Mat) (v : List (Int × Int)) : Nat → Nat → SpanP → Option SpanP
  | 0, _, s => some s
  | g + 1, k, s => (delayStep n m v (k / (n + 1)) (k % (n + 1)) s).bind (delayFrom n m v g (k + 1))
def spanEnd (s : SpanP) : Bool := s.ever || (!decide (0 < cmpP s.lo s.hi) && (!decide (cmpP s.lo s.hi = 0) || (s.loIn && s.hiIn)))
def delaysP (n : Nat) (m : Mat) (v : List (Int × Int)) : Option SpanP :=
  if rightV v = true ∧ v.length = n ∧ ¬ m 0 0 < 1 then
    (delayFrom n m v ((n + 1) * (n + 1)) 0 ⟨(0, 1), (0, 0), true, false, true⟩).bind fun s => if spanEnd s = true then some s else none
  else none

end Go.Proofs.YtmelblnflalanaaGreat

/- Numbers of two words, as rat reckons with them. -/
namespace Go.Proofs.YtmelblnflalanaaGreat
open Go Go.RowKit
set_option linter.unusedVariables false
set_option linter.unusedSimpArgs false

def szV (n : Nat) : Value := .agg #[.int .u64 (hiN n), .int .u64 (loN n)]

theorem add64 (x y c : Int) (hx : 0 ≤ x) (hy : 0 ≤ y) (hc0 : 0 ≤ c) (hc : c ≤ 1) (w : World) : (callFunc 109 #[.int .u64 x, .int .u64 y, .int .u64 c]).run Tryz.prog w =
    .ok (.value (.tuple #[.int .u64 ((x + y + c) % 18446744073709551616), .int .u64 ((x + y + c) / 18446744073709551616)])) w := by
  rw [run_callFunc_extern Tryz.func109 (by kernel_rfl) (by kernel_rfl) (by kernel_rfl) (e := add64Entry) (by kernel_rfl), run_add64 x y c hx hy hc0 hc]
  rfl
theorem add64_0 (x y : Int) (hx : 0 ≤ x) (hy : 0 ≤ y) (w : World) : (callFunc 109 #[.int .u64 x, .int .u64 y, .int .u64 0]).run Tryz.prog w =
    .ok (.value (.tuple #[.int .u64 ((x + y) % 18446744073709551616), .int .u64 ((x + y) / 18446744073709551616)])) w := by
  simpa using add64 x y 0 hx hy (Int.le_refl 0) (by decide) w
theorem sub64 (x y b : Int) (hx : 0 ≤ x) (hy : 0 ≤ y) (hy' : y ≤ 18446744073709551615) (hb0 : 0 ≤ b) (hb : b ≤ 1) (w : World) : (callFunc 112 #[.int .u64 x, .int .u64 y, .int .u64 b]).run Tryz.prog w =
    .ok (.value (.tuple #[.int .u64 ((x - y - b) % 18446744073709551616), .int .u64 (borN x (y + b))])) w := by
  unfold borN
  obtain ⟨x, rfl⟩ := Int.eq_ofNat_of_zero_le hx
  obtain ⟨y, rfl⟩ := Int.eq_ofNat_of_zero_le hy
  obtain ⟨b, rfl⟩ := Int.eq_ofNat_of_zero_le hb0
  have e1 : (((x + 18446744073709551616 - y - b) % 18446744073709551616 : Nat) : Int) = ((x : Int) - y - b) % 18446744073709551616 := by omega
  have e2 : ((if x < y + b then 1 else 0 : Nat) : Int) = if (x : Int) < y + b then 1 else 0 := by split <;> split <;> omega
  rw [← e1, ← e2, run_callFunc_extern Tryz.func112 (by kernel_rfl) (by kernel_rfl) (by kernel_rfl) (e := sub64Entry) (by kernel_rfl), run_sub64 x y b (by omega)]
  rfl
theorem sub64_0 (x y : Int) (hx : 0 ≤ x) (hy : 0 ≤ y) (hy' : y ≤ 18446744073709551615) (w : World) : (callFunc 112 #[.int .u64 x, .int .u64 y, .int .u64 0]).run Tryz.prog w =
    .ok (.value (.tuple #[.int .u64 ((x - y) % 18446744073709551616), .int .u64 (borN x y)])) w := by
  simpa using sub64 x y 0 hx hy hy' (Int.le_refl 0) (by decide) w

theorem backR {P : Program} {f : FuncId} {args : Array Value} {w : World} {e0 : Ending} (h : Calls P f args w fun e w' => e = e0 ∧ w = w') : Calls P f args w fun e w' => e = e0 ∧ w' = w := h.mono fun _ _ ⟨a, b⟩ => ⟨a, b.symm⟩
theorem results_cells2 {P : Program} {fn : Func} {p p2 : Tmp} {ty : TypeId} (h : fn.results = #[.cell p ty, .cell p2 ty]) (tmps : Array Value) (w : World) (g g2 : Nat) (t : TypeId) (cs cs2 : Array Value) (fr fr2 : Nat × Nat) (d : TypeDesc)
    (hp : tmps.getD p undef = .pointer (some ⟨g, 0, none⟩)) (hp2 : tmps.getD p2 undef = .pointer (some ⟨g2, 0, none⟩)) (hg : w.heap[g]? = some (.cells cs t fr)) (hg2 : w.heap[g2]? = some (.cells cs2 t fr2))
    (hu : P.underlying ty = some d) (hd : (match d with | .struct _ | .array _ _ => true | _ => false) = true) (hi : (P.info? ty).map (·.size) = some cs.size) (hi2 : (P.info? ty).map (·.size) = some cs2.size) :
    (results fn tmps).run P w = .ok (.tuple #[.agg cs, .agg cs2]) w := by
  have hp' : tmps[p]?.getD undef = .pointer (some ⟨g, 0, none⟩) := by simpa using hp
  have hp2' : tmps[p2]?.getD undef = .pointer (some ⟨g2, 0, none⟩) := by simpa using hp2
  simp [results, h, hp', hp2', asAddr, run_loadVar_row w g t ty cs fr d hg hu hd hi, run_loadVar_row w g2 t ty cs2 fr2 d hg2 hu hd hi2]
theorem results_row_tmp {P : Program} {fn : Func} {p u : Tmp} {ty : TypeId} (h : fn.results = #[.cell p ty, .tmp u]) (tmps : Array Value) (w : World) (g : Nat) (t : TypeId) (cs : Array Value) (fr : Nat × Nat) (d : TypeDesc)
    (hp : tmps.getD p undef = .pointer (some ⟨g, 0, none⟩)) (hg : w.heap[g]? = some (.cells cs t fr))
    (hu : P.underlying ty = some d) (hd : (match d with | .struct _ | .array _ _ => true | _ => false) = true) (hi : (P.info? ty).map (·.size) = some cs.size) :
    (results fn tmps).run P w = .ok (.tuple #[.agg cs, tmps.getD u undef]) w := by
  have hp' : tmps[p]?.getD undef = .pointer (some ⟨g, 0, none⟩) := by simpa using hp
  simp [results, h, hp', asAddr, run_loadVar_row w g t ty cs fr d hg hu hd hi]
theorem below_one (w : World) (a : Obj) : Below w.heap.size w (w.alloc a) := (Below.refl _ _).alloc (Nat.le_refl _) _
theorem below_two (w : World) (a b : Obj) : Below w.heap.size w ((w.alloc a).alloc b) := (below_one w a).alloc (below_one w a).size _
theorem below_three (w : World) (a b c : Obj) : Below w.heap.size w (((w.alloc a).alloc b).alloc c) := (below_two w a b).alloc (below_two w a b).size _

set_option maxRecDepth 100000 in
set_option maxHeartbeats 1000000 in
theorem szero_any (n : Nat) (w : World) : Calls Tryz.prog 88 #[szV n] w fun e w' => e = .returned (.bool (decide (n = 0))) ∧ Below w.heap.size w w' := by
  have hz := hilo_zero (n := n)
  unfold szV
  by_cases h1 : hiN n = 0
  · have e1 : (hiN n == 0) = true := by simp [h1]
    by_cases h2 : loN n = 0
    · have e2 : (loN n == 0) = true := by simp [h2]
      have hn : n = 0 := hz.1 ⟨h1, h2⟩
      generalize hiN n = a at *
      generalize loN n = b at *
      go_enter Tryz.func88, Tryz.ntmps88
      go_wp2
      go_ret
      exact ⟨by simp [hn], (Below.refl _ _).alloc (Nat.le_refl _) _⟩
    · have e2 : (loN n == 0) = false := by simp [h2]
      have hn : ¬ n = 0 := fun h => h2 (hz.2 h).2
      generalize hiN n = a at *
      generalize loN n = b at *
      go_enter Tryz.func88, Tryz.ntmps88
      go_wp2
      go_ret
      exact ⟨by simp [hn], (Below.refl _ _).alloc (Nat.le_refl _) _⟩
  · have e1 : (hiN n == 0) = false := by simp [h1]
    have hn : ¬ n = 0 := fun h => h1 (hz.2 h).1
    generalize hiN n = a at *
    generalize loN n = b at *
    go_enter Tryz.func88, Tryz.ntmps88
    go_wp2
    go_ret
    exact ⟨by simp [hn], (Below.refl _ _).alloc (Nat.le_refl _) _⟩

set_option maxRecDepth 100000 in
set_option maxHeartbeats 1000000 in
theorem splus_any (s t : Nat) (h : s + t < 340282366920938463463374607431768211456) (w : World) : Calls Tryz.prog 91 #[szV s, szV t] w fun e w' => e = .returned (szV (s + t)) ∧ Below w.heap.size w w' := by
  obtain ⟨a1, a2⟩ := hi_range (n := s) (by omega)
  obtain ⟨b1, b2⟩ := hi_range (n := t) (by omega)
  obtain ⟨c1, c2⟩ := lo_range s
  obtain ⟨d1, d2⟩ := lo_range t
  have e1 := plus_lo s t
  have e2 := plus_hi s t h
  have k0 : 0 ≤ (loN s + loN t) / 18446744073709551616 := by omega
  have k1 : (loN s + loN t) / 18446744073709551616 ≤ 1 := by omega
  unfold szV
  go_enter Tryz.func91, Tryz.ntmps91
  go_wp2_with (first | simp only [add64_0 (loN s) (loN t) c1 d1] | simp only [add64 (hiN s) (hiN t) _ a1 b1 k0 k1])
  simp [bodyPost, results, Tryz.results91, go_sem]
  exact below_three w _ _ _

set_option maxRecDepth 100000 in
set_option maxHeartbeats 1000000 in
theorem sless_any (s t : Nat) (h : t ≤ s) (hs : s < 340282366920938463463374607431768211456) (w : World) : Calls Tryz.prog 93 #[szV s, szV t] w fun e w' => e = .returned (szV (s - t)) ∧ Below w.heap.size w w' := by
  obtain ⟨a1, a2⟩ := hi_range (n := s) (by omega)
  obtain ⟨b1, b2⟩ := hi_range (n := t) (by omega)
  obtain ⟨c1, c2⟩ := lo_range s
  obtain ⟨d1, d2⟩ := lo_range t
  obtain ⟨k0, k1⟩ := bor_range (loN s) (loN t)
  have e1 := less_lo s t h
  have e2 := less_hi s t h hs
  unfold szV
  go_enter Tryz.func93, Tryz.ntmps93
  go_wp2_with (first | simp only [sub64_0 (loN s) (loN t) c1 d1 d2] | simp only [sub64 (hiN s) (hiN t) _ a1 b1 b2 k0 k1])
  simp [bodyPost, results, Tryz.results93, go_sem]
  exact below_three w _ _ _

theorem nan_any (x : Int) (w : World) : Calls Tryz.prog 114 #[.int .u64 x] w fun e w' => e = .returned (.bool false) ∧ w = w' := by
  have e1 : (x != x) = false := by simp
  go_enter Tryz.func114, Tryz.ntmps114
  go_wp2
  go_ret
  exact ⟨rfl, rfl⟩
set_option maxRecDepth 100000 in
set_option maxHeartbeats 1000000 in
theorem cmp_any (x y : Int) (w : World) : Calls Tryz.prog 111 #[.int .u64 x, .int .u64 y] w fun e w' => e = .returned (.int .i64 (cmpW x y)) ∧ w = w' := by
  have h1 : cmpW x y = if x < y then -1 else if y < x then 1 else 0 := rfl
  by_cases hx : x < y
  · rw [if_pos hx] at h1
    rw [h1]
    clear h1
    go_enter Tryz.func111, Tryz.ntmps111
    go_wp2_with (refine (nan_any _ _).mono ?_; rintro e w1 ⟨rfl, rfl⟩)
    go_ret
    exact ⟨rfl, rfl⟩
  · rw [if_neg hx] at h1
    by_cases hy : y < x
    · rw [if_pos hy] at h1
      rw [h1]
      clear h1
      go_enter Tryz.func111, Tryz.ntmps111
      go_wp2_with (refine (nan_any _ _).mono ?_; rintro e w1 ⟨rfl, rfl⟩)
      go_ret
      exact ⟨rfl, rfl⟩
    · rw [if_neg hy] at h1
      rw [h1]
      clear h1
      go_enter Tryz.func111, Tryz.ntmps111
      go_wp2_with (refine (nan_any _ _).mono ?_; rintro e w1 ⟨rfl, rfl⟩)
      go_ret
      exact ⟨rfl, rfl⟩
set_option maxRecDepth 100000 in
set_option maxHeartbeats 1000000 in
theorem or_any (A : Option Addr) (c : Nat) (a b : Int) (w : World) (hI : Ints w .i64 A [a, b]) : Calls Tryz.prog 110 #[.slice A 2 c] w fun e w' => e = .returned (.int .i64 (if a = 0 then b else a)) ∧ w = w' := by
  have HI := Lib.hid hI
  have HA := Lib.hid (fun h : a = 0 => (if_pos h : (if a = 0 then b else a) = b))
  have HB := Lib.hid (fun h : ¬ a = 0 => (if_neg h : (if a = 0 then b else a) = a))
  obtain ⟨r, hr⟩ : ∃ r, r = if a = 0 then b else a := ⟨_, rfl⟩
  rw [← hr] at HA HB ⊢
  clear hI hr
  go_enter Tryz.func110, Tryz.ntmps110
  go_wp2
  go_loopg [8] 2 (fun q v wr => ∃ p : Nat, v = .int .i64 p ∧ w = wr ∧ Hid (p ≤ 2 ∧ q + p = 2 ∧ (1 ≤ p → a = 0) ∧ (2 ≤ p → b = 0)))
  case atStart => exact ⟨0, by simp, rfl, by omega, by omega, fun h => absurd h (by decide), fun h => absurd h (by decide)⟩
  case round =>
    obtain ⟨p, rfl, rfl, HP⟩ := hrel
    by_cases hp : p < 2
    · have hpi : (p : Int) < 2 := by omega
      obtain ⟨b1, o1, rfl, cc⟩ := HI.out p hp
      rcases (show p = 0 ∨ p = 1 by omega) with rfl | rfl
      · have cc : w.cell? _ = some (.int .i64 a) := cc
        rw [Nat.add_zero] at cc
        by_cases ha : a = 0
        · subst ha
          go_wp2
          go_roundg (gk - 1)
          case measure => have h := HP.out; omega
          case rel => exact ⟨1, by go_num, rfl, by omega, by have h := HP.out; omega, fun _ => by simp, fun h => absurd h (by decide)⟩
        · have e1 : (a != 0) = true := by simpa using ha
          have e2 := HB.out ha
          clear HA HB
          subst e2
          go_wp2
          go_ret
          exact ⟨rfl, rfl⟩
      · have cc : w.cell? _ = some (.int .i64 b) := cc
        have ha := HP.out.2.2.1 (Nat.le_refl _)
        by_cases hb : b = 0
        · subst hb
          go_wp2
          go_roundg (gk - 1)
          case measure => have h := HP.out; omega
          case rel => exact ⟨2, by go_num, rfl, by omega, by have h := HP.out; omega, fun _ => ha, fun _ => by simp⟩
        · have e1 : (b != 0) = true := by simpa using hb
          have e2 := HA.out ha
          clear HA HB ha
          subst e2
          go_wp2
          go_ret
          exact ⟨rfl, rfl⟩
    · have hpi : ¬ (p : Int) < 2 := by omega
      have h := HP.out
      have e2 := HA.out (h.2.2.1 (by omega))
      have e3 := h.2.2.2 (by omega)
      clear HA HB h
      have e4 := Lib.hid (e2.trans e3)
      clear e2 e3
      go_wp2
      go_ret
      exact ⟨by rw [e4.out]; rfl, rfl⟩

theorem ints_new2 (w : World) (e : TypeId) (a b : Int) : Ints (w.alloc (.cells #[.int .i64 a, .int .i64 b] e (0, 0))) .i64 (some ⟨w.heap.size, 0, none⟩) [a, b] := by
  have h1 := heap_alloc_new w (.cells #[.int .i64 a, .int .i64 b] e (0, 0))
  intro j hj
  have e0 : j = 0 ∨ j = 1 := by simp at hj; omega
  rcases e0 with rfl | rfl <;> refine ⟨w.heap.size, 0, rfl, ?_⟩ <;> (unfold World.cell?; rw [h1]; rfl)
set_option maxRecDepth 100000 in
set_option maxHeartbeats 1000000 in
theorem scmp_any (s t : Nat) (w : World) : Calls Tryz.prog 92 #[szV s, szV t] w fun e w' => e = .returned (.int .i64 (cmpN s t)) ∧ Below w.heap.size w w' := by
  have e1 := cmpN_is s t
  unfold szV
  have HC1 := Lib.hid (fun W => cmp_any (hiN s) (hiN t) W)
  have HC2 := Lib.hid (fun W => cmp_any (loN s) (loN t) W)
  obtain ⟨x, hx⟩ : ∃ x, x = cmpW (hiN s) (hiN t) := ⟨_, rfl⟩
  obtain ⟨y, hy⟩ : ∃ y, y = cmpW (loN s) (loN t) := ⟨_, rfl⟩
  rw [← hx] at HC1 e1
  rw [← hy] at HC2 e1
  have HO := Lib.hid (fun A c W hI => or_any A c x y W hI)
  obtain ⟨z, hz⟩ : ∃ z, z = if x = 0 then y else x := ⟨_, rfl⟩
  rw [← hz] at HO e1
  rw [e1]
  clear e1 hx hy hz
  generalize hiN s = a at *
  generalize loN s = b at *
  generalize hiN t = c at *
  generalize loN t = d at *
  go_enter Tryz.func92, Tryz.ntmps92
  go_upto_region 1 with fail
  have HB := Lib.hid (below_two w (.cells #[.int .u64 a, .int .u64 b] 90) (.cells #[.int .u64 c, .int .u64 d] 90))
  have h1 : ((w.alloc (.cells #[.int .u64 a, .int .u64 b] 90)).alloc (.cells #[.int .u64 c, .int .u64 d] 90)).heap[w.heap.size]? = some (.cells #[.int .u64 a, .int .u64 b] 90) := (heap_alloc_old _ _ (by simp)).trans (heap_alloc_new _ _)
  have h2 : ((w.alloc (.cells #[.int .u64 a, .int .u64 b] 90)).alloc (.cells #[.int .u64 c, .int .u64 d] 90)).heap[w.heap.size + 1]? = some (.cells #[.int .u64 c, .int .u64 d] 90) := by
    have h := heap_alloc_new (w.alloc (.cells #[.int .u64 a, .int .u64 b] 90)) (.cells #[.int .u64 c, .int .u64 d] 90)
    rw [show (w.alloc (.cells #[.int .u64 a, .int .u64 b] 90)).heap.size = w.heap.size + 1 by simp] at h
    exact h
  generalize (w.alloc (.cells #[.int .u64 a, .int .u64 b] 90)).alloc (.cells #[.int .u64 c, .int .u64 d] 90) = w1 at *
  have k1 : w1.drew.cell? ⟨w.heap.size, 0, none⟩ = some (.int .u64 a) := by show w1.cell? _ = _; unfold World.cell?; rw [h1]; rfl
  have k2 : w1.drew.cell? ⟨w.heap.size, 1, none⟩ = some (.int .u64 b) := by show w1.cell? _ = _; unfold World.cell?; rw [h1]; rfl
  have k3 : w1.drew.cell? ⟨w.heap.size + 1, 0, none⟩ = some (.int .u64 c) := by show w1.cell? _ = _; unfold World.cell?; rw [h2]; rfl
  have k4 : w1.drew.cell? ⟨w.heap.size + 1, 1, none⟩ = some (.int .u64 d) := by show w1.cell? _ = _; unfold World.cell?; rw [h2]; rfl
  clear h1 h2
  refine wp_region_still_tail 10 (by kernel_rfl) (by kernel_rfl) ?_
  simp only [List.take_succ_cons, List.take_zero, List.drop_succ_cons, List.drop_zero]
  change wpStill _ _ w1.drew _ _ _
  generalize w1.drew = w2 at *
  repeat still_step
  still_call (backR (HC1.out w2))
  repeat still_step
  still_call (backR (HC2.out w2))
  repeat still_step
  refine wpStill_nil ?_
  go_wp2_with fail
  refine (HO.out _ _ ((w1.alloc (.cells #[.int .i64 x, .int .i64 y] 3)).drew) (ints_new2 w1 3 x y)).mono ?_
  rintro e w3 ⟨rfl, rfl⟩
  have HE := Lib.hid (Below.drew (HB.out.alloc HB.out.size (.cells #[.int .i64 x, .int .i64 y] 3)))
  go_wp2
  go_ret
  exact ⟨rfl, HE.out⟩

end Go.Proofs.YtmelblnflalanaaGreat

/- Division of numbers of two words, as rat does it. -/
namespace Go.Proofs.YtmelblnflalanaaGreat
open Go Go.RowKit
set_option linter.unusedVariables false
set_option linter.unusedSimpArgs false

/-- What of the quotient and the rest stands behind the upper bits, j of them still to come. -/
def ovQ (s t j : Nat) : Nat := s / 2 ^ j / t * 2 ^ j
def ovR (s t j : Nat) : Nat := s / 2 ^ j % t
theorem ov_start (s t : Nat) (h : s < 340282366920938463463374607431768211456) : ovQ s t 128 = 0 ∧ ovR s t 128 = 0 := by
  have e : s / 2 ^ 128 = 0 := Nat.div_eq_of_lt (by simpa using h)
  unfold ovQ ovR
  rw [e]
  simp
theorem ov_end (s t : Nat) : ovQ s t 0 = s / t ∧ ovR s t 0 = s % t := by unfold ovQ ovR; simp
theorem ov_le (s t j : Nat) : ovQ s t j ≤ s := by
  unfold ovQ
  exact Nat.le_trans (Nat.mul_le_mul_right _ (Nat.div_le_self _ _)) (Nat.div_mul_le_self _ _)
theorem ov_step (s t i : Nat) (ht : 0 < t) :
    (2 * ovR s t (i + 1) + bitN s i < t → ovR s t i = 2 * ovR s t (i + 1) + bitN s i ∧ ovQ s t i = ovQ s t (i + 1)) ∧
    (¬ 2 * ovR s t (i + 1) + bitN s i < t → ovR s t i = 2 * ovR s t (i + 1) + bitN s i - t ∧ ovQ s t i = ovQ s t (i + 1) + 2 ^ i) := by
  have h := rem_step s t i ht
  have e : (2 : Nat) ^ (i + 1) = 2 * 2 ^ i := by rw [Nat.pow_succ]; omega
  unfold ovR ovQ
  refine ⟨fun hr => ?_, fun hr => ?_⟩
  · obtain ⟨h1, h2⟩ := h.1 hr
    refine ⟨h1, ?_⟩
    rw [h2]
    generalize s / 2 ^ (i + 1) / t = X
    rw [e]
    ac_rfl
  · obtain ⟨h1, h2⟩ := h.2 hr
    refine ⟨h1, ?_⟩
    rw [h2, Nat.add_mul, Nat.one_mul]
    generalize s / 2 ^ (i + 1) / t = X
    congr 1
    rw [e]
    ac_rfl

/-- The blocks of a division while it goes on. -/
structure OvR (w0 : World) (gt g0 g1 gq gr : Nat) (s t q r : Nat) (wr : World) : Prop where
  below : Below w0.heap.size w0 wr
  ne : w0.heap.size < gt ∧ gt < g0 ∧ g0 < g1 ∧ g1 < gq ∧ gq < gr
  hs : wr.heap[w0.heap.size]? = some (.cells #[.int .u64 (hiN s), .int .u64 (loN s)] 90)
  ht : wr.heap[gt]? = some (.cells #[.int .u64 (hiN t), .int .u64 (loN t)] 90)
  h0 : wr.heap[g0]? = some (.cells #[.int .u64 0, .int .u64 0] 90)
  h1 : wr.heap[g1]? = some (.cells #[.int .u64 0, .int .u64 0] 90)
  hq : wr.heap[gq]? = some (.cells #[.int .u64 (hiN q), .int .u64 (loN q)] 90)
  hr : wr.heap[gr]? = some (.cells #[.int .u64 (hiN r), .int .u64 (loN r)] 90)
theorem heap_lt2 {w : World} {g : Nat} {o : Obj} (h : w.heap[g]? = some o) : g < w.heap.size := by
  by_cases c : g < w.heap.size
  · exact c
  · rw [Array.getElem?_eq_none (by omega)] at h; cases h
theorem below_row {w w1 : World} {B g : Nat} (h : Below B w w1) (hg : B ≤ g) (cs : Array Value) : Below B w (w1.setRow g cs) :=
  ⟨h.os, h.tape, h.output, by have := h.size; simpa [World.setRow] using this, fun k hk => by rw [setRow_other _ _ _ _ (by omega)]; exact h.block k hk⟩
theorem heap_other {wr : World} {k g c : Nat} {o : Obj} (v : Value) (h : wr.heap[k]? = some o) (hg : k ≠ g) : (wr.setCell ⟨g, c, none⟩ v).heap[k]? = some o := by
  simp only [World.setCell, Array.getElem?_modify]
  rw [if_neg (by omega)]
  exact h
theorem row_other {wr : World} {k g : Nat} {o : Obj} (c : Array Value) (h : wr.heap[k]? = some o) (hg : k ≠ g) : (wr.setRow g c).heap[k]? = some o := by rw [setRow_other _ _ _ _ hg]; exact h
section
variable {w0 wr w' : World} {gt g0 g1 gq gr s t q r : Nat}
theorem OvR.step (h : OvR w0 gt g0 g1 gq gr s t q r wr) (hb : Below wr.heap.size wr w') : OvR w0 gt g0 g1 gq gr s t q r w' :=
  ⟨h.below.trans (hb.mono h.below.size), h.ne, (hb.block _ (heap_lt2 h.hs)).trans h.hs, (hb.block _ (heap_lt2 h.ht)).trans h.ht, (hb.block _ (heap_lt2 h.h0)).trans h.h0, (hb.block _ (heap_lt2 h.h1)).trans h.h1, (hb.block _ (heap_lt2 h.hq)).trans h.hq, (hb.block _ (heap_lt2 h.hr)).trans h.hr⟩
theorem OvR.drew (h : OvR w0 gt g0 g1 gq gr s t q r wr) : OvR w0 gt g0 g1 gq gr s t q r wr.drew := ⟨Below.drew h.below, h.ne, h.hs, h.ht, h.h0, h.h1, h.hq, h.hr⟩
theorem OvR.setR (h : OvR w0 gt g0 g1 gq gr s t q r wr) (x : Nat) : OvR w0 gt g0 g1 gq gr s t q x (wr.setRow gr #[.int .u64 (hiN x), .int .u64 (loN x)]) := by
  have hn := h.ne
  exact ⟨below_row h.below (by omega) _, hn, row_other _ h.hs (by omega), row_other _ h.ht (by omega), row_other _ h.h0 (by omega), row_other _ h.h1 (by omega), row_other _ h.hq (by omega), setRow_heap _ _ _ _ _ _ h.hr⟩
theorem cell_set {wr : World} {g : Nat} {a b : Value} {T : TypeId} (h : wr.heap[g]? = some (.cells #[a, b] T)) (v : Value) :
    (wr.setCell ⟨g, 0, none⟩ v).heap[g]? = some (.cells #[v, b] T) ∧ (wr.setCell ⟨g, 1, none⟩ v).heap[g]? = some (.cells #[a, v] T) := by
  constructor <;> (simp only [World.setCell, Array.getElem?_modify, if_true, h, Option.map_some]; rfl)
theorem OvR.setRlo (h : OvR w0 gt g0 g1 gq gr s t q r wr) (x : Nat) (y : Int) (hh : hiN r = hiN x) (hy : y = loN x) : OvR w0 gt g0 g1 gq gr s t q x (wr.setCell ⟨gr, 1, none⟩ (.int .u64 y)) := by
  have hn := h.ne
  have h1 := (cell_set h.hr (.int .u64 y)).2
  rw [hh, hy] at h1
  rw [hy]
  exact ⟨h.below.setCell (p := ⟨gr, 1, none⟩) (by show w0.heap.size ≤ gr; omega) _, hn, heap_other _ h.hs (by omega), heap_other _ h.ht (by omega), heap_other _ h.h0 (by omega), heap_other _ h.h1 (by omega), heap_other _ h.hq (by omega), h1⟩
theorem OvR.setQhi (h : OvR w0 gt g0 g1 gq gr s t q r wr) (x : Nat) (y : Int) (hh : loN q = loN x) (hy : y = hiN x) : OvR w0 gt g0 g1 gq gr s t x r (wr.setCell ⟨gq, 0, none⟩ (.int .u64 y)) := by
  have hn := h.ne
  have h1 := (cell_set h.hq (.int .u64 y)).1
  rw [hh, hy] at h1
  rw [hy]
  exact ⟨h.below.setCell (p := ⟨gq, 0, none⟩) (by show w0.heap.size ≤ gq; omega) _, hn, heap_other _ h.hs (by omega), heap_other _ h.ht (by omega), heap_other _ h.h0 (by omega), heap_other _ h.h1 (by omega), h1, heap_other _ h.hr (by omega)⟩
theorem OvR.setQlo (h : OvR w0 gt g0 g1 gq gr s t q r wr) (x : Nat) (y : Int) (hh : hiN q = hiN x) (hy : y = loN x) : OvR w0 gt g0 g1 gq gr s t x r (wr.setCell ⟨gq, 1, none⟩ (.int .u64 y)) := by
  have hn := h.ne
  have h1 := (cell_set h.hq (.int .u64 y)).2
  rw [hh, hy] at h1
  rw [hy]
  exact ⟨h.below.setCell (p := ⟨gq, 1, none⟩) (by show w0.heap.size ≤ gq; omega) _, hn, heap_other _ h.hs (by omega), heap_other _ h.ht (by omega), heap_other _ h.h0 (by omega), heap_other _ h.h1 (by omega), h1, heap_other _ h.hr (by omega)⟩
end
theorem cell_two {wr : World} {g : Nat} {a b : Value} {T : TypeId} (h : wr.heap[g]? = some (.cells #[a, b] T)) :
    wr.cell? ⟨g, 0, none⟩ = some a ∧ wr.cell? ⟨g, 1, none⟩ = some b ∧ wr.frozen? ⟨g, 0, none⟩ = false ∧ wr.frozen? ⟨g, 1, none⟩ = false := by
  refine ⟨?_, ?_, ?_, ?_⟩
  · unfold World.cell?; rw [h]; rfl
  · unfold World.cell?; rw [h]; rfl
  · unfold World.frozen?; rw [h]; rfl
  · unfold World.frozen?; rw [h]; rfl
theorem OvR.made (w : World) (s t : Nat) : OvR w (w.heap.size + 1) (w.heap.size + 1 + 1) (w.heap.size + 1 + 1 + 1) (w.heap.size + 1 + 1 + 1 + 1) (w.heap.size + 1 + 1 + 1 + 1 + 1) s t 0 0
    ((((((w.alloc (.cells #[.int .u64 (hiN s), .int .u64 (loN s)] 90)).alloc (.cells #[.int .u64 (hiN t), .int .u64 (loN t)] 90)).alloc (.cells #[.int .u64 0, .int .u64 0] 90)).alloc (.cells #[.int .u64 0, .int .u64 0] 90)).alloc (.cells #[.int .u64 0, .int .u64 0] 90)).alloc (.cells #[.int .u64 0, .int .u64 0] 90)) := by
  have hz : ∀ (w : World) (o : Obj), (w.alloc o).heap.size = w.heap.size + 1 := fun w o => by simp
  have b2 := below_two w (.cells #[.int .u64 (hiN s), .int .u64 (loN s)] 90) (.cells #[.int .u64 (hiN t), .int .u64 (loN t)] 90)
  have b3 := b2.alloc b2.size (.cells #[.int .u64 0, .int .u64 0] 90)
  have b4 := b3.alloc b3.size (.cells #[.int .u64 0, .int .u64 0] 90)
  have b5 := b4.alloc b4.size (.cells #[.int .u64 0, .int .u64 0] 90)
  have b6 := b5.alloc b5.size (.cells #[.int .u64 0, .int .u64 0] 90)
  refine ⟨b6, by omega, ?_, ?_, ?_, ?_, ?_, ?_⟩
  · iterate 5 rw [heap_alloc_old _ _ (by simp only [hz]; omega)]
    exact heap_alloc_new _ _
  · iterate 4 rw [heap_alloc_old _ _ (by simp only [hz]; omega)]
    rw [← hz w (.cells #[.int .u64 (hiN s), .int .u64 (loN s)] 90)]
    exact heap_alloc_new _ _
  · iterate 3 rw [heap_alloc_old _ _ (by simp only [hz]; omega)]
    have h := heap_alloc_new ((w.alloc (.cells #[.int .u64 (hiN s), .int .u64 (loN s)] 90)).alloc (.cells #[.int .u64 (hiN t), .int .u64 (loN t)] 90)) (.cells #[.int .u64 0, .int .u64 0] 90)
    simp only [hz] at h
    exact h
  · iterate 2 rw [heap_alloc_old _ _ (by simp only [hz]; omega)]
    have h := heap_alloc_new (((w.alloc (.cells #[.int .u64 (hiN s), .int .u64 (loN s)] 90)).alloc (.cells #[.int .u64 (hiN t), .int .u64 (loN t)] 90)).alloc (.cells #[.int .u64 0, .int .u64 0] 90)) (.cells #[.int .u64 0, .int .u64 0] 90)
    simp only [hz] at h
    exact h
  · rw [heap_alloc_old _ _ (by simp only [hz]; omega)]
    have h := heap_alloc_new ((((w.alloc (.cells #[.int .u64 (hiN s), .int .u64 (loN s)] 90)).alloc (.cells #[.int .u64 (hiN t), .int .u64 (loN t)] 90)).alloc (.cells #[.int .u64 0, .int .u64 0] 90)).alloc (.cells #[.int .u64 0, .int .u64 0] 90)) (.cells #[.int .u64 0, .int .u64 0] 90)
    simp only [hz] at h
    exact h
  · have h := heap_alloc_new (((((w.alloc (.cells #[.int .u64 (hiN s), .int .u64 (loN s)] 90)).alloc (.cells #[.int .u64 (hiN t), .int .u64 (loN t)] 90)).alloc (.cells #[.int .u64 0, .int .u64 0] 90)).alloc (.cells #[.int .u64 0, .int .u64 0] 90)).alloc (.cells #[.int .u64 0, .int .u64 0] 90)) (.cells #[.int .u64 0, .int .u64 0] 90)
    simp only [hz] at h
    exact h
/-- A shift by more than a word. -/
theorem shr_far (x y : Int) (hx : 0 ≤ x) (hx1 : x ≤ 18446744073709551615) (hy : 63 < y) : Op.shift .shr .u64 x .i64 y = pure (.int .u64 0) := by
  have hm : min y.toNat 64 = 64 := by omega
  have e : x.fdiv (2 ^ (min y.toNat IntKind.u64.bits)) = 0 := by
    show x.fdiv (2 ^ (min y.toNat 64)) = 0
    rw [hm, Int.fdiv_eq_ediv_of_nonneg _ (by decide)]
    exact Int.ediv_eq_zero_of_lt hx (by simp; omega)
  unfold Op.shift
  rw [if_neg (by omega)]
  show pure (Value.int .u64 (x.fdiv (2 ^ (min y.toNat IntKind.u64.bits)))) = _
  rw [e]

attribute [local go_sem] shr_far
theorem bit_hi_word (s i : Nat) (hi : 64 ≤ i) (hs : s < 340282366920938463463374607431768211456) : bits .and .u64 (hiN s / 2 ^ (i - 64)) 1 = ((bitN s i : Nat) : Int) := by
  have e : hiN s / 2 ^ (i - 64) = ((s / 18446744073709551616 / 2 ^ (i - 64) : Nat) : Int) := by unfold hiN; simp
  rw [e, and_one_u64 _ (Nat.lt_of_le_of_lt (Nat.div_le_self _ _) (by omega)), bit_high s i hi]
theorem bit_lo_word (s i : Nat) (hi : i < 64) : bits .and .u64 (loN s / 2 ^ i) 1 = ((bitN s i : Nat) : Int) := by
  have e : loN s / 2 ^ i = ((s % 18446744073709551616 / 2 ^ i : Nat) : Int) := by unfold loN; simp
  rw [e, and_one_u64 _ (Nat.lt_of_le_of_lt (Nat.div_le_self _ _) (by omega)), bit_low s i hi]
theorem pow_word (i : Nat) (hi : i < 64) : IntKind.u64.wrap (2 ^ i) = ((2 ^ i : Nat) : Int) := by
  have h := pow_small i hi
  have e : ((2 : Int) ^ i) = ((2 ^ i : Nat) : Int) := by simp
  rw [e, IntKind.wrap_u64]
  generalize (2 : Nat) ^ i = x at h ⊢
  omega
set_option maxRecDepth 100000 in
set_option maxHeartbeats 4000000 in
theorem over_any (s t : Nat) (hs : s < 340282366920938463463374607431768211456) (ht0 : 0 < t) (ht : t ≤ 170141183460469231731687303715884105728) (w : World) :
    Calls Tryz.prog 87 #[szV s, szV t] w fun e w' => e = .returned (.tuple #[szV (s / t), szV (s % t)]) ∧ Below w.heap.size w w' := by
  have HE := Lib.hid (ov_end s t)
  obtain ⟨q0, r0⟩ := ov_start s t hs
  have HQ := Lib.hid q0
  have HR := Lib.hid r0
  have HS := Lib.hid hs
  clear q0 r0
  unfold szV
  go_enter Tryz.func87, Tryz.ntmps87
  go_upto_region 2 with fail
  have HO := Lib.hid (OvR.made w s t)
  generalize ((((((w.alloc (.cells #[.int .u64 (hiN s), .int .u64 (loN s)] 90)).alloc (.cells #[.int .u64 (hiN t), .int .u64 (loN t)] 90)).alloc (.cells #[.int .u64 0, .int .u64 0] 90)).alloc (.cells #[.int .u64 0, .int .u64 0] 90)).alloc (.cells #[.int .u64 0, .int .u64 0] 90)).alloc (.cells #[.int .u64 0, .int .u64 0] 90)) = w1 at *
  obtain ⟨gr, hgr⟩ : ∃ g, g = w.heap.size + 1 + 1 + 1 + 1 + 1 := ⟨_, rfl⟩
  rw [← hgr] at HO ⊢
  obtain ⟨gq, hgq⟩ : ∃ g, g = w.heap.size + 1 + 1 + 1 + 1 := ⟨_, rfl⟩
  rw [← hgq] at HO ⊢
  obtain ⟨g1, hg1⟩ : ∃ g, g = w.heap.size + 1 + 1 + 1 := ⟨_, rfl⟩
  rw [← hg1] at HO ⊢
  obtain ⟨g0, hg0⟩ : ∃ g, g = w.heap.size + 1 + 1 := ⟨_, rfl⟩
  rw [← hg0] at HO ⊢
  obtain ⟨gt, hgt⟩ : ∃ g, g = w.heap.size + 1 := ⟨_, rfl⟩
  rw [← hgt] at HO ⊢
  obtain ⟨gs, hgs⟩ : ∃ g, g = w.heap.size := ⟨_, rfl⟩
  clear hgr hgq hg1 hg0 hgt
  go_wp2
  go_loopg [8] 128 (fun g v wr => ∃ j : Nat, v = .int .i64 ((j : Int) - 1) ∧ Hid (OvR w gt g0 g1 gq gr s t (ovQ s t j) (ovR s t j) wr) ∧ Hid (j ≤ 128 ∧ g = j))
  case atStart => exact ⟨128, by simp, by rw [HQ.out, HR.out]; exact HO.out, by omega, rfl⟩
  case round =>
    obtain ⟨j, rfl, HV, HJ⟩ := hrel
    by_cases hj : 0 < j
    · obtain ⟨i, rfl⟩ : ∃ i, j = i + 1 := ⟨j - 1, by omega⟩
      have hji : 0 ≤ ((i + 1 : Nat) : Int) - 1 := by omega
      rw [show ((i + 1 : Nat) : Int) - 1 = (i : Int) by omega] at hji ⊢
      have hi127 : i < 128 := by have := HJ.out.1; omega
      have hrt : ovR s t (i + 1) < t := Nat.mod_lt _ ht0
      obtain ⟨hst1, hst2⟩ := ov_step s t i ht0
      have hqle := ov_le s t i
      have hq1 : ovQ s t (i + 1) = s / 2 ^ (i + 1) / t * 2 ^ (i + 1) := rfl
      obtain ⟨r, hr⟩ : ∃ r, r = ovR s t (i + 1) := ⟨_, rfl⟩
      rw [← hr] at HV hrt hst1 hst2
      have HST := Lib.hid (And.intro hst1 hst2)
      have HQL := Lib.hid (And.intro hqle hq1)
      clear hst1 hst2 hqle hq1 hr
      have hb2 : bitN s i < 2 := Nat.mod_lt _ (by omega)
      obtain ⟨lb1, lb2⟩ := low_bit r (bitN s i) hb2
      obtain ⟨k1, k2, k3, k4⟩ := cell_two HV.out.hr
      have e1 := shl_hi r (by omega)
      have e2 : IntKind.u64.wrap (hiN r * 2) = hiN r * 2 := by rw [IntKind.wrap_u64]; unfold hiN; omega
      have e3 : IntKind.u64.wrap (loN r * 2) = loN (2 * r) := by rw [IntKind.wrap_u64]; exact shl_lo r
      have HLB := Lib.hid (And.intro lb1 lb2)
      clear lb1 lb2
      by_cases h64 : 64 ≤ i
      · have dd : decide (63 < (i : Int)) = true := decide_eq_true (by omega)
        have dm : 63 < (i : Int) := by omega
        have pn : ((i : Int) - 64).toNat = i - 64 := by omega
        have pw : IntKind.i64.wrap ((i : Int) - 64) = (i : Int) - 64 := IntWalk.i64_in _ (by omega)
        have pa : 0 ≤ (i : Int) - 64 := by omega
        have pb : (i : Int) - 64 ≤ 64 := by omega
        obtain ⟨pc, pd⟩ := lo_range s
        have eb := bit_hi_word s i h64 hs
        go_upto_region 6 with (refine wpList_store_row rfl 90 _ _ rfl gr _ rfl rfl 90 _ HV.out.hr (by kernel_rfl) rfl (by kernel_rfl) ?_)
        have HV2 := Lib.hid (HV.out.setR (2 * r))
        generalize wr.setRow gr #[.int .u64 (hiN (2 * r)), .int .u64 (loN (2 * r))] = w2 at *
        clear k1 k2 k3 k4 e1 e2 e3 HV
        obtain ⟨k1, k2, _, _⟩ := cell_two HV2.out.hs
        obtain ⟨k3, k4, k5, k6⟩ := cell_two HV2.out.hr
        have lb1 := HLB.out.1
        go_upto_region 10 with fail
        have HV3 := Lib.hid (HV2.out.setRlo (2 * r + bitN s i) _ HLB.out.2 rfl)
        generalize w2.setCell ⟨gr, 1, none⟩ (.int .u64 (loN (2 * r + bitN s i))) = w3 at *
        clear k1 k2 k3 k4 k5 k6 lb1 HLB HV2 eb
        obtain ⟨R, hR⟩ : ∃ R, R = 2 * r + bitN s i := ⟨_, rfl⟩
        rw [← hR] at HV3 HST
        have hR2 : R < 340282366920938463463374607431768211456 := by omega
        clear hR
        by_cases hlt : R < t
        · obtain ⟨n1, n2⟩ := HST.out.1 hlt
          have HV4 := Lib.hid (show OvR w gt g0 g1 gq gr s t (ovQ s t i) (ovR s t i) w3 by rw [n1, n2]; exact HV3.out)
          have HCM := Lib.hid (show cmpN R t = -1 by unfold cmpN; rw [if_pos hlt])
          clear n1 n2 hlt
          go_wp2_with (first | (refine wpList_load_row rfl 90 _ rfl gr rfl 90 _ (0, 0) _ HV3.out.hr Tryz.underlying90 rfl (by kernel_rfl) ?_) | (refine wpList_load_row rfl 90 _ rfl gt rfl 90 _ (0, 0) _ HV3.out.ht Tryz.underlying90 rfl (by kernel_rfl) ?_))
          refine (scmp_any R t _).mono ?_
          rintro e w4 ⟨rfl, hb⟩
          rw [HCM.out]
          have HV5 := Lib.hid (HV4.out.step hb)
          clear hb HV4 HV3
          go_wp2_with fail
          go_roundg i
          case measure => have h := HJ.out; omega
          case rel => exact ⟨i, by go_num, HV5.out, by omega, rfl⟩
        · obtain ⟨n1, n2⟩ := HST.out.2 hlt
          have HN := Lib.hid (And.intro n1 n2)
          have HCM := Lib.hid (show 0 ≤ cmpN R t by unfold cmpN; rw [if_neg hlt]; split <;> decide)
          clear n1 n2
          go_wp2_with (first | (refine wpList_load_row rfl 90 _ rfl gr rfl 90 _ (0, 0) _ HV3.out.hr Tryz.underlying90 rfl (by kernel_rfl) ?_) | (refine wpList_load_row rfl 90 _ rfl gt rfl 90 _ (0, 0) _ HV3.out.ht Tryz.underlying90 rfl (by kernel_rfl) ?_))
          refine (scmp_any R t _).mono ?_
          rintro e w4 ⟨rfl, hb⟩
          have HV4 := Lib.hid (HV3.out.step hb)
          clear hb HV3
          have hcm := HCM.out
          clear HCM
          generalize cmpN R t = cm at *
          have d2 : decide (0 ≤ cm) = true := decide_eq_true hcm
          go_wp2_with (first | (refine wpList_load_row rfl 90 _ rfl gr rfl 90 _ (0, 0) _ HV4.out.hr Tryz.underlying90 rfl (by kernel_rfl) ?_) | (refine wpList_load_row rfl 90 _ rfl gt rfl 90 _ (0, 0) _ HV4.out.ht Tryz.underlying90 rfl (by kernel_rfl) ?_))
          refine (sless_any R t (by omega) hR2 _).mono ?_
          rintro e w5 ⟨rfl, hb⟩
          have HV5 := Lib.hid (HV4.out.step hb)
          clear hb HV4 hcm d2
          rw [show szV (R - t) = .agg #[.int .u64 (hiN (R - t)), .int .u64 (loN (R - t))] from rfl]
          go_upto_region 13 with (refine wpList_store_row rfl 90 _ _ rfl gr _ rfl rfl 90 _ HV5.out.hr (by kernel_rfl) rfl (by kernel_rfl) ?_)
          have HV6 := Lib.hid (HV5.out.setR (R - t))
          generalize w5.setRow gr #[.int .u64 (hiN (R - t)), .int .u64 (loN (R - t))] = w6 at *
          clear HV5
          obtain ⟨sh1, sh2⟩ := set_hi (s / 2 ^ (i + 1) / t) i h64 hi127 (by rw [← HQL.out.2, ← HN.out.2]; exact Nat.lt_of_le_of_lt HQL.out.1 HS.out)
          rw [← HQL.out.2] at sh1 sh2
          have pw2 := pow_word (i - 64) (by omega)
          have pe : ((2 ^ (i - 64) : Nat) : Int) = (2 : Int) ^ (i - 64) := by simp
          rw [pe] at pw2 sh1
          obtain ⟨q, hq⟩ : ∃ q, q = ovQ s t (i + 1) := ⟨_, rfl⟩
          rw [← hq] at HV6 HN sh1 sh2
          clear hq
          obtain ⟨k1, k2, k3, k4⟩ := cell_two HV6.out.hq
          have HV7 := Lib.hid (HV6.out.setQhi _ _ sh2 rfl)
          have HV8 := Lib.hid (show OvR w gt g0 g1 gq gr s t (ovQ s t i) (ovR s t i) _ by rw [HN.out.1, HN.out.2]; exact HV7.out)
          clear sh2 HV7 HV6 HN
          go_region
          go_wp2
          go_roundg i
          case measure => have h := HJ.out; omega
          case rel => exact ⟨i, by go_num, HV8.out.drew, by omega, rfl⟩
      · have dd : decide (63 < (i : Int)) = false := decide_eq_false (by omega)
        have dm : ¬ 63 < (i : Int) := by omega
        have pa : 0 ≤ (i : Int) := by omega
        have pb : (i : Int) ≤ 64 := by omega
        have eb := bit_lo_word s i (by omega)
        go_upto_region 6 with (refine wpList_store_row rfl 90 _ _ rfl gr _ rfl rfl 90 _ HV.out.hr (by kernel_rfl) rfl (by kernel_rfl) ?_)
        have HV2 := Lib.hid (HV.out.setR (2 * r))
        generalize wr.setRow gr #[.int .u64 (hiN (2 * r)), .int .u64 (loN (2 * r))] = w2 at *
        clear k1 k2 k3 k4 e1 e2 e3 HV
        obtain ⟨k1, k2, _, _⟩ := cell_two HV2.out.hs
        obtain ⟨k3, k4, k5, k6⟩ := cell_two HV2.out.hr
        have lb1 := HLB.out.1
        go_upto_region 10 with fail
        have HV3 := Lib.hid (HV2.out.setRlo (2 * r + bitN s i) _ HLB.out.2 rfl)
        generalize w2.setCell ⟨gr, 1, none⟩ (.int .u64 (loN (2 * r + bitN s i))) = w3 at *
        clear k1 k2 k3 k4 k5 k6 lb1 HLB HV2 eb
        obtain ⟨R, hR⟩ : ∃ R, R = 2 * r + bitN s i := ⟨_, rfl⟩
        rw [← hR] at HV3 HST
        have hR2 : R < 340282366920938463463374607431768211456 := by omega
        clear hR
        by_cases hlt : R < t
        · obtain ⟨n1, n2⟩ := HST.out.1 hlt
          have HV4 := Lib.hid (show OvR w gt g0 g1 gq gr s t (ovQ s t i) (ovR s t i) w3 by rw [n1, n2]; exact HV3.out)
          have HCM := Lib.hid (show cmpN R t = -1 by unfold cmpN; rw [if_pos hlt])
          clear n1 n2 hlt
          go_wp2_with (first | (refine wpList_load_row rfl 90 _ rfl gr rfl 90 _ (0, 0) _ HV3.out.hr Tryz.underlying90 rfl (by kernel_rfl) ?_) | (refine wpList_load_row rfl 90 _ rfl gt rfl 90 _ (0, 0) _ HV3.out.ht Tryz.underlying90 rfl (by kernel_rfl) ?_))
          refine (scmp_any R t _).mono ?_
          rintro e w4 ⟨rfl, hb⟩
          rw [HCM.out]
          have HV5 := Lib.hid (HV4.out.step hb)
          clear hb HV4 HV3
          go_wp2_with fail
          go_roundg i
          case measure => have h := HJ.out; omega
          case rel => exact ⟨i, by go_num, HV5.out, by omega, rfl⟩
        · obtain ⟨n1, n2⟩ := HST.out.2 hlt
          have HN := Lib.hid (And.intro n1 n2)
          have HCM := Lib.hid (show 0 ≤ cmpN R t by unfold cmpN; rw [if_neg hlt]; split <;> decide)
          clear n1 n2
          go_wp2_with (first | (refine wpList_load_row rfl 90 _ rfl gr rfl 90 _ (0, 0) _ HV3.out.hr Tryz.underlying90 rfl (by kernel_rfl) ?_) | (refine wpList_load_row rfl 90 _ rfl gt rfl 90 _ (0, 0) _ HV3.out.ht Tryz.underlying90 rfl (by kernel_rfl) ?_))
          refine (scmp_any R t _).mono ?_
          rintro e w4 ⟨rfl, hb⟩
          have HV4 := Lib.hid (HV3.out.step hb)
          clear hb HV3
          have hcm := HCM.out
          clear HCM
          generalize cmpN R t = cm at *
          have d2 : decide (0 ≤ cm) = true := decide_eq_true hcm
          go_wp2_with (first | (refine wpList_load_row rfl 90 _ rfl gr rfl 90 _ (0, 0) _ HV4.out.hr Tryz.underlying90 rfl (by kernel_rfl) ?_) | (refine wpList_load_row rfl 90 _ rfl gt rfl 90 _ (0, 0) _ HV4.out.ht Tryz.underlying90 rfl (by kernel_rfl) ?_))
          refine (sless_any R t (by omega) hR2 _).mono ?_
          rintro e w5 ⟨rfl, hb⟩
          have HV5 := Lib.hid (HV4.out.step hb)
          clear hb HV4 hcm d2
          rw [show szV (R - t) = .agg #[.int .u64 (hiN (R - t)), .int .u64 (loN (R - t))] from rfl]
          go_upto_region 14 with (refine wpList_store_row rfl 90 _ _ rfl gr _ rfl rfl 90 _ HV5.out.hr (by kernel_rfl) rfl (by kernel_rfl) ?_)
          have HV6 := Lib.hid (HV5.out.setR (R - t))
          generalize w5.setRow gr #[.int .u64 (hiN (R - t)), .int .u64 (loN (R - t))] = w6 at *
          clear HV5
          obtain ⟨sh1, sh2⟩ := set_lo (s / 2 ^ (i + 1) / t) i (by omega)
          rw [← HQL.out.2] at sh1 sh2
          have pw2 := pow_word i (by omega)
          have pe : ((2 ^ i : Nat) : Int) = (2 : Int) ^ i := by simp
          rw [pe] at pw2 sh1
          obtain ⟨q, hq⟩ : ∃ q, q = ovQ s t (i + 1) := ⟨_, rfl⟩
          rw [← hq] at HV6 HN sh1 sh2
          clear hq
          obtain ⟨k1, k2, k3, k4⟩ := cell_two HV6.out.hq
          have HV7 := Lib.hid (HV6.out.setQlo _ _ sh2 rfl)
          have HV8 := Lib.hid (show OvR w gt g0 g1 gq gr s t (ovQ s t i) (ovR s t i) _ by rw [HN.out.1, HN.out.2]; exact HV7.out)
          clear sh2 HV7 HV6 HN
          go_region
          go_wp2
          go_roundg i
          case measure => have h := HJ.out; omega
          case rel => exact ⟨i, by go_num, HV8.out.drew, by omega, rfl⟩
    · obtain rfl : j = 0 := by omega
      have hji : ¬ (0 : Int) ≤ -1 := by omega
      rw [show ((0 : Nat) : Int) - 1 = -1 from rfl]
      rw [HE.out.1, HE.out.2] at HV
      go_upto_region 15 with fail
      obtain ⟨hb, hne, _, _, h0, h1, hq, hr⟩ := HV.out
      obtain ⟨q1, q2, q3, q4⟩ := cell_two hq
      obtain ⟨r1, r2, r3, r4⟩ := cell_two hr
      obtain ⟨a1, a2, a3, a4⟩ := cell_two h0
      obtain ⟨b1, b2, b3, b4⟩ := cell_two h1
      clear hq hr
      have HB := Lib.hid hb
      have H0 := Lib.hid h0
      have H1 := Lib.hid h1
      have n1 : g0 ≠ g1 := by omega
      have n2 : g0 ≠ gq := by omega
      have n3 : g0 ≠ gr := by omega
      have n4 : g1 ≠ gq := by omega
      have n5 : g1 ≠ gr := by omega
      clear hb h0 h1
      go_region
      obtain ⟨W, hW⟩ : ∃ W, W = ((((wr.setCell ⟨g0, 0, none⟩ (.int .u64 (hiN (s / t)))).setCell ⟨g0, 1, none⟩ (.int .u64 (loN (s / t)))).setCell ⟨g1, 0, none⟩ (.int .u64 (hiN (s % t)))).setCell ⟨g1, 1, none⟩ (.int .u64 (loN (s % t)))).drew := ⟨_, rfl⟩
      rw [← hW]
      have f0 : W.heap[g0]? = some (.cells #[.int .u64 (hiN (s / t)), .int .u64 (loN (s / t))] 90) := by
        rw [hW]
        exact heap_other _ (heap_other _ (cell_set (cell_set H0.out (.int .u64 (hiN (s / t)))).1 (.int .u64 (loN (s / t)))).2 n1) n1
      have f1 : W.heap[g1]? = some (.cells #[.int .u64 (hiN (s % t)), .int .u64 (loN (s % t))] 90) := by
        rw [hW]
        exact (cell_set (cell_set (heap_other _ (heap_other _ H1.out (Ne.symm n1)) (Ne.symm n1)) (.int .u64 (hiN (s % t)))).1 (.int .u64 (loN (s % t)))).2
      have HF := Lib.hid (show Below w.heap.size w W by
        rw [hW]
        exact Below.drew ((((HB.out.setCell (p := ⟨g0, 0, none⟩) (by show w.heap.size ≤ g0; omega) _).setCell (p := ⟨g0, 1, none⟩) (by show w.heap.size ≤ g0; omega) _).setCell (p := ⟨g1, 0, none⟩) (by show w.heap.size ≤ g1; omega) _).setCell (p := ⟨g1, 1, none⟩) (by show w.heap.size ≤ g1; omega) _))
      have HF0 := Lib.hid f0
      have HF1 := Lib.hid f1
      clear hW q1 q2 q3 q4 r1 r2 r3 r4 a1 a2 a3 a4 b1 b2 b3 b4 f0 f1
      go_wp2
      refine bodyPost_ret (results_cells2 (fn := Tryz.f87) rfl _ _ g0 g1 _ _ _ _ _ _ rfl rfl HF0.out HF1.out Tryz.underlying90 rfl (by kernel_rfl) (by kernel_rfl)) rfl ?_
      exact ⟨rfl, HF.out⟩

end Go.Proofs.YtmelblnflalanaaGreat

/- The greatest divisor, as rat and the document find it. -/
namespace Go.Proofs.YtmelblnflalanaaGreat
open Go Go.RowKit
set_option linter.unusedVariables false
set_option linter.unusedSimpArgs false

/-- A number of two words in a block. -/
def Blk (T : TypeId) (g n : Nat) (w : World) : Prop := w.heap[g]? = some (.cells #[.int .u64 (hiN n), .int .u64 (loN n)] T)
theorem Blk.lt {T : TypeId} {g n : Nat} {w : World} (h : Blk T g n w) : g < w.heap.size := heap_lt2 h
theorem Blk.below {T : TypeId} {g n : Nat} {w w' : World} (h : Blk T g n w) (hb : Below w.heap.size w w') : Blk T g n w' := (hb.block _ h.lt).trans h
def zr2 (T : TypeId) : Obj := .cells #[.int .u64 0, .int .u64 0] T
theorem two_fresh (w : World) (T : TypeId) : ((w.alloc (.cells #[.int .u64 0, .int .u64 0] T)).alloc (.cells #[.int .u64 0, .int .u64 0] T)).heap[w.heap.size]? = some (.cells #[.int .u64 0, .int .u64 0] T) ∧
    ((w.alloc (.cells #[.int .u64 0, .int .u64 0] T)).alloc (.cells #[.int .u64 0, .int .u64 0] T)).heap[w.heap.size + 1]? = some (.cells #[.int .u64 0, .int .u64 0] T) := by
  constructor
  · rw [heap_alloc_old _ _ (by simp)]; exact heap_alloc_new _ _
  · have h := heap_alloc_new (w.alloc (.cells #[.int .u64 0, .int .u64 0] T)) (.cells #[.int .u64 0, .int .u64 0] T)
    rw [show (w.alloc (.cells #[.int .u64 0, .int .u64 0] T)).heap.size = w.heap.size + 1 by simp] at h
    exact h
theorem second_fresh {w wr : World} {T : TypeId} (c : Array Value) (h : wr.heap[w.heap.size + 1]? = some (.cells #[.int .u64 0, .int .u64 0] T)) :
    (wr.setRow w.heap.size c).heap[w.heap.size + 1]? = some (.cells #[.int .u64 0, .int .u64 0] T) := row_other _ h (by omega)
theorem pair_stored (w : World) (T : TypeId) (q r : Nat) :
    Below w.heap.size w ((((w.alloc (.cells #[.int .u64 0, .int .u64 0] T)).alloc (.cells #[.int .u64 0, .int .u64 0] T)).setRow w.heap.size #[.int .u64 (hiN q), .int .u64 (loN q)]).setRow (w.heap.size + 1) #[.int .u64 (hiN r), .int .u64 (loN r)]) ∧
    Blk T w.heap.size q ((((w.alloc (.cells #[.int .u64 0, .int .u64 0] T)).alloc (.cells #[.int .u64 0, .int .u64 0] T)).setRow w.heap.size #[.int .u64 (hiN q), .int .u64 (loN q)]).setRow (w.heap.size + 1) #[.int .u64 (hiN r), .int .u64 (loN r)]) ∧
    Blk T (w.heap.size + 1) r ((((w.alloc (.cells #[.int .u64 0, .int .u64 0] T)).alloc (.cells #[.int .u64 0, .int .u64 0] T)).setRow w.heap.size #[.int .u64 (hiN q), .int .u64 (loN q)]).setRow (w.heap.size + 1) #[.int .u64 (hiN r), .int .u64 (loN r)]) := by
  obtain ⟨h1, h2⟩ := two_fresh w T
  exact ⟨below_row (below_row (below_two w _ _) (Nat.le_refl _) _) (Nat.le_succ _) _, row_other _ (setRow_heap _ _ _ _ _ _ h1) (by omega), setRow_heap _ _ _ _ _ _ (second_fresh _ h2)⟩
/-- The blocks while a greatest divisor is looked for. -/
structure CmR (T : TypeId) (w0 : World) (gb g0 a b : Nat) (wr : World) : Prop where
  below : Below w0.heap.size w0 wr
  ne : w0.heap.size < gb ∧ gb < g0
  ha : Blk T w0.heap.size a wr
  hb : Blk T gb b wr
  h0 : wr.heap[g0]? = some (.cells #[.int .u64 0, .int .u64 0] T)
section
variable {T : TypeId} {w0 wr w' : World} {gb g0 a b : Nat}
theorem CmR.step (h : CmR T w0 gb g0 a b wr) (hb : Below wr.heap.size wr w') : CmR T w0 gb g0 a b w' :=
  ⟨h.below.trans (hb.mono h.below.size), h.ne, h.ha.below hb, h.hb.below hb, (hb.block _ (heap_lt2 h.h0)).trans h.h0⟩
theorem CmR.setA (h : CmR T w0 gb g0 a b wr) (x : Nat) : CmR T w0 gb g0 x b (wr.setRow w0.heap.size #[.int .u64 (hiN x), .int .u64 (loN x)]) := by
  have hn := h.ne
  exact ⟨below_row h.below (Nat.le_refl _) _, hn, setRow_heap _ _ _ _ _ _ h.ha, row_other _ h.hb (by omega), row_other _ h.h0 (by omega)⟩
theorem CmR.setB (h : CmR T w0 gb g0 a b wr) (x : Nat) : CmR T w0 gb g0 a x (wr.setRow gb #[.int .u64 (hiN x), .int .u64 (loN x)]) := by
  have hn := h.ne
  exact ⟨below_row h.below (by omega) _, hn, row_other _ h.ha (by omega), setRow_heap _ _ _ _ _ _ h.hb, row_other _ h.h0 (by omega)⟩
theorem CmR.cells (h : CmR T w0 gb g0 a b wr) (x y : Nat) : CmR T w0 gb g0 x y ((((wr.setCell ⟨w0.heap.size, 0, none⟩ (.int .u64 (hiN x))).setCell ⟨w0.heap.size, 1, none⟩ (.int .u64 (loN x))).setCell ⟨gb, 0, none⟩ (.int .u64 (hiN y))).setCell ⟨gb, 1, none⟩ (.int .u64 (loN y))).drew := by
  have hn := h.ne
  refine ⟨Below.drew ((((h.below.setCell (p := ⟨w0.heap.size, 0, none⟩) (Nat.le_refl _) _).setCell (p := ⟨w0.heap.size, 1, none⟩) (Nat.le_refl _) _).setCell (p := ⟨gb, 0, none⟩) (by show w0.heap.size ≤ gb; omega) _).setCell (p := ⟨gb, 1, none⟩) (by show w0.heap.size ≤ gb; omega) _), hn, ?_, ?_, ?_⟩
  · exact heap_other _ (heap_other _ (cell_set (cell_set h.ha (.int .u64 (hiN x))).1 (.int .u64 (loN x))).2 (by omega)) (by omega)
  · exact (cell_set (cell_set (heap_other _ (heap_other _ h.hb (by omega)) (by omega)) (.int .u64 (hiN y))).1 (.int .u64 (loN y))).2
  · exact heap_other _ (heap_other _ (heap_other _ (heap_other _ h.h0 (by omega)) (by omega)) (by omega)) (by omega)
theorem CmR.cells' (h : CmR T w0 gb g0 a b wr) (x y : Nat) : CmR T w0 gb g0 x y ((((wr.setCell ⟨gb, 0, none⟩ (.int .u64 (hiN y))).setCell ⟨gb, 1, none⟩ (.int .u64 (loN y))).setCell ⟨w0.heap.size, 0, none⟩ (.int .u64 (hiN x))).setCell ⟨w0.heap.size, 1, none⟩ (.int .u64 (loN x))).drew := by
  have hn := h.ne
  refine ⟨Below.drew ((((h.below.setCell (p := ⟨gb, 0, none⟩) (by show w0.heap.size ≤ gb; omega) _).setCell (p := ⟨gb, 1, none⟩) (by show w0.heap.size ≤ gb; omega) _).setCell (p := ⟨w0.heap.size, 0, none⟩) (Nat.le_refl _) _).setCell (p := ⟨w0.heap.size, 1, none⟩) (Nat.le_refl _) _), hn, ?_, ?_, ?_⟩
  · exact (cell_set (cell_set (heap_other _ (heap_other _ h.ha (by omega)) (by omega)) (.int .u64 (hiN x))).1 (.int .u64 (loN x))).2
  · exact heap_other _ (heap_other _ (cell_set (cell_set h.hb (.int .u64 (hiN y))).1 (.int .u64 (loN y))).2 (by omega)) (by omega)
  · exact heap_other _ (heap_other _ (heap_other _ (heap_other _ h.h0 (by omega)) (by omega)) (by omega)) (by omega)
end
theorem CmR.made (T : TypeId) (w : World) (a b : Nat) : CmR T w (w.heap.size + 1) (w.heap.size + 1 + 1) a b
    (((w.alloc (.cells #[.int .u64 (hiN a), .int .u64 (loN a)] T)).alloc (.cells #[.int .u64 (hiN b), .int .u64 (loN b)] T)).alloc (.cells #[.int .u64 0, .int .u64 0] T)) := by
  have hz : ∀ (w : World) (o : Obj), (w.alloc o).heap.size = w.heap.size + 1 := fun w o => by simp
  refine ⟨below_three _ _ _ _, by omega, ?_, ?_, ?_⟩
  · show _ = _
    iterate 2 rw [heap_alloc_old _ _ (by simp only [hz]; omega)]
    exact heap_alloc_new _ _
  · show _ = _
    rw [heap_alloc_old _ _ (by simp only [hz]; omega)]
    rw [← hz w (.cells #[.int .u64 (hiN a), .int .u64 (loN a)] T)]
    exact heap_alloc_new _ _
  · have h := heap_alloc_new ((w.alloc (.cells #[.int .u64 (hiN a), .int .u64 (loN a)] T)).alloc (.cells #[.int .u64 (hiN b), .int .u64 (loN b)] T)) (.cells #[.int .u64 0, .int .u64 0] T)
    simp only [hz] at h
    exact h

set_option maxRecDepth 100000 in
set_option maxHeartbeats 4000000 in
theorem common_any (a b : Nat) (ha : a ≤ 170141183460469231731687303715884105728) (hb : b ≤ 170141183460469231731687303715884105728) (w : World) :
    Calls Tryz.prog 86 #[szV a, szV b] w fun e w' => e = .returned (szV (Nat.gcd a b)) ∧ Below w.heap.size w w' := by
  obtain ⟨G, hG⟩ : ∃ G, G = Nat.gcd a b := ⟨_, rfl⟩
  rw [← hG]
  have HG := Lib.hid hG
  have HA := Lib.hid (And.intro ha hb)
  clear ha hb hG
  unfold szV
  go_enter Tryz.func86, Tryz.ntmps86
  go_upto_block 0 with fail
  have HO := Lib.hid (CmR.made 90 w a b)
  generalize (((w.alloc (.cells #[.int .u64 (hiN a), .int .u64 (loN a)] 90)).alloc (.cells #[.int .u64 (hiN b), .int .u64 (loN b)] 90)).alloc (.cells #[.int .u64 0, .int .u64 0] 90)) = w1 at *
  obtain ⟨g0, hg0⟩ : ∃ g, g = w.heap.size + 1 + 1 := ⟨_, rfl⟩
  rw [← hg0] at HO ⊢
  obtain ⟨gb, hgb⟩ : ∃ g, g = w.heap.size + 1 := ⟨_, rfl⟩
  rw [← hgb] at HO ⊢
  clear hg0 hgb
  go_wp2
  go_loopg [5] b (fun g v wr => ∃ x y : Nat, Hid (CmR 90 w gb g0 x y wr) ∧ Hid (g = y ∧ G = Nat.gcd x y ∧ x ≤ 170141183460469231731687303715884105728 ∧ y ≤ 170141183460469231731687303715884105728))
  case atStart => exact ⟨a, b, HO.out, rfl, HG.out, HA.out.1, HA.out.2⟩
  case round =>
    obtain ⟨x, y, HV, HP⟩ := hrel
    go_wp2_with (refine wpList_load_row rfl 90 _ rfl gb rfl 90 _ (0, 0) _ HV.out.hb Tryz.underlying90 rfl (by kernel_rfl) ?_)
    refine (szero_any y _).mono ?_
    rintro e w2 ⟨rfl, hb2⟩
    have HV2 := Lib.hid (HV.out.step hb2)
    clear hb2 HV
    by_cases hy : y = 0
    · rw [decide_eq_true hy]
      have h := HP.out.2.1
      rw [hy, Nat.gcd_zero_right] at h
      subst h
      clear hy
      go_wp2_with (first | (refine wpList_load_row rfl 90 _ rfl w.heap.size rfl 90 _ (0, 0) _ HV2.out.ha Tryz.underlying90 rfl (by kernel_rfl) ?_) | (refine wpList_store_row rfl 90 _ _ rfl g0 _ rfl rfl 90 _ HV2.out.h0 (by kernel_rfl) rfl (by kernel_rfl) ?_))
      refine bodyPost_ret (results_cell_row (fn := Tryz.f86) rfl _ _ g0 _ _ _ _ rfl (setRow_heap _ _ _ _ _ _ HV2.out.h0) Tryz.underlying90 rfl (by kernel_rfl)) rfl ?_
      exact ⟨rfl, below_row HV2.out.below (by have := HV2.out.ne; omega) _⟩
    · rw [decide_eq_false hy]
      go_wp2_with (first | (refine wpList_load_row rfl 90 _ rfl w.heap.size rfl 90 _ (0, 0) _ HV2.out.ha Tryz.underlying90 rfl (by kernel_rfl) ?_) | (refine wpList_load_row rfl 90 _ rfl gb rfl 90 _ (0, 0) _ HV2.out.hb Tryz.underlying90 rfl (by kernel_rfl) ?_))
      refine (over_any x y (by have h := HP.out; omega) (by omega) (by have h := HP.out; omega) _).mono ?_
      rintro e w3 ⟨rfl, hb2⟩
      have HV3 := Lib.hid (HV2.out.step hb2)
      clear hb2 HV2
      rw [show szV (x / y) = .agg #[.int .u64 (hiN (x / y)), .int .u64 (loN (x / y))] from rfl, show szV (x % y) = .agg #[.int .u64 (hiN (x % y)), .int .u64 (loN (x % y))] from rfl]
      have HZ := Lib.hid (two_fresh w3 90)
      go_upto_region 3 with (first | (refine wpList_store_row rfl 90 _ _ rfl w3.heap.size _ rfl rfl 90 _ HZ.out.1 (by kernel_rfl) rfl (by kernel_rfl) ?_) | (refine wpList_store_row rfl 90 _ _ rfl (w3.heap.size + 1) _ rfl rfl 90 _ (second_fresh _ HZ.out.2) (by kernel_rfl) rfl (by kernel_rfl) ?_))
      obtain ⟨pb, p1, p2⟩ := pair_stored w3 90 (x / y) (x % y)
      have HV4 := Lib.hid (HV3.out.step pb)
      have HR := Lib.hid p2
      have hlt : gb < w3.heap.size := HV3.out.hb.lt
      have hla : w.heap.size < w3.heap.size := HV3.out.ha.lt
      clear pb p1 p2 HZ HV3
      generalize (((w3.alloc (.cells #[.int .u64 0, .int .u64 0] 90)).alloc (.cells #[.int .u64 0, .int .u64 0] 90)).setRow w3.heap.size #[.int .u64 (hiN (x / y)), .int .u64 (loN (x / y))]).setRow (w3.heap.size + 1) #[.int .u64 (hiN (x % y)), .int .u64 (loN (x % y))] = w4 at *
      have hne := HV4.out.ne
      obtain ⟨gr, hgr⟩ : ∃ g, g = w3.heap.size + 1 := ⟨_, rfl⟩
      rw [← hgr] at HR ⊢
      have n1 : w.heap.size ≠ gb := by omega
      have n2 : w.heap.size ≠ gr := by omega
      have n3 : gb ≠ gr := by omega
      obtain ⟨a1, a2, a3, a4⟩ := cell_two HV4.out.ha
      obtain ⟨b1, b2, b3, b4⟩ := cell_two HV4.out.hb
      obtain ⟨r1, r2, r3, r4⟩ := cell_two HR.out
      have HN := Lib.hid (And.intro (HV4.out.cells y (x % y)) (HV4.out.cells' y (x % y)))
      have HQ := Lib.hid (show G = Nat.gcd y (x % y) ∧ x % y < y from ⟨by rw [HP.out.2.1, Nat.gcd_comm x y, Nat.gcd_rec y x, Nat.gcd_comm], Nat.mod_lt _ (by omega)⟩)
      clear hgr hne hlt hla HV4 HR
      go_region
      all_goals
        clear n1 n2 n3 a1 a2 a3 a4 b1 b2 b3 b4 r1 r2 r3 r4
        go_wp2
        go_roundg (x % y)
        case measure => have h := HP.out; have h2 := HQ.out; omega
        case rel => exact ⟨y, x % y, by first | exact HN.out.1 | exact HN.out.2, rfl, HQ.out.1, by have h := HP.out; omega, by have h := HP.out; have h2 := HQ.out; omega⟩

end Go.Proofs.YtmelblnflalanaaGreat
