/- Texts of ours, laid together: Va, Vb, Vc, Vd, Ja, Mat, Jc. -/
import Derived.Test.YtfegongaflekiaaProg
import Derived.WalkKit
/- Numbers of 128 bits in two words, and fractions: plain. -/
namespace Go.Proofs.Ytfegongaflekiaa
open Go Go.RowKit
set_option linter.unusedVariables false
set_option linter.unusedSimpArgs false

/-! ### words -/
theorem bv64 (x : Nat) (h : x < 18446744073709551616) : (BitVec.ofInt 64 (x : Int)).toNat = x := by
  rw [BitVec.toNat_ofInt]
  omega
theorem or_u64 (x y : Nat) (hx : x < 18446744073709551616) (hy : y < 18446744073709551616) : bits .or .u64 (x : Int) (y : Int) = ((x ||| y : Nat) : Int) := by
  show IntKind.u64.wrap (((BitVec.ofInt 64 (x : Int) ||| BitVec.ofInt 64 (y : Int)).toNat : Nat) : Int) = _
  rw [BitVec.toNat_or, bv64 x hx, bv64 y hy, IntKind.wrap_u64]
  have := Nat.or_lt_two_pow (n := 64) hx hy
  omega
theorem and_one_u64 (x : Nat) (hx : x < 18446744073709551616) : bits .and .u64 (x : Int) 1 = ((x % 2 : Nat) : Int) := by
  show IntKind.u64.wrap (((BitVec.ofInt 64 (x : Int) &&& BitVec.ofInt 64 ((1 : Nat) : Int)).toNat : Nat) : Int) = _
  rw [BitVec.toNat_and, bv64 x hx, bv64 1 (by omega), IntKind.wrap_u64, Nat.and_one_is_mod]
  omega
theorem or_low (a b i : Nat) (h : b < 2 ^ i) : (2 ^ i * a) ||| b = 2 ^ i * a + b := (Nat.two_pow_add_eq_or_of_lt h a).symm
theorem or_even (a c : Nat) (h : c < 2) : (2 * a) ||| c = 2 * a + c := by
  have := or_low a c 1 (by omega)
  simpa using this
/-- Twice a word and the next bit. -/
theorem or_bit (a c : Nat) (ha : a < 9223372036854775808) (hc : c < 2) : bits .or .u64 ((2 * a : Nat) : Int) (c : Int) = ((2 * a + c : Nat) : Int) := by
  rw [or_u64 _ _ (by omega) (by omega), or_even a c hc]
def hiN (n : Nat) : Int := ((n / 18446744073709551616 : Nat) : Int)
def loN (n : Nat) : Int := ((n % 18446744073709551616 : Nat) : Int)
theorem hi_range {n : Nat} (h : n < 340282366920938463463374607431768211456) : 0 ≤ hiN n ∧ hiN n ≤ 18446744073709551615 := by unfold hiN; omega
theorem lo_range (n : Nat) : 0 ≤ loN n ∧ loN n ≤ 18446744073709551615 := by unfold loN; omega
theorem hi_lo (n : Nat) : (n : Int) = hiN n * 18446744073709551616 + loN n := by unfold hiN loN; omega
theorem hilo_eq {n m : Nat} : (hiN n = hiN m ∧ loN n = loN m) ↔ n = m := ⟨fun ⟨h, h'⟩ => by have := hi_lo n; have := hi_lo m; omega, fun h => by subst h; exact ⟨rfl, rfl⟩⟩
theorem hilo_zero {n : Nat} : (hiN n = 0 ∧ loN n = 0) ↔ n = 0 := ⟨fun ⟨h, h'⟩ => by have := hi_lo n; omega, fun h => by subst h; exact ⟨rfl, rfl⟩⟩
theorem hi_zero : hiN 0 = 0 := rfl
theorem lo_zero : loN 0 = 0 := rfl
theorem small_hi {n : Nat} (h : n < 18446744073709551616) : hiN n = 0 := by unfold hiN; omega
theorem small_lo {n : Nat} (h : n < 18446744073709551616) : loN n = (n : Int) := by unfold loN; omega

/-! ### sums and differences of two words -/
def borN (x y : Int) : Int := if x < y then 1 else 0
theorem bor_range (x y : Int) : 0 ≤ borN x y ∧ borN x y ≤ 1 := by unfold borN; split <;> omega
theorem plus_lo (s t : Nat) : (loN s + loN t) % 18446744073709551616 = loN (s + t) := by unfold loN; omega
theorem plus_hi (s t : Nat) (h : s + t < 340282366920938463463374607431768211456) : (hiN s + hiN t + (loN s + loN t) / 18446744073709551616) % 18446744073709551616 = hiN (s + t) := by unfold hiN loN; omega
theorem less_lo (s t : Nat) (h : t ≤ s) : (loN s - loN t) % 18446744073709551616 = loN (s - t) := by unfold loN; omega
theorem less_hi (s t : Nat) (h : t ≤ s) (hs : s < 340282366920938463463374607431768211456) : (hiN s - hiN t - borN (loN s) (loN t)) % 18446744073709551616 = hiN (s - t) := by unfold hiN loN borN; split <;> omega
/-- Which of two numbers is greater. -/
def cmpN (s t : Nat) : Int := if s < t then -1 else if s = t then 0 else 1
def cmpW (x y : Int) : Int := if x < y then -1 else if y < x then 1 else 0
theorem cmpN_is (s t : Nat) : cmpN s t = if cmpW (hiN s) (hiN t) = 0 then cmpW (loN s) (loN t) else cmpW (hiN s) (hiN t) := by
  have h1 := hi_lo s
  have h2 := hi_lo t
  have h3 := lo_range s
  have h4 := lo_range t
  unfold cmpN cmpW
  generalize hiN s = a at *
  generalize hiN t = b at *
  generalize loN s = c at *
  generalize loN t = d at *
  by_cases e1 : a < b
  · rw [if_pos (by omega), if_pos e1, if_neg (by decide)]
  · by_cases e2 : b < a
    · rw [if_neg (by omega), if_neg (by omega), if_neg e1, if_pos e2, if_neg (by decide)]
    · rw [if_neg e1, if_neg e2, if_pos rfl]
      by_cases e3 : c < d
      · rw [if_pos (by omega), if_pos e3]
      · by_cases e4 : d < c
        · rw [if_neg (by omega), if_neg (by omega), if_neg e3, if_pos e4]
        · rw [if_neg (by omega), if_pos (by omega), if_neg e3, if_neg e4]
/-! ### one step of the division -/
theorem shl_lo (r : Nat) : (loN r * 2) % 18446744073709551616 = loN (2 * r) := by unfold loN; omega
theorem shl_hi (r : Nat) (h : r < 170141183460469231731687303715884105728) : bits .or .u64 (hiN r * 2) (loN r / 9223372036854775808) = hiN (2 * r) := by
  have e1 : hiN r * 2 = ((2 * (r / 18446744073709551616) : Nat) : Int) := by unfold hiN; omega
  have e2 : loN r / 9223372036854775808 = ((r % 18446744073709551616 / 9223372036854775808 : Nat) : Int) := by unfold loN; omega
  rw [e1, e2, or_bit _ _ (by omega) (by omega)]
  unfold hiN
  omega
theorem low_bit (r c : Nat) (hc : c < 2) : bits .or .u64 (loN (2 * r)) (c : Int) = loN (2 * r + c) ∧ hiN (2 * r) = hiN (2 * r + c) := by
  have e1 : loN (2 * r) = ((2 * (r % 9223372036854775808) : Nat) : Int) := by unfold loN; omega
  rw [e1, or_bit _ _ (by omega) hc]
  unfold loN hiN
  omega
theorem pow_split (i : Nat) (h : 64 ≤ i) : (2 : Nat) ^ i = 18446744073709551616 * 2 ^ (i - 64) := by
  rw [show (18446744073709551616 : Nat) = 2 ^ 64 by decide, ← Nat.pow_add, show 64 + (i - 64) = i by omega]
theorem pow_small (i : Nat) (h : i < 64) : (2 : Nat) ^ i ≤ 9223372036854775808 := by
  have := Nat.pow_le_pow_right (n := 2) (by omega) (show i ≤ 63 by omega)
  simpa using this
/-- The quotient's bit i, in the upper word. -/
theorem set_hi (Q i : Nat) (hi : 64 ≤ i) (hi2 : i < 128) (hq : Q * 2 ^ (i + 1) + 2 ^ i < 340282366920938463463374607431768211456) :
    bits .or .u64 (hiN (Q * 2 ^ (i + 1))) ((2 ^ (i - 64) : Nat) : Int) = hiN (Q * 2 ^ (i + 1) + 2 ^ i) ∧ loN (Q * 2 ^ (i + 1)) = loN (Q * 2 ^ (i + 1) + 2 ^ i) := by
  have e1 : Q * 2 ^ (i + 1) = 18446744073709551616 * (2 ^ (i - 64 + 1) * Q) := by
    rw [pow_split (i + 1) (by omega), show i + 1 - 64 = i - 64 + 1 by omega, Nat.mul_comm Q, Nat.mul_assoc]
  have e2 := pow_split i hi
  have e3 := pow_small (i - 64) (by omega)
  have e4 : (2 : Nat) ^ (i - 64) < 2 ^ (i - 64 + 1) := Nat.pow_lt_pow_right (by omega) (by omega)
  have h_or := or_low Q (2 ^ (i - 64)) (i - 64 + 1) e4
  rw [e1, e2] at hq ⊢
  generalize 2 ^ (i - 64 + 1) * Q = X at hq h_or ⊢
  generalize 2 ^ (i - 64) = Y at hq h_or e3 ⊢
  have hx : hiN (18446744073709551616 * X) = (X : Int) := by unfold hiN; omega
  rw [hx, or_u64 X Y (by omega) (by omega), h_or]
  unfold hiN loN
  omega
/-- The quotient's bit i, in the lower word. -/
theorem set_lo (Q i : Nat) (hi : i < 64) :
    bits .or .u64 (loN (Q * 2 ^ (i + 1))) ((2 ^ i : Nat) : Int) = loN (Q * 2 ^ (i + 1) + 2 ^ i) ∧ hiN (Q * 2 ^ (i + 1)) = hiN (Q * 2 ^ (i + 1) + 2 ^ i) := by
  have e0 : (18446744073709551616 : Nat) = 2 ^ (i + 1) * 2 ^ (63 - i) := by
    rw [← Nat.pow_add, show i + 1 + (63 - i) = 64 by omega]
  have e1 : Q * 2 ^ (i + 1) % 18446744073709551616 = 2 ^ (i + 1) * (Q % 2 ^ (63 - i)) := by
    rw [e0, Nat.mul_comm Q, Nat.mul_mod_mul_left]
  have e3 := pow_small i hi
  have e4 : (2 : Nat) ^ (i + 1) = 2 ^ i + 2 ^ i := by rw [Nat.pow_succ]; omega
  have h_or := or_low (Q % 2 ^ (63 - i)) (2 ^ i) (i + 1) (Nat.pow_lt_pow_right (by omega) (by omega))
  have h5 : Q % 2 ^ (63 - i) + 1 ≤ 2 ^ (63 - i) := Nat.mod_lt _ (Nat.pow_pos (by omega))
  have h6 : 2 ^ (i + 1) * (Q % 2 ^ (63 - i)) + 2 ^ (i + 1) ≤ 18446744073709551616 := by
    have := Nat.mul_le_mul_left (2 ^ (i + 1)) h5
    rw [← e0, Nat.mul_add, Nat.mul_one] at this
    exact this
  rw [← e1] at h_or h6
  have h6 : Q * 2 ^ (i + 1) % 18446744073709551616 + (2 ^ i + 2 ^ i) ≤ 18446744073709551616 := Nat.le_trans (Nat.le_of_eq (by rw [← e4])) h6
  generalize Q * 2 ^ (i + 1) = q at h_or h6 ⊢
  have hp : 0 < (2 : Nat) ^ i := Nat.pow_pos (by omega)
  generalize (2 : Nat) ^ i = Y at h_or h6 e3 hp ⊢
  have hl : loN q = ((q % 18446744073709551616 : Nat) : Int) := rfl
  rw [hl, or_u64 _ Y (by omega) (by omega), h_or]
  unfold hiN loN
  omega

/-! ### division by shifting -/
/-- Bit i of a number. -/
def bitN (s i : Nat) : Nat := s / 2 ^ i % 2
/-- What is held above bit i: how often the divisor goes into it, and what is left. -/
theorem div_step (s t i : Nat) (ht : 0 < t) : s / 2 ^ i = 2 * (s / 2 ^ (i + 1)) + bitN s i := by
  unfold bitN
  rw [Nat.pow_succ, ← Nat.div_div_eq_div_mul]
  omega
theorem rem_step (s t i : Nat) (ht : 0 < t) :
    let r := 2 * (s / 2 ^ (i + 1) % t) + bitN s i
    (r < t → s / 2 ^ i % t = r ∧ s / 2 ^ i / t = 2 * (s / 2 ^ (i + 1) / t)) ∧ (¬ r < t → s / 2 ^ i % t = r - t ∧ s / 2 ^ i / t = 2 * (s / 2 ^ (i + 1) / t) + 1) := by
  intro r
  have hb : bitN s i < 2 := Nat.mod_lt _ (by omega)
  have h1 := Nat.div_add_mod (s / 2 ^ (i + 1)) t
  have h2 := Nat.mod_lt (s / 2 ^ (i + 1)) ht
  have h0 := div_step s t i ht
  have e : s / 2 ^ i = t * (2 * (s / 2 ^ (i + 1) / t)) + r := by
    rw [h0]
    show _ = _ + (2 * (s / 2 ^ (i + 1) % t) + bitN s i)
    rw [Nat.mul_left_comm t 2]
    omega
  constructor
  · intro hr
    rw [e]
    exact ⟨by rw [Nat.mul_add_mod, Nat.mod_eq_of_lt hr], by rw [Nat.mul_add_div ht, Nat.div_eq_of_lt hr, Nat.add_zero]⟩
  · intro hr
    have e2 : s / 2 ^ i = t * (2 * (s / 2 ^ (i + 1) / t) + 1) + (r - t) := by rw [e, Nat.mul_add]; omega
    have hr2 : r - t < t := by
      show 2 * (s / 2 ^ (i + 1) % t) + bitN s i - t < t
      omega
    rw [e2]
    exact ⟨by rw [Nat.mul_add_mod, Nat.mod_eq_of_lt hr2], by rw [Nat.mul_add_div ht, Nat.div_eq_of_lt hr2, Nat.add_zero]⟩
theorem bit_high (s i : Nat) (hi : 64 ≤ i) : bitN s i = s / 18446744073709551616 / 2 ^ (i - 64) % 2 := by
  unfold bitN
  rw [Nat.div_div_eq_div_mul, show (18446744073709551616 : Nat) = 2 ^ 64 by decide, ← Nat.pow_add, show 64 + (i - 64) = i by omega]
theorem bit_low (s i : Nat) (hi : i < 64) : bitN s i = s % 18446744073709551616 / 2 ^ i % 2 := by
  unfold bitN
  have e : (18446744073709551616 : Nat) = 2 ^ i * (2 * 2 ^ (63 - i)) := by
    rw [show 2 * 2 ^ (63 - i) = 2 ^ (64 - i) by rw [show 64 - i = (63 - i) + 1 by omega, Nat.pow_succ]; omega, ← Nat.pow_add, show i + (64 - i) = 64 by omega]
  rw [e, Nat.mod_mul_right_div_self, Nat.mod_mul_right_mod]

/-! ### fractions -/
def fitsI (x : Int) : Bool := decide (-9223372036854775808 ≤ x ∧ x ≤ 9223372036854775807)
/-- The whole number of a sign and a size. -/
def sgnI (neg : Bool) (n : Nat) : Int := if neg then -(n : Int) else n
/-- The fraction of two numbers in lowest terms, or the error. -/
def fracP (X D : Int) : (Int × Int) × Int :=
  if fitsI (sgnI (decide (X < 0) != decide (D < 0)) (X.natAbs / Nat.gcd X.natAbs D.natAbs)) = true ∧ D.natAbs / Nat.gcd X.natAbs D.natAbs ≤ 9223372036854775807 then
    ((sgnI (decide (X < 0) != decide (D < 0)) (X.natAbs / Nat.gcd X.natAbs D.natAbs), ((D.natAbs / Nat.gcd X.natAbs D.natAbs : Nat) : Int)), 0)
  else ((0, 0), 20)
def newP (n d : Int) : (Int × Int) × Int := if d = 0 then ((0, 0), 21) else fracP n d
/-- A fraction in lowest terms. -/
def rightR (r : Int × Int) : Bool := decide (0 < r.2 ∧ Nat.gcd r.1.natAbs r.2.natAbs = 1)
def addP (a b : Int × Int) : (Int × Int) × Int := if rightR a && rightR b then fracP (a.1 * b.2 + b.1 * a.2) (a.2 * b.2) else ((0, 0), 7)
def subP (a b : Int × Int) : (Int × Int) × Int := if rightR a && rightR b then fracP (a.1 * b.2 - b.1 * a.2) (a.2 * b.2) else ((0, 0), 7)
def mulP (a b : Int × Int) : (Int × Int) × Int := if rightR a && rightR b then fracP (a.1 * b.1) (a.2 * b.2) else ((0, 0), 7)
def divP (a b : Int × Int) : (Int × Int) × Int := if rightR a && rightR b then (if b.1 = 0 then ((0, 0), 21) else fracP (a.1 * b.2) (a.2 * b.1)) else ((0, 0), 7)
def cmpQI (x : Int) : Int := if x < 0 then -1 else if x = 0 then 0 else 1
def cmpP (a b : Int × Int) : Int := if rightR a && rightR b then cmpQI (a.1 * b.2 - b.1 * a.2) else 0
theorem right_frac {r : Int × Int} (h : rightR r = true) (hn : fitsI r.1 = true) (hd : r.2 ≤ 9223372036854775807) : fracP r.1 r.2 = (r, 0) := by
  obtain ⟨h0, h1⟩ := of_decide_eq_true h
  have e : sgnI (decide (r.1 < 0) != decide (r.2 < 0)) (r.1.natAbs / 1) = r.1 := by
    rw [Nat.div_one, show decide (r.2 < 0) = false from decide_eq_false (by omega)]
    unfold sgnI
    by_cases h : r.1 < 0
    · simp [h]; omega
    · simp [h]; omega
  have e2 : ((r.2.natAbs / 1 : Nat) : Int) = r.2 := by rw [Nat.div_one]; omega
  unfold fracP
  rw [h1, e, e2, if_pos ⟨hn, by omega⟩]
/-- What fracP tells is right. -/
theorem frac_right {X D : Int} (hD : D ≠ 0) (h : (fracP X D).2 = 0) : rightR (fracP X D).1 = true ∧ fitsI (fracP X D).1.1 = true ∧ (fracP X D).1.2 ≤ 9223372036854775807 := by
  unfold fracP at h ⊢
  by_cases hc : fitsI (sgnI (decide (X < 0) != decide (D < 0)) (X.natAbs / Nat.gcd X.natAbs D.natAbs)) = true ∧ D.natAbs / Nat.gcd X.natAbs D.natAbs ≤ 9223372036854775807
  · rw [if_pos hc]
    have hg : 0 < Nat.gcd X.natAbs D.natAbs := Nat.gcd_pos_of_pos_right _ (by omega)
    have hd : 0 < D.natAbs / Nat.gcd X.natAbs D.natAbs := Nat.div_pos (Nat.le_of_dvd (by omega) (Nat.gcd_dvd_right _ _)) hg
    refine ⟨decide_eq_true ⟨by show 0 < ((D.natAbs / Nat.gcd X.natAbs D.natAbs : Nat) : Int); omega, ?_⟩, hc.1, by show ((D.natAbs / Nat.gcd X.natAbs D.natAbs : Nat) : Int) ≤ _; omega⟩
    have e : (sgnI (decide (X < 0) != decide (D < 0)) (X.natAbs / Nat.gcd X.natAbs D.natAbs)).natAbs = X.natAbs / Nat.gcd X.natAbs D.natAbs := by
      unfold sgnI
      split
      · rw [Int.natAbs_neg, Int.natAbs_natCast]
      · rw [Int.natAbs_natCast]
    show Nat.gcd (sgnI (decide (X < 0) != decide (D < 0)) (X.natAbs / Nat.gcd X.natAbs D.natAbs)).natAbs (((D.natAbs / Nat.gcd X.natAbs D.natAbs : Nat) : Int)).natAbs = 1
    rw [e, Int.natAbs_natCast]
    rw [Nat.gcd_div (Nat.gcd_dvd_left _ _) (Nat.gcd_dvd_right _ _)]
    exact Nat.div_self hg
  · rw [if_neg hc] at h
    exact absurd h (by decide)
/-- The same fraction: by cross products. -/
theorem gcd_one_dvd {a b : Nat} (h : Nat.gcd a b = 1) (c : Nat) (hd : b ∣ a * c) : b ∣ c := (Nat.Coprime.dvd_of_dvd_mul_left (Nat.Coprime.symm h) hd)

end Go.Proofs.Ytfegongaflekiaa

/- Fractions in lowest terms: plain laws. -/
namespace Go.Proofs.Ytfegongaflekiaa
set_option linter.unusedVariables false
set_option linter.unusedSimpArgs false

/-- The fraction of a sign and two sizes. -/
def fracS (neg : Bool) (n d : Nat) : (Int × Int) × Int :=
  if fitsI (sgnI neg (n / Nat.gcd n d)) = true ∧ d / Nat.gcd n d ≤ 9223372036854775807 then ((sgnI neg (n / Nat.gcd n d), ((d / Nat.gcd n d : Nat) : Int)), 0) else ((0, 0), 20)
theorem frac_is (X D : Int) : fracP X D = fracS (decide (X < 0) != decide (D < 0)) X.natAbs D.natAbs := rfl
theorem sgn_zero (b : Bool) : sgnI b 0 = 0 := by cases b <;> rfl
theorem sgn_abs (X : Int) : sgnI (decide (X < 0)) X.natAbs = X := by
  unfold sgnI
  by_cases h : X < 0
  · simp [h]; omega
  · simp [h]; omega
theorem abs_sgn (b : Bool) (n : Nat) : (sgnI b n).natAbs = n := by cases b <;> simp [sgnI]
theorem fracS_zero (b b' : Bool) (d : Nat) : fracS b 0 d = fracS b' 0 d := by unfold fracS; rw [Nat.zero_div, sgn_zero, sgn_zero]
theorem frac_sgn (neg : Bool) (n d : Nat) (hd : 0 < d) : fracS neg n d = fracP (sgnI neg n) d := by
  rw [frac_is, abs_sgn, Int.natAbs_natCast, show decide ((d : Int) < 0) = false from decide_eq_false (by omega)]
  by_cases h : n = 0
  · subst h; exact fracS_zero _ _ _
  · have e : decide (sgnI neg n < 0) = neg := by
      cases neg
      · exact decide_eq_false (by show ¬ ((n : Int) < 0); omega)
      · exact decide_eq_true (by show -(n : Int) < 0; omega)
    rw [e]
    cases neg <;> rfl
/-- What the fraction is worth. -/
theorem frac_value {X D : Int} (hD : D ≠ 0) (h : (fracP X D).2 = 0) : (fracP X D).1.1 * D = X * (fracP X D).1.2 := by
  unfold fracP at h ⊢
  by_cases hc : fitsI (sgnI (decide (X < 0) != decide (D < 0)) (X.natAbs / Nat.gcd X.natAbs D.natAbs)) = true ∧ D.natAbs / Nat.gcd X.natAbs D.natAbs ≤ 9223372036854775807
  · rw [if_pos hc]
    have hg : 0 < Nat.gcd X.natAbs D.natAbs := Nat.gcd_pos_of_pos_right _ (by omega)
    obtain ⟨n, hn⟩ := Nat.gcd_dvd_left X.natAbs D.natAbs
    obtain ⟨d, hd⟩ := Nat.gcd_dvd_right X.natAbs D.natAbs
    have e1 : X.natAbs / Nat.gcd X.natAbs D.natAbs = n := by rw [Nat.div_eq_of_eq_mul_right hg hn]
    have e2 : D.natAbs / Nat.gcd X.natAbs D.natAbs = d := by rw [Nat.div_eq_of_eq_mul_right hg hd]
    rw [e1, e2]
    show sgnI (decide (X < 0) != decide (D < 0)) n * D = X * (d : Int)
    generalize Nat.gcd X.natAbs D.natAbs = g at *
    have hX : (X.natAbs : Int) = (g : Int) * n := by rw [hn]; simp
    have hDn : (D.natAbs : Int) = (g : Int) * d := by rw [hd]; simp
    have key : (n : Int) * ((g : Int) * d) = (g : Int) * n * d := by rw [← Int.mul_assoc, Int.mul_comm (n : Int) g]
    by_cases hx : X < 0 <;> by_cases hdd : D < 0
    · have ex : X = -((g : Int) * n) := by omega
      have ed : D = -((g : Int) * d) := by omega
      simp only [hx, hdd, decide_true, bne_self_eq_false, sgnI]
      rw [ex, ed]
      simp only [Bool.false_eq_true, if_false, Int.mul_neg, Int.neg_mul]
      rw [key]
    · have ex : X = -((g : Int) * n) := by omega
      have ed : D = (g : Int) * d := by omega
      simp only [hx, hdd, decide_true, decide_false, sgnI, bne_iff_ne, ne_eq, Bool.true_eq_false, not_false_eq_true, if_true]
      rw [ex, ed]
      simp only [Int.mul_neg, Int.neg_mul]
      rw [key]
    · have ex : X = (g : Int) * n := by omega
      have ed : D = -((g : Int) * d) := by omega
      simp only [hx, hdd, decide_true, decide_false, sgnI, bne_iff_ne, ne_eq, Bool.false_eq_true, not_false_eq_true, if_true]
      rw [ex, ed]
      simp only [Int.mul_neg, Int.neg_mul, Int.neg_neg]
      rw [key]
    · have ex : X = (g : Int) * n := by omega
      have ed : D = (g : Int) * d := by omega
      simp only [hx, hdd, decide_false, bne_self_eq_false, sgnI]
      rw [ex, ed]
      simp only [Bool.false_eq_true, if_false]
      rw [key]
  · rw [if_neg hc] at h
    exact absurd h (by decide)
/-- A fraction in lowest terms is what fracP tells of all that are worth as much. -/
theorem frac_of_right {X D : Int} {a : Int × Int} (hD : D ≠ 0) (ha : rightR a = true) (hf : fitsI a.1 = true) (h2 : a.2 ≤ 9223372036854775807) (he : X * a.2 = a.1 * D) : fracP X D = (a, 0) := by
  obtain ⟨h0, h1⟩ := of_decide_eq_true ha
  have hN : X.natAbs * a.2.natAbs = a.1.natAbs * D.natAbs := by rw [← Int.natAbs_mul, ← Int.natAbs_mul, he]
  have hdvd : a.2.natAbs ∣ D.natAbs := gcd_one_dvd h1 D.natAbs ⟨X.natAbs, by rw [← hN, Nat.mul_comm]⟩
  obtain ⟨k, hk⟩ := hdvd
  have ha2 : 0 < a.2.natAbs := by omega
  have hkp : 0 < k := by
    rcases Nat.eq_zero_or_pos k with e | e
    · subst e; omega
    · exact e
  have hX : X.natAbs = a.1.natAbs * k := by
    rw [hk, Nat.mul_left_comm] at hN
    rw [Nat.mul_comm X.natAbs] at hN
    exact Nat.eq_of_mul_eq_mul_left ha2 hN
  have hg : Nat.gcd X.natAbs D.natAbs = k := by rw [hX, hk, Nat.gcd_mul_right, h1, Nat.one_mul]
  have e1 : X.natAbs / k = a.1.natAbs := by rw [hX]; exact Nat.mul_div_cancel _ hkp
  have e2 : D.natAbs / k = a.2.natAbs := by rw [hk]; exact Nat.mul_div_cancel _ hkp
  have es : sgnI (decide (X < 0) != decide (D < 0)) a.1.natAbs = a.1 := by
    by_cases hz : a.1 = 0
    · rw [hz]; exact sgn_zero _
    · have hb : (decide (X < 0) != decide (D < 0)) = decide (a.1 < 0) := by
        have k1 : X < 0 ↔ a.1 * D < 0 := by
          rw [← he]
          constructor
          · exact fun h => Int.mul_neg_of_neg_of_pos h h0
          · intro h
            rcases Int.lt_trichotomy X 0 with e | e | e
            · exact e
            · subst e; rw [Int.zero_mul] at h; exact absurd h (by decide)
            · have := Int.mul_pos e h0; omega
        rcases Int.lt_trichotomy D 0 with hd | hd | hd
        · rcases Int.lt_trichotomy a.1 0 with hn | hn | hn
          · have p1 : 0 < a.1 * D := Int.mul_pos_of_neg_of_neg hn hd
            rw [show decide (X < 0) = false from decide_eq_false (by omega), show decide (D < 0) = true from decide_eq_true hd, show decide (a.1 < 0) = true from decide_eq_true hn]; rfl
          · exact absurd hn hz
          · have p1 : a.1 * D < 0 := Int.mul_neg_of_pos_of_neg hn hd
            rw [show decide (X < 0) = true from decide_eq_true (by omega), show decide (D < 0) = true from decide_eq_true hd, show decide (a.1 < 0) = false from decide_eq_false (by omega)]; rfl
        · exact absurd hd hD
        · rcases Int.lt_trichotomy a.1 0 with hn | hn | hn
          · have p1 : a.1 * D < 0 := Int.mul_neg_of_neg_of_pos hn hd
            rw [show decide (X < 0) = true from decide_eq_true (by omega), show decide (D < 0) = false from decide_eq_false (by omega), show decide (a.1 < 0) = true from decide_eq_true hn]; rfl
          · exact absurd hn hz
          · have p1 : 0 < a.1 * D := Int.mul_pos hn hd
            rw [show decide (X < 0) = false from decide_eq_false (by omega), show decide (D < 0) = false from decide_eq_false (by omega), show decide (a.1 < 0) = false from decide_eq_false (by omega)]; rfl
      rw [hb, sgn_abs]
  unfold fracP
  rw [hg, e1, e2, es, if_pos ⟨hf, by omega⟩]
  rw [show ((a.2.natAbs : Nat) : Int) = a.2 by omega]
theorem right_unique {a b : Int × Int} (ha : rightR a = true) (hb : rightR b = true) (hf : fitsI a.1 = true) (h2 : a.2 ≤ 9223372036854775807) (hg : fitsI b.1 = true) (h3 : b.2 ≤ 9223372036854775807) (he : a.1 * b.2 = b.1 * a.2) : a = b := by
  have hb0 := (of_decide_eq_true hb).1
  have h := frac_of_right (X := a.1) (D := a.2) (a := b) (by have := (of_decide_eq_true ha).1; omega) hb hg h3 he
  rw [right_frac ha hf h2] at h
  exact congrArg Prod.fst h

end Go.Proofs.Ytfegongaflekiaa

/- Fractions by the document, and what it says of sums: plain. -/
namespace Go.Proofs.Ytfegongaflekiaa
set_option linter.unusedVariables false
set_option linter.unusedSimpArgs false

/-! ### the document's answers -/
def heldP (neg : Bool) (n d : Nat) : (Int × Int) × Int := if d = 0 then ((0, 0), 21) else fracS neg n d
theorem held_is (neg : Bool) (n d : Nat) (hd : 0 < d) : heldP neg n d = fracP (sgnI neg n) d := by unfold heldP; rw [if_neg (by omega), frac_sgn _ _ _ hd]
def dnewP (n d : Int) : (Int × Int) × Int := heldP (decide (n < 0) != decide (d < 0)) n.natAbs d.natAbs
theorem dnew_is (n d : Int) : dnewP n d = newP n d := by
  unfold dnewP heldP newP
  by_cases h : d = 0
  · rw [if_pos (by omega), if_pos h]
  · rw [if_neg (by omega), if_neg h, frac_is]
theorem prod_sgn (a b : Int) (hb : 0 ≤ b) : a * b = sgnI (decide (a < 0)) (a.natAbs * b.natAbs) := by
  have e : ((a.natAbs * b.natAbs : Nat) : Int) = (a.natAbs : Int) * b := by
    have h : (b.natAbs : Int) = b := by omega
    rw [Int.natCast_mul, h]
  by_cases h : a < 0
  · simp only [h, decide_true, sgnI, if_true]
    rw [e, show (a.natAbs : Int) = -a by omega, Int.neg_mul, Int.neg_neg]
  · simp only [h, decide_false, sgnI, Bool.false_eq_true, if_false]
    rw [e, show (a.natAbs : Int) = a by omega]
theorem den_sgn (a b : Int) (ha : 0 < a) (hb : 0 < b) : ((a.natAbs * b.natAbs : Nat) : Int) = a * b ∧ 0 < a.natAbs * b.natAbs := by
  have h1 : (a.natAbs : Int) = a := by omega
  have h2 : (b.natAbs : Int) = b := by omega
  exact ⟨by rw [Int.natCast_mul, h1, h2], Nat.mul_pos (by omega) (by omega)⟩
theorem sgn_same (s : Bool) (x y : Nat) : sgnI s x + sgnI s y = sgnI s (x + y) := by cases s <;> simp [sgnI]; omega
theorem sgn_less (s t : Bool) (h : s ≠ t) (x y : Nat) (hxy : x < y) : sgnI s x + sgnI t y = sgnI t (y - x) := by
  cases s <;> cases t <;> first | exact absurd rfl h | (simp [sgnI]; omega)
theorem sgn_more (s t : Bool) (h : s ≠ t) (x y : Nat) (hxy : ¬ x < y) : sgnI s x + sgnI t y = sgnI s (x - y) := by
  cases s <;> cases t <;> first | exact absurd rfl h | (simp [sgnI]; omega)
theorem sgn_neg (s : Bool) (x : Nat) : -sgnI s x = sgnI (!s) x := by cases s <;> simp [sgnI]
/-- A sum of signs and sizes, as the document makes it. -/
def dsumS (s t : Bool) (x y den : Nat) : (Int × Int) × Int := if s = t then heldP s (x + y) den else if x < y then heldP t (y - x) den else heldP s (x - y) den
theorem dsumS_is (s t : Bool) (x y den : Nat) (hd : 0 < den) : dsumS s t x y den = fracP (sgnI s x + sgnI t y) den := by
  unfold dsumS
  by_cases h : s = t
  · subst h; rw [if_pos rfl, held_is _ _ _ hd, sgn_same]
  · rw [if_neg h]
    by_cases hxy : x < y
    · rw [if_pos hxy, held_is _ _ _ hd, sgn_less s t h x y hxy]
    · rw [if_neg hxy, held_is _ _ _ hd, sgn_more s t h x y hxy]
def dsumP (a b : Int × Int) : (Int × Int) × Int := dsumS (decide (a.1 < 0)) (decide (b.1 < 0)) (a.1.natAbs * b.2.natAbs) (b.1.natAbs * a.2.natAbs) (a.2.natAbs * b.2.natAbs)
theorem dsum_is (a b : Int × Int) (ha : 0 < a.2) (hb : 0 < b.2) : dsumP a b = fracP (a.1 * b.2 + b.1 * a.2) (a.2 * b.2) := by
  obtain ⟨e, hd⟩ := den_sgn a.2 b.2 ha hb
  unfold dsumP
  rw [dsumS_is _ _ _ _ _ hd, e, ← prod_sgn a.1 b.2 (by omega), ← prod_sgn b.1 a.2 (by omega)]
def dlessP (a b : Int × Int) : (Int × Int) × Int := dsumS (decide (a.1 < 0)) (!decide (b.1 < 0)) (a.1.natAbs * b.2.natAbs) (b.1.natAbs * a.2.natAbs) (a.2.natAbs * b.2.natAbs)
theorem dless_is (a b : Int × Int) (ha : 0 < a.2) (hb : 0 < b.2) : dlessP a b = fracP (a.1 * b.2 - b.1 * a.2) (a.2 * b.2) := by
  obtain ⟨e, hd⟩ := den_sgn a.2 b.2 ha hb
  unfold dlessP
  rw [dsumS_is _ _ _ _ _ hd, e, ← sgn_neg, ← prod_sgn a.1 b.2 (by omega), ← prod_sgn b.1 a.2 (by omega)]
  rfl
def dmulP (a b : Int × Int) : (Int × Int) × Int := heldP (decide (a.1 < 0) != decide (b.1 < 0)) (a.1.natAbs * b.1.natAbs) (a.2.natAbs * b.2.natAbs)
theorem sgn_mul (a b : Int) : sgnI (decide (a < 0) != decide (b < 0)) (a.natAbs * b.natAbs) = a * b := by
  by_cases h : b < 0
  · have h1 := prod_sgn a (-b) (by omega)
    rw [Int.natAbs_neg] at h1
    have h2 : a * b = -(a * -b) := by rw [Int.mul_neg, Int.neg_neg]
    rw [h2, h1, sgn_neg]
    simp [h]
  · rw [prod_sgn a b (by omega)]
    simp [h]
theorem dmul_is (a b : Int × Int) (ha : 0 < a.2) (hb : 0 < b.2) : dmulP a b = fracP (a.1 * b.1) (a.2 * b.2) := by
  obtain ⟨e, hd⟩ := den_sgn a.2 b.2 ha hb
  unfold dmulP
  rw [held_is _ _ _ hd, e, sgn_mul]
def ddivP (a b : Int × Int) : (Int × Int) × Int := heldP (decide (a.1 < 0) != decide (b.1 < 0)) (a.1.natAbs * b.2.natAbs) (a.2.natAbs * b.1.natAbs)
theorem ddiv_is (a b : Int × Int) (ha : 0 < a.2) (hb : 0 < b.2) : ddivP a b = if b.1 = 0 then ((0, 0), 21) else fracP (a.1 * b.2) (a.2 * b.1) := by
  unfold ddivP heldP
  by_cases h : b.1 = 0
  · rw [if_pos h, if_pos (by rw [h]; rfl)]
  · have h1 : 0 < a.2.natAbs * b.1.natAbs := Nat.mul_pos (by omega) (by omega)
    rw [if_neg h, if_neg (by omega), frac_is, Int.natAbs_mul, Int.natAbs_mul]
    have e1 : decide (a.1 * b.2 < 0) = decide (a.1 < 0) := by
      rw [decide_eq_decide]
      constructor
      · intro h; by_cases h' : a.1 < 0
        · exact h'
        · have := Int.mul_nonneg (show 0 ≤ a.1 by omega) (show 0 ≤ b.2 by omega); omega
      · intro h; exact Int.mul_neg_of_neg_of_pos h hb
    have e2 : decide (a.2 * b.1 < 0) = decide (b.1 < 0) := by
      rw [decide_eq_decide]
      constructor
      · intro h; by_cases h' : b.1 < 0
        · exact h'
        · have := Int.mul_nonneg (show 0 ≤ a.2 by omega) (show 0 ≤ b.1 by omega); omega
      · intro h; exact Int.mul_neg_of_pos_of_neg ha h
    rw [e1, e2]
/-- Which is greater, as the document holds them. -/
def dcmpS (s t : Bool) (x y : Nat) : Int := if s = true ∧ t = false ∨ (s = t ∧ (if s = true ∧ t = true then y < x else x < y)) then -1 else if s = false ∧ t = true ∨ (if s = true ∧ t = true then x < y else y < x) then 1 else 0
def dcmpP (a b : Int × Int) : Int := dcmpS (decide (a.1 < 0)) (decide (b.1 < 0)) (a.1.natAbs * b.2.natAbs) (b.1.natAbs * a.2.natAbs)
theorem dcmpS_is (s t : Bool) (x y : Nat) (hs : s = true → 0 < x) (ht : t = true → 0 < y) : dcmpS s t x y = cmpQI (sgnI s x - sgnI t y) := by
  unfold dcmpS cmpQI
  cases s <;> cases t
  · simp only [sgnI, Bool.false_eq_true, false_and, and_self, if_false, true_and, false_or, and_false]
    split
    · rw [if_pos (by omega)]
    · split
      · rw [if_neg (by omega), if_neg (by omega)]
      · rw [if_neg (by omega), if_pos (by omega)]
  · have := ht rfl
    simp [sgnI]
    rw [if_neg (by omega), if_neg (by omega)]
  · have := hs rfl
    simp [sgnI]
    omega
  · simp only [sgnI, and_self, if_true, true_and, Bool.true_eq_false, false_and, and_false, false_or, Bool.false_eq_true]
    split
    · rw [if_pos (by omega)]
    · split
      · rw [if_neg (by omega), if_neg (by omega)]
      · rw [if_neg (by omega), if_pos (by omega)]
theorem dcmp_is (a b : Int × Int) (ha : 0 < a.2) (hb : 0 < b.2) : dcmpP a b = cmpQI (a.1 * b.2 - b.1 * a.2) := by
  unfold dcmpP
  rw [dcmpS_is _ _ _ _ (fun h => Nat.mul_pos (by have := of_decide_eq_true h; omega) (by omega)) (fun h => Nat.mul_pos (by have := of_decide_eq_true h; omega) (by omega)), ← prod_sgn a.1 b.2 (by omega), ← prod_sgn b.1 a.2 (by omega)]

end Go.Proofs.Ytfegongaflekiaa

/- What RatTurns, RatOrders and RatParts say: plain. -/
namespace Go.Proofs.Ytfegongaflekiaa
set_option linter.unusedVariables false
set_option linter.unusedSimpArgs false

/-- A right fraction that can be held. -/
def Held (r : Int × Int) : Prop := rightR r = true ∧ fitsI r.1 = true ∧ r.2 ≤ 9223372036854775807
theorem Held.pos {r : Int × Int} (h : Held r) : 0 < r.2 := (of_decide_eq_true h.1).1
theorem frac_held {X D : Int} (hD : D ≠ 0) (h : (fracP X D).2 = 0) : Held (fracP X D).1 := frac_right hD h
theorem add_comm (a b : Int × Int) : addP a b = addP b a := by
  unfold addP
  rw [Bool.and_comm, Int.add_comm, Int.mul_comm a.2]
theorem mul_comm (a b : Int × Int) : mulP a b = mulP b a := by
  unfold mulP
  rw [Bool.and_comm, Int.mul_comm a.1, Int.mul_comm a.2]
theorem two_right {a b : Int × Int} {x y : (Int × Int) × Int} (h : (if (rightR a && rightR b) = true then x else ((0, 0), 7)).2 = 0) : rightR a = true ∧ rightR b = true := by
  by_cases c : (rightR a && rightR b) = true
  · exact Bool.and_eq_true_iff.1 c
  · rw [if_neg c] at h; exact absurd h (by decide)
theorem den_pos {a b : Int × Int} (ha : rightR a = true) (hb : rightR b = true) : a.2 * b.2 ≠ 0 := by
  have h1 := (of_decide_eq_true ha).1
  have h2 := (of_decide_eq_true hb).1
  have := Int.mul_pos h1 h2
  omega
/-- What is added and taken off is what was there. -/
theorem sub_back {a b : Int × Int} (ha : fitsI a.1 = true ∧ a.2 ≤ 9223372036854775807) (h : (addP a b).2 = 0) : subP (addP a b).1 b = (a, 0) := by
  obtain ⟨r1, r2⟩ := two_right (y := ((0, 0), 0)) (show (if (rightR a && rightR b) = true then fracP (a.1 * b.2 + b.1 * a.2) (a.2 * b.2) else ((0, 0), 7)).2 = 0 from h)
  have e : addP a b = fracP (a.1 * b.2 + b.1 * a.2) (a.2 * b.2) := by unfold addP; rw [if_pos (by rw [r1, r2]; rfl)]
  rw [e] at h ⊢
  have hd := den_pos r1 r2
  have hs := frac_held hd h
  have hv := frac_value hd h
  obtain ⟨s, hs'⟩ : ∃ s, s = (fracP (a.1 * b.2 + b.1 * a.2) (a.2 * b.2)).1 := ⟨_, rfl⟩
  rw [← hs'] at hs hv ⊢
  unfold subP
  rw [if_pos (by rw [hs.1, r2]; rfl)]
  have p1 := (of_decide_eq_true r2).1
  refine frac_of_right (by have := Int.mul_pos hs.pos p1; omega) r1 ha.1 ha.2 ?_
  calc (s.1 * b.2 - b.1 * s.2) * a.2 = s.1 * (a.2 * b.2) - b.1 * a.2 * s.2 := by rw [Int.sub_mul]; congr 1 <;> ac_rfl
    _ = (a.1 * b.2 + b.1 * a.2) * s.2 - b.1 * a.2 * s.2 := by rw [hv]
    _ = a.1 * (s.2 * b.2) := by rw [Int.add_mul, Int.add_sub_cancel]; ac_rfl
theorem div_back {a b : Int × Int} (ha : fitsI a.1 = true ∧ a.2 ≤ 9223372036854775807) (hb : b.1 ≠ 0) (h : (mulP a b).2 = 0) : divP (mulP a b).1 b = (a, 0) := by
  obtain ⟨r1, r2⟩ := two_right (y := ((0, 0), 0)) (show (if (rightR a && rightR b) = true then fracP (a.1 * b.1) (a.2 * b.2) else ((0, 0), 7)).2 = 0 from h)
  have e : mulP a b = fracP (a.1 * b.1) (a.2 * b.2) := by unfold mulP; rw [if_pos (by rw [r1, r2]; rfl)]
  rw [e] at h ⊢
  have hd := den_pos r1 r2
  have hs := frac_held hd h
  have hv := frac_value hd h
  obtain ⟨s, hs'⟩ : ∃ s, s = (fracP (a.1 * b.1) (a.2 * b.2)).1 := ⟨_, rfl⟩
  rw [← hs'] at hs hv ⊢
  unfold divP
  rw [if_pos (by rw [hs.1, r2]; rfl), if_neg hb]
  refine frac_of_right (fun e => by
    rcases Int.mul_eq_zero.1 e with e | e
    · have := hs.pos; omega
    · exact hb e) r1 ha.1 ha.2 ?_
  calc s.1 * b.2 * a.2 = s.1 * (a.2 * b.2) := by ac_rfl
    _ = a.1 * b.1 * s.2 := hv
    _ = a.1 * (s.2 * b.1) := by ac_rfl

/-! ### the order -/
theorem cmp_cases (x : Int) : (x < 0 ∧ cmpQI x = -1) ∨ (x = 0 ∧ cmpQI x = 0) ∨ (0 < x ∧ cmpQI x = 1) := by
  unfold cmpQI
  by_cases h : x < 0
  · exact .inl ⟨h, by rw [if_pos h]⟩
  · by_cases h0 : x = 0
    · exact .inr (.inl ⟨h0, by rw [if_neg h, if_pos h0]⟩)
    · exact .inr (.inr ⟨by omega, by rw [if_neg h, if_neg h0]⟩)
theorem cmp_neg (a b : Int × Int) : cmpP a b = -cmpP b a := by
  unfold cmpP
  rw [Bool.and_comm]
  by_cases h : (rightR b && rightR a) = true
  · rw [if_pos h, if_pos h]
    have e : b.1 * a.2 - a.1 * b.2 = -(a.1 * b.2 - b.1 * a.2) := by omega
    rw [e]
    rcases cmp_cases (a.1 * b.2 - b.1 * a.2) with ⟨h1, h2⟩ | ⟨h1, h2⟩ | ⟨h1, h2⟩ <;> rcases cmp_cases (-(a.1 * b.2 - b.1 * a.2)) with ⟨h3, h4⟩ | ⟨h3, h4⟩ | ⟨h3, h4⟩ <;> omega
  · rw [if_neg h, if_neg h]; rfl
theorem cmp_right {a b : Int × Int} (ha : Held a) (hb : Held b) : cmpP a b = cmpQI (a.1 * b.2 - b.1 * a.2) := by unfold cmpP; rw [if_pos (by rw [ha.1, hb.1]; rfl)]
theorem cmp_zero {a b : Int × Int} (ha : Held a) (hb : Held b) : cmpP a b = 0 ↔ a = b := by
  rw [cmp_right ha hb]
  constructor
  · intro h
    rcases cmp_cases (a.1 * b.2 - b.1 * a.2) with ⟨h1, h2⟩ | ⟨h1, h2⟩ | ⟨h1, h2⟩
    · omega
    · exact right_unique ha.1 hb.1 ha.2.1 ha.2.2 hb.2.1 hb.2.2 (by omega)
    · omega
  · intro h; subst h; rw [Int.sub_self]; rfl
theorem lt_trans3 {a b c : Int × Int} (ha : Held a) (hb : Held b) (hc : Held c) (h1 : a.1 * b.2 < b.1 * a.2) (h2 : b.1 * c.2 < c.1 * b.2) : a.1 * c.2 < c.1 * a.2 := by
  have e1 : a.1 * b.2 * c.2 < b.1 * a.2 * c.2 := Int.mul_lt_mul_of_pos_right h1 hc.pos
  have e2 : b.1 * c.2 * a.2 < c.1 * b.2 * a.2 := Int.mul_lt_mul_of_pos_right h2 ha.pos
  have e3 : b.1 * a.2 * c.2 = b.1 * c.2 * a.2 := by ac_rfl
  have e4 : (a.1 * c.2) * b.2 < (c.1 * a.2) * b.2 := by
    have f1 : a.1 * b.2 * c.2 = (a.1 * c.2) * b.2 := by ac_rfl
    have f2 : c.1 * b.2 * a.2 = (c.1 * a.2) * b.2 := by ac_rfl
    rw [← f1, ← f2]
    omega
  exact Int.lt_of_mul_lt_mul_right e4 (Int.le_of_lt hb.pos)
/-- Of three the order is one. -/
theorem orders_law {a b c : Int × Int} (ha : Held a) (hb : Held b) (hc : Held c) :
    0 < cmpP a b ∨ 0 < cmpP b c ∨ cmpP a c = cmpP a b + cmpP b c ∨ (cmpP a c = -1 ∧ cmpP a b + cmpP b c = -2) := by
  have hx := cmp_zero ha hb
  have hy := cmp_zero hb hc
  rw [cmp_right ha hb, cmp_right hb hc, cmp_right ha hc] at *
  rcases cmp_cases (a.1 * b.2 - b.1 * a.2) with ⟨h1, h2⟩ | ⟨h1, h2⟩ | ⟨h1, h2⟩
  · rcases cmp_cases (b.1 * c.2 - c.1 * b.2) with ⟨h3, h4⟩ | ⟨h3, h4⟩ | ⟨h3, h4⟩
    · right; right; right
      have := lt_trans3 ha hb hc (by omega) (by omega)
      rcases cmp_cases (a.1 * c.2 - c.1 * a.2) with ⟨h5, h6⟩ | ⟨h5, h6⟩ | ⟨h5, h6⟩ <;> omega
    · obtain rfl := hy.1 h4
      right; right; left; rw [h4]; omega
    · right; left; omega
  · obtain rfl := hx.1 h2
    right; right; left; rw [h2]; omega
  · left; omega
theorem less_law {a b : Int × Int} (ha : Held a) (hb : Held b) (h : (subP a b).2 = 0) : ((subP a b).1.1 < 0 ↔ cmpP a b < 0) ∧ ((subP a b).1.1 = 0 ↔ cmpP a b = 0) := by
  have e : subP a b = fracP (a.1 * b.2 - b.1 * a.2) (a.2 * b.2) := by unfold subP; rw [if_pos (by rw [ha.1, hb.1]; rfl)]
  rw [e] at h ⊢
  have hd := Int.mul_pos ha.pos hb.pos
  have hv := frac_value (by omega) h
  have hs := (frac_held (by omega) h).pos
  rw [cmp_right ha hb]
  generalize fracP (a.1 * b.2 - b.1 * a.2) (a.2 * b.2) = f at *
  generalize a.2 * b.2 = D at *
  generalize a.1 * b.2 - b.1 * a.2 = X at *
  have k1 : f.1.1 < 0 ↔ X < 0 := by
    constructor
    · intro h1
      have h2 := Int.mul_neg_of_neg_of_pos h1 hd
      rw [hv] at h2
      by_cases h3 : X < 0
      · exact h3
      · have := Int.mul_nonneg (show 0 ≤ X by omega) (Int.le_of_lt hs); omega
    · intro h1
      have h2 := Int.mul_neg_of_neg_of_pos h1 hs
      rw [← hv] at h2
      by_cases h3 : f.1.1 < 0
      · exact h3
      · have := Int.mul_nonneg (show 0 ≤ f.1.1 by omega) (Int.le_of_lt hd); omega
  have k2 : f.1.1 = 0 ↔ X = 0 := by
    constructor
    · intro h1
      rw [h1, Int.zero_mul] at hv
      rcases Int.mul_eq_zero.1 hv.symm with h | h
      · exact h
      · omega
    · intro h1
      rw [h1, Int.zero_mul] at hv
      rcases Int.mul_eq_zero.1 hv with h | h
      · exact h
      · omega
  rcases cmp_cases X with ⟨h1, h2⟩ | ⟨h1, h2⟩ | ⟨h1, h2⟩ <;> rw [h2] <;> constructor <;> first | (rw [k1]; omega) | (rw [k2]; omega)

/-! ### whole numbers below and above -/
def floorP (r : Int × Int) : Int := if rightR r = true then r.1 / r.2 else 0
def ceilP (r : Int × Int) : Int := if rightR r = true then (if r.1 % r.2 = 0 then r.1 / r.2 else r.1 / r.2 + 1) else 0
def partP (r : Int × Int) : Int × Int := if rightR r = true then (r.1 % r.2, r.2) else (0, 0)
/-- Go's division and the floor. -/
theorem tdiv_floor (x d : Int) (hd : 0 < d) : (x.tmod d < 0 → x.tdiv d - 1 = x / d ∧ x.tmod d + d = x % d) ∧ (¬ x.tmod d < 0 → x.tdiv d = x / d ∧ x.tmod d = x % d) := by
  have h1 := Int.mul_tdiv_add_tmod x d
  have h2 := Int.mul_ediv_add_emod x d
  have h3 := Int.emod_nonneg x (show d ≠ 0 by omega)
  have h4 := Int.emod_lt_of_pos x hd
  have key : ∀ q m : Int, d * q + m = x → 0 ≤ m → m < d → q = x / d ∧ m = x % d := fun q m hq h0 h1 => by
    have e1 : x / d = q := by rw [← hq, Int.add_comm, Int.add_mul_ediv_left _ _ (by omega), Int.ediv_eq_zero_of_lt h0 h1, Int.zero_add]
    have e2 : x % d = m := by rw [← hq, Int.add_comm, Int.add_mul_emod_self_left, Int.emod_eq_of_lt h0 h1]
    exact ⟨e1.symm, e2.symm⟩
  have h5 : x.tmod d < d := Int.tmod_lt_of_pos x hd
  have h6 : -d < x.tmod d := by
    have := Int.tmod_lt_of_pos (-x) hd
    rw [Int.neg_tmod] at this
    omega
  constructor
  · intro hm
    exact key (x.tdiv d - 1) (x.tmod d + d) (by rw [Int.mul_sub, Int.mul_one]; omega) (by omega) (by omega)
  · intro hm
    exact key (x.tdiv d) (x.tmod d) h1 (by omega) h5
theorem floor_part {r : Int × Int} (h : Held r) : addP (floorP r, 1) (partP r) = (r, 0) ∧ 0 ≤ (partP r).1 ∧ (partP r).1 < (partP r).2 ∧ ceilP r = if (partP r).1 = 0 then floorP r else floorP r + 1 := by
  have hp := h.pos
  have hf : floorP r = r.1 / r.2 := by unfold floorP; rw [if_pos h.1]
  have hc : partP r = (r.1 % r.2, r.2) := by unfold partP; rw [if_pos h.1]
  have h3 := Int.emod_nonneg r.1 (show r.2 ≠ 0 by omega)
  have h4 := Int.emod_lt_of_pos r.1 hp
  have g1 : Nat.gcd (r.1 % r.2).natAbs r.2.natAbs = 1 := by
    have h1 := (of_decide_eq_true h.1).2
    have h2 : Int.gcd (r.1 % r.2) r.2 = Int.gcd r.1 r.2 := by
      have e : r.1 = r.1 % r.2 + r.2 * (r.1 / r.2) := by have := Int.mul_ediv_add_emod r.1 r.2; omega
      have h := Int.gcd_add_mul_left_left r.2 (r.1 % r.2) (r.1 / r.2)
      rw [← e] at h
      exact h.symm
    exact h2.trans h1
  have r1 : rightR (r.1 / r.2, 1) = true := decide_eq_true ⟨by show (0 : Int) < 1; omega, by simp⟩
  have r2 : rightR (r.1 % r.2, r.2) = true := decide_eq_true ⟨hp, g1⟩
  rw [hf, hc]
  refine ⟨?_, h3, h4, ?_⟩
  · unfold addP
    rw [if_pos (by rw [r1, r2]; rfl)]
    have e : r.1 / r.2 * r.2 + r.1 % r.2 * 1 = r.1 := by rw [Int.mul_one, Int.mul_comm]; exact Int.mul_ediv_add_emod r.1 r.2
    show fracP (r.1 / r.2 * r.2 + r.1 % r.2 * 1) (1 * r.2) = (r, 0)
    rw [e, Int.one_mul]
    exact right_frac h.1 h.2.1 h.2.2
  · unfold ceilP
    rw [if_pos h.1]

end Go.Proofs.Ytfegongaflekiaa

/- Whether a difference of two fractions keeps a bound: plain. -/
namespace Go.Proofs.Ytfegongaflekiaa
set_option linter.unusedVariables false
set_option linter.unusedSimpArgs false

/-- x less y keeps the bound b: by cross products. -/
def keepsQ (x y : Int × Int) (b : Int) : Bool := decide (b = 2147483647 ∨ x.1 * y.2 - y.1 * x.2 - b / 2 * (x.2 * y.2) < b % 2)
theorem sign_mul {a b p q : Int} (hp : 0 < p) (hq : 0 < q) (h : a * p = b * q) : (a < 0 ↔ b < 0) ∧ (a ≤ 0 ↔ b ≤ 0) := by
  refine ⟨⟨fun ha => ?_, fun hb => ?_⟩, ⟨fun ha => ?_, fun hb => ?_⟩⟩
  · have h1 : a * p < 0 := Int.mul_neg_of_neg_of_pos ha hp
    rcases Int.lt_or_le b 0 with hb | hb
    · exact hb
    · have := Int.mul_nonneg hb (Int.le_of_lt hq); omega
  · have h1 : b * q < 0 := Int.mul_neg_of_neg_of_pos hb hq
    rcases Int.lt_or_le a 0 with ha | ha
    · exact ha
    · have := Int.mul_nonneg ha (Int.le_of_lt hp); omega
  · have h1 : a * p ≤ 0 := Int.mul_nonpos_of_nonpos_of_nonneg ha (Int.le_of_lt hp)
    rcases Int.lt_or_le 0 b with hb | hb
    · have := Int.mul_pos hb hq; omega
    · exact hb
  · have h1 : b * q ≤ 0 := Int.mul_nonpos_of_nonpos_of_nonneg hb (Int.le_of_lt hq)
    rcases Int.lt_or_le 0 a with ha | ha
    · have := Int.mul_pos ha hp; omega
    · exact ha
/-- By the difference, where it can be held. -/
theorem keeps_sub {x y : Int × Int} {b : Int} (hx : rightR x = true) (hy : rightR y = true) (h : (subP x y).2 = 0) :
    decide (b = 2147483647 ∨ (subP x y).1.1 < b / 2 * (subP x y).1.2 + b % 2) = keepsQ x y b := by
  have px : 0 < x.2 := (of_decide_eq_true hx).1
  have py : 0 < y.2 := (of_decide_eq_true hy).1
  have hP := Int.mul_pos px py
  have e : subP x y = fracP (x.1 * y.2 - y.1 * x.2) (x.2 * y.2) := by unfold subP; rw [if_pos (by rw [hx, hy]; rfl)]
  rw [e] at h ⊢
  have hv := frac_value (by omega) h
  have hd : 0 < (fracP (x.1 * y.2 - y.1 * x.2) (x.2 * y.2)).1.2 := (of_decide_eq_true (frac_right (by omega) h).1).1
  obtain ⟨d, hd'⟩ : ∃ d, d = (fracP (x.1 * y.2 - y.1 * x.2) (x.2 * y.2)).1 := ⟨_, rfl⟩
  rw [← hd'] at hv hd ⊢
  obtain ⟨t, ht⟩ : ∃ t, t = x.1 * y.2 - y.1 * x.2 := ⟨_, rfl⟩
  obtain ⟨p, hp⟩ : ∃ p, p = x.2 * y.2 := ⟨_, rfl⟩
  unfold keepsQ
  rw [← ht, ← hp] at hv ⊢
  rw [← hp] at hP
  have key : (d.1 - b / 2 * d.2) * p = (t - b / 2 * p) * d.2 := by
    rw [Int.sub_mul, Int.sub_mul, hv, Int.mul_assoc, Int.mul_assoc, Int.mul_comm d.2 p]
  obtain ⟨k1, k2⟩ := sign_mul hP hd key
  refine decide_eq_decide.2 (or_congr Iff.rfl ?_)
  have hm : b % 2 = 0 ∨ b % 2 = 1 := by omega
  rcases hm with hm | hm
  · rw [hm]; constructor
    · intro h1; have := k1.1 (by omega); omega
    · intro h1; have := k1.2 (by omega); omega
  · rw [hm]; constructor
    · intro h1; have := k2.1 (by omega); omega
    · intro h1; have := k2.2 (by omega); omega
/-- By whole parts and rests. -/
theorem keeps_parts {x y : Int × Int} {b : Int} (hx : rightR x = true) (hy : rightR y = true) (hb : b ≠ 2147483647) :
    keepsQ x y b = if floorP x - floorP y = b / 2 then (decide (cmpP (partP x) (partP y) < 0) || (decide (cmpP (partP x) (partP y) = 0) && decide (b % 2 = 1))) else decide (floorP x - floorP y < b / 2) := by
  have px : 0 < x.2 := (of_decide_eq_true hx).1
  have py : 0 < y.2 := (of_decide_eq_true hy).1
  have fx : floorP x = x.1 / x.2 := by unfold floorP; rw [if_pos hx]
  have fy : floorP y = y.1 / y.2 := by unfold floorP; rw [if_pos hy]
  have gx : partP x = (x.1 % x.2, x.2) := by unfold partP; rw [if_pos hx]
  have gy : partP y = (y.1 % y.2, y.2) := by unfold partP; rw [if_pos hy]
  have rx : rightR (x.1 % x.2, x.2) = true := by
    refine decide_eq_true ⟨px, ?_⟩
    have h := (of_decide_eq_true hx).2
    show Int.gcd (x.1 % x.2) x.2 = 1
    have h : Int.gcd x.1 x.2 = 1 := h
    have e := Int.mul_ediv_add_emod x.1 x.2
    rw [← h]
    conv => rhs; rw [← e, Int.add_comm, Int.gcd_add_mul_left_left]
  have ry : rightR (y.1 % y.2, y.2) = true := by
    refine decide_eq_true ⟨py, ?_⟩
    have h := (of_decide_eq_true hy).2
    show Int.gcd (y.1 % y.2) y.2 = 1
    have h : Int.gcd y.1 y.2 = 1 := h
    have e := Int.mul_ediv_add_emod y.1 y.2
    rw [← h]
    conv => rhs; rw [← e, Int.add_comm, Int.gcd_add_mul_left_left]
  have hc : cmpP (partP x) (partP y) = cmpQI (x.1 % x.2 * y.2 - y.1 % y.2 * x.2) := by
    rw [gx, gy]; unfold cmpP; rw [if_pos (by rw [rx, ry]; rfl)]
  have mx := Int.mul_ediv_add_emod x.1 x.2
  have my := Int.mul_ediv_add_emod y.1 y.2
  have bx := Int.emod_nonneg x.1 (show x.2 ≠ 0 by omega)
  have by' := Int.emod_nonneg y.1 (show y.2 ≠ 0 by omega)
  have cx := Int.emod_lt_of_pos x.1 px
  have cy := Int.emod_lt_of_pos y.1 py
  rw [hc]
  rw [← fx] at mx
  rw [← fy] at my
  obtain ⟨X, hX⟩ : ∃ X, X = floorP x := ⟨_, rfl⟩
  obtain ⟨Y, hY⟩ : ∃ Y, Y = floorP y := ⟨_, rfl⟩
  obtain ⟨r, hr⟩ : ∃ r, r = x.1 % x.2 := ⟨_, rfl⟩
  obtain ⟨s, hs⟩ : ∃ s, s = y.1 % y.2 := ⟨_, rfl⟩
  rw [← hX] at mx
  rw [← hY] at my
  rw [← hr] at mx bx cx
  rw [← hs] at my by' cy
  rw [← hX, ← hY, ← hr, ← hs]
  obtain ⟨P, hP⟩ : ∃ P, P = x.2 * y.2 := ⟨_, rfl⟩
  have hP0 : 0 < P := by rw [hP]; exact Int.mul_pos px py
  have e1 : x.1 * y.2 = X * P + r * y.2 := by
    rw [← mx, Int.add_mul, hP]; congr 1; rw [Int.mul_comm x.2 X, Int.mul_assoc]
  have e2 : y.1 * x.2 = Y * P + s * x.2 := by
    rw [← my, Int.add_mul, hP]; congr 1; rw [Int.mul_comm y.2 Y, Int.mul_assoc, Int.mul_comm y.2 x.2]
  have r1 : r * y.2 < P := by rw [hP]; exact Int.mul_lt_mul_of_pos_right cx py
  have s1 : s * x.2 < P := by rw [hP, Int.mul_comm x.2 y.2]; exact Int.mul_lt_mul_of_pos_right cy px
  have r0 : 0 ≤ r * y.2 := Int.mul_nonneg bx (Int.le_of_lt py)
  have s0 : 0 ≤ s * x.2 := Int.mul_nonneg by' (Int.le_of_lt px)
  unfold keepsQ
  rw [← hP, e1, e2]
  obtain ⟨n, hn⟩ : ∃ n, n = b / 2 := ⟨_, rfl⟩
  obtain ⟨k, hk⟩ : ∃ k, k = X - Y - n := ⟨_, rfl⟩
  rw [← hn]
  have e3 : X * P + r * y.2 - (Y * P + s * x.2) - n * P = k * P + (r * y.2 - s * x.2) := by
    rw [hk, Int.sub_mul, Int.sub_mul]; omega
  rw [e3]
  have hm : b % 2 = 0 ∨ b % 2 = 1 := by omega
  by_cases h0 : X - Y = n
  · rw [if_pos h0]
    have hk0 : k = 0 := by omega
    rw [hk0, Int.zero_mul, Int.zero_add]
    rcases cmp_cases (r * y.2 - s * x.2) with ⟨h1, h2⟩ | ⟨h1, h2⟩ | ⟨h1, h2⟩
    · rw [h2, decide_eq_true (by omega)]; rfl
    · rw [h2, h1]
      rcases hm with hm | hm <;> rw [hm]
      · rw [decide_eq_false (by omega)]; decide
      · rw [decide_eq_true (by omega)]; decide
    · rw [h2, decide_eq_false (by omega)]
      rfl
  · rw [if_neg h0]
    refine decide_eq_decide.2 ⟨fun h => ?_, fun h => ?_⟩
    · have h := h.resolve_left hb
      rcases Int.lt_or_le k 0 with hk1 | hk1
      · omega
      · exfalso
        have : 1 * P ≤ k * P := Int.mul_le_mul_of_nonneg_right (by omega) (Int.le_of_lt hP0)
        omega
    · refine .inr ?_
      have : k * P ≤ (-1) * P := Int.mul_le_mul_of_nonneg_right (by omega) (Int.le_of_lt hP0)
      omega

end Go.Proofs.Ytfegongaflekiaa

/- Matrices of bounds in wide cells, and how they are closed: plain numbers, no program. -/
namespace Go.Proofs.Ytfegongaflekiaa
set_option linter.unusedVariables false

/-- A matrix of cells. -/
abbrev Mat := Nat → Nat → Int

/-- No bound, in wide cells. -/
def none62 : Int := 4611686018427387904

/-- The sum of two wide bounds. -/
def wsum (a b : Int) : Int := if a = none62 ∨ b = none62 then none62 else (a - a % 2) + (b - b % 2) + (a % 2) * (b % 2)

/-- No bound, or a number of at most this size. -/
def Bd (X a : Int) : Prop := a = none62 ∨ (-X ≤ a ∧ a ≤ X)

theorem two_cases (a b : Int) : (a % 2) * (b % 2) = 0 ∧ (a % 2 = 0 ∨ b % 2 = 0) ∨ (a % 2) * (b % 2) = 1 ∧ a % 2 = 1 ∧ b % 2 = 1 := by
  have ha : a % 2 = 0 ∨ a % 2 = 1 := by omega
  have hb : b % 2 = 0 ∨ b % 2 = 1 := by omega
  rcases ha with ha | ha <;> rcases hb with hb | hb <;> simp [ha, hb]

theorem wsum_fin {a b : Int} (ha : a ≠ none62) (hb : b ≠ none62) : a + b - 1 ≤ wsum a b ∧ wsum a b ≤ a + b := by
  unfold wsum
  rw [if_neg (by simp [ha, hb])]
  rcases two_cases a b with ⟨h, h1⟩ | ⟨h, h1, h2⟩ <;> rw [h] <;> omega

theorem wsum_one_left (b : Int) : wsum 1 b = b := by
  unfold wsum none62
  by_cases h : b = 4611686018427387904
  · simp [h]
  · rw [if_neg (by omega)]; omega
theorem wsum_one_right (a : Int) : wsum a 1 = a := by
  unfold wsum none62
  by_cases h : a = 4611686018427387904
  · simp [h]
  · rw [if_neg (by omega)]; omega

theorem Bd.mono {X Y a : Int} (h : Bd X a) (hXY : X ≤ Y) : Bd Y a := by
  rcases h with h | h
  · exact .inl h
  · exact .inr (by omega)
theorem Bd.sum {X Y a b : Int} (ha : Bd X a) (hb : Bd Y b) : Bd (X + Y + 1) (wsum a b) := by
  by_cases h1 : a = none62
  · left; simp [wsum, h1]
  · by_cases h2 : b = none62
    · left; simp [wsum, h2]
    · right
      have := wsum_fin h1 h2
      rcases ha with ha | ha
      · exact absurd ha h1
      · rcases hb with hb | hb
        · exact absurd hb h2
        · omega
theorem Bd.min {X a b : Int} (ha : Bd X a) (hb : Bd X b) : Bd X (min a b) := by
  rw [Int.min_def]; split
  · exact ha
  · exact hb
theorem Bd.le {X a : Int} (h : Bd X a) (hX : X ≤ none62) : -X ≤ a ∧ a ≤ none62 ∨ a = none62 := by
  rcases h with h | h
  · exact .inr h
  · left; omega

/-- One cell made another. -/
def upd (m : Mat) (i j : Nat) (v : Int) : Mat := fun a b => if a = i ∧ b = j then v else m a b
theorem upd_upd (m : Mat) (i j : Nat) (v v' : Int) : upd (upd m i j v) i j v' = upd m i j v' := by
  funext a b; simp only [upd]; split <;> rfl

/-- The round for clock k: all ways by k. -/
def fw (k n : Nat) (m : Mat) : Mat := fun i j => if i ≤ n ∧ j ≤ n then min (m i j) (wsum (m i k) (m k j)) else m i j

/-- f in the rows ahead of i and, of row i, ahead of j; elsewhere m. -/
def mix (f m : Mat) (n i j : Nat) : Mat := fun a c => if (a < i ∧ c ≤ n) ∨ (a = i ∧ c < j) then f a c else m a c

theorem mix_start (f m : Mat) (n : Nat) : mix f m n 0 0 = m := by
  funext a c; simp only [mix]; rw [if_neg (by omega)]
theorem mix_step (f m : Mat) (n i j : Nat) (hj : j ≤ n) : upd (mix f m n i j) i j (f i j) = mix f m n i (j + 1) := by
  funext a c
  simp only [upd, mix]
  by_cases h : a = i ∧ c = j
  · obtain ⟨rfl, rfl⟩ := h
    rw [if_pos ⟨rfl, rfl⟩, if_pos (by omega)]
  · rw [if_neg h]
    by_cases h2 : (a < i ∧ c ≤ n) ∨ (a = i ∧ c < j)
    · rw [if_pos h2, if_pos (by omega)]
    · rw [if_neg h2, if_neg (by omega)]
theorem mix_row (f m : Mat) (n i : Nat) : mix f m n i (n + 1) = mix f m n (i + 1) 0 := by
  funext a c
  simp only [mix]
  by_cases h2 : (a < i ∧ c ≤ n) ∨ (a = i ∧ c < n + 1)
  · rw [if_pos h2, if_pos (by omega)]
  · rw [if_neg h2, if_neg (by omega)]
theorem mix_done (k n : Nat) (m : Mat) : mix (fw k n m) m n (n + 1) 0 = fw k n m := by
  funext a c
  simp only [mix]
  by_cases h2 : (a < n + 1 ∧ c ≤ n) ∨ (a = n + 1 ∧ c < 0)
  · rw [if_pos h2]
  · rw [if_neg h2]
    unfold fw
    rw [if_neg (by omega)]

theorem fw_col {k n : Nat} {m : Mat} (hk : m k k = 1) (i : Nat) : fw k n m i k = m i k := by
  unfold fw; split
  · rw [hk, wsum_one_right, Int.min_self]
  · rfl
theorem fw_row {k n : Nat} {m : Mat} (hk : m k k = 1) (j : Nat) : fw k n m k j = m k j := by
  unfold fw; split
  · rw [hk, wsum_one_left, Int.min_self]
  · rfl
theorem mix_col {k n : Nat} {m : Mat} (hk : m k k = 1) (i j a : Nat) : mix (fw k n m) m n i j a k = m a k := by
  unfold mix; split
  · exact fw_col hk a
  · rfl
theorem mix_krow {k n : Nat} {m : Mat} (hk : m k k = 1) (i j c : Nat) : mix (fw k n m) m n i j k c = m k c := by
  unfold mix; split
  · exact fw_row hk c
  · rfl
theorem mix_here (f m : Mat) (n i j : Nat) : mix f m n i j i j = m i j := by
  unfold mix; rw [if_neg (by omega)]
/-- What the machine stores is the round's own cell. -/
theorem mix_cell {k n : Nat} {m : Mat} (hk : m k k = 1) {i j : Nat} (hi : i ≤ n) (hj : j ≤ n) :
    min (mix (fw k n m) m n i j i j) (wsum (mix (fw k n m) m n i j i k) (mix (fw k n m) m n i j k j)) = fw k n m i j := by
  rw [mix_here, mix_col hk, mix_krow hk]
  unfold fw; rw [if_pos ⟨hi, hj⟩]

/-- The closed form, round by round; none: a cell of a clock against itself fell below 1. -/
def closeP (n : Nat) : Nat → Nat → Mat → Option Mat
  | 0, _, m => some m
  | s + 1, k, m => if (∀ i, i ≤ n → 1 ≤ fw k n m i i) then closeP n s (k + 1) (fw k n m) else none
/-- The closed form. -/
def closed (n : Nat) (m : Mat) : Option Mat := closeP n (n + 1) 0 m

/-- What a matrix must be for a round to run within the machine's numbers. -/
structure Fit (n : Nat) (X : Int) (m : Mat) : Prop where
  bd : ∀ i j, i ≤ n → j ≤ n → Bd X (m i j)
  diag : ∀ i, i ≤ n → m i i ≤ 1

theorem Fit.fwd {n : Nat} {X : Int} {m : Mat} (h : Fit n X m) {k : Nat} (hk : k ≤ n) (hX : 0 ≤ X) : Fit n (2 * X + 1) (fw k n m) := by
  refine ⟨fun i j hi hj => ?_, fun i hi => ?_⟩
  · unfold fw; rw [if_pos ⟨hi, hj⟩]
    have h1 := (h.bd i j hi hj).mono (Y := 2 * X + 1) (by omega)
    have h2 := (h.bd i k hi hk).sum (h.bd k j hk hj)
    exact h1.min (h2.mono (by omega))
  · have := h.diag i hi
    unfold fw; rw [if_pos ⟨hi, hi⟩]
    rw [Int.min_def]; split <;> omega
theorem Fit.mixd {n : Nat} {X : Int} {m : Mat} (h : Fit n X m) {k : Nat} (hk : k ≤ n) (hX : 0 ≤ X) (i j : Nat) : Fit n (2 * X + 1) (mix (fw k n m) m n i j) := by
  have h1 := h.fwd hk hX
  refine ⟨fun a c ha hc => ?_, fun a ha => ?_⟩
  · simp only [mix]; split
    · exact h1.bd a c ha hc
    · exact (h.bd a c ha hc).mono (by omega)
  · simp only [mix]; split
    · exact h1.diag a ha
    · exact h.diag a ha

/-- What the machine's matrix is in the round k, at row i, ahead of column j, where m was the matrix at the round's head. -/
def InnerOk (n : Nat) (X : Int) (m : Mat) (k i j : Nat) (cur : Mat) : Prop :=
  (m k k = 1 ∧ cur = mix (fw k n m) m n i j) ∨
  (k = 0 ∧ i = 0 ∧ m 0 0 < 1 ∧ cur 0 0 < 1 ∧ Bd (2 * X + 1) (cur 0 0) ∧ (∀ c, c ≤ n → Bd (4 * X + 4) (cur 0 c)) ∧ (∀ c, j ≤ c → 1 ≤ j → cur 0 c = m 0 c) ∧ (j = 0 → cur = m))

theorem InnerOk.start {n : Nat} {X : Int} {m : Mat} {k : Nat} (hk : m k k = 1) : InnerOk n X m k 0 0 m := .inl ⟨hk, (mix_start _ _ _).symm⟩
theorem InnerOk.start0 {n : Nat} {X : Int} {m : Mat} (hf : Fit n X m) (hX : 0 ≤ X) (h : m 0 0 < 1) : InnerOk n X m 0 0 0 m :=
  .inr ⟨rfl, rfl, h, h, (hf.bd 0 0 (by omega) (by omega)).mono (by omega), fun c hc => (hf.bd 0 c (by omega) hc).mono (by omega), fun c _ h => absurd h (by omega), fun _ => rfl⟩

theorem InnerOk.bounds {n : Nat} {X : Int} {m : Mat} (hf : Fit n X m) (hX : 0 ≤ X) {k i j : Nat} {cur : Mat} (h : InnerOk n X m k i j cur) (hk : k ≤ n) (hi : i ≤ n) (hj : j ≤ n) :
    Bd (4 * X + 4) (cur i j) ∧ Bd (4 * X + 4) (cur i k) ∧ Bd (4 * X + 4) (cur k j) := by
  rcases h with ⟨h1, rfl⟩ | ⟨rfl, rfl, h0, h1, h2, h3, h4, h5⟩
  · have := hf.mixd hk hX i j
    exact ⟨(this.bd i j hi hj).mono (by omega), (this.bd i k hi hk).mono (by omega), (this.bd k j hk hj).mono (by omega)⟩
  · exact ⟨h3 j hj, h3 0 (by omega), h3 j hj⟩

theorem InnerOk.step {n : Nat} {X : Int} {m : Mat} (hf : Fit n X m) (hX : 0 ≤ X) {k i j : Nat} {cur : Mat} (h : InnerOk n X m k i j cur) (hk : k ≤ n) (hi : i ≤ n) (hj : j ≤ n) :
    InnerOk n X m k i (j + 1) (upd cur i j (min (cur i j) (wsum (cur i k) (cur k j)))) := by
  rcases h with ⟨h1, rfl⟩ | ⟨rfl, rfl, h0, h1, h2, h3, h4, h5⟩
  · refine .inl ⟨h1, ?_⟩
    rw [mix_cell h1 hi hj, mix_step _ _ _ _ _ hj]
  · refine .inr ⟨rfl, rfl, h0, ?_⟩
    by_cases hj0 : j = 0
    · subst hj0
      obtain rfl := h5 rfl
      have hm := hf.bd 0 0 (by omega) (by omega)
      have hnew : Bd (2 * X + 1) (min (cur 0 0) (wsum (cur 0 0) (cur 0 0))) := (hm.mono (by omega)).min ((hm.sum hm).mono (by omega))
      refine ⟨?_, ?_, ?_, ?_, by omega⟩
      · simp only [upd, and_self, if_true]; rw [Int.min_def]; split <;> omega
      · simp only [upd, and_self, if_true]; exact hnew
      · intro c hc
        simp only [upd]; split
        · exact hnew.mono (by omega)
        · exact h3 c hc
      · intro c hc _
        simp only [upd]; rw [if_neg (by omega)]
    · have e := h4 j (by omega) (by omega)
      have hm := hf.bd 0 j (by omega) hj
      refine ⟨?_, ?_, ?_, ?_, by omega⟩
      · simp only [upd]; rw [if_neg (by omega)]; exact h1
      · simp only [upd]; rw [if_neg (by omega)]; exact h2
      · intro c hc
        simp only [upd]; split
        · rw [e]; exact (hm.mono (by omega)).min ((h2.sum hm).mono (by omega))
        · exact h3 c hc
      · intro c hc _
        simp only [upd]; rw [if_neg (by omega)]; exact h4 c (by omega) (by omega)

/-- Behind a row: the round goes on, or the matrix has no valuation. -/
theorem InnerOk.row {n : Nat} {X : Int} {m : Mat} {k i : Nat} {cur : Mat} (h : InnerOk n X m k i (n + 1) cur) (hi : i ≤ n) :
    (cur i i < 1 → fw k n m i i < 1) ∧ (1 ≤ cur i i → m k k = 1 ∧ 1 ≤ fw k n m i i ∧ InnerOk n X m k (i + 1) 0 cur) := by
  rcases h with ⟨h1, rfl⟩ | ⟨rfl, rfl, h0, h1, h2, h3, h4, h5⟩
  · have e : mix (fw k n m) m n i (n + 1) i i = fw k n m i i := by
      unfold mix; rw [if_pos (show (i < i ∧ i ≤ n) ∨ (i = i ∧ i < n + 1) from by omega)]
    rw [e]
    exact ⟨id, fun h => ⟨h1, h, .inl ⟨h1, mix_row _ _ _ _⟩⟩⟩
  · refine ⟨fun _ => ?_, fun h => absurd h (by omega)⟩
    unfold fw; rw [if_pos (show 0 ≤ n ∧ 0 ≤ n from by omega), Int.min_def]; split <;> omega

theorem one_le_pow2 : ∀ k : Nat, (1 : Int) ≤ 4 ^ k
  | 0 => by simp
  | k + 1 => by have := one_le_pow2 k; rw [Int.pow_succ]; omega
theorem pow2_step (k : Nat) : 2 * (1073741824 * 4 ^ k) + 1 ≤ (1073741824 : Int) * 4 ^ (k + 1) := by
  have := one_le_pow2 k
  rw [Int.pow_succ]
  generalize (4 : Int) ^ k = p at this ⊢
  omega
theorem pow2_le {k : Nat} (h : k ≤ 9) : (4 : Int) ^ k ≤ 262144 := by
  match k, h with
  | 0, _ | 1, _ | 2, _ | 3, _ | 4, _ | 5, _ | 6, _ | 7, _ | 8, _ | 9, _ => decide

/-- What holds at a round's head. -/
structure RoundOk (n : Nat) (m0 : Mat) (k : Nat) (m : Mat) : Prop where
  fit : Fit n (1073741824 * 4 ^ k) m
  one : k = 0 ∨ ∀ i, i ≤ n → m i i = 1
  same : closeP n (n + 1 - k) k m = closed n m0
  le : k ≤ n + 1

theorem RoundOk.start {n : Nat} {m : Mat} (h : Fit n 1073741824 m) : RoundOk n m 0 m := ⟨by simpa using h, .inl rfl, rfl, by omega⟩

theorem RoundOk.inner {n : Nat} {m0 m : Mat} {k : Nat} (h : RoundOk n m0 k m) (hk : k ≤ n) : InnerOk n (1073741824 * 4 ^ k) m k 0 0 m := by
  have hX : (0 : Int) ≤ 1073741824 * 4 ^ k := by have := one_le_pow2 k; omega
  rcases h.one with rfl | h1
  · by_cases h0 : m 0 0 < 1
    · exact .start0 h.fit hX h0
    · exact .start (by have := h.fit.diag 0 (by omega); omega)
  · exact .start (h1 k hk)

theorem RoundOk.next {n : Nat} {m0 m cur : Mat} {k : Nat} (h : RoundOk n m0 k m) (hk : k ≤ n) (hi : InnerOk n (1073741824 * 4 ^ k) m k (n + 1) 0 cur) (hd : ∀ i, i ≤ n → 1 ≤ fw k n m i i) :
    RoundOk n m0 (k + 1) cur := by
  rcases hi with ⟨h1, rfl⟩ | ⟨_, h2, _⟩
  · rw [mix_done]
    refine ⟨?_, .inr fun i hi => ?_, ?_, by omega⟩
    · have := h.fit.fwd hk (by have := one_le_pow2 k; omega)
      exact ⟨fun i j hi hj => (this.bd i j hi hj).mono (pow2_step k), this.diag⟩
    · have a := hd i hi
      have b := (h.fit.fwd hk (by have := one_le_pow2 k; omega)).diag i hi
      exact Int.le_antisymm b a
    · rw [← h.same]
      have e : n + 1 - k = (n - k) + 1 := by omega
      have e2 : n + 1 - (k + 1) = n - k := by omega
      rw [e, e2]
      simp only [closeP]
      rw [if_pos hd]
  · omega

theorem RoundOk.fail {n : Nat} {m0 m : Mat} {k i : Nat} (h : RoundOk n m0 k m) (hk : k ≤ n) (hi : i ≤ n) (hd : fw k n m i i < 1) : closed n m0 = none := by
  rw [← h.same]
  have e : n + 1 - k = (n - k) + 1 := by omega
  rw [e]
  simp only [closeP]
  rw [if_neg (fun hall => by have := hall i hi; omega)]

theorem RoundOk.done {n : Nat} {m0 m : Mat} (h : RoundOk n m0 (n + 1) m) : closed n m0 = some m := by
  rw [← h.same]
  have e : n + 1 - (n + 1) = 0 := by omega
  rw [e]
  rfl

/-- The rows ahead of i, and of row i what is ahead of j. -/
def filled (f : Mat) (i j : Nat) : Mat := fun a c => if a < i ∨ (a = i ∧ c < j) then f a c else 0
theorem upd_filled (f : Mat) (i j : Nat) : upd (filled f i j) i j (f i j) = filled f i (j + 1) := by
  funext a b
  simp only [upd, filled]
  by_cases h : a = i ∧ b = j
  · obtain ⟨rfl, rfl⟩ := h; simp
  · rw [if_neg h]
    by_cases h1 : a < i ∨ a = i ∧ b < j
    · rw [if_pos h1, if_pos (by omega)]
    · rw [if_neg h1, if_neg (by omega)]
theorem filled_zero (f : Mat) : filled f 0 0 = fun _ _ => 0 := by funext a c; simp [filled]
/-- Nothing but noughts outside of n + 1 rows and columns. -/
def Inside (n : Nat) (f : Mat) : Prop := ∀ a c, n < a ∨ n < c → f a c = 0
theorem filled_row {f : Mat} {n : Nat} (hf : Inside n f) (i : Nat) : filled f (i + 1) 0 = filled f i (n + 1) := by
  funext a b
  simp only [filled]
  by_cases h1 : a < i ∨ a = i ∧ b < n + 1
  · rw [if_pos h1, if_pos (by omega)]
  · rw [if_neg h1]
    by_cases h2 : a < i + 1 ∨ a = i + 1 ∧ b < 0
    · rw [if_pos h2, hf a b (by omega)]
    · rw [if_neg h2]
theorem filled_done {f : Mat} {n : Nat} (hf : Inside n f) : filled f (n + 1) 0 = f := by
  funext a b
  simp only [filled]
  by_cases h1 : a < n + 1 ∨ a = n + 1 ∧ b < 0
  · rw [if_pos h1]
  · rw [if_neg h1, hf a b (by omega)]

/-- A wide bound, narrow. -/
def nar (x : Int) : Int := if x = none62 then 2147483647 else x
/-- May a wide bound be made narrow? -/
def inR (x : Int) : Prop := x = none62 ∨ (-536870912 ≤ x ∧ x ≤ 536870913)
instance (x : Int) : Decidable (inR x) := by unfold inR; infer_instance
def narM (n : Nat) (m : Mat) : Mat := fun i j => if i ≤ n ∧ j ≤ n then nar (m i j) else 0
theorem narM_inside (n : Nat) (m : Mat) : Inside n (narM n m) := fun a c h => by unfold narM; rw [if_neg (by omega)]
def allR (n : Nat) (m : Mat) : Prop := ∀ i, i ≤ n → ∀ j, j ≤ n → inR (m i j)
instance (n : Nat) (m : Mat) : Decidable (allR n m) := by unfold allR; infer_instance
/-- The zone of wide cells, or the number of the error. -/
def zoneP (n : Nat) (m : Mat) : Option Mat × Int :=
  match closed n m with
  | none => (some (fun _ _ => 0), 0)
  | some m' => if allR n m' then (some (narM n m'), 0) else (none, 10)

/-- All cells without a bound, but for what holds of all valuations. -/
def openM (n : Nat) : Mat := fun i j => if i ≤ n ∧ j ≤ n then (if i = j ∨ i = 0 then 1 else none62) else 0
theorem openM_inside (n : Nat) : Inside n (openM n) := fun a c h => by unfold openM; rw [if_neg (by omega)]
theorem openM_fit (n : Nat) : Fit n 1073741824 (openM n) := by
  refine ⟨fun i j hi hj => ?_, fun i hi => ?_⟩
  · unfold openM; rw [if_pos ⟨hi, hj⟩]; split
    · exact .inr (by omega)
    · exact .inl rfl
  · unfold openM; rw [if_pos ⟨hi, hi⟩]; simp
/-- A cell as strict as a bound, at least. -/
def keepM (m : Mat) (i j : Nat) (b : Int) : Mat := if b = 2147483647 then m else upd m i j (min (m i j) b)
/-- Is a bound right? -/
def rightB (b : Int) : Bool := decide (b = 2147483647 ∨ (-536870912 ≤ b ∧ b ≤ 536870913))
theorem rightB_bd {b : Int} (h : rightB b = true) (hb : b ≠ 2147483647) : -536870912 ≤ b ∧ b ≤ 536870913 := by
  unfold rightB at h; have := of_decide_eq_true h; omega
theorem keepM_fit {n : Nat} {m : Mat} (h : Fit n 1073741824 m) (i j : Nat) {b : Int} (hb : rightB b = true) : Fit n 1073741824 (keepM m i j b) := by
  unfold keepM
  by_cases e : b = 2147483647
  · rw [if_pos e]; exact h
  · rw [if_neg e]
    have hr := rightB_bd hb e
    refine ⟨fun a c ha hc => ?_, fun a ha => ?_⟩
    · simp only [upd]; split
      · rename_i h2; obtain ⟨rfl, rfl⟩ := h2
        exact (h.bd a c ha hc).min (.inr (by omega))
      · exact h.bd a c ha hc
    · have := h.diag a ha
      simp only [upd]; split
      · rename_i h2; obtain ⟨rfl, rfl⟩ := h2
        rw [Int.min_def]; split <;> omega
      · exact this
/-- The first p cells of a row are kept. -/
def keepUp (n : Nat) (cells : List Int) : Nat → Mat
  | 0 => openM n
  | p + 1 => keepM (keepUp n cells p) (p / (n + 1)) (p % (n + 1)) (cells.getD p 0)
theorem keepUp_fit (n : Nat) (cells : List Int) : ∀ p, (∀ q, q < p → rightB (cells.getD q 0) = true) → Fit n 1073741824 (keepUp n cells p)
  | 0, _ => openM_fit n
  | p + 1, h => keepM_fit (keepUp_fit n cells p fun q hq => h q (by omega)) _ _ (h p (by omega))
/-- The first p limits are kept. -/
def limUp (n : Nat) (l : List (Int × Int × Int)) : Nat → Mat
  | 0 => openM n
  | p + 1 => keepM (limUp n l p) (l.getD p (0, 0, 0)).1.toNat (l.getD p (0, 0, 0)).2.1.toNat (l.getD p (0, 0, 0)).2.2
/-- May a limit of n clocks be? -/
def limOk (n : Nat) (x : Int × Int × Int) : Bool := decide (0 ≤ x.1 ∧ x.1 ≤ n ∧ 0 ≤ x.2.1 ∧ x.2.1 ≤ n) && rightB x.2.2
theorem limUp_fit (n : Nat) (l : List (Int × Int × Int)) : ∀ p, (∀ q, q < p → limOk n (l.getD q (0, 0, 0)) = true) → Fit n 1073741824 (limUp n l p)
  | 0, _ => openM_fit n
  | p + 1, h => keepM_fit (limUp_fit n l p fun q hq => h q (by omega)) _ _ (by have := h p (by omega); simp only [limOk, Bool.and_eq_true] at this; exact this.2)

/-- All cells are right bounds. -/
def RightM (n : Nat) (m : Mat) : Prop := ∀ i j, i ≤ n → j ≤ n → rightB (m i j) = true
theorem right_zero (n : Nat) : RightM n (fun _ _ => 0) := fun _ _ _ _ => by show rightB 0 = true; decide
theorem narM_right {n : Nat} {m : Mat} (h : allR n m) : RightM n (narM n m) := fun i j hi hj => by
  unfold narM nar rightB
  rw [if_pos ⟨hi, hj⟩, decide_eq_true_iff]
  have := h i hi j hj
  unfold inR at this
  split <;> omega

/-- The same, where no row ends a round early. -/
def BadAt (n : Nat) (X : Int) (m : Mat) (i j : Nat) (cur : Mat) : Prop :=
  cur 0 0 < 1 ∧ Bd (2 * X + 1) (cur 0 0) ∧ (∀ c, c ≤ n → Bd (4 * X + 4) (cur 0 c)) ∧ (∀ a c, a ≤ n → c ≤ n → Bd (16 * X + 16) (cur a c)) ∧
  (∀ a c, a ≤ n → c ≤ n → (i < a ∨ (a = i ∧ j ≤ c)) → cur a c = m a c) ∧ (1 ≤ i → 1 ≤ j → Bd (3 * X + 2) (cur i 0))
def RefOk (n : Nat) (X : Int) (m : Mat) (k i j : Nat) (cur : Mat) : Prop :=
  (m k k = 1 ∧ cur = mix (fw k n m) m n i j) ∨ (k = 0 ∧ m 0 0 < 1 ∧ BadAt n X m i j cur)
theorem RefOk.bounds {n : Nat} {X : Int} {m : Mat} (hf : Fit n X m) (hX : 0 ≤ X) {k i j : Nat} {cur : Mat} (h : RefOk n X m k i j cur) (hk : k ≤ n) {a c : Nat} (ha : a ≤ n) (hc : c ≤ n) :
    Bd (16 * X + 16) (cur a c) := by
  rcases h with ⟨h1, rfl⟩ | ⟨_, _, hb⟩
  · exact ((hf.mixd hk hX i j).bd a c ha hc).mono (by omega)
  · exact hb.2.2.2.1 a c ha hc
theorem BadAt.step {n : Nat} {X : Int} {m : Mat} (hf : Fit n X m) (hX : 0 ≤ X) {i j : Nat} {cur : Mat} (h : BadAt n X m i j cur) (hi : i ≤ n) (hj : j ≤ n) :
    BadAt n X m i (j + 1) (upd cur i j (min (cur i j) (wsum (cur i 0) (cur 0 j)))) := by
  obtain ⟨h1, h2, h3, h4, h5, h6⟩ := h
  have e := h5 i j hi hj (.inr ⟨rfl, Nat.le_refl _⟩)
  have hm := hf.bd i j hi hj
  have hnew : Bd (16 * X + 16) (min (cur i j) (wsum (cur i 0) (cur 0 j))) ∧ (i = 0 → Bd (4 * X + 4) (min (cur i j) (wsum (cur i 0) (cur 0 j)))) ∧
      (i = 0 → j = 0 → Bd (2 * X + 1) (min (cur i j) (wsum (cur i 0) (cur 0 j))) ∧ min (cur i j) (wsum (cur i 0) (cur 0 j)) < 1) ∧
      (j = 0 → Bd (3 * X + 2) (min (cur i j) (wsum (cur i 0) (cur 0 j)))) := by
    rw [e]
    by_cases hi0 : i = 0
    · subst hi0
      by_cases hj0 : j = 0
      · subst hj0
        have := (hm.mono (show X ≤ 2 * X + 1 by omega)).min ((hm.sum hm).mono (show X + X + 1 ≤ 2 * X + 1 by omega))
        rw [e] at h1 ⊢
        refine ⟨this.mono (by omega), fun _ => this.mono (by omega), fun _ _ => ⟨this, ?_⟩, fun _ => this.mono (by omega)⟩
        rw [Int.min_def]; split <;> omega
      · have e2 := h5 0 j (by omega) hj (.inr ⟨rfl, Nat.le_refl _⟩)
        have := (hm.mono (show X ≤ 3 * X + 2 by omega)).min (((h2.sum hm)).mono (show 2 * X + 1 + X + 1 ≤ 3 * X + 2 by omega))
        rw [e2]
        exact ⟨this.mono (by omega), fun _ => this.mono (by omega), fun _ h => absurd h hj0, fun h => absurd h hj0⟩
    · by_cases hj0 : j = 0
      · subst hj0
        have := (hm.mono (show X ≤ 3 * X + 2 by omega)).min (((hm.sum h2)).mono (show X + (2 * X + 1) + 1 ≤ 3 * X + 2 by omega))
        rw [e]
        exact ⟨this.mono (by omega), fun h => absurd h hi0, fun h => absurd h hi0, fun _ => this⟩
      · have h7 := h6 (by omega) (by omega)
        have := (hm.mono (show X ≤ 7 * X + 7 by omega)).min ((h7.sum (h3 j hj)).mono (show 3 * X + 2 + (4 * X + 4) + 1 ≤ 7 * X + 7 by omega))
        exact ⟨this.mono (by omega), fun h => absurd h hi0, fun h => absurd h hi0, fun h => absurd h hj0⟩
  obtain ⟨n1, n2, n3, n4⟩ := hnew
  generalize min (cur i j) (wsum (cur i 0) (cur 0 j)) = v at *
  refine ⟨?_, ?_, ?_, ?_, ?_, ?_⟩
  · simp only [upd]; split
    · rename_i h; exact (n3 h.1.symm h.2.symm).2
    · exact h1
  · simp only [upd]; split
    · rename_i h; exact (n3 h.1.symm h.2.symm).1
    · exact h2
  · intro c hc
    simp only [upd]; split
    · rename_i h; exact n2 h.1.symm
    · exact h3 c hc
  · intro a c ha hc
    simp only [upd]; split
    · exact n1
    · exact h4 a c ha hc
  · intro a c ha hc hac
    simp only [upd]; rw [if_neg (by omega)]
    exact h5 a c ha hc (by omega)
  · intro hi1 _
    by_cases hj0 : j = 0
    · unfold upd; rw [if_pos ⟨rfl, hj0.symm⟩]; exact n4 hj0
    · unfold upd; rw [if_neg (fun h => hj0 h.2.symm)]; exact h6 hi1 (by omega)
theorem RefOk.step {n : Nat} {X : Int} {m : Mat} (hf : Fit n X m) (hX : 0 ≤ X) {k i j : Nat} {cur : Mat} (h : RefOk n X m k i j cur) (hk : k ≤ n) (hi : i ≤ n) (hj : j ≤ n) :
    RefOk n X m k i (j + 1) (upd cur i j (min (cur i j) (wsum (cur i k) (cur k j)))) := by
  rcases h with ⟨h1, rfl⟩ | ⟨rfl, h0, hb⟩
  · exact .inl ⟨h1, by rw [mix_cell h1 hi hj, mix_step _ _ _ _ _ hj]⟩
  · exact .inr ⟨rfl, h0, hb.step hf hX hi hj⟩
theorem RefOk.row {n : Nat} {X : Int} {m : Mat} {k i : Nat} {cur : Mat} (h : RefOk n X m k i (n + 1) cur) : RefOk n X m k (i + 1) 0 cur := by
  rcases h with ⟨h1, rfl⟩ | ⟨rfl, h0, h1, h2, h3, h4, h5, h6⟩
  · exact .inl ⟨h1, mix_row _ _ _ _⟩
  · exact .inr ⟨rfl, h0, h1, h2, h3, h4, fun a c ha hc hac => h5 a c ha hc (by omega), fun _ h => by omega⟩
theorem RoundOk.ref {n : Nat} {m0 m : Mat} {k : Nat} (h : RoundOk n m0 k m) (hk : k ≤ n) : RefOk n (1073741824 * 4 ^ k) m k 0 0 m := by
  have hX : (0 : Int) ≤ 1073741824 * 4 ^ k := by have := one_le_pow2 k; omega
  have hone : m k k = 1 → RefOk n (1073741824 * 4 ^ k) m k 0 0 m := fun h1 => .inl ⟨h1, (mix_start _ _ _).symm⟩
  rcases h.one with rfl | h1
  · by_cases h0 : m 0 0 < 1
    · refine .inr ⟨rfl, h0, h0, (h.fit.bd 0 0 (by omega) (by omega)).mono (by omega), fun c hc => (h.fit.bd 0 c (by omega) hc).mono (by omega), fun a c ha hc => (h.fit.bd a c ha hc).mono (by omega), fun _ _ _ _ _ => rfl, fun h => by omega⟩
    · exact hone (by have := h.fit.diag 0 (by omega); omega)
  · exact hone (h1 k hk)
/-- Behind the round: a cell of a clock against itself below 1 tells that there is no valuation. -/
theorem RefOk.fail {n : Nat} {m0 m cur : Mat} {k i : Nat} (hr : RoundOk n m0 k m) (hk : k ≤ n) (h : RefOk n (1073741824 * 4 ^ k) m k (n + 1) 0 cur) (hi : i ≤ n) (hd : cur i i < 1) : closed n m0 = none := by
  rcases h with ⟨h1, rfl⟩ | ⟨rfl, h0, _⟩
  · rw [mix_done] at hd; exact hr.fail hk hi hd
  · refine hr.fail hk (Nat.zero_le _) ?_
    unfold fw; rw [if_pos (show 0 ≤ n ∧ 0 ≤ n from by omega), Int.min_def]; split <;> omega
theorem RefOk.next {n : Nat} {m0 m cur : Mat} {k : Nat} (hr : RoundOk n m0 k m) (hk : k ≤ n) (h : RefOk n (1073741824 * 4 ^ k) m k (n + 1) 0 cur) (hd : ∀ i, i ≤ n → 1 ≤ cur i i) : RoundOk n m0 (k + 1) cur := by
  rcases h with ⟨h1, rfl⟩ | ⟨rfl, h0, hb⟩
  · refine hr.next hk (.inl ⟨h1, rfl⟩) ?_
    rw [mix_done] at hd; exact hd
  · have := hd 0 (by omega); have := hb.1; omega

/-- A narrow bound, wide. -/
def wid (b : Int) : Int := if b = 2147483647 then none62 else b
/-- The first p bounds, wide. -/
def widUp (l : List Int) : Nat → List Int
  | 0 => []
  | p + 1 => widUp l p ++ [wid (l.getD p 0)]
theorem widUp_length (l : List Int) : ∀ p, (widUp l p).length = p
  | 0 => rfl
  | p + 1 => by simp [widUp, widUp_length l p]
theorem widUp_getD (l : List Int) : ∀ p q, q < p → (widUp l p).getD q 0 = wid (l.getD q 0)
  | 0, q, h => by omega
  | p + 1, q, h => by
    rw [List.getD_eq_getElem?_getD]
    by_cases e : q = p
    · subst e
      rw [show widUp l (q + 1) = widUp l q ++ [wid (l.getD q 0)] from rfl, List.getElem?_append_right (by rw [widUp_length]; omega), widUp_length]
      simp
    · rw [show widUp l (p + 1) = widUp l p ++ [wid (l.getD p 0)] from rfl, List.getElem?_append_left (by rw [widUp_length]; omega), ← List.getD_eq_getElem?_getD]
      exact widUp_getD l p q (by omega)

/-- What Of answers. -/
def ofP (n : Int) (cells : List Int) : Option Mat × Int :=
  if 0 ≤ n ∧ n ≤ 8 then
    if (cells.length : Int) = (n + 1) * (n + 1) then
      if cells.all rightB then zoneP n.toNat (keepUp n.toNat cells cells.length) else (none, 7)
    else (none, 6)
  else (none, 12)
/-- What Limits answers. -/
def limP (n : Int) (l : List (Int × Int × Int)) : Option Mat × Int :=
  if 0 ≤ n ∧ n ≤ 8 then
    if l.all (limOk n.toNat) then zoneP n.toNat (limUp n.toNat l l.length) else (none, 7)
  else (none, 12)
theorem all_getD {α : Type} (l : List α) (f : α → Bool) (d : α) : l.all f = true ↔ ∀ q, q < l.length → f (l.getD q d) = true := by
  rw [List.all_eq_true]
  constructor
  · intro h q hq
    rw [List.getD_eq_getElem?_getD, List.getElem?_eq_getElem hq]
    exact h _ (List.getElem_mem hq)
  · intro h x hx
    obtain ⟨q, hq, rfl⟩ := List.getElem_of_mem hx
    have := h q hq
    rw [List.getD_eq_getElem?_getD, List.getElem?_eq_getElem hq] at this
    exact this

/-! ### all cells, row by row -/
def rowsL (n : Nat) (m : Mat) : Nat → List Int
  | 0 => []
  | i + 1 => rowsL n m i ++ (List.range (n + 1)).map (fun c => m i c)
/-- All cells. -/
def flat (n : Nat) (m : Mat) : List Int := rowsL n m (n + 1)
theorem rowsL_length (n : Nat) (m : Mat) : ∀ i, (rowsL n m i).length = i * (n + 1)
  | 0 => by simp [rowsL]
  | i + 1 => by simp [rowsL, rowsL_length n m i, Nat.add_mul]
theorem flat_length (n : Nat) (m : Mat) : (flat n m).length = (n + 1) * (n + 1) := rowsL_length n m _
theorem rowsL_getD (n : Nat) (m : Mat) : ∀ i p, p < i * (n + 1) → (rowsL n m i).getD p 0 = m (p / (n + 1)) (p % (n + 1))
  | 0, p, h => by simp at h
  | i + 1, p, h => by
    rw [List.getD_eq_getElem?_getD]
    by_cases hp : p < i * (n + 1)
    · rw [show rowsL n m (i + 1) = rowsL n m i ++ (List.range (n + 1)).map (fun c => m i c) from rfl, List.getElem?_append_left (by rw [rowsL_length]; exact hp), ← List.getD_eq_getElem?_getD]
      exact rowsL_getD n m i p hp
    · rw [Nat.add_mul, Nat.one_mul] at h
      have e1 : p / (n + 1) = i := by
        apply Nat.div_eq_of_lt_le
        · omega
        · rw [Nat.add_mul]; omega
      have e2 : p % (n + 1) = p - i * (n + 1) := by
        rw [Nat.mod_def, e1, Nat.mul_comm]
      rw [show rowsL n m (i + 1) = rowsL n m i ++ (List.range (n + 1)).map (fun c => m i c) from rfl, List.getElem?_append_right (by rw [rowsL_length]; omega), rowsL_length, e1, e2]
      simp [show p - i * (n + 1) < n + 1 by omega]
theorem flat_getD (n : Nat) (m : Mat) (p : Nat) (h : p < (n + 1) * (n + 1)) : (flat n m).getD p 0 = m (p / (n + 1)) (p % (n + 1)) := rowsL_getD n m _ p h

theorem at_row {n i j : Nat} (hj : j < n + 1) : (i * (n + 1) + j) / (n + 1) = i ∧ (i * (n + 1) + j) % (n + 1) = j := by
  constructor
  · rw [Nat.mul_comm, Nat.mul_add_div (by omega), Nat.div_eq_of_lt hj, Nat.add_zero]
  · rw [Nat.mul_comm, Nat.mul_add_mod, Nat.mod_eq_of_lt hj]
theorem at_lt {n i j : Nat} (hi : i < n + 1) (hj : j < n + 1) : i * (n + 1) + j < (n + 1) * (n + 1) := by
  have : i * (n + 1) ≤ n * (n + 1) := Nat.mul_le_mul_right _ (by omega)
  rw [Nat.add_mul, Nat.one_mul]; omega
theorem flat_at {n i j : Nat} (m : Mat) (hi : i < n + 1) (hj : j < n + 1) : (flat n m).getD (i * (n + 1) + j) 0 = m i j := by
  rw [flat_getD _ _ _ (at_lt hi hj), (at_row hj).1, (at_row hj).2]
theorem list_ext0 {l k : List Int} (hl : l.length = k.length) (h : ∀ p, p < l.length → l.getD p 0 = k.getD p 0) : l = k := by
  apply List.ext_getElem hl
  intro p h1 h2
  have := h p h1
  simpa [List.getD_eq_getElem?_getD, List.getElem?_eq_getElem h1, List.getElem?_eq_getElem h2] using this
theorem flat_upd {n i j : Nat} (m : Mat) (hi : i < n + 1) (hj : j < n + 1) (v : Int) : (flat n m).set (i * (n + 1) + j) v = flat n (upd m i j v) := by
  apply list_ext0 (by simp [flat_length])
  intro p hp
  simp only [List.length_set, flat_length] at hp
  rw [flat_getD _ _ _ hp, List.getD_eq_getElem?_getD, List.getElem?_set]
  by_cases e : i * (n + 1) + j = p
  · rw [if_pos e, if_pos (by rw [flat_length]; omega)]
    subst e
    simp [upd, (at_row (i := i) hj).1, (at_row (i := i) hj).2]
  · rw [if_neg e, ← List.getD_eq_getElem?_getD, flat_getD _ _ _ hp]
    have : ¬ (p / (n + 1) = i ∧ p % (n + 1) = j) := fun h => e (by rw [← h.1, ← h.2, Nat.mul_comm]; exact Nat.div_add_mod _ _)
    simp [upd, this]
theorem flat_congr {n : Nat} {m o : Mat} (h : ∀ i j, i ≤ n → j ≤ n → m i j = o i j) : flat n m = flat n o := by
  apply list_ext0 (by simp [flat_length])
  intro p hp
  rw [flat_length] at hp
  rw [flat_getD _ _ _ hp, flat_getD _ _ _ hp]
  have h1 : p / (n + 1) < n + 1 := Nat.div_lt_of_lt_mul hp
  have h2 := Nat.mod_lt p (show 0 < n + 1 by omega)
  exact h _ _ (by omega) (by omega)

/-- The diagonal and the first row made at most 1, as far as clock i. -/
def clUp (m : Mat) (i : Nat) : Mat := fun a c => if (a = c ∧ a < i) ∨ (a = 0 ∧ c < i) then min (m a c) 1 else m a c
theorem clUp_zero (m : Mat) : clUp m 0 = m := by funext a c; simp [clUp]
theorem clUp_at (m : Mat) (i : Nat) : clUp m i i i = m i i := by unfold clUp; rw [if_neg (by omega)]
theorem clUp_top (m : Mat) (i : Nat) : clUp m i 0 i = m 0 i := by unfold clUp; rw [if_neg (by omega)]
theorem clUp_step (m : Mat) (i : Nat) : upd (upd (clUp m i) i i (min (clUp m i i i) 1)) 0 i (min (upd (clUp m i) i i (min (clUp m i i i) 1) 0 i) 1) = clUp m (i + 1) := by
  rw [clUp_at]
  funext a c
  by_cases hc : c = i
  · subst hc
    by_cases ha : a = 0
    · subst ha
      by_cases h0 : c = 0
      · subst h0
        simp [upd, clUp]
      · have h0' : ¬ 0 = c := fun h => h0 h.symm
        simp [upd, clUp, h0']
    · by_cases hac : a = c
      · subst hac
        simp [upd, clUp, ha]
      · have : ¬ (a = c ∧ a < c + 1) := fun h => hac h.1
        simp [upd, clUp, ha, hac]
  · have h1 : ¬ (a = 0 ∧ c = i) := fun h => hc h.2
    have h2 : ¬ (a = i ∧ c = i) := fun h => hc h.2
    show (if a = 0 ∧ c = i then _ else (if a = i ∧ c = i then _ else clUp m i a c)) = _
    rw [if_neg h1, if_neg h2]
    unfold clUp
    by_cases h3 : (a = c ∧ a < i) ∨ (a = 0 ∧ c < i)
    · rw [if_pos h3, if_pos (by omega)]
    · rw [if_neg h3, if_neg (by omega)]
theorem clUp_fit {n : Nat} {m : Mat} (h : ∀ i j, i ≤ n → j ≤ n → Bd 1073741824 (m i j)) : Fit n 1073741824 (clUp m (n + 1)) := by
  refine ⟨fun i j hi hj => ?_, fun i hi => ?_⟩
  · unfold clUp; split
    · exact (h i j hi hj).min (.inr (by omega))
    · exact h i j hi hj
  · unfold clUp; rw [if_pos (by omega), Int.min_def]; split <;> omega
/-- The first p wide bounds, narrow. -/
def narUp (l : List Int) : Nat → List Int
  | 0 => []
  | p + 1 => narUp l p ++ [nar (l.getD p 0)]
theorem narUp_length (l : List Int) : ∀ p, (narUp l p).length = p
  | 0 => rfl
  | p + 1 => by simp [narUp, narUp_length l p]
theorem narUp_getD (l : List Int) : ∀ p q, q < p → (narUp l p).getD q 0 = nar (l.getD q 0)
  | 0, q, h => by omega
  | p + 1, q, h => by
    rw [List.getD_eq_getElem?_getD]
    by_cases e : q = p
    · subst e
      rw [show narUp l (q + 1) = narUp l q ++ [nar (l.getD q 0)] from rfl, List.getElem?_append_right (by rw [narUp_length]; omega), narUp_length]
      simp
    · rw [show narUp l (p + 1) = narUp l p ++ [nar (l.getD p 0)] from rfl, List.getElem?_append_left (by rw [narUp_length]; omega), ← List.getD_eq_getElem?_getD]
      exact narUp_getD l p q (by omega)
theorem narUp_flat (n : Nat) (m : Mat) : narUp (flat n m) ((n + 1) * (n + 1)) = flat n (narM n m) := by
  apply list_ext0 (by rw [narUp_length, flat_length])
  intro p hp
  rw [narUp_length] at hp
  have h1 : p / (n + 1) < n + 1 := Nat.div_lt_of_lt_mul hp
  have h2 := Nat.mod_lt p (show 0 < n + 1 by omega)
  rw [narUp_getD _ _ _ hp, flat_getD _ _ _ hp, flat_getD _ _ _ hp]
  unfold narM; rw [if_pos (by omega)]
theorem allR_flat {n : Nat} {m : Mat} (h : ∀ p, p < (n + 1) * (n + 1) → inR ((flat n m).getD p 0)) : allR n m := fun i hi j hj => by
  have := h (i * (n + 1) + j) (at_lt (by omega) (by omega))
  rwa [flat_at m (by omega) (by omega)] at this
theorem allR_at {n : Nat} {m : Mat} (h : allR n m) {p : Nat} (hp : p < (n + 1) * (n + 1)) : inR ((flat n m).getD p 0) := by
  have h1 : p / (n + 1) < n + 1 := Nat.div_lt_of_lt_mul hp
  have h2 := Nat.mod_lt p (show 0 < n + 1 by omega)
  rw [flat_getD _ _ _ hp]
  exact h _ (by omega) _ (by omega)

end Go.Proofs.Ytfegongaflekiaa

/- Points of fractions: what is right, what they break, what delays there are: plain. -/
namespace Go.Proofs.Ytfegongaflekiaa
set_option linter.unusedVariables false
set_option linter.unusedSimpArgs false

/-- A valuation that may be one. -/
def rightV (v : List (Int × Int)) : Bool := decide (v.length ≤ 8) && v.all fun r => rightR r && decide (0 ≤ r.1)
/-- A clock's value; of the clock 0: 0. -/
def clockV (v : List (Int × Int)) (i : Nat) : Int × Int := if i = 0 then (0, 1) else v.getD (i - 1) (0, 0)
theorem clock_right {v : List (Int × Int)} (h : rightV v = true) {i : Nat} (hi : i ≤ v.length) : rightR (clockV v i) = true ∧ 0 ≤ (clockV v i).1 := by
  unfold clockV
  split
  · exact ⟨by decide, by decide⟩
  · obtain ⟨_, h2⟩ := Bool.and_eq_true_iff.1 h
    have hlt : i - 1 < v.length := by omega
    have h3 := List.all_eq_true.1 h2 v[i - 1] (List.getElem_mem hlt)
    rw [List.getD_eq_getElem?_getD, List.getElem?_eq_getElem hlt]
    obtain ⟨a, b⟩ := Bool.and_eq_true_iff.1 h3
    exact ⟨a, of_decide_eq_true b⟩
/-- The cell k is kept. -/
def keptAt (n : Nat) (m : Mat) (v : List (Int × Int)) (k : Nat) : Bool := keepsQ (clockV v (k / (n + 1))) (clockV v (k % (n + 1))) (m (k / (n + 1)) (k % (n + 1)))
/-- The first cell from k on that is not kept; fuel: how many are left. -/
def breakFrom (n : Nat) (m : Mat) (v : List (Int × Int)) : Nat → Nat → Option Nat
  | 0, _ => none
  | g + 1, k => if keptAt n m v k = true then breakFrom n m v g (k + 1) else some k
def breaksP (n : Nat) (m : Mat) (v : List (Int × Int)) : Option Nat := breakFrom n m v ((n + 1) * (n + 1)) 0
/-- A valuation is in a zone. -/
def inP (n : Nat) (m : Mat) (v : List (Int × Int)) : Bool := rightV v && decide (v.length = n) && (breaksP n m v).isNone

/-! ### delays -/
structure SpanP where
  lo : Int × Int
  hi : Int × Int
  loIn : Bool
  hiIn : Bool
  ever : Bool
def narrowP (s : SpanP) (x : Int × Int) (b : Int) (above : Bool) : Option SpanP :=
  if (subP (if above = true then b / 2 else -(b / 2), 1) x).2 = 0 then
    (if above = true then
      (if s.ever = true ∨ cmpP (subP (b / 2, 1) x).1 s.hi < 0 ∨ (cmpP (subP (b / 2, 1) x).1 s.hi = 0 ∧ b % 2 = 0) then some { s with hi := (subP (b / 2, 1) x).1, hiIn := decide (b % 2 = 1), ever := false } else some s)
    else
      (if 0 < cmpP (subP (-(b / 2), 1) x).1 s.lo ∨ (cmpP (subP (-(b / 2), 1) x).1 s.lo = 0 ∧ b % 2 = 0) then some { s with lo := (subP (-(b / 2), 1) x).1, loIn := decide (b % 2 = 1) } else some s))
  else none
def delayStep (n : Nat) (m : Mat) (v : List (Int × Int)) (i j : Nat) (s : SpanP) : Option SpanP :=
  if decide (i = 0) = decide (j = 0) then (if keepsQ (clockV v i) (clockV v j) (m i j) = true then some s else none)
  else if m i j = 2147483647 then some s
  else narrowP s (clockV v (max i j)) (m i j) (decide (0 < i))
def delayFrom (n : Nat) (m : Mat) (v : List (Int × Int)) : Nat → Nat → SpanP → Option SpanP
  | 0, _, s => some s
  | g + 1, k, s => (delayStep n m v (k / (n + 1)) (k % (n + 1)) s).bind (delayFrom n m v g (k + 1))
def spanEnd (s : SpanP) : Bool := s.ever || (!decide (0 < cmpP s.lo s.hi) && (!decide (cmpP s.lo s.hi = 0) || (s.loIn && s.hiIn)))
def delaysP (n : Nat) (m : Mat) (v : List (Int × Int)) : Option SpanP :=
  if rightV v = true ∧ v.length = n ∧ ¬ m 0 0 < 1 then
    (delayFrom n m v ((n + 1) * (n + 1)) 0 ⟨(0, 1), (0, 0), true, false, true⟩).bind fun s => if spanEnd s = true then some s else none
  else none

end Go.Proofs.Ytfegongaflekiaa
