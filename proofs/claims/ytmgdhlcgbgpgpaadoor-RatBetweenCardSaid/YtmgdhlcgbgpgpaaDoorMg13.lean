/- Texts of ours, laid together: Ta, Tb, Tc, Tf, Td, Te, Tg, Th. -/
import Derived.Test.YtmgdhlcgbgpgpaaDoorMg12
/- The simplest fraction between two: the document's way and the program's are one, in plain numbers. -/
namespace Go.Proofs.YtmgdhlcgbgpgpaaDoor
open Go Go.RowKit
set_option linter.unusedVariables false
set_option linter.unusedSimpArgs false

/-- The simplest fraction above a / b and below c / d (no limit, if d is 0): as the document has it, numbers without bounds. -/
def simN : Nat → Nat → Nat → Nat → Nat → Nat × Nat
  | 0, _, _, _, _ => (1, 1)
  | g + 1, a, b, c, d =>
    if d = 0 ∨ (a / b + 1) * d < c then (a / b + 1, 1)
    else (a / b * (simN g d (c - a / b * d) b (a % b)).1 + (simN g d (c - a / b * d) b (a % b)).2, (simN g d (c - a / b * d) b (a % b)).1)

theorem simN_pos : ∀ g a b c d, 1 ≤ (simN g a b c d).1 ∧ 1 ≤ (simN g a b c d).2
  | 0, _, _, _, _ => ⟨Nat.le_refl _, Nat.le_refl _⟩
  | g + 1, a, b, c, d => by
    have ih := simN_pos g d (c - a / b * d) b (a % b)
    rw [simN]
    split
    · exact ⟨by simp, by simp⟩
    · exact ⟨by show 1 ≤ _ + _; omega, ih.1⟩
/-- Where it goes on, what is left is a smaller question of the same kind. -/
theorem sim_on {a b c d : Nat} (hb : 0 < b) (h : a * d < c * b) (hn : ¬ (d = 0 ∨ (a / b + 1) * d < c)) :
    0 < c - a / b * d ∧ c - a / b * d ≤ d ∧ a % b < b ∧ d * (a % b) < b * (c - a / b * d) ∧ a / b * d < c := by
  have hd : 0 < d := by omega
  have h1 := Nat.div_add_mod a b
  have h2 := Nat.mod_lt a hb
  have h3 : c ≤ a / b * d + d := by
    have : ¬ (a / b + 1) * d < c := fun x => hn (.inr x)
    rw [Nat.add_mul, Nat.one_mul] at this
    omega
  obtain ⟨n, hnn⟩ : ∃ n, n = a / b := ⟨_, rfl⟩
  obtain ⟨r, hr⟩ : ∃ r, r = a % b := ⟨_, rfl⟩
  rw [← hnn, ← hr] at h1
  rw [← hr] at h2
  rw [← hnn] at h3
  rw [← hnn, ← hr]
  have e : a * d = n * d * b + r * d := by rw [← h1, Nat.add_mul]; congr 1; rw [Nat.mul_comm b n, Nat.mul_assoc, Nat.mul_comm b d, Nat.mul_assoc]
  have h4 : n * d < c := by
    rcases Nat.lt_or_ge (n * d) c with h' | h'
    · exact h'
    · exfalso
      have : c * b ≤ n * d * b := Nat.mul_le_mul_right b h'
      omega
  refine ⟨by omega, by omega, h2, ?_, h4⟩
  have e2 : b * (c - n * d) = c * b - n * d * b := by rw [Nat.mul_sub, Nat.mul_comm b c, Nat.mul_comm b (n * d)]
  rw [e2, Nat.mul_comm d r]
  have : n * d * b ≤ c * b := Nat.mul_le_mul_right b (by omega)
  omega
/-- It lies between, in lowest terms. -/
theorem simN_lies : ∀ g a b c d, 0 < b → 0 < c → a * d < c * b → b + d ≤ g → a * (simN g a b c d).2 < (simN g a b c d).1 * b ∧ (simN g a b c d).1 * d < c * (simN g a b c d).2 ∧ Nat.gcd (simN g a b c d).1 (simN g a b c d).2 = 1
  | 0, a, b, c, d, hb, _, _, hg => by omega
  | g + 1, a, b, c, d, hb, hc, h, hg => by
    rw [simN]
    by_cases hn : d = 0 ∨ (a / b + 1) * d < c
    · rw [if_pos hn]
      refine ⟨?_, ?_, Nat.gcd_one_right _⟩
      · show a * 1 < (a / b + 1) * b
        have h1 := Nat.div_add_mod a b
        have h2 := Nat.mod_lt a hb
        rw [Nat.add_mul, Nat.one_mul, Nat.mul_comm (a / b) b]
        omega
      · show (a / b + 1) * d < c * 1
        rcases hn with hn | hn
        · rw [hn]; omega
        · omega
    · rw [if_neg hn]
      obtain ⟨s1, s2, s3, s4, s5⟩ := sim_on hb h hn
      obtain ⟨i1, i2, i3⟩ := simN_lies g d (c - a / b * d) b (a % b) s1 hb s4 (by omega)
      obtain ⟨u, hu⟩ : ∃ u, u = (simN g d (c - a / b * d) b (a % b)).1 := ⟨_, rfl⟩
      obtain ⟨v, hv⟩ : ∃ v, v = (simN g d (c - a / b * d) b (a % b)).2 := ⟨_, rfl⟩
      rw [← hu, ← hv] at i1 i2 i3
      rw [← hu, ← hv]
      have h1 := Nat.div_add_mod a b
      obtain ⟨n, hnn⟩ : ∃ n, n = a / b := ⟨_, rfl⟩
      obtain ⟨r, hr⟩ : ∃ r, r = a % b := ⟨_, rfl⟩
      rw [← hnn] at i1 h1 s5 ⊢
      rw [← hr] at i2 h1
      refine ⟨?_, ?_, ?_⟩
      · show a * u < (n * u + v) * b
        have e1 : a * u = b * n * u + r * u := by rw [← h1, Nat.add_mul]
        have e2 : (n * u + v) * b = b * n * u + b * v := by rw [Nat.add_mul, Nat.mul_comm v b]; congr 1; rw [Nat.mul_comm (n * u) b, Nat.mul_assoc]
        have e3 : u * r = r * u := Nat.mul_comm _ _
        omega
      · show (n * u + v) * d < c * u
        have e1 : (n * u + v) * d = n * d * u + d * v := by rw [Nat.add_mul, Nat.mul_comm v d]; congr 1; rw [Nat.mul_assoc, Nat.mul_comm u d, Nat.mul_assoc]
        have e2 : u * (c - n * d) = c * u - n * d * u := by rw [Nat.mul_sub, Nat.mul_comm u c, Nat.mul_comm u (n * d)]
        have e3 : n * d * u ≤ c * u := Nat.mul_le_mul_right u (by omega)
        omega
      · show Nat.gcd (n * u + v) u = 1
        rw [Nat.gcd_comm, Nat.mul_comm n u, Nat.gcd_mul_left_add_right]
        exact i3
theorem simN_le {g a b c d : Nat} (hb : 0 < b) (hba : b ≤ a) : (simN (g + 1) a b c d).2 ≤ (simN (g + 1) a b c d).1 := by
  have hn : 1 ≤ a / b := (Nat.one_le_div_iff hb).2 hba
  rw [simN]
  split
  · show 1 ≤ a / b + 1
    omega
  · show (simN g d (c - a / b * d) b (a % b)).1 ≤ a / b * (simN g d (c - a / b * d) b (a % b)).1 + _
    have := Nat.mul_le_mul_right (simN g d (c - a / b * d) b (a % b)).1 hn
    omega

/-! ### the program's steps -/
theorem right_whole (n : Int) : rightR (n, 1) = true := decide_eq_true ⟨by show (0 : Int) < 1; decide, by show Nat.gcd n.natAbs 1 = 1; exact Nat.gcd_one_right _⟩
theorem cmp_whole {n : Int} {h : Int × Int} (hh : rightR h = true) : (0 ≤ cmpP (n, 1) h ↔ h.1 ≤ n * h.2) := by
  unfold cmpP
  rw [if_pos (by rw [right_whole, hh]; rfl)]
  show 0 ≤ cmpI (n * h.2 - h.1 * 1) ↔ _
  rcases cmp_cases (n * h.2 - h.1 * 1) with ⟨h1, h2⟩ | ⟨h1, h2⟩ | ⟨h1, h2⟩ <;> rw [h2] <;> constructor <;> intro h3 <;> omega
theorem right_of {a b : Nat} (hb : 0 < b) (h : Nat.gcd a b = 1) : rightR ((a : Int), (b : Int)) = true := decide_eq_true ⟨by show (0 : Int) < (b : Int); omega, by show Nat.gcd (a : Int).natAbs (b : Int).natAbs = 1; simpa using h⟩
theorem gcd_of_right {a b : Nat} (h : rightR ((a : Int), (b : Int)) = true) : 0 < b ∧ Nat.gcd a b = 1 := by
  obtain ⟨h1, h2⟩ := of_decide_eq_true h
  have h1 : (0 : Int) < (b : Int) := h1
  exact ⟨by omega, by simpa using h2⟩
/-- How far inner has come behind its first step. -/
structure InvR (p q pp qq : Int) (a b : Nat) : Prop where
  s : (0 ≤ p ∧ 0 ≤ pp) ∨ (p ≤ 0 ∧ pp ≤ 0) ∨ (p < 0 ∧ pp = 1)
  q1 : 1 ≤ q
  q2 : 0 ≤ qq
  b0 : 0 < b
  ba : b ≤ a
def ends (P Q : Int) : (Int × Int) × Int := if (fitsI P && fitsI Q) = true then ((P, Q), 0) else ((0, 0), 4)
theorem ends_no {P Q : Int} (h : fitsI P = false ∨ fitsI Q = false) : ends P Q = ((0, 0), 4) := by
  unfold ends
  rw [if_neg]
  rcases h with h | h <;> simp [h]

end Go.Proofs.YtmgdhlcgbgpgpaaDoor

/- inner goes to the simplest fraction. -/
namespace Go.Proofs.YtmgdhlcgbgpgpaaDoor
open Go Go.RowKit
set_option linter.unusedVariables false
set_option linter.unusedSimpArgs false

theorem floor_nat {a b : Nat} (h : rightR ((a : Int), (b : Int)) = true) : floorP ((a : Int), (b : Int)) = ((a / b : Nat) : Int) := by
  unfold floorP; rw [if_pos h]; show (a : Int) / (b : Int) = _; exact (Int.natCast_ediv a b).symm
theorem part_nat {a b : Nat} (h : rightR ((a : Int), (b : Int)) = true) : partP ((a : Int), (b : Int)) = (((a % b : Nat) : Int), (b : Int)) := by
  unfold partP; rw [if_pos h]; show ((a : Int) % (b : Int), (b : Int)) = _; rw [Int.natCast_emod]
theorem sub_whole {x d n : Int} (h : rightR (x, d) = true) (h1 : fitsI (x - n * d) = true) (hd : d ≤ 9223372036854775807) : subP (x, d) (n, 1) = ((x - n * d, d), 0) := by
  obtain ⟨hp, hg⟩ := of_decide_eq_true h
  have hp : 0 < d := hp
  unfold subP
  rw [if_pos (by rw [h, right_whole]; rfl)]
  show fracP (x * 1 - n * d) (d * 1) = _
  rw [Int.mul_one, Int.mul_one]
  have hr : rightR (x - n * d, d) = true := decide_eq_true ⟨hp, by
    show Nat.gcd (x - n * d).natAbs d.natAbs = 1
    have hg : Nat.gcd x.natAbs d.natAbs = 1 := hg
    have e : Int.gcd (x - n * d) d = Int.gcd x d := by
      rw [Int.sub_eq_add_neg, ← Int.neg_mul, Int.gcd_add_mul_right_left]
    exact e.trans hg⟩
  exact right_frac (r := (x - n * d, d)) hr h1 hd
theorem fits_nat {n : Nat} (h : n ≤ 9223372036854775807) : fitsI (n : Int) = true := decide_eq_true (p := -9223372036854775808 ≤ (n : Int) ∧ (n : Int) ≤ 9223372036854775807) ⟨by omega, by omega⟩
theorem fits_iff {x : Int} : fitsI x = true ↔ -9223372036854775808 ≤ x ∧ x ≤ 9223372036854775807 := ⟨fun h => of_decide_eq_true (p := -9223372036854775808 ≤ x ∧ x ≤ 9223372036854775807) h, fun h => decide_eq_true h⟩
theorem not_fits {x : Int} (h : ¬ fitsI x = true) : fitsI x = false := by simpa using h

/-- What inner tells behind its first step. -/
theorem inner_sim : ∀ (g : Nat) (p q pp qq : Int) (a b c d : Nat) (hi : Int × Int) (op : Bool), b + d ≤ g → InvR p q pp qq a b → rightR ((a : Int), (b : Int)) = true → a ≤ 9223372036854775807 → b ≤ 9223372036854775807 →
    0 < c → a * d < c * b → (op = true → 0 < d ∧ hi = ((c : Int), (d : Int)) ∧ rightR ((c : Int), (d : Int)) = true ∧ c ≤ 9223372036854775807 ∧ d ≤ 9223372036854775807) → (op = false → d = 0) →
    innerP (g + 1) p q pp qq ((a : Int), (b : Int)) hi op = ends (((simN g a b c d).1 : Nat) * p + ((simN g a b c d).2 : Nat) * pp) (((simN g a b c d).1 : Nat) * q + ((simN g a b c d).2 : Nat) * qq)
  | 0, p, q, pp, qq, a, b, c, d, hi, op, hg, hv, _, _, _, _, _, _, _ => by have := hv.b0; omega
  | g + 1, p, q, pp, qq, a, b, c, d, hi, op, hg, hv, hr, ha, hbm, hc, h, h1, h0 => by
    have hb := hv.b0
    obtain ⟨n, hn⟩ : ∃ n, n = a / b := ⟨_, rfl⟩
    have hfl : ((n : Nat) : Int) = floorP ((a : Int), (b : Int)) := by rw [floor_nat hr, hn]
    have hn1 : 1 ≤ n := by rw [hn]; exact (Nat.one_le_div_iff hb).2 hv.ba
    have hna : n ≤ a := by rw [hn]; exact Nat.div_le_self a b
    have q1 := hv.q1
    have q2 := hv.q2
    have hpos := simN_pos (g + 1) a b c d
    have hpos2 := simN_pos g d (c - n * d) b (a % b)
    have hs : simN (g + 1) a b c d = if d = 0 ∨ (n + 1) * d < c then (n + 1, 1) else (n * (simN g d (c - n * d) b (a % b)).1 + (simN g d (c - n * d) b (a % b)).2, (simN g d (c - n * d) b (a % b)).1) := by
      rw [hn]; rfl
    have hmul : ∀ x y : Nat, (9223372036854775808 : Int) ≤ (x : Int) → 0 ≤ (y : Int) * qq → fitsI ((x : Int) * q + (y : Int) * qq) = false := fun x y hx hy => by
      refine not_fits fun hf => ?_
      have h2 := (fits_iff.1 hf).2
      have h3 : (x : Int) * 1 ≤ (x : Int) * q := Int.mul_le_mul_of_nonneg_left q1 (by omega)
      omega
    have hqq : ∀ y : Nat, 0 ≤ (y : Int) * qq := fun y => Int.mul_nonneg (by omega) q2
    by_cases hmax : (n : Int) = 9223372036854775807
    · rw [inner_none hfl hmax]
      refine (ends_no (.inr ?_)).symm
      refine hmul _ _ ?_ (hqq _)
      rw [hs]
      split
      · show (9223372036854775808 : Int) ≤ ((n + 1 : Nat) : Int); omega
      · show (9223372036854775808 : Int) ≤ ((n * (simN g d (c - n * d) b (a % b)).1 + (simN g d (c - n * d) b (a % b)).2 : Nat) : Int)
        have := Nat.mul_le_mul_left n hpos2.1
        omega
    · by_cases hstop : d = 0 ∨ (n + 1) * d < c
      · have h2 : op = false ∨ cmpP ((n : Int) + 1, 1) hi < 0 := by
          cases op with
          | false => exact .inl rfl
          | true =>
            obtain ⟨e1, e2, e3, _, _⟩ := h1 rfl
            refine .inr ?_
            have h3 : (n + 1) * d < c := hstop.resolve_left (by omega)
            have h4 := cmp_whole (n := (n : Int) + 1) e3
            rw [e2]
            have h5 : ¬ (c : Int) ≤ ((n : Int) + 1) * (d : Int) := by
              have : (((n + 1) * d : Nat) : Int) < (c : Int) := by omega
              rw [Int.natCast_mul, Int.natCast_add] at this
              simp only [Int.natCast_one] at this
              omega
            have h6 : ¬ 0 ≤ cmpP ((n : Int) + 1, 1) ((c : Int), (d : Int)) := fun h => h5 (h4.1 h)
            omega
        rw [inner_last hfl hmax h2, hs, if_pos hstop]
        show _ = ends (((n + 1 : Nat) : Int) * p + ((1 : Nat) : Int) * pp) (((n + 1 : Nat) : Int) * q + ((1 : Nat) : Int) * qq)
        rw [show (((n + 1 : Nat) : Int)) = (n : Int) + 1 by omega, show (((1 : Nat) : Int)) = 1 from rfl, Int.one_mul, Int.one_mul]
        rfl
      · have hop : op = true := by
          cases op with
          | true => rfl
          | false => exact absurd (.inl (h0 rfl)) hstop
        subst hop
        obtain ⟨e1, e2, e3, e4, e5⟩ := h1 rfl
        have hstop' : ¬ (d = 0 ∨ (a / b + 1) * d < c) := by rw [← hn]; exact hstop
        obtain ⟨s1, s2, s3, s4, s5⟩ := sim_on hb h hstop'
        rw [← hn] at s1 s2 s4 s5
        have h5 : (c : Int) ≤ ((n : Int) + 1) * (d : Int) := by
          have : c ≤ (n + 1) * d := by have := fun x => hstop (.inr x); omega
          have : (c : Int) ≤ (((n + 1) * d : Nat) : Int) := by omega
          rw [Int.natCast_mul, Int.natCast_add] at this
          exact this
        have hcmp : 0 ≤ cmpP ((n : Int) + 1, 1) hi := by rw [e2]; exact (cmp_whole e3).2 h5
        obtain ⟨gd1, gd2⟩ := gcd_of_right e3
        obtain ⟨gb1, gb2⟩ := gcd_of_right hr
        have ecs : (c : Int) - (n : Int) * (d : Int) = ((c - n * d : Nat) : Int) := by rw [Int.natCast_sub (by omega), Int.natCast_mul]
        have hsub : subP hi ((n : Int), 1) = ((((c - n * d : Nat) : Int), (d : Int)), 0) := by
          rw [e2, sub_whole e3 (by rw [ecs]; exact fits_nat (by omega)) (by omega), ecs]
        have hgs : Nat.gcd d (c - n * d) = 1 := by
          have : c = d * n + (c - n * d) := by rw [Nat.mul_comm d n]; omega
          rw [this, Nat.gcd_comm, Nat.gcd_mul_left_add_right] at gd2
          exact gd2
        have hgr : Nat.gcd b (a % b) = 1 := by rw [Nat.gcd_comm, ← Nat.gcd_rec, Nat.gcd_comm]; exact gb2
        have hpos2 := hpos2
        obtain ⟨u, hu⟩ : ∃ u, u = (simN g d (c - n * d) b (a % b)).1 := ⟨_, rfl⟩
        obtain ⟨v, hvv⟩ : ∃ v, v = (simN g d (c - n * d) b (a % b)).2 := ⟨_, rfl⟩
        rw [← hu, ← hvv] at hpos2 hs
        rw [if_neg hstop] at hs
        rw [inner_on hfl hmax hcmp, hsub, part_nat hr, hs]
        show (if (fitsI ((n : Int) * p + pp) && fitsI ((n : Int) * q + qq)) = true then _ else _) = ends (((n * u + v : Nat) : Int) * p + ((u : Nat) : Int) * pp) (((n * u + v : Nat) : Int) * q + ((u : Nat) : Int) * qq)
        have mat : ∀ x y : Int, ((n * u + v : Nat) : Int) * x + (u : Int) * y = (u : Int) * ((n : Int) * x + y) + (v : Int) * x := fun x y => by
          rw [Int.natCast_add, Int.natCast_mul, Int.add_mul, Int.mul_add, ← Int.mul_assoc, Int.mul_comm (u : Int) (n : Int)]
          omega
        rw [mat, mat]
        by_cases hf : (fitsI ((n : Int) * p + pp) && fitsI ((n : Int) * q + qq)) = true
        · rw [if_pos hf]
          have key := inner_sim g ((n : Int) * p + pp) ((n : Int) * q + qq) p q d (c - n * d) b (a % b) (if (((a % b : Nat) : Int), (b : Int)).1 = 0 then hi else ((((a % b : Nat) : Int), (b : Int)).2, (((a % b : Nat) : Int), (b : Int)).1)) (!decide ((((a % b : Nat) : Int), (b : Int)).1 = 0)) (by omega)
            ⟨?_, ?_, by omega, s1, s2⟩ (right_of s1 hgs) (by omega) (by omega) hb s4 ?_ ?_
          · rw [← hu, ← hvv] at key
            exact key
          · have n0 : (0 : Int) ≤ (n : Int) := by omega
            rcases hv.s with ⟨x1, x2⟩ | ⟨x1, x2⟩ | ⟨x1, x2⟩
            · have := Int.mul_nonneg n0 x1
              exact .inl ⟨by omega, x1⟩
            · have := Int.mul_nonpos_of_nonneg_of_nonpos n0 x1
              exact .inr (.inl ⟨by omega, x1⟩)
            · have h3 : (n : Int) * p ≤ (n : Int) * (-1) := Int.mul_le_mul_of_nonneg_left (by omega) n0
              exact .inr (.inl ⟨by omega, by omega⟩)
          · have h3 : (1 : Int) * 1 ≤ (n : Int) * q := Int.mul_le_mul (by omega) q1 (by omega) (by omega)
            omega
          · intro ho
            have h3 : ¬ ((a % b : Nat) : Int) = 0 := by
              have : (!decide (((a % b : Nat) : Int) = 0)) = true := ho
              simpa using this
            have h4 : 0 < a % b := by omega
            refine ⟨h4, ?_, right_of h4 hgr, hbm, by omega⟩
            show (if ((a % b : Nat) : Int) = 0 then hi else ((b : Int), ((a % b : Nat) : Int))) = _
            rw [if_neg h3]
          · intro ho
            have : (!decide (((a % b : Nat) : Int) = 0)) = false := ho
            have h3 : ((a % b : Nat) : Int) = 0 := by simpa using this
            omega
        · rw [if_neg hf]
          have u0 : (1 : Int) ≤ (u : Int) := by omega
          have v0 : (0 : Int) ≤ (v : Int) := by omega
          refine (ends_no ?_).symm
          by_cases hfp : fitsI ((n : Int) * p + pp) = true
          · have hfq : ¬ fitsI ((n : Int) * q + qq) = true := fun h => hf (by rw [hfp, h]; rfl)
            have h3 : (1 : Int) * 1 ≤ (n : Int) * q := Int.mul_le_mul (by omega) q1 (by omega) (by omega)
            refine .inr (not_fits fun h => hfq (fits_iff.2 ?_))
            have h4 := fits_iff.1 h
            have h5 : (1 : Int) * ((n : Int) * q + qq) ≤ (u : Int) * ((n : Int) * q + qq) := Int.mul_le_mul_of_nonneg_right u0 (by omega)
            have h6 : 0 ≤ (v : Int) * q := Int.mul_nonneg v0 (by omega)
            omega
          · refine .inl (not_fits fun h => hfp (fits_iff.2 ?_))
            have h4 := fits_iff.1 h
            have n0 : (0 : Int) ≤ (n : Int) := by omega
            have neg : (n : Int) * p + pp ≤ 0 → p ≤ 0 → -9223372036854775808 ≤ (n : Int) * p + pp ∧ (n : Int) * p + pp ≤ 9223372036854775807 := fun x1 x2 => by
              have h5 : (u : Int) * ((n : Int) * p + pp) ≤ 1 * ((n : Int) * p + pp) := Int.mul_le_mul_of_nonpos_right u0 x1
              have h6 : (v : Int) * p ≤ 0 := Int.mul_nonpos_of_nonneg_of_nonpos v0 x2
              omega
            rcases hv.s with ⟨x1, x2⟩ | ⟨x1, x2⟩ | ⟨x1, x2⟩
            · have h7 := Int.mul_nonneg n0 x1
              have h5 : (1 : Int) * ((n : Int) * p + pp) ≤ (u : Int) * ((n : Int) * p + pp) := Int.mul_le_mul_of_nonneg_right u0 (by omega)
              have h6 : 0 ≤ (v : Int) * p := Int.mul_nonneg v0 x1
              omega
            · have h7 := Int.mul_nonpos_of_nonneg_of_nonpos n0 x1
              exact neg (by omega) x1
            · have h7 : (n : Int) * p ≤ (n : Int) * (-1) := Int.mul_le_mul_of_nonneg_left (by omega) n0
              exact neg (by omega) (by omega)

end Go.Proofs.YtmgdhlcgbgpgpaaDoor

/- Between, in plain numbers: what it tells lies between. -/
namespace Go.Proofs.YtmgdhlcgbgpgpaaDoor
open Go Go.RowKit
set_option linter.unusedVariables false
set_option linter.unusedSimpArgs false

/-- Of two right fractions, the first one below the other one, no whole number between: the numbers that are asked of the simplest. -/
structure BetN (a1 a2 b1 b2 n : Int) (B C D r : Nat) : Prop where
  e1 : a2 = (B : Int)
  e2 : b2 = (D : Int)
  e3 : a1 = n * a2 + (r : Int)
  e4 : b1 = n * b2 + (C : Int)
  b0 : 0 < B
  rb : r < B
  c0 : 0 < C
  cd : C ≤ D
  dm : D ≤ 9223372036854775807
  bm : B ≤ 9223372036854775807
  lt : D * r < B * C
  g1 : Nat.gcd D C = 1
  g2 : Nat.gcd B r = 1
  fl : n = floorP (a1, a2)

theorem bet_numbers {a1 a2 b1 b2 n : Int} (ra : rightR (a1, a2) = true) (rb : rightR (b1, b2) = true) (ha2 : a2 ≤ 9223372036854775807) (hb2 : b2 ≤ 9223372036854775807) (hn : n = floorP (a1, a2)) (hlt : cmpP (a1, a2) (b1, b2) < 0) (hnot : ¬ cmpP (n + 1, 1) (b1, b2) < 0) :
    ∃ B C D r : Nat, BetN a1 a2 b1 b2 n B C D r := by
  obtain ⟨pa, ga⟩ := of_decide_eq_true ra
  obtain ⟨pb, gb⟩ := of_decide_eq_true rb
  have pa : 0 < a2 := pa
  have pb : 0 < b2 := pb
  have ga : Int.gcd a1 a2 = 1 := ga
  have gb : Int.gcd b1 b2 = 1 := gb
  have hfl : n = a1 / a2 := by rw [hn]; unfold floorP; rw [if_pos ra]
  have m1 := Int.emod_nonneg a1 (show a2 ≠ 0 by omega)
  have m2 := Int.emod_lt_of_pos a1 pa
  have m3 := Int.mul_ediv_add_emod a1 a2
  rw [← hfl] at m3
  have hc : a1 * b2 < b1 * a2 := by
    unfold cmpP at hlt
    rw [if_pos (by rw [ra, rb]; rfl)] at hlt
    have hlt : cmpI (a1 * b2 - b1 * a2) < 0 := hlt
    rcases cmp_cases (a1 * b2 - b1 * a2) with ⟨h, _⟩ | ⟨_, h⟩ | ⟨_, h⟩ <;> omega
  have hle : b1 ≤ (n + 1) * b2 := (cmp_whole (n := n + 1) (h := (b1, b2)) rb).1 (by omega)
  obtain ⟨B, hB⟩ : ∃ B : Nat, a2 = (B : Int) := ⟨a2.toNat, by omega⟩
  obtain ⟨D, hD⟩ : ∃ D : Nat, b2 = (D : Int) := ⟨b2.toNat, by omega⟩
  obtain ⟨r, hr⟩ : ∃ r : Nat, a1 % a2 = (r : Int) := ⟨(a1 % a2).toNat, by omega⟩
  rw [hr] at m3
  have hk : 0 < b1 - n * b2 := by
    have h1 : a1 * b2 = n * b2 * a2 + (r : Int) * b2 := by rw [← m3, Int.add_mul]; congr 1; rw [Int.mul_comm a2 n, Int.mul_assoc, Int.mul_comm a2 b2, Int.mul_assoc]
    have h2 : 0 ≤ (r : Int) * b2 := Int.mul_nonneg (by omega) (by omega)
    have h3 : n * b2 * a2 < b1 * a2 := by omega
    have h4 := Int.lt_of_mul_lt_mul_right h3 (by omega)
    omega
  obtain ⟨C, hC⟩ : ∃ C : Nat, b1 - n * b2 = (C : Int) := ⟨(b1 - n * b2).toNat, by omega⟩
  have hCD : C ≤ D := by
    rw [Int.add_mul, Int.one_mul] at hle
    omega
  refine ⟨B, C, D, r, hB, hD, by rw [Int.mul_comm n a2]; omega, by omega, by omega, by omega, by omega, hCD, by omega, by omega, ?_, ?_, ?_, hn⟩
  · have h1 : a1 * b2 = n * b2 * a2 + (r : Int) * b2 := by rw [← m3, Int.add_mul]; congr 1; rw [Int.mul_comm a2 n, Int.mul_assoc, Int.mul_comm a2 b2, Int.mul_assoc]
    have h2 : b1 * a2 = n * b2 * a2 + (C : Int) * a2 := by rw [← hC, Int.sub_mul]; omega
    have h3 : (r : Int) * b2 < (C : Int) * a2 := by omega
    rw [hB, hD] at h3
    have h4 : ((r * D : Nat) : Int) < ((C * B : Nat) : Int) := by rw [Int.natCast_mul, Int.natCast_mul]; exact h3
    rw [Nat.mul_comm D r, Nat.mul_comm B C]
    omega
  · have e : Int.gcd b1 b2 = Int.gcd (C : Int) b2 := by
      rw [show b1 = (C : Int) + n * b2 by omega, Int.gcd_add_mul_right_left]
    rw [e, hD] at gb
    rw [Nat.gcd_comm]
    exact gb
  · have e : Int.gcd a1 a2 = Int.gcd (r : Int) a2 := by
      rw [show a1 = (r : Int) + n * a2 by rw [Int.mul_comm n a2]; omega, Int.gcd_add_mul_right_left]
    rw [e, hB] at ga
    rw [Nat.gcd_comm]
    exact ga

section
variable {a1 a2 b1 b2 n : Int} {B C D r : Nat}
/-- What the program tells there. -/
theorem BetN.is (h : BetN a1 a2 b1 b2 n B C D r) (ra : rightR (a1, a2) = true) (rb : rightR (b1, b2) = true) (hn64 : I64 n) (hmax : ¬ n = 9223372036854775807) (hlt : cmpP (a1, a2) (b1, b2) < 0) (hnot : ¬ cmpP (n + 1, 1) (b1, b2) < 0) (g : Nat) (hg : C + r ≤ g) :
    betP (g + 1) (a1, a2) (b1, b2) = ends (((simN g D C B r).1 : Nat) * n + ((simN g D C B r).2 : Nat)) ((simN g D C B r).1 : Nat) := by
  unfold betP
  rw [if_pos (by rw [ra, rb]; rfl), if_neg (by omega), ← h.fl, if_neg hnot]
  have hpart : partP (a1, a2) = ((r : Int), (B : Int)) := by
    unfold partP
    rw [if_pos ra]
    show (a1 % a2, a2) = _
    rw [h.e1, h.e3, h.e1, Int.add_comm, Int.add_mul_emod_self_right, Int.emod_eq_of_lt (by omega) (by have := h.rb; omega)]
  have hsub : subP (b1, b2) (n, 1) = (((C : Int), (D : Int)), 0) := by
    have e : b1 - n * b2 = (C : Int) := by have := h.e4; omega
    rw [sub_whole rb (by rw [e]; exact fits_nat (by have := h.cd; have := h.dm; omega)) (by rw [h.e2]; have := h.dm; omega), e, h.e2]
  rw [inner_on h.fl hmax (by omega), hsub, hpart]
  rw [show n * 1 + 0 = n by omega, show n * 0 + 1 = 1 by omega]
  rw [if_pos (by rw [fits_iff.2 hn64]; rfl)]
  have key := inner_sim g n 1 1 0 D C B r (if ((r : Int), (B : Int)).1 = 0 then (b1, b2) else (((r : Int), (B : Int)).2, ((r : Int), (B : Int)).1)) (!decide (((r : Int), (B : Int)).1 = 0)) hg
    ⟨by rcases Int.lt_or_le n 0 with hh | hh; exact .inr (.inr ⟨hh, rfl⟩); exact .inl ⟨hh, by decide⟩, Int.le_refl _, Int.le_refl _, h.c0, h.cd⟩ (right_of h.c0 h.g1) h.dm (by have := h.cd; have := h.dm; omega) h.b0 h.lt ?_ ?_
  · rw [Int.mul_one, Int.mul_one, Int.mul_zero, Int.add_zero] at key
    exact key
  · intro ho
    have h3 : ¬ (r : Int) = 0 := by
      have : (!decide ((r : Int) = 0)) = true := ho
      simpa using this
    refine ⟨by omega, ?_, right_of (by omega) h.g2, h.bm, by have := h.rb; have := h.bm; omega⟩
    show (if (r : Int) = 0 then (b1, b2) else ((B : Int), (r : Int))) = _
    rw [if_neg h3]
  · intro ho
    have : (!decide ((r : Int) = 0)) = false := ho
    have h3 : (r : Int) = 0 := by simpa using this
    omega
/-- It lies between. -/
theorem BetN.lies (h : BetN a1 a2 b1 b2 n B C D r) (ra : rightR (a1, a2) = true) (rb : rightR (b1, b2) = true) (g : Nat) (hg : C + r ≤ g) {u v : Nat} (hu : u = (simN g D C B r).1) (hv : v = (simN g D C B r).2) :
    rightR ((u : Int) * n + (v : Int), (u : Int)) = true ∧ cmpP (a1, a2) ((u : Int) * n + (v : Int), (u : Int)) = -1 ∧ cmpP ((u : Int) * n + (v : Int), (u : Int)) (b1, b2) = -1 := by
  obtain ⟨i1, i2, i3⟩ := simN_lies g D C B r h.c0 h.b0 h.lt hg
  obtain ⟨p1, p2⟩ := simN_pos g D C B r
  rw [← hu, ← hv] at i1 i2 i3
  rw [← hu] at p1
  have hr : rightR ((u : Int) * n + (v : Int), (u : Int)) = true := decide_eq_true ⟨by show (0 : Int) < (u : Int); omega, by
    show Int.gcd ((u : Int) * n + (v : Int)) (u : Int) = 1
    rw [Int.add_comm, Int.gcd_add_mul_left_left]
    show Nat.gcd v u = 1
    rw [Nat.gcd_comm]; exact i3⟩
  refine ⟨hr, ?_, ?_⟩
  · unfold cmpP
    rw [if_pos (by rw [ra, hr]; rfl)]
    show cmpI (a1 * (u : Int) - ((u : Int) * n + (v : Int)) * a2) = -1
    have e1 : a1 * (u : Int) = (u : Int) * n * a2 + (r : Int) * (u : Int) := by rw [h.e3, Int.add_mul]; congr 1; rw [Int.mul_comm, ← Int.mul_assoc]
    have e2 : ((u : Int) * n + (v : Int)) * a2 = (u : Int) * n * a2 + (v : Int) * a2 := Int.add_mul _ _ _
    have e3 : (r : Int) * (u : Int) < (v : Int) * a2 := by
      rw [h.e1, ← Int.natCast_mul, ← Int.natCast_mul, Nat.mul_comm r u, Nat.mul_comm v B]
      omega
    unfold cmpI
    rw [if_pos (by omega)]
  · unfold cmpP
    rw [if_pos (by rw [rb, hr]; rfl)]
    show cmpI (((u : Int) * n + (v : Int)) * b2 - b1 * (u : Int)) = -1
    have e1 : b1 * (u : Int) = (u : Int) * n * b2 + (C : Int) * (u : Int) := by rw [h.e4, Int.add_mul]; congr 1; rw [Int.mul_comm, ← Int.mul_assoc]
    have e2 : ((u : Int) * n + (v : Int)) * b2 = (u : Int) * n * b2 + (v : Int) * b2 := Int.add_mul _ _ _
    have e3 : (v : Int) * b2 < (C : Int) * (u : Int) := by
      rw [h.e2, ← Int.natCast_mul, ← Int.natCast_mul, Nat.mul_comm v D, Nat.mul_comm C u]
      omega
    unfold cmpI
    rw [if_pos (by omega)]
/-- What the document asks first. -/
theorem BetN.first (h : BetN a1 a2 b1 b2 n B C D r) (g : Nat) : simN (g + 1) r B C D = ((simN g D C B r).2, (simN g D C B r).1) := by
  have h0 : r / B = 0 := Nat.div_eq_of_lt h.rb
  have h1 : r % B = r := Nat.mod_eq_of_lt h.rb
  have := h.c0
  have := h.cd
  rw [simN, h0, h1, if_neg (by omega)]
  simp
theorem BetN.le (h : BetN a1 a2 b1 b2 n B C D r) (g : Nat) : (simN (g + 1) D C B r).2 ≤ (simN (g + 1) D C B r).1 := simN_le h.c0 h.cd
end
theorem frac_not {X D : Int} (h : rightR (X, D) = true) (hf : ¬ fitsI X = true) : fracP X D = ((0, 0), 20) := by
  obtain ⟨h0, h1⟩ := of_decide_eq_true h
  have h0 : 0 < D := h0
  have h1 : Nat.gcd X.natAbs D.natAbs = 1 := h1
  have e : sgnI (decide (X < 0) != decide (D < 0)) (X.natAbs / 1) = X := by
    rw [Nat.div_one, show decide (D < 0) = false from decide_eq_false (by omega)]
    unfold sgnI
    by_cases h : X < 0
    · simp [h]; omega
    · simp [h]; omega
  unfold fracP
  rw [h1, e, if_neg (fun hh => hf hh.1)]

end Go.Proofs.YtmgdhlcgbgpgpaaDoor

/- Between of any two fractions: what it tells, and that it lies between. -/
namespace Go.Proofs.YtmgdhlcgbgpgpaaDoor
open Go Go.RowKit
set_option linter.unusedVariables false
set_option linter.unusedSimpArgs false

def betF (a b : Int × Int) : (Int × Int) × Int := betP (a.2.toNat + b.2.toNat + 1) a b
theorem betF_no {a b : Int × Int} (h : (rightR a && rightR b) = false) : betF a b = ((0, 0), 7) := by
  unfold betF betP; rw [if_neg (by rw [h]; decide)]
theorem betF_range {a b : Int × Int} (h : (rightR a && rightR b) = true) (h2 : 0 ≤ cmpP a b) : betF a b = ((0, 0), 2) := by
  unfold betF betP; rw [if_pos h, if_pos h2]
theorem betF_whole {a b : Int × Int} (h : (rightR a && rightR b) = true) (h2 : ¬ 0 ≤ cmpP a b) (h3 : cmpP (floorP a + 1, 1) b < 0) : betF a b = ((floorP a + 1, 1), 0) := by
  unfold betF betP; rw [if_pos h, if_neg h2, if_pos h3]
theorem ends_code (P Q : Int) : (ends P Q).2 = 0 ∨ (ends P Q).2 = 4 := by
  unfold ends; split
  · exact .inl rfl
  · exact .inr rfl
/-- What it tells in the end, in numbers. -/
theorem betF_last {a1 a2 b1 b2 : Int} (ra : rightR (a1, a2) = true) (rb : rightR (b1, b2) = true) (h1 : I64 a1) (h2 : I64 a2) (h3 : I64 b1) (h4 : I64 b2) (hlt : ¬ 0 ≤ cmpP (a1, a2) (b1, b2)) (hnot : ¬ cmpP (floorP (a1, a2) + 1, 1) (b1, b2) < 0) :
    ∃ B C D r : Nat, BetN a1 a2 b1 b2 (floorP (a1, a2)) B C D r ∧ ∃ u v : Nat, u = (simN (B + D) D C B r).1 ∧ v = (simN (B + D) D C B r).2 ∧ v ≤ u ∧ 1 ≤ u ∧ 1 ≤ v ∧ betF (a1, a2) (b1, b2) = ends ((u : Int) * floorP (a1, a2) + (v : Int)) (u : Int) ∧
      rightR ((u : Int) * floorP (a1, a2) + (v : Int), (u : Int)) = true ∧ cmpP (a1, a2) ((u : Int) * floorP (a1, a2) + (v : Int), (u : Int)) = -1 ∧ cmpP ((u : Int) * floorP (a1, a2) + (v : Int), (u : Int)) (b1, b2) = -1 := by
  obtain ⟨B, C, D, r, hN⟩ := bet_numbers ra rb h2.2 h4.2 rfl (by omega) hnot
  have hg : C + r ≤ B + D := by have := hN.cd; have := hN.rb; omega
  have hsm := floor_small (a := (a1, a2)) (b := (b1, b2)) ra rb h3 (by omega)
  have hi := hN.is ra rb (floor64 (r := (a1, a2)) h1) (by omega) (by omega) hnot (B + D) hg
  have hp := simN_pos (B + D) D C B r
  have hle : (simN (B + D) D C B r).2 ≤ (simN (B + D) D C B r).1 := by
    obtain ⟨k, hk⟩ : ∃ k, B + D = k + 1 := ⟨B + D - 1, by have := hN.b0; omega⟩
    rw [hk]; exact hN.le k
  refine ⟨B, C, D, r, hN, _, _, rfl, rfl, hle, hp.1, hp.2, ?_, hN.lies ra rb (B + D) hg rfl rfl⟩
  unfold betF
  have e1 : (a1, a2).2.toNat + (b1, b2).2.toNat + 1 = B + D + 1 := by
    show a2.toNat + b2.toNat + 1 = _
    rw [hN.e1, hN.e2]; simp
  rw [e1]
  exact hi
theorem betF_ne {a1 a2 b1 b2 : Int} (h1 : I64 a1) (h2 : I64 a2) (h3 : I64 b1) (h4 : I64 b2) : ¬ (betF (a1, a2) (b1, b2)).2 = -1 := by
  by_cases h : (rightR (a1, a2) && rightR (b1, b2)) = true
  · obtain ⟨ra, rb⟩ := Bool.and_eq_true_iff.1 h
    by_cases hc : 0 ≤ cmpP (a1, a2) (b1, b2)
    · rw [betF_range h hc]; decide
    · by_cases hd : cmpP (floorP (a1, a2) + 1, 1) (b1, b2) < 0
      · rw [betF_whole h hc hd]; show ¬ (0 : Int) = -1; decide
      · obtain ⟨B, C, D, r, _, u, v, _, _, _, _, _, he, _⟩ := betF_last ra rb h1 h2 h3 h4 hc hd
        rw [he]
        rcases ends_code ((u : Int) * floorP (a1, a2) + (v : Int)) (u : Int) with e | e <;> rw [e] <;> decide
  · rw [betF_no (by simpa using h)]; decide
/-- It lies between. -/
theorem betF_lies {a1 a2 b1 b2 : Int} (h1 : I64 a1) (h2 : I64 a2) (h3 : I64 b1) (h4 : I64 b2) (h0 : (betF (a1, a2) (b1, b2)).2 = 0) :
    I64 (betF (a1, a2) (b1, b2)).1.1 ∧ I64 (betF (a1, a2) (b1, b2)).1.2 ∧ cmpP (a1, a2) (betF (a1, a2) (b1, b2)).1 = -1 ∧ cmpP (betF (a1, a2) (b1, b2)).1 (b1, b2) = -1 := by
  by_cases h : (rightR (a1, a2) && rightR (b1, b2)) = true
  · obtain ⟨ra, rb⟩ := Bool.and_eq_true_iff.1 h
    by_cases hc : 0 ≤ cmpP (a1, a2) (b1, b2)
    · rw [betF_range h hc] at h0; exact absurd h0 (by decide)
    · by_cases hd : cmpP (floorP (a1, a2) + 1, 1) (b1, b2) < 0
      · rw [betF_whole h hc hd]
        have hsm := floor_small (a := (a1, a2)) (b := (b1, b2)) ra rb h3 (by omega)
        have h64 := floor64 (r := (a1, a2)) h1
        refine ⟨⟨by have := h64.1; show _ ≤ floorP (a1, a2) + 1; omega, by show floorP (a1, a2) + 1 ≤ _; omega⟩, ⟨by show (-9223372036854775808 : Int) ≤ 1; decide, by show (1 : Int) ≤ _; decide⟩, ?_, ?_⟩
        · unfold cmpP
          rw [if_pos (by rw [ra, right_whole]; rfl)]
          show cmpI (a1 * 1 - (floorP (a1, a2) + 1) * a2) = -1
          have hfl : floorP (a1, a2) = a1 / a2 := by unfold floorP; rw [if_pos ra]
          have pa := right_pos ra
          have m1 := Int.mul_ediv_add_emod a1 a2
          have m2 := Int.emod_lt_of_pos a1 pa
          rw [← hfl] at m1
          have e : (floorP (a1, a2) + 1) * a2 = a2 * floorP (a1, a2) + a2 := by rw [Int.add_mul, Int.mul_comm, Int.one_mul]
          unfold cmpI
          rw [if_pos (by omega)]
        · rcases cmp_three (floorP (a1, a2) + 1, 1) (b1, b2) with e | e | e
          · exact e
          · omega
          · omega
      · obtain ⟨B, C, D, r, _, u, v, _, _, _, _, _, he, _, l1, l2⟩ := betF_last ra rb h1 h2 h3 h4 hc hd
        rw [he] at h0 ⊢
        unfold ends at h0 ⊢
        by_cases hf : (fitsI ((u : Int) * floorP (a1, a2) + (v : Int)) && fitsI (u : Int)) = true
        · rw [if_pos hf]
          obtain ⟨f1, f2⟩ := Bool.and_eq_true_iff.1 hf
          exact ⟨fits64 f1, fits64 f2, l1, l2⟩
        · rw [if_neg hf] at h0; exact absurd h0 (by decide)
  · rw [betF_no (by simpa using h)] at h0; exact absurd h0 (by decide)
/-- What the document asks of b's part. -/
theorem BetN.part {a1 a2 b1 b2 n : Int} {B C D r : Nat} (h : BetN a1 a2 b1 b2 n B C D r) (rb : rightR (b1, b2) = true) : (floorP (b1, b2) = n → partP (b1, b2) = ((C : Int), (D : Int))) ∧ (¬ floorP (b1, b2) = n → C = 1 ∧ D = 1) := by
  have pb := right_pos rb
  have hfl : floorP (b1, b2) = b1 / b2 := by unfold floorP; rw [if_pos rb]
  have m1 := Int.mul_ediv_add_emod b1 b2
  have m2 := Int.emod_lt_of_pos b1 pb
  have m3 := Int.emod_nonneg b1 (show b2 ≠ 0 by omega)
  have e4 := h.e4
  have e2 := h.e2
  have hcd := h.cd
  refine ⟨fun hf => ?_, fun hf => ?_⟩
  · unfold partP
    rw [if_pos rb]
    rw [hfl] at hf
    rw [hf, Int.mul_comm b2 n] at m1
    show (b1 % b2, b2) = _
    rw [show b1 % b2 = (C : Int) by omega, e2]
  · have hC : C = D := by
      rcases Nat.lt_or_eq_of_le hcd with hlt | he
      · exfalso
        apply hf
        rw [hfl, e4, Int.add_comm, Int.add_mul_ediv_right _ _ (show b2 ≠ 0 by omega), Int.ediv_eq_zero_of_lt (by omega) (by omega)]
        omega
      · exact he
    have g := h.g1
    rw [hC, Nat.gcd_self] at g
    exact ⟨by omega, g⟩
theorem BetN.apart {a1 a2 b1 b2 n : Int} {B C D r : Nat} (h : BetN a1 a2 b1 b2 n B C D r) (ra : rightR (a1, a2) = true) : partP (a1, a2) = ((r : Int), (B : Int)) := by
  unfold partP
  rw [if_pos ra]
  show (a1 % a2, a2) = _
  rw [h.e1, h.e3, h.e1, Int.add_comm, Int.add_mul_emod_self_right, Int.emod_eq_of_lt (by omega) (by have := h.rb; omega)]

end Go.Proofs.YtmgdhlcgbgpgpaaDoor

/- The simplest fraction, as the document finds it. -/
namespace Go.Proofs.YtmgdhlcgbgpgpaaDoor
open Go Go.RowKit
set_option linter.unusedVariables false
set_option linter.unusedSimpArgs false


def tbSp (g16 : Nat) (x0 h0 p0 : Int) (z : Bool) : List (Nat × Nat × Value) :=
  [(0, 65, .pointer (some ⟨g16, 1, none⟩)), (1, 66, .int .u64 x0), (2, 67, .int .u64 p0), (3, 68, .pointer (some ⟨g16, 0, none⟩)), (4, 69, .int .u64 h0), (5, 70, .bool z), (6, 8, .int .u64 x0), (7, 9, .int .u64 p0), (8, 10, .bool z)]
def bsSp (g16 : Nat) (x0 h0 p0 : Int) (z : Bool) : List (Nat × Value) := [(13, .int .u64 p0), (16, .pointer (some ⟨g16, 0, none⟩))]


/-- What simplest tells: the fraction, or that it cannot be held. -/
def SimE (x : Nat × Nat) (p q : Int) (ok : Bool) : Prop :=
  (ok = true ∧ p = (x.1 : Int) ∧ q = (x.2 : Int) ∧ x.1 < 18446744073709551616 ∧ x.2 < 18446744073709551616) ∨ (ok = false ∧ (18446744073709551616 ≤ x.1 ∨ 18446744073709551616 ≤ x.2))
def SimEnds (x : Nat × Nat) (w : World) (e : Ending) (w' : World) : Prop := (∃ p q ok, e = .returned (.tuple #[.int .u64 p, .int .u64 q, .bool ok]) ∧ SimE x p q ok) ∧ Below w.heap.size w w'
theorem small_wide {n : Nat} (h : n < 18446744073709551616) : szV n = .agg #[.int .u64 0, .int .u64 (n : Int)] := by
  unfold szV; rw [small_hi h, small_lo h]

set_option maxRecDepth 100000 in
set_option maxHeartbeats 1000000 in
theorem simplest_any : ∀ (g a b c d : Nat), b + d ≤ g → 0 < b → 0 < c → a * d < c * b → a ≤ 9223372036854775808 → b ≤ 9223372036854775808 → c ≤ 9223372036854775808 → d ≤ 9223372036854775808 → ∀ w : World,
    Calls Tryd.prog 55 #[.int .u64 a, .int .u64 b, .int .u64 c, .int .u64 d] w (SimEnds (simN g a b c d) w) := by
  intro g
  induction g with
  | zero =>
    intro a b c d hg hb
    omega
  | succ g ih =>
    intro a b c d hg hb hc h ha hbm hcm hdm w
    have HIH := Lib.hid ih
    clear ih
    have HS : Hid (simN (g + 1) a b c d = if d = 0 ∨ (a / b + 1) * d < c then (a / b + 1, 1) else (a / b * (simN g d (c - a / b * d) b (a % b)).1 + (simN g d (c - a / b * d) b (a % b)).2, (simN g d (c - a / b * d) b (a % b)).1)) := Lib.hid rfl
    have HON := Lib.hid (fun hn : ¬ (d = 0 ∨ (a / b + 1) * d < c) => sim_on hb h hn)
    have hdiv : a / b ≤ a := Nat.div_le_self a b
    have hdm0 := Nat.div_add_mod a b
    obtain ⟨R, hR⟩ : ∃ R, R = simN (g + 1) a b c d := ⟨_, rfl⟩
    rw [← hR] at HS ⊢
    obtain ⟨n, hn⟩ : ∃ n, n = a / b := ⟨_, rfl⟩
    obtain ⟨r, hr⟩ : ∃ r, r = a % b := ⟨_, rfl⟩
    have w1 : IntKind.u64.wrap ((a : Int).tdiv (b : Int)) = (n : Int) := by
      rw [Int.tdiv_eq_ediv_of_nonneg (by omega), ← Int.natCast_ediv, ← hn]
      exact IntWalk.u64_in _ (by omega)
    have w2 : IntKind.u64.wrap ((a : Int) / (b : Int)) = (n : Int) := by
      rw [← Int.natCast_ediv, ← hn]
      exact IntWalk.u64_in _ (by omega)
    rw [← hn] at HS HON hdiv hdm0
    rw [← hr] at HS HON hdm0
    have b0 : ((b : Int) == 0) = false := beq_eq_false_iff_ne.2 (by omega)
    have HP1 : Hid (∀ W, Calls Tryd.prog 79 #[.agg #[.int .u64 0, .int .u64 (n : Int)], .agg #[.int .u64 0, .int .u64 1]] W fun e w' => e = .returned (.agg #[.int .u64 0, .int .u64 ((n + 1 : Nat) : Int)]) ∧ Below W.heap.size W w') := Lib.hid (fun W => by
      have h := dplus_any n 1 (by omega) W
      rw [small_wide (n := n) (by omega), small_wide (n := 1) (by omega), small_wide (n := n + 1) (by omega)] at h
      exact h)
    obtain ⟨n1, hn1⟩ : ∃ n1, n1 = n + 1 := ⟨_, rfl⟩
    rw [← hn1] at HP1 HS HON
    have HM1 : Hid (∀ W, Calls Tryd.prog 62 #[.int .u64 n1, .int .u64 d] W fun e w' => e = .returned (szV (n1 * d)) ∧ Below W.heap.size W w') := Lib.hid (fun W => dmul_any n1 d (by omega) (by omega) W)
    have HB1 : Hid (∀ W, Calls Tryd.prog 63 #[szV (n1 * d), .agg #[.int .u64 0, .int .u64 (c : Int)]] W fun e w' => e = .returned (.bool (decide (n1 * d < c))) ∧ Below W.heap.size W w') := Lib.hid (fun W => by
      have h := dbelow_any (n1 * d) c W
      rw [small_wide (n := c) (by omega)] at h
      exact h)
    have N1 := Lib.hid hn1
    have hA := Lib.hid (And.intro ha (And.intro hbm (And.intro hcm (And.intro hdm (And.intro hb (And.intro hdiv (And.intro hg hdm0)))))))
    clear hR hn hr ha hbm hcm hc h hdiv hg hdm0 hn1
    go_enter Tryd.func55, Tryd.ntmps55
    go_wp2_with fail
    refine (HP1.out _).mono ?_
    rintro e v2 ⟨rfl, hb2⟩
    have HB := Lib.hid hb2
    clear hb2 HP1
    go_upto_region 3 with fail
    replace HB := Lib.hid (HB.out.trans ((below_one v2 (.cells #[.int .u64 0, .int .u64 (n1 : Int)] 59)).mono HB.out.size))
    have H12 := Lib.hid (heap_alloc_new v2 (.cells #[.int .u64 0, .int .u64 (n1 : Int)] 59))
    generalize v2.alloc (.cells #[.int .u64 0, .int .u64 (n1 : Int)] 59) = w3 at *
    generalize v2.heap.size = g12 at *
    obtain ⟨k1, k2, _, _⟩ := cell_two H12.out
    go_upto_region 5 with fail
    go_cut [37] (fun s37 wx => ∃ t : Bool, s37 = .bool t ∧ Hid (t = true ↔ (d = 0 ∨ n1 * d < c)) ∧ Hid (Below w.heap.size w wx) ∧ Hid (wx.heap[g12]? = some (.cells #[.int .u64 0, .int .u64 (n1 : Int)] 59)))
    case first =>
      by_cases hd0 : d = 0
      · have f1 : ((d : Int) == 0) = true := by simp [hd0]
        have HD := Lib.hid hd0
        clear hd0
        go_wp2_with fail
        go_meet
        exact ⟨true, rfl, Lib.hid ⟨fun _ => .inl HD.out, fun _ => rfl⟩, HB, H12⟩
      · have f1 : ((d : Int) == 0) = false := beq_eq_false_iff_ne.2 (by omega)
        have HD := Lib.hid hd0
        clear hd0
        obtain ⟨t, ht⟩ : ∃ t, t = decide (n1 * d < c) := ⟨_, rfl⟩
        rw [← ht] at HB1
        have HT := Lib.hid ht
        clear ht
        go_wp2_with fail
        refine (HM1.out _).mono ?_
        rintro e w4 ⟨rfl, hb2⟩
        replace HB := Lib.hid (HB.out.trans (hb2.mono HB.out.size))
        replace H12 := Lib.hid (heap_keep H12.out hb2)
        clear hb2 k1 k2
        go_wp2_with fail
        refine (HB1.out _).mono ?_
        rintro e w5 ⟨rfl, hb2⟩
        replace HB := Lib.hid (HB.out.trans (hb2.mono HB.out.size))
        replace H12 := Lib.hid (heap_keep H12.out hb2)
        clear hb2
        go_wp2_with fail
        go_meet
        exact ⟨t, rfl, Lib.hid ⟨fun h => .inr (of_decide_eq_true (HT.out.symm.trans h)), fun h => HT.out.trans (decide_eq_true (h.resolve_left HD.out))⟩, HB, H12⟩
    case rest =>
      clear HB H12 k1 k2 HM1 HB1
      obtain ⟨t, rfl, HTT, HB, H12⟩ := hcut
      cases t with
      | true =>
        have HE := Lib.hid (HS.out.trans (if_pos (HTT.out.1 rfl)))
        obtain ⟨k1, k2, _, _⟩ := cell_two H12.out
        have HN1 : Hid (n1 < 18446744073709551616) := Lib.hid (by have := hA.out; have := N1.out; omega)
        go_wp2
        go_ret3
        exact ⟨⟨_, _, _, rfl, .inl ⟨rfl, by rw [HE.out], by rw [HE.out]; rfl, by rw [HE.out]; exact HN1.out, by rw [HE.out]; show 1 < 18446744073709551616; decide⟩⟩, HB.out⟩
      | false =>
        have hno : ¬ (d = 0 ∨ n1 * d < c) := fun h => Bool.noConfusion (HTT.out.2 h)
        have HE := Lib.hid (HS.out.trans (if_neg hno))
        obtain ⟨s1, s2, s3, s4, s5⟩ := HON.out hno
        obtain ⟨ha, hbm, hcm, hdm, hb, hdiv, hg, hdm0⟩ := hA.out
        obtain ⟨m1, hm1⟩ : ∃ m1, m1 = n * d := ⟨_, rfl⟩
        obtain ⟨m2, hm2⟩ : ∃ m2, m2 = n * b := ⟨_, rfl⟩
        have x1 : IntKind.u64.wrap ((n : Int) * (d : Int)) = (m1 : Int) := by
          rw [← Int.natCast_mul, ← hm1]; exact IntWalk.u64_in _ (by omega)
        have x2 : IntKind.u64.wrap ((n : Int) * (b : Int)) = (m2 : Int) := by
          have : b * n = n * b := Nat.mul_comm _ _
          rw [← Int.natCast_mul, ← hm2]; exact IntWalk.u64_in _ (by omega)
        rw [← hm1] at s1 s2 s4 s5 HE
        have IH := Lib.hid (fun W => HIH.out d (c - m1) b r (by omega) s1 hb s4 (by omega) (by omega) (by omega) (by omega) W)
        obtain ⟨s, hs⟩ : ∃ s, s = c - m1 := ⟨_, rfl⟩
        have x3 : IntKind.u64.wrap ((c : Int) - (m1 : Int)) = (s : Int) := by
          rw [IntWalk.u64_in _ (by omega)]; omega
        have x4 : IntKind.u64.wrap ((a : Int) - (m2 : Int)) = (r : Int) := by
          have : b * n = n * b := Nat.mul_comm _ _
          rw [IntWalk.u64_in _ (by omega)]; omega
        rw [← hs] at IH HE
        obtain ⟨⟨u', v'⟩, huv⟩ : ∃ q, q = simN g d s b r := ⟨_, rfl⟩
        rw [← huv] at IH HE
        have HU := Lib.hid (by have := simN_pos g d s b r; rw [← huv] at this; exact this)
        have HN : Hid (n < 18446744073709551616) := Lib.hid (by omega)
        have HN1 : Hid (1 ≤ n ∨ n = 0) := Lib.hid (by omega)
        clear hno s1 s2 s3 s4 s5 ha hbm hcm hdm hb hdiv hg hdm0 hm1 hm2 hs huv HS HON HTT
        go_wp2_with fail
        refine (IH.out _).mono ?_
        rintro e w6 ⟨⟨p, q, ok, rfl, hsim⟩, hb2⟩
        replace HB := Lib.hid (HB.out.trans (hb2.mono HB.out.size))
        clear hb2 IH H12
        rcases hsim with ⟨rfl, rfl, rfl, y1, y2⟩ | ⟨rfl, hbig⟩
        · have y1 : u' < 18446744073709551616 := y1
          have y2 : v' < 18446744073709551616 := y2
          have hle : n * u' + v' < 340282366920938463463374607431768211456 := by
            have h1 := Nat.mul_le_mul (show n ≤ 18446744073709551615 by have := HN.out; omega) (show u' ≤ 18446744073709551615 by omega)
            omega
          have HM2 : Hid (∀ W, Calls Tryd.prog 62 #[.int .u64 n, .int .u64 u'] W fun e w' => e = .returned (szV (n * u')) ∧ Below W.heap.size W w') := Lib.hid (fun W => dmul_any n u' HN.out y1 W)
          have HP2 : Hid (∀ W, Calls Tryd.prog 79 #[szV (n * u'), .agg #[.int .u64 0, .int .u64 (v' : Int)]] W fun e w' => e = .returned (.agg #[.int .u64 (hiN (n * u' + v')), .int .u64 (loN (n * u' + v'))]) ∧ Below W.heap.size W w') := Lib.hid (fun W => by
            have h := dplus_any (n * u') v' hle W
            rw [small_wide (n := v') y2] at h
            exact h)
          obtain ⟨X, hX⟩ : ∃ X, X = n * u' + v' := ⟨_, rfl⟩
          rw [← hX] at HP2
          have HX := Lib.hid hX
          have HY := Lib.hid y1
          obtain ⟨h0, hh0⟩ : ∃ h0, h0 = hiN X := ⟨_, rfl⟩
          obtain ⟨x0, hx0⟩ : ∃ x0, x0 = loN X := ⟨_, rfl⟩
          obtain ⟨z, hz⟩ : ∃ z, (h0 == 0) = z := ⟨_, rfl⟩
          rw [← hh0, ← hx0] at HP2
          have HH := Lib.hid (And.intro hh0 (And.intro hx0 hz))
          clear hX hh0 hx0 y1 y2 hle
          go_wp2_with fail
          refine (HM2.out _).mono ?_
          rintro e w7 ⟨rfl, hb2⟩
          replace HB := Lib.hid (HB.out.trans (hb2.mono HB.out.size))
          clear hb2 HM2
          go_wp2_with fail
          refine (HP2.out _).mono ?_
          rintro e w8 ⟨rfl, hb2⟩
          replace HB := Lib.hid (HB.out.trans (hb2.mono HB.out.size))
          clear hb2 HP2
          go_upto_region 11 with fail
          replace HB := Lib.hid (HB.out.trans ((below_one w8 (.cells #[.int .u64 h0, .int .u64 x0] 59)).mono HB.out.size))
          have H16 := Lib.hid (heap_alloc_new w8 (.cells #[.int .u64 h0, .int .u64 x0] 59))
          generalize w8.alloc (.cells #[.int .u64 h0, .int .u64 x0] 59) = w9 at *
          generalize w8.heap.size = g16 at *
          refine wp_region_tab (by kernel_rfl) [13, 16, 65, 66, 67, 68, 69, 70, 8, 9, 10] [[], [0], [], [], [3], [4], [0, 1], [0, 1, 2, 6], [0, 1, 2, 3, 4, 5, 6, 7]]
            (fun L vals wx => (Below w.heap.size w wx ∧ wx.heap[g16]? = some (.cells #[.int .u64 h0, .int .u64 x0] 59)) ∧ TabR (tbSp g16 x0 h0 (u' : Int) z) (bsSp g16 x0 h0 (u' : Int) z) L vals) (by kernel_rfl) rfl ?_ ?_ ?_
          · exact ⟨⟨Below.drew HB.out, H16.out⟩, TabR.start (by simp [bsSp])⟩
          · intro i hi a L vals wx E hJ hLi hn K hK hK0
            obtain ⟨hI, hT⟩ := hJ
            match i, hi with
            | 0, _ =>
              have e1 := (E 16 (by decide)).trans (hT.rd 1 rfl)
              refine op_valueG (w' := wx) (v := .pointer (some ⟨g16, 1, none⟩)) rfl rfl rfl ?_ (hK 65 _ _ (by decide) ⟨hI, hT.set 0 rfl (by kernel_rfl) (by kernel_rfl)⟩)
              clear hK hK0 hT E
              revert e1
              generalize a.eval = ρ
              intro e1
              go_simp
            | 1, _ =>
              have e1 := (E 65 (by decide)).trans (hT.val 0 rfl (hn 0 (by decide)))
              obtain ⟨d1, d2, _, _⟩ := cell_two hI.2
              refine op_valueG (w' := wx) (v := .int .u64 x0) rfl rfl rfl ?_ (hK 66 _ _ (by decide) ⟨hI, hT.set 1 rfl (by kernel_rfl) (by kernel_rfl)⟩)
              clear hK hK0 hT E
              revert e1
              generalize a.eval = ρ
              intro e1
              go_simp
            | 2, _ => exact op_moveG rfl rfl rfl rfl ((E 13 (by decide)).trans (hT.rd 0 rfl)) (hK 67 _ _ (by decide) ⟨hI, hT.set 2 rfl (by kernel_rfl) (by kernel_rfl)⟩)
            | 3, _ =>
              have e1 := (E 16 (by decide)).trans (hT.rd 1 rfl)
              refine op_valueG (w' := wx) (v := .pointer (some ⟨g16, 0, none⟩)) rfl rfl rfl ?_ (hK 68 _ _ (by decide) ⟨hI, hT.set 3 rfl (by kernel_rfl) (by kernel_rfl)⟩)
              clear hK hK0 hT E
              revert e1
              generalize a.eval = ρ
              intro e1
              go_simp
            | 4, _ =>
              have e1 := (E 68 (by decide)).trans (hT.val 3 rfl (hn 3 (by decide)))
              obtain ⟨d1, d2, _, _⟩ := cell_two hI.2
              refine op_valueG (w' := wx) (v := .int .u64 h0) rfl rfl rfl ?_ (hK 69 _ _ (by decide) ⟨hI, hT.set 4 rfl (by kernel_rfl) (by kernel_rfl)⟩)
              clear hK hK0 hT E
              revert e1
              generalize a.eval = ρ
              intro e1
              go_simp
            | 5, _ =>
              have e1 := (E 69 (by decide)).trans (hT.val 4 rfl (hn 4 (by decide)))
              have c1 : a.eval (.const (Value.int IntKind.u64 0)) = Value.int IntKind.u64 0 := rfl
              refine op_valueG (w' := wx) (v := .bool z) rfl rfl rfl ?_ (hK 70 _ _ (by decide) ⟨hI, hT.set 5 rfl (by kernel_rfl) (by kernel_rfl)⟩)
              clear hK hK0 hT E
              revert e1 c1
              generalize a.eval = ρ
              intro e1 c1
              go_simp
            | 6, _ => exact op_assignG rfl rfl rfl rfl ((E 66 (by decide)).trans (hT.val 1 rfl (hn 1 (by decide)))) (hK 8 _ _ (by decide) ⟨hI, hT.set 6 rfl (by kernel_rfl) (by kernel_rfl)⟩)
            | 7, _ => exact op_assignG rfl rfl rfl rfl ((E 67 (by decide)).trans (hT.val 2 rfl (hn 2 (by decide)))) (hK 9 _ _ (by decide) ⟨hI, hT.set 7 rfl (by kernel_rfl) (by kernel_rfl)⟩)
            | 8, _ => exact op_assignG rfl rfl rfl rfl ((E 70 (by decide)).trans (hT.val 5 rfl (hn 5 (by decide)))) (hK 10 _ _ (by decide) ⟨hI, hT.set 8 rfl (by kernel_rfl) (by kernel_rfl)⟩)
            | k + 9, h => exact absurd (show k + 9 < 9 from h) (by omega)
          · intro L vals wx hJ hall
            obtain ⟨hI, hT⟩ := hJ
            have HI := Lib.hid hI
            have v13 : vals 13 = .int .u64 (u' : Int) := hT.rd 0 rfl
            have v16 : vals 16 = .pointer (some ⟨g16, 0, none⟩) := hT.rd 1 rfl
            have v8 : vals 8 = .int .u64 x0 := hT.val 6 rfl (hall 6 (by decide))
            have v9 : vals 9 = .int .u64 (u' : Int) := hT.val 7 rfl (hall 7 (by decide))
            have v10 : vals 10 = .bool z := hT.val 8 rfl (hall 8 (by decide))
            simp only [overA, Act.put, List.setIfInBounds_toArray, List.set_cons_zero, List.set_cons_succ]
            rw [v13, v16, v8, v9, v10]
            clear hI hT hall v13 v16 v8 v9 v10
            go_wp2
            go_ret3
            refine ⟨⟨_, _, _, rfl, ?_⟩, HI.out.1⟩
            rw [HE.out]
            obtain ⟨e1, e2, e3⟩ := HH.out
            have e4 := HX.out
            cases z with
            | true =>
              have h00 : hiN X = 0 := by rw [← e1]; simpa using e3
              have hXs : X < 18446744073709551616 := by unfold hiN at h00; omega
              exact .inl ⟨rfl, by rw [e2, small_lo hXs, e4], rfl, by show n * u' + v' < _; omega, HY.out⟩
            | false =>
              have h00 : hiN X ≠ 0 := by rw [← e1]; simpa using e3
              have hXs : 18446744073709551616 ≤ X := by
                rcases Nat.lt_or_ge X 18446744073709551616 with hh | hh
                · exact absurd (small_hi hh) h00
                · exact hh
              exact .inr ⟨rfl, .inl (by show _ ≤ n * u' + v'; omega)⟩
        · go_wp2
          go_ret3
          refine ⟨⟨0, 0, false, rfl, .inr ⟨rfl, ?_⟩⟩, HB.out⟩
          rw [HE.out]
          rcases hbig with hh | hh
          · exact .inr hh
          · have hh : 18446744073709551616 ≤ v' := hh
            exact .inl (by show _ ≤ n * u' + v'; omega)

end Go.Proofs.YtmgdhlcgbgpgpaaDoor

/- Whole numbers below, and what is left, as the document reckons them. -/
namespace Go.Proofs.YtmgdhlcgbgpgpaaDoor
open Go Go.RowKit
set_option linter.unusedVariables false
set_option linter.unusedSimpArgs false

set_option maxRecDepth 100000 in
set_option maxHeartbeats 2000000 in
theorem dfloor_any (x y : Int) (hx : I64 x) (hy : I64 y) (w : World) : Calls Tryd.prog 53 #[.agg #[.int .i64 x, .int .i64 y]] w fun e w' => e = .returned (.int .i64 (floorP (x, y))) ∧ Below w.heap.size w w' := by
  have HR := Lib.hid (fun W => dright_any x y hx hy W)
  have HA1 := Lib.hid (show rightR (x, y) = true → floorP (x, y) = x / y from fun h => by unfold floorP; rw [if_pos h])
  have HA0 := Lib.hid (show rightR (x, y) = false → floorP (x, y) = 0 from fun h => by unfold floorP; rw [if_neg (by rw [h]; decide)])
  have HPY := Lib.hid (fun (h : rightR (x, y) = true) => right_pos h)
  obtain ⟨AP, hAP⟩ : ∃ AP, AP = floorP (x, y) := ⟨_, rfl⟩
  obtain ⟨rb, hrb⟩ : ∃ rb, rb = rightR (x, y) := ⟨_, rfl⟩
  rw [← hAP] at HA1 HA0 ⊢
  rw [← hrb] at HA1 HA0 HR HPY
  have H1 := Lib.hid (heap_alloc_new w (.cells #[.int .i64 x, .int .i64 y] 23))
  have HB := Lib.hid (below_one w (.cells #[.int .i64 x, .int .i64 y] 23))
  clear hAP hrb
  go_enter Tryd.func53, Tryd.ntmps53
  go_upto_region 1 with fail
  generalize w.alloc (.cells #[.int .i64 x, .int .i64 y] 23) = w1 at *
  obtain ⟨k1, k2, _, _⟩ := cell_two H1.out
  go_wp2_with fail
  refine (HR.out _).mono ?_
  rintro e w2 ⟨rfl, hb⟩
  have H2 := Lib.hid (heap_keep H1.out hb)
  have HB2 := Lib.hid (HB.out.trans (hb.mono HB.out.size))
  clear hb H1 HB k1 k2
  obtain ⟨k1, k2, _, _⟩ := cell_two H2.out
  cases rb with
  | false =>
    have HE := Lib.hid (HA0.out (by simp))
    clear HA0 HA1
    go_wp2
    go_ret
    exact ⟨by rw [HE.out]; rfl, HB2.out⟩
  | true =>
    have py := HPY.out (by simp)
    have HE := Lib.hid (HA1.out (by simp))
    have hy0 : ¬ y = 0 := by omega
    have hy1 : (y == 0) = false := by simp [hy0]
    have hy2 : (y == -1) = false := by simp; omega
    obtain ⟨⟨r1, r2⟩, r3, r4⟩ := tdiv_range hx py
    obtain ⟨⟨s1, s2⟩, s3, s4⟩ := div_range hx py
    have g1 : IntKind.i64.wrap (x.tdiv y) = x.tdiv y := IntWalk.i64_in _ (by omega)
    have g2 : IntKind.i64.wrap (x.tmod y) = x.tmod y := IntWalk.i64_in _ (by obtain ⟨_, _⟩ := hy; omega)
    by_cases hm : x.tmod y < 0
    · obtain ⟨e1, e2⟩ := tm_neg py hm
      have d1 : decide (x.tmod y < 0) = true := decide_eq_true hm
      have g3 : IntKind.i64.wrap (x.tdiv y - 1) = x.tdiv y - 1 := IntWalk.i64_in _ (by omega)
      have HE2 := Lib.hid (show AP = x.tdiv y - 1 by rw [HE.out, e1])
      clear HE HA0 HA1 e1 e2 r1 r2 r3 r4 s1 s2 s3 s4
      go_wp2
      go_ret
      exact ⟨by rw [HE2.out]; rfl, HB2.out⟩
    · obtain ⟨e1, e2⟩ := tm_pos py hm
      have d1 : decide (x.tmod y < 0) = false := decide_eq_false hm
      have HE2 := Lib.hid (show AP = x.tdiv y by rw [HE.out, e1])
      clear HE HA0 HA1 e1 e2 r1 r2 r3 r4 s1 s2 s3 s4
      go_wp2
      go_ret
      exact ⟨by rw [HE2.out]; rfl, HB2.out⟩


set_option maxRecDepth 100000 in
set_option maxHeartbeats 2000000 in
theorem dfrac_any (x y : Int) (hx : I64 x) (hy : I64 y) (w : World) : Calls Tryd.prog 54 #[.agg #[.int .i64 x, .int .i64 y]] w fun e w' => e = .returned (rtV (partP (x, y))) ∧ Below w.heap.size w w' := by
  have HR := Lib.hid (fun W => dright_any x y hx hy W)
  have HA1 := Lib.hid (show rightR (x, y) = true → partP (x, y) = (x % y, y) from fun h => by unfold partP; rw [if_pos h])
  have HA0 := Lib.hid (show rightR (x, y) = false → partP (x, y) = (0, 0) from fun h => by unfold partP; rw [if_neg (by rw [h]; decide)])
  have HPY := Lib.hid (fun (h : rightR (x, y) = true) => right_pos h)
  obtain ⟨AP, hAP⟩ : ∃ AP, AP = partP (x, y) := ⟨_, rfl⟩
  obtain ⟨rb, hrb⟩ : ∃ rb, rb = rightR (x, y) := ⟨_, rfl⟩
  rw [← hAP] at HA1 HA0 ⊢
  rw [← hrb] at HA1 HA0 HR HPY
  obtain ⟨q1, q2⟩ := two_fr w (.cells #[.int .i64 x, .int .i64 y] 23) (.cells #[.int .i64 0, .int .i64 0] 23)
  have H1 := Lib.hid q1
  have H0 := Lib.hid q2
  have HB := Lib.hid (below_two w (.cells #[.int .i64 x, .int .i64 y] 23) (.cells #[.int .i64 0, .int .i64 0] 23))
  have hle : w.heap.size ≤ w.heap.size + 1 := by omega
  clear hAP hrb q1 q2
  go_enter Tryd.func54, Tryd.ntmps54
  go_upto_region 1 with fail
  generalize (w.alloc (.cells #[.int .i64 x, .int .i64 y] 23)).alloc (.cells #[.int .i64 0, .int .i64 0] 23) = w1 at *
  obtain ⟨k1, k2, _, _⟩ := cell_two H1.out
  go_wp2_with fail
  refine (HR.out _).mono ?_
  rintro e w2 ⟨rfl, hb⟩
  have H2 := Lib.hid (heap_keep H1.out hb)
  have H02 := Lib.hid (heap_keep H0.out hb)
  have HB2 := Lib.hid (HB.out.trans (hb.mono HB.out.size))
  clear hb H1 H0 HB k1 k2
  obtain ⟨k1, k2, _, _⟩ := cell_two H2.out
  obtain ⟨k3, k4, k5, k6⟩ := cell_two H02.out
  cases rb with
  | false =>
    have HE := Lib.hid (HA0.out (by simp))
    have T1 := Lib.hid (rat_cells H02.out (.int .i64 0) (.int .i64 0))
    have T2 := Lib.hid ((HB2.out.setCell (p := ⟨w.heap.size + 1, 0, none⟩) hle (.int .i64 0)).setCell (p := ⟨w.heap.size + 1, 1, none⟩) hle (.int .i64 0))
    clear HA0 HA1
    go_wp2
    refine bodyPost_ret (results_cell_row (fn := Tryd.f54) rfl _ _ (w.heap.size + 1) _ _ _ _ rfl T1.out Tryd.underlying23 rfl (by kernel_rfl)) rfl ?_
    exact ⟨by rw [HE.out]; rfl, T2.out⟩
  | true =>
    have py := HPY.out (by simp)
    have HE := Lib.hid (HA1.out (by simp))
    have hy0 : ¬ y = 0 := by omega
    have hy1 : (y == 0) = false := by simp [hy0]
    have hy2 : (y == -1) = false := by simp; omega
    obtain ⟨r0, r3, r4⟩ := tdiv_range hx py
    obtain ⟨s0, s3, s4⟩ := div_range hx py
    have g2 : IntKind.i64.wrap (x.tmod y) = x.tmod y := IntWalk.i64_in _ (by obtain ⟨_, _⟩ := hy; omega)
    by_cases hm : x.tmod y < 0
    · obtain ⟨e1, e2⟩ := tm_neg py hm
      have d1 : decide (x.tmod y < 0) = true := decide_eq_true hm
      have g3 : IntKind.i64.wrap (x.tmod y + y) = x.tmod y + y := IntWalk.i64_in _ (by obtain ⟨_, _⟩ := hy; omega)
      have HE2 := Lib.hid (show AP = (x.tmod y + y, y) by rw [HE.out, e2])
      have T1 := Lib.hid (rat_cells H02.out (.int .i64 (x.tmod y + y)) (.int .i64 y))
      have T2 := Lib.hid ((HB2.out.setCell (p := ⟨w.heap.size + 1, 0, none⟩) hle (.int .i64 (x.tmod y + y))).setCell (p := ⟨w.heap.size + 1, 1, none⟩) hle (.int .i64 y))
      clear HE HA0 HA1 e1 e2 r0 r3 r4 s0 s3 s4
      go_wp2
      refine bodyPost_ret (results_cell_row (fn := Tryd.f54) rfl _ _ (w.heap.size + 1) _ _ _ _ rfl T1.out Tryd.underlying23 rfl (by kernel_rfl)) rfl ?_
      exact ⟨by rw [HE2.out]; rfl, T2.out⟩
    · obtain ⟨e1, e2⟩ := tm_pos py hm
      have d1 : decide (x.tmod y < 0) = false := decide_eq_false hm
      have HE2 := Lib.hid (show AP = (x.tmod y, y) by rw [HE.out, e2])
      have T1 := Lib.hid (rat_cells H02.out (.int .i64 (x.tmod y)) (.int .i64 y))
      have T2 := Lib.hid ((HB2.out.setCell (p := ⟨w.heap.size + 1, 0, none⟩) hle (.int .i64 (x.tmod y))).setCell (p := ⟨w.heap.size + 1, 1, none⟩) hle (.int .i64 y))
      clear HE HA0 HA1 e1 e2 r0 r3 r4 s0 s3 s4
      go_wp2
      refine bodyPost_ret (results_cell_row (fn := Tryd.f54) rfl _ _ (w.heap.size + 1) _ _ _ _ rfl T1.out Tryd.underlying23 rfl (by kernel_rfl)) rfl ?_
      exact ⟨by rw [HE2.out]; rfl, T2.out⟩


end Go.Proofs.YtmgdhlcgbgpgpaaDoor

/- Between, as the document has it. -/
namespace Go.Proofs.YtmgdhlcgbgpgpaaDoor
open Go Go.RowKit
set_option linter.unusedVariables false
set_option linter.unusedSimpArgs false

theorem RtS.three {w0 : World} (h : RtS w0 [] w0) (x y u v p q : Int) : RtS w0 [(w0.heap.size, x, y), (w0.heap.size + 1, u, v), (w0.heap.size + 1 + 1, p, q)] (((w0.alloc (.cells #[.int .i64 x, .int .i64 y] 23)).alloc (.cells #[.int .i64 u, .int .i64 v] 23)).alloc (.cells #[.int .i64 p, .int .i64 q] 23)) := by
  have := (h.two x y u v).new p q
  rw [show ((w0.alloc (.cells #[.int .i64 x, .int .i64 y] 23)).alloc (.cells #[.int .i64 u, .int .i64 v] 23)).heap.size = w0.heap.size + 1 + 1 by simp] at this
  exact this

set_option maxRecDepth 100000 in
set_option maxHeartbeats 16000000 in
theorem dbetween_any (a1 a2 b1 b2 : Int) (w : World) (ha1 : I64 a1) (ha2 : I64 a2) (hb1 : I64 b1) (hb2 : I64 b2) (ht : TabQ w) :
    Calls Tryd.prog 20 #[.agg #[.int .i64 a1, .int .i64 a2], .agg #[.int .i64 b1, .int .i64 b2]] w fun e w' => e = .returned (.tuple #[.agg #[.int .i64 (betF (a1, a2) (b1, b2)).1.1, .int .i64 (betF (a1, a2) (b1, b2)).1.2], .int .i64 (betF (a1, a2) (b1, b2)).2]) ∧ Below w.heap.size w w' := by
  have HRA := Lib.hid (fun W => dright_any a1 a2 ha1 ha2 W)
  have HRB := Lib.hid (fun W => dright_any b1 b2 hb1 hb2 W)
  have HCM := Lib.hid (fun W => dcompare_any a1 a2 b1 b2 ha1 ha2 hb1 hb2 W)
  have HFA := Lib.hid (fun W => dfloor_any a1 a2 ha1 ha2 W)
  have HFB := Lib.hid (fun W => dfloor_any b1 b2 hb1 hb2 W)
  have HPA := Lib.hid (fun W => dfrac_any a1 a2 ha1 ha2 W)
  have HPB := Lib.hid (fun W => dfrac_any b1 b2 hb1 hb2 W)
  have H0 := Lib.hid (fun h => betF_no (a := (a1, a2)) (b := (b1, b2)) h)
  have H1 := Lib.hid (fun h h2 => betF_range (a := (a1, a2)) (b := (b1, b2)) h h2)
  have H2 := Lib.hid (fun h h2 h3 => betF_whole (a := (a1, a2)) (b := (b1, b2)) h h2 h3)
  have H3 := Lib.hid (fun ra rb hc hd => betF_last (a1 := a1) (a2 := a2) (b1 := b1) (b2 := b2) ra rb ha1 ha2 hb1 hb2 hc hd)
  have HFS := Lib.hid (fun (ra : rightR (a1, a2) = true) (rb : rightR (b1, b2) = true) (hc : cmpP (a1, a2) (b1, b2) < 0) => floor_small (a := (a1, a2)) (b := (b1, b2)) ra rb hb1 hc)
  have HF64 := Lib.hid (floor64 (r := (a1, a2)) ha1)
  have A64 := Lib.hid (And.intro ha1 (And.intro ha2 (And.intro hb1 hb2)))
  obtain ⟨R, hR⟩ : ∃ q, q = betF (a1, a2) (b1, b2) := ⟨_, rfl⟩
  obtain ⟨n, hn⟩ : ∃ q, q = floorP (a1, a2) := ⟨_, rfl⟩
  obtain ⟨c, hc⟩ : ∃ q, q = cmpP (a1, a2) (b1, b2) := ⟨_, rfl⟩
  rw [← hR] at H0 H1 H2 H3 ⊢
  rw [← hn] at H2 H3 HFA HFS HF64
  rw [← hc] at H1 H2 H3 HCM HFS
  have K := Lib.hid ((RtS.start ht).three a1 a2 b1 b2 0 0)
  have HRR : Hid (rightR (a1, a2) = rightR (a1, a2) ∧ rightR (b1, b2) = rightR (b1, b2)) := Lib.hid ⟨rfl, rfl⟩
  obtain ⟨ra, hra⟩ : ∃ q, q = rightR (a1, a2) := ⟨_, rfl⟩
  obtain ⟨rb, hrb⟩ : ∃ q, q = rightR (b1, b2) := ⟨_, rfl⟩
  rw [← hra] at HRA H0 H1 H2 H3 HFS
  rw [← hrb] at HRB H0 H1 H2 H3 HFS
  have RA := Lib.hid hra
  have RB := Lib.hid hrb
  clear hR hn hc hra hrb ha1 ha2 hb1 hb2 ht HRR
  go_enter Tryd.func20, Tryd.ntmps20
  go_upto_region 1 with fail
  generalize ((w.alloc (.cells #[.int .i64 a1, .int .i64 a2] 23)).alloc (.cells #[.int .i64 b1, .int .i64 b2] 23)).alloc (.cells #[.int .i64 0, .int .i64 0] 23) = w1 at *
  obtain ⟨ka0, kb0, _, _⟩ := K.out.cells 0 rfl
  go_wp2_with fail
  refine (HRA.out _).mono ?_
  rintro e w2 ⟨rfl, hb⟩
  replace K := Lib.hid (K.out.step hb)
  clear hb ka0 kb0 HRA
  cases ra with
  | false =>
    have HE := Lib.hid (H0.out (by simp))
    obtain ⟨z1, z2, z3, z4⟩ := K.out.cells 2 rfl
    obtain ⟨t1, t2⟩ := K.out.told 2 rfl 0 0
    have T1 := Lib.hid t1
    have T2 := Lib.hid t2
    clear t1 t2
    go_wp2
    refine bodyPost_ret (results_row_tmp (fn := Tryd.f20) rfl _ _ (w.heap.size + 1 + 1) _ _ _ _ rfl T1.out Tryd.underlying23 rfl (by kernel_rfl)) rfl ?_
    exact ⟨by rw [HE.out]; rfl, T2.out⟩
  | true =>
    obtain ⟨ka1, kb1, _, _⟩ := K.out.cells 1 rfl
    go_wp2_with fail
    refine (HRB.out _).mono ?_
    rintro e w3 ⟨rfl, hb⟩
    replace K := Lib.hid (K.out.step hb)
    clear hb ka1 kb1 HRB
    cases rb with
    | false =>
      have HE := Lib.hid (H0.out (by simp))
      obtain ⟨z1, z2, z3, z4⟩ := K.out.cells 2 rfl
      obtain ⟨t1, t2⟩ := K.out.told 2 rfl 0 0
      have T1 := Lib.hid t1
      have T2 := Lib.hid t2
      clear t1 t2
      go_wp2
      refine bodyPost_ret (results_row_tmp (fn := Tryd.f20) rfl _ _ (w.heap.size + 1 + 1) _ _ _ _ rfl T1.out Tryd.underlying23 rfl (by kernel_rfl)) rfl ?_
      exact ⟨by rw [HE.out]; rfl, T2.out⟩
    | true =>
      obtain ⟨ka0, kb0, _, _⟩ := K.out.cells 0 rfl
      obtain ⟨ka1, kb1, _, _⟩ := K.out.cells 1 rfl
      go_wp2_with fail
      refine (HCM.out _).mono ?_
      rintro e w4 ⟨rfl, hb⟩
      replace K := Lib.hid (K.out.step hb)
      clear hb ka0 kb0 ka1 kb1 HCM
      by_cases hc : 0 ≤ c
      · have d1 : decide (0 ≤ c) = true := decide_eq_true hc
        have HE := Lib.hid (H1.out (by simp) hc)
        clear hc
        obtain ⟨z1, z2, z3, z4⟩ := K.out.cells 2 rfl
        obtain ⟨t1, t2⟩ := K.out.told 2 rfl 0 0
        have T1 := Lib.hid t1
        have T2 := Lib.hid t2
        clear t1 t2
        go_wp2
        refine bodyPost_ret (results_row_tmp (fn := Tryd.f20) rfl _ _ (w.heap.size + 1 + 1) _ _ _ _ rfl T1.out Tryd.underlying23 rfl (by kernel_rfl)) rfl ?_
        exact ⟨by rw [HE.out]; rfl, T2.out⟩
      · have d1 : decide (0 ≤ c) = false := decide_eq_false hc
        have hsm := HFS.out (by simp) (by simp) (by omega)
        have d2 : decide (n < 9223372036854775807) = true := decide_eq_true hsm
        have kw : IntKind.i64.wrap (n + 1) = n + 1 := IntWalk.i64_in _ (by have := HF64.out.1; omega)
        have HC2 := Lib.hid (fun W => dcompare_any (n + 1) 1 b1 b2 ⟨by have := HF64.out.1; omega, by omega⟩ ⟨by decide, by decide⟩ A64.out.2.2.1 A64.out.2.2.2 W)
        have HCC := Lib.hid hc
        obtain ⟨c2, hc2⟩ : ∃ q, q = cmpP (n + 1, 1) (b1, b2) := ⟨_, rfl⟩
        rw [← hc2] at HC2 H2 H3
        clear hc2 hc H0 H1 HFS hsm
        obtain ⟨ka0, kb0, _, _⟩ := K.out.cells 0 rfl
        go_wp2_with fail
        refine (HFA.out _).mono ?_
        rintro e w5 ⟨rfl, hb⟩
        replace K := Lib.hid (K.out.step hb)
        clear hb ka0 kb0 HFA
        obtain ⟨ka1, kb1, _, _⟩ := K.out.cells 1 rfl
        go_wp2_with fail
        refine (HC2.out _).mono ?_
        rintro e w6 ⟨rfl, hb⟩
        replace K := Lib.hid (K.out.step hb)
        clear hb ka1 kb1 HC2
        by_cases h2 : c2 < 0
        · have d3 : decide (c2 < 0) = true := decide_eq_true h2
          have HE := Lib.hid (H2.out (by simp) HCC.out h2)
          clear h2
          obtain ⟨z1, z2, z3, z4⟩ := K.out.cells 2 rfl
          obtain ⟨t1, t2⟩ := K.out.told 2 rfl (n + 1) 1
          have T1 := Lib.hid t1
          have T2 := Lib.hid t2
          clear t1 t2
          go_wp2
          refine bodyPost_ret (results_row_tmp (fn := Tryd.f20) rfl _ _ (w.heap.size + 1 + 1) _ _ _ _ rfl T1.out Tryd.underlying23 rfl (by kernel_rfl)) rfl ?_
          exact ⟨by rw [HE.out]; rfl, T2.out⟩
        · have d3 : decide (c2 < 0) = false := decide_eq_false h2
          obtain ⟨B, C, D, r, hN, u, v, hu, hv, hvu, u1, v1, hR, hrr, _, _⟩ := H3.out (by simp) (by simp) HCC.out (by omega)
          have HPA : Hid (∀ W, Calls Tryd.prog 54 #[.agg #[.int .i64 a1, .int .i64 a2]] W fun e w' => e = .returned (.agg #[.int .i64 r, .int .i64 B]) ∧ Below W.heap.size W w') := Lib.hid (fun W => by have h := HPA.out W; rw [hN.apart RA.out.symm] at h; exact h)
          have PT := Lib.hid (hN.part RB.out.symm)
          have HSI := Lib.hid (fun W => simplest_any (B + D + 1) r B C D (by omega) hN.b0 hN.c0 (by have := hN.lt; rw [Nat.mul_comm r D, Nat.mul_comm C B]; exact this) (by have := hN.rb; have := hN.bm; omega) (by have := hN.bm; omega) (by have := hN.cd; have := hN.dm; omega) (by have := hN.dm; omega) W)
          rw [hN.first (B + D), ← hu, ← hv] at HSI
          have hrB := hN.rb
          have hbm := hN.bm
          have hcd := hN.cd
          have hdm := hN.dm
          have x1 : IntKind.u64.wrap (r : Int) = (r : Int) := IntWalk.u64_in _ (by omega)
          have x2 : IntKind.u64.wrap (B : Int) = (B : Int) := IntWalk.u64_in _ (by omega)
          have x3 : IntKind.u64.wrap (C : Int) = (C : Int) := IntWalk.u64_in _ (by omega)
          have x4 : IntKind.u64.wrap (D : Int) = (D : Int) := IntWalk.u64_in _ (by omega)
          have HR := Lib.hid (And.intro hvu (And.intro u1 (And.intro v1 (And.intro hR hrr))))
          obtain ⟨fb, hfb⟩ : ∃ q, q = floorP (b1, b2) := ⟨_, rfl⟩
          rw [← hfb] at HFB PT
          clear h2 hN hu hv hvu u1 v1 hR hrr hrB hbm hcd hdm H2 H3 hfb
          obtain ⟨ka0, kb0, _, _⟩ := K.out.cells 0 rfl
          go_wp2_with fail
          refine (HPA.out _).mono ?_
          rintro e w7 ⟨rfl, hb⟩
          replace K := Lib.hid (K.out.step hb)
          clear hb ka0 kb0 HPA
          go_upto_region 9 with fail
          replace K := Lib.hid (K.out.new r B)
          generalize w7.alloc (.cells #[.int .i64 r, .int .i64 B] 23) = w8 at *
          generalize w7.heap.size = g7 at *
          simp only [List.cons_append, List.nil_append] at K
          go_upto_region 10 with fail
          replace K := Lib.hid (K.out.new 1 1)
          generalize w8.alloc (.cells #[.int .i64 1, .int .i64 1] 23) = w9 at *
          generalize w8.heap.size = g8 at *
          simp only [List.cons_append, List.nil_append] at K
          obtain ⟨ka1, kb1, _, _⟩ := K.out.cells 1 rfl
          go_wp2_with fail
          refine (HFB.out _).mono ?_
          rintro e w10 ⟨rfl, hb⟩
          replace K := Lib.hid (K.out.step hb)
          clear hb ka1 kb1 HFB
          go_upto_if 50 with fail
          go_cut [] (fun wx => Hid (RtS w [(w.heap.size, a1, a2), (w.heap.size + 1, b1, b2), (w.heap.size + 1 + 1, 0, 0), (g7, r, B), (g8, C, D)] wx))
          case first =>
            by_cases hf : fb = n
            · have f1 : (fb == n) = true := by simp [hf]
              have e1 := PT.out.1 hf
              have HPB : Hid (∀ W, Calls Tryd.prog 54 #[.agg #[.int .i64 b1, .int .i64 b2]] W fun e w' => e = .returned (.agg #[.int .i64 C, .int .i64 D]) ∧ Below W.heap.size W w') := Lib.hid (fun W => by have h := HPB.out W; rw [e1] at h; exact h)
              clear e1 hf
              obtain ⟨ka1, kb1, _, _⟩ := K.out.cells 1 rfl
              go_wp2_with fail
              refine (HPB.out _).mono ?_
              rintro e w11 ⟨rfl, hb⟩
              replace K := Lib.hid (K.out.step hb)
              clear hb ka1 kb1
              obtain ⟨z1, z2, z3, z4⟩ := K.out.cells 4 rfl
              replace K := Lib.hid (K.out.put 4 rfl C D)
              simp only [List.set_cons_zero, List.set_cons_succ] at K
              go_wp2_with fail
              go_meet
              exact K
            · have f1 : (fb == n) = false := by simp [hf]
              obtain ⟨e1, e2⟩ := PT.out.2 hf
              subst e1 e2
              clear hf
              go_wp2_with fail
              go_meet
              exact K
          case rest =>
            clear K
            have K := hcut
            clear hcut PT HPB
            obtain ⟨ka3, kb3, _, _⟩ := K.out.cells 3 rfl
            obtain ⟨ka4, kb4, _, _⟩ := K.out.cells 4 rfl
            go_wp2_with fail
            refine (HSI.out _).mono ?_
            rintro e w12 ⟨⟨p, q, ok, rfl, hsim⟩, hb⟩
            replace K := Lib.hid (K.out.step hb)
            clear hb ka3 kb3 ka4 kb4 HSI
            rcases hsim with ⟨rfl, rfl, rfl, y1, y2⟩ | ⟨rfl, hbig⟩
            · have y1 : v < 18446744073709551616 := y1
              have y2 : u < 18446744073709551616 := y2
              by_cases hum : 9223372036854775807 < u
              · have f1 : (9223372036854775807 : Int) < (u : Int) := by omega
                have HE : Hid (R = ((0, 0), 4)) := Lib.hid (by rw [HR.out.2.2.2.1]; exact ends_no (.inr (not_fits fun h => by have := (fits_iff.1 h).2; omega)))
                clear hum
                obtain ⟨z1, z2, z3, z4⟩ := K.out.cells 2 rfl
                obtain ⟨t1, t2⟩ := K.out.told 2 rfl 0 0
                have T1 := Lib.hid t1
                have T2 := Lib.hid t2
                clear t1 t2
                go_wp2
                refine bodyPost_ret (results_row_tmp (fn := Tryd.f20) rfl _ _ (w.heap.size + 1 + 1) _ _ _ _ rfl T1.out Tryd.underlying23 rfl (by kernel_rfl)) rfl ?_
                exact ⟨by rw [HE.out]; rfl, T2.out⟩
              · have f1 : ¬ (9223372036854775807 : Int) < (u : Int) := by omega
                have hvu := HR.out.1
                have f2 : ¬ (9223372036854775807 : Int) < (v : Int) := by omega
                have x5 : IntKind.i64.wrap (u : Int) = (u : Int) := IntWalk.i64_in _ (by omega)
                have x6 : IntKind.i64.wrap (v : Int) = (v : Int) := IntWalk.i64_in _ (by omega)
                have u1 := HR.out.2.1
                have hds : dsumP (n, 1) ((v : Int), (u : Int)) = fracP ((u : Int) * n + (v : Int)) (u : Int) := by
                  rw [dsum_is (n, 1) ((v : Int), (u : Int)) (by show (0 : Int) < 1; decide) (by show (0 : Int) < (u : Int); omega)]
                  show fracP (n * (u : Int) + (v : Int) * 1) (1 * (u : Int)) = _
                  rw [Int.mul_one, Int.one_mul, Int.mul_comm n]
                have HSU := Lib.hid (fun W => dsum_any n 1 (v : Int) (u : Int) HF64.out (i64_of (by decide)) ⟨by omega, by omega⟩ ⟨by omega, by omega⟩ (by decide) (by omega) W)
                rw [hds] at HSU
                have HUM : Hid (u ≤ 9223372036854775807) := Lib.hid (by omega)
                clear hum hvu u1 hds y1 y2
                go_upto_region 16 with fail
                replace K := Lib.hid (K.out.new v u)
                generalize w12.alloc (.cells #[.int .i64 v, .int .i64 u] 23) = w13 at *
                generalize w12.heap.size = g12 at *
                simp only [List.cons_append, List.nil_append] at K
                obtain ⟨ka5, kb5, _, _⟩ := K.out.cells 5 rfl
                by_cases hf : fitsI ((u : Int) * n + (v : Int)) = true
                · have e1 : fracP ((u : Int) * n + (v : Int)) (u : Int) = (((u : Int) * n + (v : Int), (u : Int)), 0) := right_frac (r := ((u : Int) * n + (v : Int), (u : Int))) HR.out.2.2.2.2 hf (by show (u : Int) ≤ _; have := HUM.out; omega)
                  have HE : Hid (R = (((u : Int) * n + (v : Int), (u : Int)), 0)) := Lib.hid (by
                    rw [HR.out.2.2.2.1]
                    unfold ends
                    rw [if_pos (by rw [hf, fits_nat HUM.out]; rfl)])
                  obtain ⟨X, hX⟩ : ∃ X, X = (u : Int) * n + (v : Int) := ⟨_, rfl⟩
                  rw [← hX] at e1 HE HSU
                  have HSU : Hid (∀ W, Calls Tryd.prog 56 #[.agg #[.int .i64 n, .int .i64 1], .agg #[.int .i64 v, .int .i64 u]] W fun e w' => e = .returned (.tuple #[.agg #[.int .i64 X, .int .i64 u], .int .i64 0]) ∧ Below W.heap.size W w') := Lib.hid (fun W => by have h := HSU.out W; rw [e1] at h; exact h)
                  clear e1 hX hf
                  go_wp2_with fail
                  refine (HSU.out _).mono ?_
                  rintro e w14 ⟨rfl, hb⟩
                  replace K := Lib.hid (K.out.step hb)
                  clear hb ka5 kb5 HSU
                  go_upto_region 17 with fail
                  replace K := Lib.hid (K.out.new X u)
                  generalize w14.alloc (.cells #[.int .i64 X, .int .i64 u] 23) = w15 at *
                  generalize w14.heap.size = g13 at *
                  simp only [List.cons_append, List.nil_append] at K
                  obtain ⟨ka6, kb6, _, _⟩ := K.out.cells 6 rfl
                  obtain ⟨z1, z2, z3, z4⟩ := K.out.cells 2 rfl
                  obtain ⟨t1, t2⟩ := K.out.told 2 rfl X u
                  have T1 := Lib.hid t1
                  have T2 := Lib.hid t2
                  clear t1 t2
                  go_wp2
                  refine bodyPost_ret (results_row_tmp (fn := Tryd.f20) rfl _ _ (w.heap.size + 1 + 1) _ _ _ _ rfl T1.out Tryd.underlying23 rfl (by kernel_rfl)) rfl ?_
                  exact ⟨by rw [HE.out]; rfl, T2.out⟩
                · have e1 : fracP ((u : Int) * n + (v : Int)) (u : Int) = ((0, 0), 20) := frac_not HR.out.2.2.2.2 hf
                  have HE : Hid (R = ((0, 0), 4)) := Lib.hid (by rw [HR.out.2.2.2.1]; exact ends_no (.inl (not_fits hf)))
                  rw [e1] at HSU
                  have HSU : Hid (∀ W, Calls Tryd.prog 56 #[.agg #[.int .i64 n, .int .i64 1], .agg #[.int .i64 v, .int .i64 u]] W fun e w' => e = .returned (.tuple #[.agg #[.int .i64 0, .int .i64 0], .int .i64 20]) ∧ Below W.heap.size W w') := HSU
                  clear e1 hf
                  go_wp2_with fail
                  refine (HSU.out _).mono ?_
                  rintro e w14 ⟨rfl, hb⟩
                  replace K := Lib.hid (K.out.step hb)
                  clear hb ka5 kb5 HSU
                  go_upto_region 17 with fail
                  replace K := Lib.hid (K.out.new 0 0)
                  generalize w14.alloc (.cells #[.int .i64 0, .int .i64 0] 23) = w15 at *
                  generalize w14.heap.size = g13 at *
                  simp only [List.cons_append, List.nil_append] at K
                  obtain ⟨z1, z2, z3, z4⟩ := K.out.cells 2 rfl
                  obtain ⟨t1, t2⟩ := K.out.told 2 rfl 0 0
                  have T1 := Lib.hid t1
                  have T2 := Lib.hid t2
                  clear t1 t2
                  go_wp2
                  refine bodyPost_ret (results_row_tmp (fn := Tryd.f20) rfl _ _ (w.heap.size + 1 + 1) _ _ _ _ rfl T1.out Tryd.underlying23 rfl (by kernel_rfl)) rfl ?_
                  exact ⟨by rw [HE.out]; rfl, T2.out⟩
            · have HE : Hid (R = ((0, 0), 4)) := Lib.hid (by
                have hvu := HR.out.1
                have hb2 : 18446744073709551616 ≤ u := by
                  rcases hbig with hh | hh
                  · have hh : 18446744073709551616 ≤ v := hh
                    omega
                  · exact hh
                rw [HR.out.2.2.2.1]
                exact ends_no (.inr (not_fits fun h => by have := (fits_iff.1 h).2; omega)))
              clear hbig
              obtain ⟨z1, z2, z3, z4⟩ := K.out.cells 2 rfl
              obtain ⟨t1, t2⟩ := K.out.told 2 rfl 0 0
              have T1 := Lib.hid t1
              have T2 := Lib.hid t2
              clear t1 t2
              go_wp2
              refine bodyPost_ret (results_row_tmp (fn := Tryd.f20) rfl _ _ (w.heap.size + 1 + 1) _ _ _ _ rfl T1.out Tryd.underlying23 rfl (by kernel_rfl)) rfl ?_
              exact ⟨by rw [HE.out]; rfl, T2.out⟩

end Go.Proofs.YtmgdhlcgbgpgpaaDoor

/- RatBetween: every two fractions: the simplest one between, or the error; it lies between. -/
namespace Go.Proofs.YtmgdhlcgbgpgpaaDoor
open Go Go.RowKit
set_option linter.unusedVariables false
set_option linter.unusedSimpArgs false

set_option maxRecDepth 100000 in
set_option maxHeartbeats 8000000 in
theorem betweens_any (a1 a2 b1 b2 : Int) (w : World) (ha1 : I64 a1) (ha2 : I64 a2) (hb1 : I64 b1) (hb2 : I64 b2) (ht : TabQ w) :
    Calls Tryd.prog 4 #[.agg #[.int .i64 a1, .int .i64 a2], .agg #[.int .i64 b1, .int .i64 b2]] w fun e w' => e = .returned (.bool true) ∧ Below w.heap.size w w' := by
  have HA := Lib.hid (fun W => between_any a1 a2 b1 b2 ((a1, a2).2.toNat + (b1, b2).2.toNat + 1) ha1 ha2 hb1 hb2 (betF_ne ha1 ha2 hb1 hb2) W)
  have HB := Lib.hid (fun W hW => dbetween_any a1 a2 b1 b2 W ha1 ha2 hb1 hb2 hW)
  have HL := betF_lies (a1 := a1) (a2 := a2) (b1 := b1) (b2 := b2) ha1 ha2 hb1 hb2
  obtain ⟨⟨⟨x1, x2⟩, ex⟩, hx⟩ : ∃ q, q = betF (a1, a2) (b1, b2) := ⟨_, rfl⟩
  have HA : Hid (∀ W, Calls Tryd.prog 19 #[.agg #[.int .i64 a1, .int .i64 a2], .agg #[.int .i64 b1, .int .i64 b2]] W fun e w' => e = .returned (.tuple #[.agg #[.int .i64 x1, .int .i64 x2], .int .i64 ex]) ∧ Below W.heap.size W w') := Lib.hid (fun W => by
    have h := HA.out W
    rw [show betP ((a1, a2).2.toNat + (b1, b2).2.toNat + 1) (a1, a2) (b1, b2) = ((x1, x2), ex) from hx.symm] at h
    exact h)
  rw [← hx] at HB HL
  have HB : Hid (∀ W, TabQ W → Calls Tryd.prog 20 #[.agg #[.int .i64 a1, .int .i64 a2], .agg #[.int .i64 b1, .int .i64 b2]] W fun e w' => e = .returned (.tuple #[.agg #[.int .i64 x1, .int .i64 x2], .int .i64 ex]) ∧ Below W.heap.size W w') := HB
  have HC1 : Hid (ex = 0 → ∀ W, Calls Tryd.prog 21 #[.agg #[.int .i64 a1, .int .i64 a2], .agg #[.int .i64 x1, .int .i64 x2]] W fun e w' => e = .returned (.int .i64 (-1)) ∧ Below W.heap.size W w') := Lib.hid (fun h W => by
    obtain ⟨l1, l2, l3, l4⟩ := HL h
    have hc := compare_any a1 a2 x1 x2 ha1 ha2 l1 l2 W
    rw [show cmpP (a1, a2) (x1, x2) = -1 from l3] at hc
    exact hc)
  have HC2 : Hid (ex = 0 → ∀ W, Calls Tryd.prog 21 #[.agg #[.int .i64 x1, .int .i64 x2], .agg #[.int .i64 b1, .int .i64 b2]] W fun e w' => e = .returned (.int .i64 (-1)) ∧ Below W.heap.size W w') := Lib.hid (fun h W => by
    obtain ⟨l1, l2, l3, l4⟩ := HL h
    have hc := compare_any x1 x2 b1 b2 l1 l2 hb1 hb2 W
    rw [show cmpP (x1, x2) (b1, b2) = -1 from l4] at hc
    exact hc)
  have K := Lib.hid ((RtL.start ht).two a1 a2 b1 b2)
  clear hx HL ha1 ha2 hb1 hb2 ht
  go_enter Tryd.func4, Tryd.ntmps4
  go_upto_region 1 with fail
  generalize (w.alloc (.cells #[.int .i64 a1, .int .i64 a2] 23)).alloc (.cells #[.int .i64 b1, .int .i64 b2] 23) = w1 at *
  obtain ⟨k0, l0⟩ := K.out.cells 0 rfl
  obtain ⟨k1, l1⟩ := K.out.cells 1 rfl
  go_wp2_with fail
  refine (HA.out _).mono ?_
  rintro e w2 ⟨rfl, hb⟩
  replace K := Lib.hid (K.out.step hb)
  clear hb k0 l0 k1 l1 HA
  go_upto_region 2 with fail
  replace K := Lib.hid (K.out.new x1 x2)
  generalize w2.alloc (.cells #[.int .i64 x1, .int .i64 x2] 23) = w3 at *
  generalize w2.heap.size = g5 at *
  simp only [List.cons_append, List.nil_append] at K
  obtain ⟨k0, l0⟩ := K.out.cells 0 rfl
  obtain ⟨k1, l1⟩ := K.out.cells 1 rfl
  go_wp2_with fail
  refine (HB.out _ K.out.tab).mono ?_
  rintro e w4 ⟨rfl, hb⟩
  replace K := Lib.hid (K.out.step hb)
  clear hb k0 l0 k1 l1 HB
  go_upto_region 3 with fail
  replace K := Lib.hid (K.out.new x1 x2)
  generalize w4.alloc (.cells #[.int .i64 x1, .int .i64 x2] 23) = w5 at *
  generalize w4.heap.size = g7 at *
  simp only [List.cons_append, List.nil_append] at K
  go_wp2_with fail
  refine (live02_any _ K.out.tab).mono ?_
  rintro e w6 ⟨rfl, hb⟩
  replace K := Lib.hid (K.out.step hb)
  clear hb
  obtain ⟨k2, l2⟩ := K.out.cells 2 rfl
  obtain ⟨k3, l3⟩ := K.out.cells 3 rfl
  by_cases he : ex = 0
  · have HD1 := Lib.hid (HC1.out he)
    have HD2 := Lib.hid (HC2.out he)
    subst he
    obtain ⟨k0, l0⟩ := K.out.cells 0 rfl
    obtain ⟨k1, l1⟩ := K.out.cells 1 rfl
    go_wp2_with fail
    refine (HD1.out _).mono ?_
    rintro e w7 ⟨rfl, hb⟩
    replace K := Lib.hid (K.out.step hb)
    clear hb k0 l0 k1 l1 k2 l2 k3 l3
    obtain ⟨k1, l1⟩ := K.out.cells 1 rfl
    obtain ⟨k2, l2⟩ := K.out.cells 2 rfl
    go_wp2_with fail
    refine (HD2.out _).mono ?_
    rintro e w8 ⟨rfl, hb⟩
    replace K := Lib.hid (K.out.step hb)
    clear hb k1 l1 k2 l2
    go_wp2
    go_ret
    exact ⟨rfl, K.out.below⟩
  · have q3 : (ex == 0) = false := by simp [he]
    have q4 : (ex != 0) = true := by simp [he]
    have q5 : (!(ex == 0)) = true := by simp [he]
    have q6 : decide (ex = 0) = false := by simp [he]
    go_wp2
    go_ret
    exact ⟨rfl, K.out.below⟩

end Go.Proofs.YtmgdhlcgbgpgpaaDoor
