/- Texts of ours, laid together: Hm, Hr, Ep, Ks, Row3. -/
import Derived.Test.YtncgapnooabdgaaDoorProg
import Derived.Shelf.Bits.Mul64
import Derived.Lib.Hide
import Derived.Deep.LoopGhost
import Derived.KernelRfl
import Derived.StillTailTactics
import Derived.Deep.RegionHeld3
import Derived.Deep.DeepCutAuto
import Derived.Deep.CutBlock
import Derived.Deep.Slices
import Derived.Deep.Fields
import Derived.SizedLaws
import Derived.Test.YtncgapnooabdgaaDoorMg8
/- math/bits.Mul64, walked over this program: the product of two words. -/
namespace Go.Proofs.YtncgapnooabdgaaDoor
open Go Go.RowKit
set_option linter.unusedVariables false
set_option linter.unusedSimpArgs false

set_option maxRecDepth 100000 in
set_option maxHeartbeats 1000000 in
theorem mul64_any (x y : Nat) (hx : x < 18446744073709551616) (hy : y < 18446744073709551616) (w : World) :
    Calls Tryd.prog 74 #[.int .u64 x, .int .u64 y] w fun e w' => e = .returned (.tuple #[.int .u64 ((x * y / 18446744073709551616 : Nat) : Int), .int .u64 ((x * y % 18446744073709551616 : Nat) : Int)]) ∧ w = w' := by
  obtain ⟨bd, bt, bw, hhi⟩ := Lib.mul64_hi x y hx hy
  have ba := Lib.half_mul_le (a := x / 4294967296) (b := y / 4294967296) (by omega) (by omega)
  have bb := Lib.half_mul_le (a := x / 4294967296) (b := y % 4294967296) (by omega) (by omega)
  have bc := Lib.half_mul_le (a := x % 4294967296) (b := y / 4294967296) (by omega) (by omega)
  have ba' : x / 4294967296 * (y / 4294967296) < 18446744073709551616 := by omega
  have bb' : x / 4294967296 * (y % 4294967296) < 18446744073709551616 := by omega
  have bc' : x % 4294967296 * (y / 4294967296) < 18446744073709551616 := by omega
  have bh1 : x / 4294967296 * (y / 4294967296) + (x / 4294967296 * (y % 4294967296) + x % 4294967296 * (y % 4294967296) / 4294967296) / 4294967296 < 18446744073709551616 := by omega
  have bh : x / 4294967296 * (y / 4294967296) + (x / 4294967296 * (y % 4294967296) + x % 4294967296 * (y % 4294967296) / 4294967296) / 4294967296 + ((x / 4294967296 * (y % 4294967296) + x % 4294967296 * (y % 4294967296) / 4294967296) % 4294967296 + x % 4294967296 * (y / 4294967296)) / 4294967296 < 18446744073709551616 := by omega
  go_enter Tryd.func74, Tryd.ntmps74
  go_wp2
  simp only [Mul64.maskN x hx, Mul64.maskN y hy, Mul64.divN, Mul64.mulN, Mul64.addN, Mul64.wrapN _ bd, Mul64.wrapN _ bb', Mul64.wrapN _ bt, Mul64.maskN _ bt, Mul64.wrapN _ bc', Mul64.wrapN _ bw, Mul64.wrapN _ ba', Mul64.wrapN _ bh1, Mul64.wrapN _ bh, Mul64.wrapM (x * y)]
  rw [hhi]
  go_ret2
  exact ⟨rfl, rfl⟩

/-- The product of two words that is a word. -/
theorem mul64_low (x y : Nat) (hx : x < 18446744073709551616) (hy : y < 18446744073709551616) (h : x * y < 18446744073709551616) (w : World) :
    Calls Tryd.prog 74 #[.int .u64 x, .int .u64 y] w fun e w' => e = .returned (.tuple #[.int .u64 0, .int .u64 ((x * y : Nat) : Int)]) ∧ w = w' :=
  (mul64_any x y hx hy w).mono fun e w' ⟨h1, h2⟩ => ⟨by rw [h1, Nat.div_eq_of_lt h, Nat.mod_eq_of_lt h]; rfl, h2⟩

end Go.Proofs.YtncgapnooabdgaaDoor

/- The document's Value, and Holds of numbers that are not great. -/
namespace Go.Proofs.YtncgapnooabdgaaDoor
open Go Go.RowKit
set_option linter.unusedVariables false
set_option linter.unusedSimpArgs false

set_option maxRecDepth 100000 in
set_option maxHeartbeats 1000000 in
theorem rwide_pos (a b : Nat) (w : World) (ha : a ≤ 268435456) (hb : b ≤ 1048576) :
    Calls Tryd.prog 67 #[.int .i64 a, .int .i64 b] w fun e w' => e = .returned (.tuple #[.int .u64 0, .int .u64 ((a * b : Nat) : Int), .bool false]) ∧ w = w' := by
  have hm : a * b ≤ 268435456 * 1048576 := Nat.mul_le_mul ha hb
  have HM := Lib.hid (fun w => mul64_low a b (by omega) (by omega) (by omega) w)
  have g1 : IntKind.u64.wrap (a : Int) = (a : Int) := by rw [IntKind.wrap_u64]; omega
  have g2 : IntKind.u64.wrap (b : Int) = (b : Int) := by rw [IntKind.wrap_u64]; omega
  clear hm
  go_enter Tryd.func67, Tryd.ntmps67
  go_wp2_with fail
  refine (HM.out _).mono ?_
  rintro e w' ⟨rfl, rfl⟩
  go_wp2
  go_ret3
  exact ⟨rfl, rfl⟩
set_option maxRecDepth 100000 in
set_option maxHeartbeats 1000000 in
theorem rwide_neg (a b : Nat) (w : World) (ha : a ≤ 268435456) (hb : b ≤ 1048576) (ha0 : 0 < a) (hb0 : 0 < b) :
    Calls Tryd.prog 67 #[.int .i64 (-(a : Int)), .int .i64 b] w fun e w' => e = .returned (.tuple #[.int .u64 0, .int .u64 ((a * b : Nat) : Int), .bool true]) ∧ w = w' := by
  have hm : a * b ≤ 268435456 * 1048576 := Nat.mul_le_mul ha hb
  have hm0 : 0 < a * b := Nat.mul_pos ha0 hb0
  have HM := Lib.hid (fun w => mul64_low a b (by omega) (by omega) (by omega) w)
  have d0 : decide (-(a : Int) < 0) = true := decide_eq_true (by omega)
  have g2 : IntKind.u64.wrap (b : Int) = (b : Int) := by rw [IntKind.wrap_u64]; omega
  have t1 : (((a * b : Nat) : Int) != 0) = true := by simp; omega
  have t2 : (((a * b : Nat) : Int) == 0) = false := by simp; omega
  clear hm
  go_enter Tryd.func67, Tryd.ntmps67
  have g3 : IntKind.u64.wrap (-IntKind.u64.wrap (-(a : Int))) = (a : Int) := by rw [IntKind.wrap_u64, IntKind.wrap_u64]; omega
  go_wp2_with fail
  refine (HM.out _).mono ?_
  rintro e w' ⟨rfl, rfl⟩
  go_wp2
  go_ret3
  exact ⟨by simp [t1, t2]; omega, rfl⟩

/-- Which of two numbers is greater: -1, 0, 1. -/
def cmpI (a b : Int) : Int := if a < b then -1 else if a = b then 0 else 1

set_option maxRecDepth 100000 in
set_option maxHeartbeats 2000000 in
theorem rless_pp (x k d : Nat) (w : World) (hx : x ≤ 1099511627776) (hk : k ≤ 268435456) (hd : d ≤ 1048576) :
    Calls Tryd.prog 57 #[.int .i64 x, .int .i64 d, .int .i64 k] w fun e w' => e = .returned (.int .i64 (cmpI x ((k * d : Nat) : Int))) ∧ w = w' := by
  have hm : k * d ≤ 268435456 * 1048576 := Nat.mul_le_mul hk hd
  have HM := Lib.hid (fun w => rwide_pos k d w hk hd)
  obtain ⟨P, hP⟩ : ∃ P, P = k * d := ⟨_, rfl⟩
  rw [← hP] at hm HM ⊢
  have g1 : IntKind.u64.wrap (x : Int) = (x : Int) := by rw [IntKind.wrap_u64]; omega
  clear hP
  rcases Nat.lt_trichotomy x P with h | h | h
  · have e : cmpI x (P : Int) = -1 := if_pos (by omega)
    rw [e]
    have hi : (x : Int) < (P : Int) := by omega
    clear h e
    go_enter Tryd.func57, Tryd.ntmps57
    go_wp2_with (go_at_call 67; refine (HM.out _).mono ?_; rintro e w' ⟨rfl, rfl⟩)
    go_ret
    exact ⟨rfl, rfl⟩
  · have e : cmpI x (P : Int) = 0 := by unfold cmpI; rw [if_neg (by omega), if_pos (by omega)]
    rw [e]
    subst h
    have d1 : decide ((x : Int) < (x : Int)) = false := decide_eq_false (by omega)
    clear e
    go_enter Tryd.func57, Tryd.ntmps57
    go_wp2_with (go_at_call 67; refine (HM.out _).mono ?_; rintro e w' ⟨rfl, rfl⟩)
    go_ret
    exact ⟨rfl, rfl⟩
  · have e : cmpI x (P : Int) = 1 := by unfold cmpI; rw [if_neg (by omega), if_neg (by omega)]
    rw [e]
    have hi : (P : Int) < (x : Int) := by omega
    clear h e
    go_enter Tryd.func57, Tryd.ntmps57
    go_wp2_with (go_at_call 67; refine (HM.out _).mono ?_; rintro e w' ⟨rfl, rfl⟩)
    go_ret
    exact ⟨rfl, rfl⟩
set_option maxRecDepth 100000 in
set_option maxHeartbeats 2000000 in
theorem rless_pn (x k d : Nat) (w : World) (hx : x ≤ 1099511627776) (hk : k ≤ 268435456) (hd : d ≤ 1048576) (hk0 : 0 < k) (hd0 : 0 < d) :
    Calls Tryd.prog 57 #[.int .i64 x, .int .i64 d, .int .i64 (-(k : Int))] w fun e w' => e = .returned (.int .i64 1) ∧ w = w' := by
  have hm : k * d ≤ 268435456 * 1048576 := Nat.mul_le_mul hk hd
  have HM := Lib.hid (fun w => rwide_neg k d w hk hd hk0 hd0)
  obtain ⟨P, hP⟩ : ∃ P, P = k * d := ⟨_, rfl⟩
  rw [← hP] at hm HM
  have g1 : IntKind.u64.wrap (x : Int) = (x : Int) := by rw [IntKind.wrap_u64]; omega
  clear hP
  rcases Nat.lt_trichotomy x P with h | h | h
  · have hi : (x : Int) < (P : Int) := by omega
    clear h
    go_enter Tryd.func57, Tryd.ntmps57
    go_wp2_with (go_at_call 67; refine (HM.out _).mono ?_; rintro e w' ⟨rfl, rfl⟩)
    go_ret
    exact ⟨rfl, rfl⟩
  · subst h
    have d1 : decide ((x : Int) < (x : Int)) = false := decide_eq_false (by omega)
    go_enter Tryd.func57, Tryd.ntmps57
    go_wp2_with (go_at_call 67; refine (HM.out _).mono ?_; rintro e w' ⟨rfl, rfl⟩)
    go_ret
    exact ⟨rfl, rfl⟩
  · have hi : (P : Int) < (x : Int) := by omega
    clear h
    go_enter Tryd.func57, Tryd.ntmps57
    go_wp2_with (go_at_call 67; refine (HM.out _).mono ?_; rintro e w' ⟨rfl, rfl⟩)
    go_ret
    exact ⟨rfl, rfl⟩
set_option maxRecDepth 100000 in
set_option maxHeartbeats 2000000 in
theorem rless_np (x k d : Nat) (w : World) (hx : x ≤ 1099511627776) (hx0 : 0 < x) (hk : k ≤ 268435456) (hd : d ≤ 1048576) :
    Calls Tryd.prog 57 #[.int .i64 (-(x : Int)), .int .i64 d, .int .i64 k] w fun e w' => e = .returned (.int .i64 (-1)) ∧ w = w' := by
  have hm : k * d ≤ 268435456 * 1048576 := Nat.mul_le_mul hk hd
  have HM := Lib.hid (fun w => rwide_pos k d w hk hd)
  obtain ⟨P, hP⟩ : ∃ P, P = k * d := ⟨_, rfl⟩
  rw [← hP] at hm HM
  have d0 : decide (-(x : Int) < 0) = true := decide_eq_true (by omega)
  have g3 : IntKind.u64.wrap (-IntKind.u64.wrap (-(x : Int))) = (x : Int) := by rw [IntKind.wrap_u64, IntKind.wrap_u64]; omega
  have t1 : ((x : Int) != 0) = true := by simp; omega
  have t2 : ((x : Int) == 0) = false := by simp; omega
  clear hP
  rcases Nat.lt_trichotomy x P with h | h | h
  · have hi : (x : Int) < (P : Int) := by omega
    clear h
    go_enter Tryd.func57, Tryd.ntmps57
    go_wp2_with (go_at_call 67; refine (HM.out _).mono ?_; rintro e w' ⟨rfl, rfl⟩)
    go_ret
    exact ⟨rfl, rfl⟩
  · subst h
    have d1 : decide ((x : Int) < (x : Int)) = false := decide_eq_false (by omega)
    go_enter Tryd.func57, Tryd.ntmps57
    go_wp2_with (go_at_call 67; refine (HM.out _).mono ?_; rintro e w' ⟨rfl, rfl⟩)
    go_ret
    exact ⟨rfl, rfl⟩
  · have hi : (P : Int) < (x : Int) := by omega
    clear h
    go_enter Tryd.func57, Tryd.ntmps57
    go_wp2_with (go_at_call 67; refine (HM.out _).mono ?_; rintro e w' ⟨rfl, rfl⟩)
    go_ret
    exact ⟨rfl, rfl⟩
set_option maxRecDepth 100000 in
set_option maxHeartbeats 2000000 in
theorem rless_nn (x k d : Nat) (w : World) (hx : x ≤ 1099511627776) (hx0 : 0 < x) (hk : k ≤ 268435456) (hd : d ≤ 1048576) (hk0 : 0 < k) (hd0 : 0 < d) :
    Calls Tryd.prog 57 #[.int .i64 (-(x : Int)), .int .i64 d, .int .i64 (-(k : Int))] w fun e w' => e = .returned (.int .i64 (cmpI ((k * d : Nat) : Int) x)) ∧ w = w' := by
  have hm : k * d ≤ 268435456 * 1048576 := Nat.mul_le_mul hk hd
  have HM := Lib.hid (fun w => rwide_neg k d w hk hd hk0 hd0)
  obtain ⟨P, hP⟩ : ∃ P, P = k * d := ⟨_, rfl⟩
  rw [← hP] at hm HM ⊢
  have d0 : decide (-(x : Int) < 0) = true := decide_eq_true (by omega)
  have g3 : IntKind.u64.wrap (-IntKind.u64.wrap (-(x : Int))) = (x : Int) := by rw [IntKind.wrap_u64, IntKind.wrap_u64]; omega
  clear hP
  rcases Nat.lt_trichotomy x P with h | h | h
  · have e : cmpI (P : Int) x = 1 := by unfold cmpI; rw [if_neg (by omega), if_neg (by omega)]
    rw [e]
    have hi : (x : Int) < (P : Int) := by omega
    clear h e
    go_enter Tryd.func57, Tryd.ntmps57
    go_wp2_with (go_at_call 67; refine (HM.out _).mono ?_; rintro e w' ⟨rfl, rfl⟩)
    go_ret
    exact ⟨rfl, rfl⟩
  · have e : cmpI (P : Int) x = 0 := by unfold cmpI; rw [if_neg (by omega), if_pos (by omega)]
    rw [e]
    subst h
    have d1 : decide ((x : Int) < (x : Int)) = false := decide_eq_false (by omega)
    clear e
    go_enter Tryd.func57, Tryd.ntmps57
    go_wp2_with (go_at_call 67; refine (HM.out _).mono ?_; rintro e w' ⟨rfl, rfl⟩)
    go_ret
    exact ⟨rfl, rfl⟩
  · have e : cmpI (P : Int) x = -1 := if_pos (by omega)
    rw [e]
    have hi : (P : Int) < (x : Int) := by omega
    clear h e
    go_enter Tryd.func57, Tryd.ntmps57
    go_wp2_with (go_at_call 67; refine (HM.out _).mono ?_; rintro e w' ⟨rfl, rfl⟩)
    go_ret
    exact ⟨rfl, rfl⟩

/-- Less, of numbers that are not great. -/
theorem rless_any (x v d : Int) (w : World) (hx0 : -1099511627776 ≤ x) (hx1 : x ≤ 1099511627776) (hv0 : -268435456 ≤ v) (hv1 : v ≤ 268435456) (hd0 : 1 ≤ d) (hd1 : d ≤ 1048576) :
    Calls Tryd.prog 57 #[.int .i64 x, .int .i64 d, .int .i64 v] w fun e w' => e = .returned (.int .i64 (cmpI x (v * d))) ∧ w = w' := by
  obtain ⟨d, rfl⟩ : ∃ k : Nat, d = k := ⟨d.toNat, by omega⟩
  by_cases a : 0 ≤ x
  · obtain ⟨x, rfl⟩ : ∃ k : Nat, x = k := ⟨x.toNat, by omega⟩
    by_cases b : 0 ≤ v
    · obtain ⟨v, rfl⟩ : ∃ k : Nat, v = k := ⟨v.toNat, by omega⟩
      rw [show (v : Int) * (d : Int) = ((v * d : Nat) : Int) from (Int.natCast_mul v d).symm]
      exact rless_pp x v d w (by omega) (by omega) (by omega)
    · obtain ⟨k, rfl⟩ : ∃ k : Nat, v = -(k : Int) := ⟨(-v).toNat, by omega⟩
      have hp : 0 < k * d := Nat.mul_pos (by omega) (by omega)
      have e : cmpI x (-(k : Int) * d) = 1 := by
        have e1 : -(k : Int) * d = -((k * d : Nat) : Int) := by rw [Int.neg_mul, Int.natCast_mul]
        unfold cmpI
        rw [e1, if_neg (by omega), if_neg (by omega)]
      rw [e]
      exact rless_pn x k d w (by omega) (by omega) (by omega) (by omega) (by omega)
  · obtain ⟨y, rfl⟩ : ∃ k : Nat, x = -(k : Int) := ⟨(-x).toNat, by omega⟩
    by_cases b : 0 ≤ v
    · obtain ⟨v, rfl⟩ : ∃ k : Nat, v = k := ⟨v.toNat, by omega⟩
      have e : cmpI (-(y : Int)) ((v : Int) * d) = -1 := by
        rw [show (v : Int) * (d : Int) = ((v * d : Nat) : Int) from (Int.natCast_mul v d).symm]
        exact if_pos (by omega)
      rw [e]
      exact rless_np y v d w (by omega) (by omega) (by omega) (by omega)
    · obtain ⟨k, rfl⟩ : ∃ k : Nat, v = -(k : Int) := ⟨(-v).toNat, by omega⟩
      have e : cmpI (-(y : Int)) (-(k : Int) * d) = cmpI ((k * d : Nat) : Int) y := by
        have e1 : -(k : Int) * d = -((k * d : Nat) : Int) := by rw [Int.neg_mul, Int.natCast_mul]
        rw [e1]
        unfold cmpI
        by_cases h1 : ((k * d : Nat) : Int) < y
        · rw [if_pos (by omega), if_pos h1]
        · rw [if_neg (by omega), if_neg h1]
          by_cases h2 : ((k * d : Nat) : Int) = y
          · rw [if_pos (by omega), if_pos h2]
          · rw [if_neg (by omega), if_neg h2]
      rw [e]
      exact rless_nn y k d w (by omega) (by omega) (by omega) (by omega) (by omega) (by omega)

/-- Does a fraction keep a bound? -/
def holdsB (b x d : Int) : Bool := decide (b = 2147483647 ∨ x < b / 2 * d + b % 2)

set_option maxRecDepth 100000 in
set_option maxHeartbeats 2000000 in
/-- Holds, of a right bound and numbers that are not great. -/
theorem rholds_any (b x d : Int) (w : World) (hr : rightB b = true) (hx0 : -1099511627776 ≤ x) (hx1 : x ≤ 1099511627776) (hd0 : 1 ≤ d) (hd1 : d ≤ 1048576) :
    Calls Tryd.prog 31 #[.int .i32 b, .int .i64 x, .int .i64 d] w fun e w' => e = .returned (.bool (holdsB b x d)) ∧ w = w' := by
  have HR := Lib.hid hr
  have hb32 : -2147483648 ≤ b ∧ b ≤ 2147483647 := by
    unfold rightB at hr
    have := of_decide_eq_true hr
    omega
  obtain ⟨hb0, hb1⟩ := hb32
  have d0 : decide (d < 1) = false := decide_eq_false (by omega)
  by_cases hn : b = 2147483647
  · have e : holdsB b x d = true := decide_eq_true (.inl hn)
    rw [e]
    have HV := Lib.hid (fun w => rvalue_no b w (by simp [someB, hn]) hb0 hb1)
    clear e hn hr
    go_enter Tryd.func31, Tryd.ntmps31
    go_wp2_with (first | (go_at_call 55; refine (rright_yes b _ HR.out (by omega) (by omega)).mono ?_; rintro e w' ⟨rfl, rfl⟩) | (go_at_call 56; refine (HV.out _).mono ?_; rintro e w' ⟨rfl, rfl⟩))
    go_ret
    exact ⟨rfl, rfl⟩
  · have hbd := rightB_bd hr hn
    have HV := Lib.hid (fun w => rvalue_yes b w (by simp [someB, hr, hn]))
    have e : holdsB b x d = decide (x < b / 2 * d + b % 2) := by unfold holdsB; simp [hn]
    rw [e]
    obtain ⟨q, hq⟩ : ∃ q, q = b / 2 := ⟨_, rfl⟩
    obtain ⟨r, hr'⟩ : ∃ r, r = b % 2 := ⟨_, rfl⟩
    rw [← hq, ← hr'] at HV ⊢
    have hq0 : -268435456 ≤ q := by omega
    have hq1 : q ≤ 268435456 := by omega
    have hr0 : r = 0 ∨ r = 1 := by omega
    have HL := Lib.hid (fun w => rless_any x q d w hx0 hx1 hq0 hq1 hd0 hd1)
    obtain ⟨P, hP⟩ : ∃ P, P = q * d := ⟨_, rfl⟩
    rw [← hP] at HL ⊢
    clear hP e hn hr hbd hq hr'
    rcases hr0 with rfl | rfl
    · have e1 : decide ((0 : Int) = 1) = false := rfl
      rw [e1] at HV
      clear e1
      by_cases h1 : x < P
      · have e2 : cmpI x P = -1 := if_pos h1
        rw [e2] at HL
        rw [decide_eq_true (show x < P + 0 by omega)]
        clear e2 h1
        go_enter Tryd.func31, Tryd.ntmps31
        go_wp2_with (first | (go_at_call 55; refine (rright_yes b _ HR.out (by omega) (by omega)).mono ?_; rintro e w' ⟨rfl, rfl⟩) | (go_at_call 56; refine (HV.out _).mono ?_; rintro e w' ⟨rfl, rfl⟩) | (go_at_call 57; refine (HL.out _).mono ?_; rintro e w' ⟨rfl, rfl⟩))
        go_ret
        exact ⟨rfl, rfl⟩
      · have e2 : cmpI x P = 0 ∨ cmpI x P = 1 := by unfold cmpI; rw [if_neg h1]; split <;> simp
        rw [decide_eq_false (show ¬ x < P + 0 by omega)]
        rcases e2 with e2 | e2
        all_goals
          rw [e2] at HL
          clear e2 h1
          go_enter Tryd.func31, Tryd.ntmps31
          go_wp2_with (first | (go_at_call 55; refine (rright_yes b _ HR.out (by omega) (by omega)).mono ?_; rintro e w' ⟨rfl, rfl⟩) | (go_at_call 56; refine (HV.out _).mono ?_; rintro e w' ⟨rfl, rfl⟩) | (go_at_call 57; refine (HL.out _).mono ?_; rintro e w' ⟨rfl, rfl⟩))
          go_ret
          exact ⟨rfl, rfl⟩
    · have e1 : decide ((1 : Int) = 1) = true := rfl
      rw [e1] at HV
      clear e1
      by_cases h1 : x < P + 1
      · have e2 : cmpI x P = -1 ∨ cmpI x P = 0 := by unfold cmpI; split <;> simp; omega
        rw [decide_eq_true h1]
        rcases e2 with e2 | e2
        all_goals
          rw [e2] at HL
          clear e2 h1
          go_enter Tryd.func31, Tryd.ntmps31
          go_wp2_with (first | (go_at_call 55; refine (rright_yes b _ HR.out (by omega) (by omega)).mono ?_; rintro e w' ⟨rfl, rfl⟩) | (go_at_call 56; refine (HV.out _).mono ?_; rintro e w' ⟨rfl, rfl⟩) | (go_at_call 57; refine (HL.out _).mono ?_; rintro e w' ⟨rfl, rfl⟩))
          go_ret
          exact ⟨rfl, rfl⟩
      · have e2 : cmpI x P = 1 := by unfold cmpI; rw [if_neg (by omega), if_neg (by omega)]
        rw [e2] at HL
        rw [decide_eq_false h1]
        clear e2 h1
        go_enter Tryd.func31, Tryd.ntmps31
        go_wp2_with (first | (go_at_call 55; refine (rright_yes b _ HR.out (by omega) (by omega)).mono ?_; rintro e w' ⟨rfl, rfl⟩) | (go_at_call 56; refine (HV.out _).mono ?_; rintro e w' ⟨rfl, rfl⟩) | (go_at_call 57; refine (HL.out _).mono ?_; rintro e w' ⟨rfl, rfl⟩))
        go_ret
        exact ⟨rfl, rfl⟩

end Go.Proofs.YtncgapnooabdgaaDoor

/- Valuations of wider zones: plain. -/
namespace Go.Proofs.YtncgapnooabdgaaDoor
set_option linter.unusedVariables false
set_option linter.unusedSimpArgs false

/-- Does a valuation, in units of a grid, keep all cells? -/
def inB (n : Nat) (l : List Int) (v : Nat → Int) : Bool := decide (∀ i, i ≤ n → ∀ j, j ≤ n → holdsB (l.getD (i * (n + 1) + j) 0) (v i - v j) 2 = true)
theorem hs_sat {b x g : Int} (hr : rightB b = true) : holdsB b x g = true ↔ sat g (wid b) x := by
  unfold holdsB sat wid
  rw [decide_eq_true_iff]
  by_cases e : b = 2147483647
  · simp [e]
  · rw [if_neg e]
    have hb := rightB_bd hr e
    constructor
    · rintro (h | h)
      · exact absurd h e
      · exact .inr h
    · rintro (h | h)
      · exfalso; unfold none62 at h; omega
      · exact .inr h
theorem inB_sat {n : Nat} {m : Mat} {v : Nat → Int} (hr : RightM n m) : inB n (flat n m) v = true ↔ satM n 2 (widW m) v := by
  unfold inB satM
  rw [decide_eq_true_iff]
  constructor
  · intro h i j hi hj
    have := h i hi j hj
    rw [flat_at m (by omega) (by omega)] at this
    exact (hs_sat (hr i j hi hj)).1 this
  · intro h i hi j hj
    rw [flat_at m (by omega) (by omega)]
    exact (hs_sat (hr i j hi hj)).2 (h i j hi hj)
theorem sat_less {g b x y : Int} (h : sat g b x) (hy : y ≤ x) : sat g b y := by
  rcases h with h | h
  · exact .inl h
  · exact .inr (by omega)
theorem inB_zero (n : Nat) (v : Nat → Int) : inB n (flat n fun _ _ => 0) v = false := by
  unfold inB
  refine decide_eq_false fun h => ?_
  have := h 0 (Nat.zero_le _) 0 (Nat.zero_le _)
  rw [flat_at _ (by omega) (by omega)] at this
  rw [Int.sub_self] at this
  revert this
  decide

theorem satM_agree {n : Nat} {a b : Mat} {u : Nat → Int} (h : Agree n a b) : satM n 2 (widW a) u ↔ satM n 2 (widW b) u := by
  constructor
  · intro hs i j hi hj
    have := hs i j hi hj
    unfold widW at this ⊢
    rw [← h i j hi hj]; exact this
  · intro hs i j hi hj
    have := hs i j hi hj
    unfold widW at this ⊢
    rw [h i j hi hj]; exact this

/-! ### nothing is said of clock 1 -/
theorem says_half {n : Nat} {m : Mat} {v v' : Nat → Int} (hn1 : 1 ≤ n) (h : ClosedZ n m) (h0 : v 0 = 0) (h0' : v' 0 = 0) (hv1 : 0 ≤ v' 1) (he : ∀ i, i ≤ n → i ≠ 1 → v' i = v i) (hs : satM n 2 (widW (offM (goneF [1] m) m)) v) : satM n 2 (widW (offM (goneF [1] m) m)) v' := by
  have gb : ∀ i, goneB [1] i = decide (i = 1) := fun i => by
    unfold goneB
    rw [Bool.eq_iff_iff]
    simp only [decide_eq_true_eq, List.mem_singleton]
    omega
  intro i j hi hj
  have hij := hs i j hi hj
  by_cases e : i = j
  · subst e
    rw [Int.sub_self]
    unfold widW offM
    rw [if_pos rfl, h.full.one i hi]
    exact sat_one (by omega)
  · by_cases e1 : i = 1
    · unfold widW offM goneF
      rw [if_neg e, gb, if_pos (by simp [e1])]
      exact .inl rfl
    · by_cases e2 : j = 1
      · have hi0 := hs i 0 hi (Nat.zero_le _)
        have hc : widW (offM (goneF [1] m) m) i j = widW m i 0 := by
          unfold widW offM goneF
          rw [if_neg e, gb, if_neg (by simp [e1]), gb, if_pos (by simp [e2])]
        rw [hc]
        by_cases e3 : i = 0
        · subst e3
          have : widW m 0 0 = 1 := h.wone (Nat.zero_le _)
          rw [this, h0', e2]
          exact sat_one (by omega)
        · have hc0 : widW (offM (goneF [1] m) m) i 0 = widW m i 0 := by
            unfold widW offM goneF
            rw [if_neg e3, gb, if_neg (by simp [e1]), gb, if_neg (by simp)]
          rw [hc0, h0] at hi0
          refine sat_less hi0 ?_
          rw [he i hi e1, e2]
          omega
      · rw [he i hi e1, he j hj e2]
        exact hij
/-- Valuations that differ in clock 1 alone are all in, or none is. -/
theorem says_law {n : Nat} {m : Mat} {v v' : Nat → Int} (hn : n ≤ 8) (hn1 : 1 ≤ n) (h : m = (fun _ _ => 0) ∨ ClosedZ n m) (h0 : v 0 = 0) (h0' : v' 0 = 0) (hv1 : 0 ≤ v 1) (hv1' : 0 ≤ v' 1) (he : ∀ i, i ≤ n → i ≠ 1 → v' i = v i) :
    ∃ a, goneP n m [1] = (some a, 0) ∧ RightM n a ∧ inB n (flat n a) v = inB n (flat n a) v' ∧ inclM n a m = true := by
  have hc : clkE n [1] = true := by unfold clkE; simp; omega
  rcases h with rfl | h
  · exact ⟨_, gone_zero hn hc, right_zero n, by rw [inB_zero, inB_zero], incl_zero n _⟩
  · have hcl := gone_closed hc h
    have hag := nar_agree hn hcl
    have hr := (nar_closed hn hcl).full.right
    refine ⟨_, gone_full hn hc h, hr, ?_, incl_of fun i j hi hj => by rw [hag i j hi hj]; exact gone_ge h i j hi hj⟩
    have hw : ∀ u : Nat → Int, satM n 2 (widW (narM n (widW (offM (goneF [1] m) m)))) u ↔ satM n 2 (widW (offM (goneF [1] m) m)) u := fun u => satM_agree hag
    rw [Bool.eq_iff_iff, inB_sat hr, inB_sat hr, hw, hw]
    exact ⟨says_half hn1 h h0 h0' hv1' he, says_half hn1 h h0' h0 hv1 fun i hi e => (he i hi e).symm⟩

/-! ### what keeps the widened bounds -/
/-- Is a cell let go? -/
def skipB (lo : List Int) (i j : Nat) (b : Int) : Bool := decide (0 < i ∧ i ≠ j ∧ (0 ≤ lo.getD (i - 1) 0 ∧ 2 * lo.getD (i - 1) 0 + 1 < b ∨ lo.getD (i - 1) 0 < 0 ∧ 1 < b))
def cutB (lo : List Int) (i j : Nat) (b : Int) : Int := if i ≠ j ∧ b < -2 * atP lo j then -2 * atP lo j else b
/-- Does a valuation keep the widened bounds, as the law asks? -/
def wantB (n : Nat) (lo l : List Int) (v : Nat → Int) : Bool := decide (∀ i, i ≤ n → ∀ j, j ≤ n → skipB lo i j (l.getD (i * (n + 1) + j) 0) = false → holdsB (cutB lo i j (l.getD (i * (n + 1) + j) 0)) (v i - v j) 2 = true)
theorem skip_is {lo : List Int} {i j : Nat} {b : Int} : skipB lo i j b = true ↔ (i ≠ j ∧ i ≠ 0 ∧ 2 * atP lo i + 1 < b) := by
  unfold skipB atP
  rw [decide_eq_true_iff]
  by_cases e : i = 0
  · subst e; simp
  · rw [if_neg e]
    omega
theorem cell_keeps {n : Nat} {m : Mat} {lo : List Int} {v : Nat → Int} (h : ClosedZ n m) (hl : lo.all cstB = true) (i j : Nat) (hi : i ≤ n) (hj : j ≤ n) :
    (skipB lo i j (m i j) = false → holdsB (cutB lo i j (m i j)) (v i - v j) 2 = true) ↔ sat 2 (widW (offM (widP lo lo) m) i j) (v i - v j) := by
  have hr := h.full.right i j hi hj
  have a1 := atP_rng hl j
  have a0 := atP_rng hl i
  have hcut : rightB (cutB lo i j (m i j)) = true := by
    unfold cutB
    split
    · exact decide_eq_true (by omega)
    · exact hr
  by_cases e : i = j
  · subst e
    have e1 : skipB lo i i (m i i) = false := by
      rw [Bool.eq_false_iff]; intro hs; exact (skip_is.1 hs).1 rfl
    have e2 : cutB lo i i (m i i) = m i i := by unfold cutB; rw [if_neg (fun h => h.1 rfl)]
    have e3 : widW (offM (widP lo lo) m) i i = wid (m i i) := by unfold widW offM; rw [if_pos rfl]
    rw [e1, e2, e3, hs_sat hr]
    simp
  · by_cases hs : skipB lo i j (m i j) = true
    · have h1 := (skip_is.1 hs)
      have e3 : widW (offM (widP lo lo) m) i j = none62 := by unfold widW offM widP; rw [if_neg e, if_pos ⟨h1.2.1, h1.2.2⟩]; decide
      rw [hs, e3]
      constructor
      · intro _; exact .inl rfl
      · intro _ h; cases h
    · have hs' : skipB lo i j (m i j) = false := by simpa using hs
      have h1 : ¬ (i ≠ 0 ∧ 2 * atP lo i + 1 < m i j) := fun h => hs (skip_is.2 ⟨e, h.1, h.2⟩)
      have e3 : offM (widP lo lo) m i j = cutB lo i j (m i j) := by
        unfold offM widP cutB
        rw [if_neg e, if_neg h1]
        by_cases i0 : i = 0
        · have := h.full.top j hj
          rw [← i0] at this
          rw [if_pos i0]
          split <;> omega
        · rw [if_neg i0]
          split <;> omega
      have e4 : widW (offM (widP lo lo) m) i j = wid (cutB lo i j (m i j)) := by unfold widW; rw [e3]
      rw [hs', e4, hs_sat hcut]
      simp
/-- A valuation is in the widened zone just if it keeps the widened bounds. -/
theorem points_law5 {n : Nat} {m : Mat} {lo : List Int} {v : Nat → Int} (hn : n ≤ 8) (h : ClosedZ n m) (h0 : rightE n lo = 0) :
    ∃ a, luP n m lo lo = (some a, 0) ∧ ClosedZ n a ∧ inB n (flat n a) v = wantB n lo (flat n (baseM n m lo lo)) v := by
  obtain ⟨l0, c0⟩ := rightE_zero h0
  have hb := base_closed (lo := lo) (up := lo) hn (by omega) h
  obtain ⟨ok, ge, cap⟩ := wide_ok c0 c0 hb
  have he : luP n m lo lo = ofP n (flat n (offM (widP lo lo) (baseM n m lo lo))) := by
    unfold luP
    rw [if_neg (by omega), if_neg (by omega), if_neg (by rw [h.full.one 0 (Nat.zero_le _)]; omega), gone_full hn (freeC_clk _ (by omega)) h]
    rfl
  obtain ⟨a, ha, hac, _⟩ := widen_is hn hb ok ge cap
  refine ⟨a, by rw [he]; exact ha, hac, ?_⟩
  have hi := of_is hn ok
  rw [ha] at hi
  have hs := closed_sat (g := 2) hn (by omega) v ok.fit
  have hsat : satM n 2 (widW (offM (widP lo lo) (baseM n m lo lo))) v ↔ satM n 2 (widW a) v := by
    generalize hrr : ((some a, 0) : Option Mat × Int) = r at hi
    cases hi with
    | empty hc =>
      exfalso
      simp only [Prod.mk.injEq, Option.some.injEq] at hrr
      have := hac.full.one 0 (Nat.zero_le _)
      rw [hrr.1] at this
      cases this
    | full C Y hc hcl hy heq hle =>
      simp only [Prod.mk.injEq, Option.some.injEq] at hrr
      rw [hc] at hs
      refine Iff.trans hs ?_
      rw [hrr.1]
      constructor
      · intro hh i j hi hj
        rw [heq i j hi hj]; exact hh i j hi hj
      · intro hh i j hi hj
        rw [← heq i j hi hj]; exact hh i j hi hj
    | over C hc hcl => cases hrr
  rw [Bool.eq_iff_iff, inB_sat hac.full.right, ← hsat]
  unfold wantB
  rw [decide_eq_true_iff]
  constructor
  · intro hh i hi j hj
    rw [flat_at _ (by omega) (by omega)]
    exact (cell_keeps hb c0 i j hi hj).2 (hh i j hi hj)
  · intro hh i j hi hj
    have := hh i hi j hj
    rw [flat_at _ (by omega) (by omega)] at this
    exact (cell_keeps hb c0 i j hi hj).1 this

end Go.Proofs.YtncgapnooabdgaaDoor

/- What ExtraSays tells. -/
namespace Go.Proofs.YtncgapnooabdgaaDoor
open Go Go.RowKit
set_option linter.unusedVariables false
set_option linter.unusedSimpArgs false

/-- A valuation of n clocks, the first p of them from a row. -/
def vecUp (n : Nat) (xs : List Int) (p : Nat) : List Int := (List.range (n + 1)).map fun i => if 1 ≤ i ∧ i ≤ p ∧ i ≤ xs.length then xs.getD (i - 1) 0 else 0
theorem vecUp_length (n : Nat) (xs : List Int) (p : Nat) : (vecUp n xs p).length = n + 1 := by simp [vecUp]
theorem vecUp_getD (n : Nat) (xs : List Int) (p i : Nat) (hi : i ≤ n) : (vecUp n xs p).getD i 0 = if 1 ≤ i ∧ i ≤ p ∧ i ≤ xs.length then xs.getD (i - 1) 0 else 0 := by
  unfold vecUp
  rw [List.getD_eq_getElem?_getD, List.getElem?_map, List.getElem?_range (by omega)]
  rfl
theorem list_ext5 {xs ys : List Int} (hl : xs.length = ys.length) (h : ∀ i, i < xs.length → xs.getD i 0 = ys.getD i 0) : xs = ys := by
  apply List.ext_getElem hl
  intro i h1 h2
  have := h i h1
  rwa [List.getD_eq_getElem?_getD, List.getD_eq_getElem?_getD, List.getElem?_eq_getElem h1, List.getElem?_eq_getElem h2] at this
theorem getD_set5 (xs : List Int) (p i : Nat) (x : Int) (hi : i < xs.length) : (xs.set p x).getD i 0 = if i = p then x else xs.getD i 0 := by
  rw [List.getD_eq_getElem?_getD, List.getElem?_set]
  by_cases e : p = i
  · subst e; rw [if_pos rfl, if_pos rfl, if_pos hi]; rfl
  · rw [if_neg e, if_neg (fun h => e h.symm), ← List.getD_eq_getElem?_getD]
theorem vecUp_next (n : Nat) (xs : List Int) (p : Nat) (hp : p < n) (hx : p < xs.length) : (vecUp n xs p).set (p + 1) (xs.getD p 0) = vecUp n xs (p + 1) := by
  apply list_ext5
  · rw [List.length_set, vecUp_length, vecUp_length]
  · intro i hi
    rw [List.length_set] at hi
    rw [getD_set5 _ _ _ _ hi]
    rw [vecUp_length] at hi
    rw [vecUp_getD _ _ _ _ (by omega), vecUp_getD _ _ _ _ (by omega)]
    by_cases e : i = p + 1
    · subst e
      rw [if_pos rfl, if_pos (by omega), Nat.add_sub_cancel]
    · rw [if_neg e]
      by_cases c : 1 ≤ i ∧ i ≤ p ∧ i ≤ xs.length
      · rw [if_pos c, if_pos (by omega)]
      · rw [if_neg c, if_neg (by omega)]
theorem vecUp_stop (n : Nat) (xs : List Int) (p : Nat) (h : ¬ (p < n ∧ p < xs.length)) : vecUp n xs p = vecUp n xs n := by
  apply list_ext5
  · rw [vecUp_length, vecUp_length]
  · intro i hi
    rw [vecUp_length] at hi
    rw [vecUp_getD _ _ _ _ (by omega), vecUp_getD _ _ _ _ (by omega)]
    by_cases c : 1 ≤ i ∧ i ≤ p ∧ i ≤ xs.length
    · rw [if_pos c]
      by_cases d : i ≤ n
      · rw [if_pos (by omega)]
      · omega
    · rw [if_neg c]
      by_cases d : 1 ≤ i ∧ i ≤ n ∧ i ≤ xs.length
      · omega
      · rw [if_neg d]
/-- The second valuation: its clock 1 is another's. -/
def vecK (n : Nat) (xs ys : List Int) (k : Nat) : List Int := if k = 1 ∧ 0 < ys.length then (vecUp n xs n).set 1 (ys.getD 0 0) else vecUp n xs n
theorem vecK_length (n : Nat) (xs ys : List Int) (k : Nat) : (vecK n xs ys k).length = n + 1 := by
  unfold vecK
  split
  · rw [List.length_set, vecUp_length]
  · exact vecUp_length _ _ _
theorem vecK_bd (n : Nat) (xs ys : List Int) (k : Nat) (hx : ∀ q, q < xs.length → 0 ≤ xs.getD q 0 ∧ xs.getD q 0 ≤ 4294967295) (hy : ∀ q, q < ys.length → 0 ≤ ys.getD q 0 ∧ ys.getD q 0 ≤ 4294967295) : ∀ i, i ≤ n → 0 ≤ (vecK n xs ys k).getD i 0 ∧ (vecK n xs ys k).getD i 0 ≤ 4294967295 := fun i hi => by
  have h1 : 0 ≤ (vecUp n xs n).getD i 0 ∧ (vecUp n xs n).getD i 0 ≤ 4294967295 := by
    rw [vecUp_getD _ _ _ _ hi]
    split
    · rename_i h; exact hx _ (by omega)
    · omega
  unfold vecK
  split
  · rename_i h
    rw [getD_set5 _ _ _ _ (by rw [vecUp_length]; omega)]
    split
    · exact hy 0 h.2
    · exact h1
  · exact h1
theorem vecK_zero (n : Nat) (xs ys : List Int) (k : Nat) : (vecK n xs ys k).getD 0 0 = 0 := by
  have h1 : (vecUp n xs n).getD 0 0 = 0 := by rw [vecUp_getD _ _ _ _ (Nat.zero_le _), if_neg (by omega)]
  unfold vecK
  split
  · rw [getD_set5 _ _ _ _ (by rw [vecUp_length]; omega), if_neg (by omega), h1]
  · exact h1
theorem vecK_same (n : Nat) (xs ys : List Int) (i : Nat) (hi : i ≤ n) (h1 : i ≠ 1) : (vecK n xs ys 1).getD i 0 = (vecK n xs ys 0).getD i 0 := by
  unfold vecK
  rw [if_neg (show ¬ ((0 : Nat) = 1 ∧ 0 < ys.length) by omega)]
  split
  · rw [getD_set5 _ _ _ _ (by rw [vecUp_length]; omega), if_neg h1]
  · rfl

/-- The first p cells are kept. -/
def inUp (n : Nat) (l vl : List Int) (p : Nat) : Bool := decide (∀ q, q < p → holdsB (l.getD q 0) (vl.getD (q / (n + 1)) 0 - vl.getD (q % (n + 1)) 0) 2 = true)
theorem inUp_zero (n : Nat) (l vl : List Int) : inUp n l vl 0 = true := decide_eq_true fun q h => by omega
theorem inUp_next (n : Nat) (l vl : List Int) (i j : Nat) (hj : j ≤ n) : inUp n l vl (i * (n + 1) + (j + 1)) = (inUp n l vl (i * (n + 1) + j) && holdsB (l.getD (i * (n + 1) + j) 0) (vl.getD i 0 - vl.getD j 0) 2) := by
  obtain ⟨e1, e2⟩ := at_row (n := n) (i := i) (j := j) (by omega)
  rw [Bool.eq_iff_iff]
  unfold inUp
  rw [Bool.and_eq_true, decide_eq_true_iff, decide_eq_true_iff]
  constructor
  · intro h
    have := h (i * (n + 1) + j) (by omega)
    rw [e1, e2] at this
    exact ⟨fun q hq => h q (by omega), this⟩
  · intro ⟨h1, h2⟩ q hq
    by_cases e : q = i * (n + 1) + j
    · subst e; rw [e1, e2]; exact h2
    · exact h1 q (by omega)
theorem inUp_all (n : Nat) (l vl : List Int) : inUp n l vl ((n + 1) * (n + 1)) = inB n l fun i => vl.getD i 0 := by
  rw [Bool.eq_iff_iff]
  unfold inUp inB
  rw [decide_eq_true_iff, decide_eq_true_iff]
  constructor
  · intro h i hi j hj
    have := h (i * (n + 1) + j) (at_lt (by omega) (by omega))
    obtain ⟨e1, e2⟩ := at_row (n := n) (i := i) (j := j) (by omega)
    rw [e1, e2] at this
    exact this
  · intro h q hq
    have h1 : q / (n + 1) < n + 1 := Nat.div_lt_of_lt_mul hq
    have h2 := Nat.mod_lt q (show 0 < n + 1 by omega)
    have := h (q / (n + 1)) (by omega) (q % (n + 1)) (by omega)
    rw [show q / (n + 1) * (n + 1) + q % (n + 1) = q by rw [Nat.mul_comm]; exact Nat.div_add_mod q (n + 1)] at this
    exact this

/-! ### memory: the two answers, and a valuation -/
def pairB (F : Nat → Bool) : Array Value := #[.bool (F 0), .bool (F 1)]
structure SyR (w0 : World) (gi gv : Nat) (F : Nat → Bool) (vl : List Int) (wr : World) : Prop where
  below : Below w0.heap.size w0 wr
  gi0 : w0.heap.size ≤ gi
  gv0 : w0.heap.size ≤ gv
  ne : gi ≠ gv
  two : wr.heap[gi]? = some (.cells (pairB F) 69 (0, 0))
  vec : RowAt wr gv 2 .i64 vl
section
variable {w0 wr w' : World} {gi gv : Nat} {F F' : Nat → Bool} {vl : List Int}
theorem SyR.step (h : SyR w0 gi gv F vl wr) (hb : Below wr.heap.size wr w') : SyR w0 gi gv F vl w' :=
  ⟨h.below.trans (hb.mono h.below.size), h.gi0, h.gv0, h.ne, (hb.block gi (Array.getElem?_eq_some_iff.1 h.two).1).trans h.two, h.vec.later hb⟩
theorem SyR.cell (h : SyR w0 gi gv F vl wr) (t : Nat) (ht : t < 2) : wr.cell? ⟨gi, t, none⟩ = some (.bool (F t)) := by
  have := h.two
  rcases (show t = 0 ∨ t = 1 by omega) with rfl | rfl <;> (unfold World.cell?; rw [this]; rfl)
theorem SyR.frozen (h : SyR w0 gi gv F vl wr) (t : Nat) : wr.frozen? ⟨gi, t, none⟩ = false := by
  unfold World.frozen?; rw [h.two]; simp
theorem SyR.lt (h : SyR w0 gi gv F vl wr) : gi < wr.heap.size := (Array.getElem?_eq_some_iff.1 h.two).1
theorem SyR.setF (h : SyR w0 gi gv F vl wr) (t : Nat) (ht : t < 2) (x : Bool) (hF : ∀ q, q < 2 → F' q = if q = t then x else F q) : SyR w0 gi gv F' vl (wr.setCell ⟨gi, t, none⟩ (.bool x)) := by
  refine ⟨h.below.setCell (p := ⟨gi, t, none⟩) h.gi0 _, h.gi0, h.gv0, h.ne, ?_, h.vec.only ((Only.refl gi wr).setCell t (.bool x)) (fun e => h.ne e.symm)⟩
  have h0 := hF 0 (by omega)
  have h1 := hF 1 (by omega)
  simp only [World.setCell, Array.getElem?_modify, if_true, h.two, Option.map_some]
  rcases (show t = 0 ∨ t = 1 by omega) with rfl | rfl
  · simp at h0 h1; simp [pairB, h0, h1]
  · simp at h0 h1; simp [pairB, h0, h1]
theorem SyR.congr (h : SyR w0 gi gv F vl wr) (hF : ∀ q, q < 2 → F' q = F q) : SyR w0 gi gv F' vl wr := by
  refine ⟨h.below, h.gi0, h.gv0, h.ne, ?_, h.vec⟩
  rw [h.two]
  simp [pairB, hF 0, hF 1]
theorem SyR.setV (h : SyR w0 gi gv F vl wr) (p : Nat) (x : Int) : SyR w0 gi gv F (vl.set p x) (wr.setCell ⟨gv, p, none⟩ (.int .i64 x)) := by
  refine ⟨h.below.setCell (p := ⟨gv, p, none⟩) h.gv0 _, h.gi0, h.gv0, h.ne, ?_, h.vec.set p x⟩
  have ho : Only gv wr (wr.setCell ⟨gv, p, none⟩ (.int .i64 x)) := (Only.refl gv wr).setCell p _
  rw [ho.block gi h.lt (by simp; exact h.ne)]
  exact h.two
end
theorem vec_made (w : World) (e : TypeId) (n : Nat) (xs : List Int) : RowAt (w.alloc (.cells (madeCells #[.int .i64 0] (n + 1)) e)) w.heap.size e .i64 (vecUp n xs 0) := by
  refine ⟨_, heap_alloc_new _ _, ?_⟩
  rw [vecUp_length]
  apply List.ext_getElem?
  intro p
  by_cases hp : p < n + 1
  · have := vecUp_getD n xs 0 p (by omega)
    rw [if_neg (by omega), List.getD_eq_getElem?_getD, List.getElem?_eq_getElem (by rw [vecUp_length]; omega)] at this
    have e : (vecUp n xs 0)[p]'(by rw [vecUp_length]; omega) = 0 := this
    simp [madeCells, vals, hp, vecUp_length, e, Nat.mod_one]
  · simp [madeCells, vals, hp, vecUp_length]
structure SyP (w0 : World) (gi : Nat) (F : Nat → Bool) (wr : World) : Prop where
  below : Below w0.heap.size w0 wr
  gi0 : w0.heap.size ≤ gi
  two : wr.heap[gi]? = some (.cells (pairB F) 69 (0, 0))
theorem SyP.made {w0 wr : World} {gi n : Nat} {F : Nat → Bool} (h : SyP w0 gi F wr) (xs : List Int) : SyR w0 gi wr.heap.size F (vecUp n xs 0) (wr.alloc (.cells (madeCells #[.int .i64 0] (n + 1)) 2)) := by
  have hlt : gi < wr.heap.size := (Array.getElem?_eq_some_iff.1 h.two).1
  exact ⟨h.below.alloc h.below.size _, h.gi0, h.below.size, by omega, (heap_alloc_old _ _ hlt).trans h.two, vec_made wr 2 n xs⟩
theorem SyR.pair {w0 wr : World} {gi gv : Nat} {F F' : Nat → Bool} {vl : List Int} (h : SyR w0 gi gv F vl wr) (hF : ∀ q, q < 2 → F' q = F q) : SyP w0 gi F' wr := by
  refine ⟨h.below, h.gi0, ?_⟩
  rw [h.two]
  simp [pairB, hF 0, hF 1]
theorem wpStill_go {P : Program} {ops : Array Oper} {w : World} {Q : Act → Prop} {a : Act} {o : Oper} {rest : List Oper} (h : Region.wanted o (yielded ops a.tmps) = true) (k : ∀ K : Act → Prop, (∀ a, wpStill P ops w Q rest a → K a) → o.still P a w K) : wpStill P ops w Q (o :: rest) a := by
  unfold wpStill
  rw [h, if_pos rfl]
  exact k _ fun _ h => h
theorem load_bool (w : World) (p : Addr) (x : Bool) (h : w.cell? p = some (.bool x)) : (Instr.loadAt 4 (.pointer (some p))).run Tryd.prog w = .ok (.bool x) w := by
  go_simp
theorem wpStill_load {P : Program} {ops : Array Oper} {w : World} {Q : Act → Prop} {a : Act} {o : Oper} {rest : List Oper} (ty : TypeId) (x : Operand) (v p : Value) (h : Region.wanted o (yielded ops a.tmps) = true) (ho : o.op = .load ty x) (hx : a.eval x = p) (hl : (Instr.loadAt ty p).run P w = .ok v w)
    (k : wpStill P ops w Q rest (a.put o.dst v)) : wpStill P ops w Q (o :: rest) a := by
  unfold wpStill
  rw [h, if_pos rfl]
  unfold Oper.still
  have e : (execOp a.eval o).run P w = .ok (.value v) w := by simp only [execOp, ho, hx, Sem.run_bind, hl, Result.andThen_ok, Sem.run_pure]
  rw [e, Oper.stillUpon_value]
  exact k
theorem wpStill_val {P : Program} {ops : Array Oper} {w : World} {Q : Act → Prop} {a : Act} {o : Oper} {rest : List Oper} (v : Value) (h : Region.wanted o (yielded ops a.tmps) = true) (e : (execOp a.eval o).run P w = .ok (.value v) w)
    (k : wpStill P ops w Q rest (a.put o.dst v)) : wpStill P ops w Q (o :: rest) a := by
  unfold wpStill
  rw [h, if_pos rfl]
  unfold Oper.still
  rw [e, Oper.stillUpon_value]
  exact k
theorem wpStill_move {P : Program} {ops : Array Oper} {w : World} {Q : Act → Prop} {a : Act} {o : Oper} {rest : List Oper} (x : Operand) (v : Value) (h : Region.wanted o (yielded ops a.tmps) = true) (ho : o.op = .move x) (hx : a.eval x = v)
    (k : wpStill P ops w Q rest (a.put o.dst v)) : wpStill P ops w Q (o :: rest) a :=
  wpStill_val v h (by simp only [execOp, ho, hx, Sem.run_pure]) k
theorem wpStill_skip {P : Program} {ops : Array Oper} {w : World} {Q : Act → Prop} {a : Act} {o : Oper} {rest : List Oper} (h : Region.wanted o (yielded ops a.tmps) = false) (k : wpStill P ops w Q rest (a.put o.dst undef)) : wpStill P ops w Q (o :: rest) a := by
  unfold wpStill
  rw [h, if_neg (by simp)]
  exact k
/-- The answers so far. -/
def ansF (n : Nat) (l xs ys : List Int) (t : Nat) : Nat → Bool := fun q => if q < t then inB n l (fun i => (vecK n xs ys q).getD i 0) else true
/-- Answer t is under way. -/
def rowF (n : Nat) (l vl : List Int) (G : Nat → Bool) (t p : Nat) : Nat → Bool := fun q => if q = t then inUp n l vl p else G q
theorem SyR.cellF {w0 wr : World} {gi gv n t p : Nat} {l vl : List Int} {G : Nat → Bool} {x : Bool} (h : SyR w0 gi gv (rowF n l vl G t p) vl wr) (ht : t < 2) (hx : inUp n l vl p = x) : wr.cell? ⟨gi, t, none⟩ = some (.bool x) := by
  have := h.cell t ht
  unfold rowF at this
  rw [if_pos rfl, hx] at this
  exact this
theorem SyR.next {w0 wr : World} {gi gv n t i j : Nat} {l vl : List Int} {G : Nat → Bool} (h : SyR w0 gi gv (rowF n l vl G t (i * (n + 1) + j)) vl wr) (ht : t < 2) (hj : j ≤ n) (x : Bool) (hx : (inUp n l vl (i * (n + 1) + j) && holdsB (l.getD (i * (n + 1) + j) 0) (vl.getD i 0 - vl.getD j 0) 2) = x) :
    SyR w0 gi gv (rowF n l vl G t (i * (n + 1) + (j + 1))) vl (wr.setCell ⟨gi, t, none⟩ (.bool x)) :=
  h.setF t ht x fun q _ => by
    unfold rowF
    by_cases e : q = t
    · rw [if_pos e, if_pos e, inUp_next n l vl i j hj, hx]
    · rw [if_neg e, if_neg e, if_neg e]
theorem infoI64 : (Tryd.prog.info? 2).map (fun i => (i.zero, i.size, i.bytes)) = some (some (.int .i64 0), 1, 8) := by kernel_rfl

set_option maxRecDepth 100000 in
set_option maxHeartbeats 8000000 in
theorem says_any (n : Int) (A : Option Addr) (c : Nat) (cells : List Int) (A0 : Option Addr) (c0 : Nat) (l0 : List Int) (A1 : Option Addr) (c1 : Nat) (l1 : List Int) (w : World) (hI : Ints w .i32 A cells) (hmax : cells.length ≤ 4611686018427387904)
    (hk : ∀ q, q < cells.length → -2147483648 ≤ cells.getD q 0 ∧ cells.getD q 0 ≤ 2147483647) (h0 : Ints w .u32 A0 l0) (h1 : Ints w .u32 A1 l1) (hm0 : l0.length ≤ 4611686018427387904) (hm1 : l1.length ≤ 4611686018427387904)
    (hk0 : ∀ q, q < l0.length → 0 ≤ l0.getD q 0 ∧ l0.getD q 0 ≤ 4294967295) (hk1 : ∀ q, q < l1.length → 0 ≤ l1.getD q 0 ∧ l1.getD q 0 ≤ 4294967295) (ht : Tab w) :
    Calls Tryd.prog 9 #[.int .i64 n, .slice A cells.length c, .agg #[.slice A0 l0.length c0, .slice A1 l1.length c1]] w fun e w' => e = .returned (.bool true) ∧ Below w.heap.size w w' := by
  have HK := Lib.hid hk
  have HK0 := Lib.hid hk0
  have HK1 := Lib.hid hk1
  obtain ⟨wb, hwb⟩ : ∃ wb, wb = w.alloc (.cells #[.slice A0 l0.length c0, .slice A1 l1.length c1] 68) := ⟨_, rfl⟩
  have hbw : Below w.heap.size w wb := by rw [hwb]; exact (Below.refl _ _).alloc (Nat.le_refl _) _
  have hpc := (show (w.alloc (.cells #[.slice A0 l0.length c0, .slice A1 l1.length c1] 68)).cell? ⟨w.heap.size, 0, none⟩ = some (.slice A0 l0.length c0) ∧ (w.alloc (.cells #[.slice A0 l0.length c0, .slice A1 l1.length c1] 68)).cell? ⟨w.heap.size, 1, none⟩ = some (.slice A1 l1.length c1) by
    have h := heap_alloc_new w (.cells #[.slice A0 l0.length c0, .slice A1 l1.length c1] 68)
    constructor <;> (unfold World.cell?; rw [h]; rfl))
  rw [← hwb] at hpc
  obtain ⟨bx, hbx⟩ : ∃ bx, bx = w.heap.size := ⟨_, rfl⟩
  rw [← hbx] at hpc
  have HG0 := Lib.hid ((((((Bag.start hbw).add (hI.below hbw) (stable_ints _ _ _)).add (ht.below hbw) stable_tab5).add (h0.below hbw) (stable_ints _ _ _)).add (h1.below hbw) (stable_ints _ _ _)).add hpc.1 (stable_cellv _ _) |>.add hpc.2 (stable_cellv _ _))
  have HWB := Lib.hid hwb
  have HBX := Lib.hid hbx
  have HKD := Lib.hid (kind5 n cells)
  have HNK := Lib.hid (fun k m (e : zOf n cells = some (k, m)) => zone_kinds e)
  have HBO := Lib.hid (fun W hI => both05_any n A c cells W hI hmax HK.out)
  unfold Both5Ends at HBO
  obtain ⟨z, hz⟩ : ∃ z, z = zOf n cells := ⟨_, rfl⟩
  rw [← hz] at HBO HKD HNK
  clear hI hk h0 h1 hk0 hk1 ht hbw hpc hz hwb hbx
  by_cases hgo : ∃ k m, z = some (k, m) ∧ 1 ≤ k
  · obtain ⟨k, m, hzk, hk1'⟩ := hgo
    have hkind := HKD.out k m hzk
    obtain ⟨⟨hn0, hn8, hkn⟩, _⟩ := HNK.out k m hzk
    have hk8 : k ≤ 8 := by omega
    obtain rfl : n = (k : Int) := by omega
    obtain ⟨a, ha, hra, hin, hia⟩ := says_law (v := fun i => (vecK k l0 l1 0).getD i 0) (v' := fun i => (vecK k l0 l1 1).getD i 0) hk8 hk1' hkind (vecK_zero _ _ _ _) (vecK_zero _ _ _ _) (vecK_bd k l0 l1 0 HK0.out HK1.out 1 hk1').1 (vecK_bd k l0 l1 1 HK0.out HK1.out 1 hk1').1 (fun i hi h => vecK_same k l0 l1 i hi h)
    have HZK := Lib.hid hzk
    have HIN := Lib.hid hin
    have HIA := Lib.hid hia
    have HRR := Lib.hid hra
    have HGN := Lib.hid (fun v W B c (h : ZoneV 88 W v z) (hi : Ints W .i64 B [1]) => gone_any v z B c [1] W h HKD.out hi (by simp))
    rw [show goneA z [1] = (some a, 0) by rw [hzk]; exact ha, show dimN z = k by rw [hzk]; rfl] at HGN
    have HVB := Lib.hid (fun t => vecK_bd k l0 l1 t HK0.out HK1.out)
    obtain ⟨N, hN⟩ : ∃ N, N = (k + 1) * (k + 1) := ⟨_, rfl⟩
    have hNi : ((k : Int) + 1) * ((k : Int) + 1) = (N : Int) := by rw [hN]; simp
    have hN81 : N ≤ 81 := by
      have := Nat.mul_le_mul (show k + 1 ≤ 9 by omega) (show k + 1 ≤ 9 by omega)
      omega
    have hN0 : 0 < N := by rw [hN]; exact Nat.mul_pos (by omega) (by omega)
    have HN := Lib.hid hN
    have HLEN := Lib.hid (show (flat k a).length = N by rw [flat_length, hN])
    have HINC := Lib.hid (fun va vz W (h1 : ZoneV 88 W va (some (k, a))) (h2 : ZoneV 88 W vz z) => show Calls _ _ #[va, vz] W (fun e w' => e = .returned (.bool true) ∧ Below W.heap.size W w') by
      have := includes_any va vz (some (k, a)) z W h1 h2
      rw [show inclP (some (k, a)) z = true by rw [HZK.out]; show (decide (k = k) && inclM k a m) = true; rw [HIA.out]; simp] at this
      exact this)
    obtain ⟨i0, hi1, hz0, hz1, hz2⟩ := info_parts infoI64
    have hmk := run_make_row' (P := Tryd.prog) 58 2 (.int .i64 0) 8 Tryd.underlying58 infoI64 rfl .i64 .i64 (k + 1) (by omega) (by omega)
    rw [show ((k + 1 : Nat) : Int) = (k : Int) + 1 by omega] at hmk
    have d1 : decide ((k : Int) < 1) = false := decide_eq_false (by omega)
    have d8 : decide (8 < (k : Int)) = false := decide_eq_false (by omega)
    have dk : decide (8 < k) = false := decide_eq_false (by omega)
    clear hkind hn0 hn8 hkn ha hra hin hia hN hi1 hz0 hz1 hz2
    go_enter Tryd.func9, Tryd.ntmps9
    go_wp2_with fail
    rw [← HWB.out, ← HBX.out]
    refine (HBO.out _ (HG0.out.at 5 rfl)).mono ?_
    rintro e w1 ⟨hb, v, v', rfl, hv, hv'⟩
    have HG1 := Lib.hid ((HG0.out.step hb).add hv (stable_zone _ _ _))
    rw [hzk] at hv
    obtain ⟨bz, rfl, _⟩ := hv
    clear hb hv' HG0 hzk
    go_wp2_with fail
    have HI1 := Lib.hid (ints_new1 w1 3 1)
    have HG2 := Lib.hid (HG1.out.alloc (.cells #[.int .i64 1] 3))
    generalize w1.alloc (.cells #[.int .i64 1] 3) = w2 at *
    refine (HGN.out _ _ _ _ (HG2.out.at 0 rfl) HI1.out).mono ?_
    rintro e w3 ⟨hb, va, rfl, hva⟩
    have HG3 := Lib.hid ((HG2.out.step hb).add (show ZoneV 88 w3 va (some (k, a)) from hva) (stable_zone _ _ _))
    clear hb hva HG2 HI1 HG1
    go_wp2_with fail
    refine (cells_any _ _ _ (HG3.out.at 0 rfl)).mono ?_
    rintro e w4 ⟨lv, rfl, hb, ho⟩
    have ho : OwnI w4 w3.heap.size 44 .i32 lv (flat k a) := ho
    obtain ⟨g1, cp1, hv, _, hrow⟩ := ho.row (by rw [HLEN.out]; exact hN0)
    rw [HLEN.out] at hv
    subst hv
    have HG4 := Lib.hid ((HG3.out.step hb).add hrow (stable_rowat5 _ _ _ _))
    clear hb ho hrow HG3
    have hNi2 : ((N : Int) != ((k : Int) + 1) * ((k : Int) + 1)) = false := by rw [hNi]; simp
    have hNi3 : ((k : Int) + 1) * ((k : Int) + 1) ≤ 81 := by omega
    have hNi4 : 0 ≤ ((k : Int) + 1) * ((k : Int) + 1) := by omega
    have HNI := Lib.hid hNi
    clear hNi
    go_wp2
    have HS := Lib.hid (show SyP w4 w4.heap.size (ansF k (flat k a) l0 l1 0) (w4.alloc (.cells #[.bool true, .bool true] 69)) from ⟨(Below.refl _ _).alloc (Nat.le_refl _) _, Nat.le_refl _, heap_alloc_new _ _⟩)
    generalize w4.alloc (.cells #[.bool true, .bool true] 69) = w5 at *
    obtain ⟨gi, hgi⟩ : ∃ gi, gi = w4.heap.size := ⟨_, rfl⟩
    rw [← hgi] at HS ⊢
    obtain ⟨L, hL⟩ : ∃ L, L = flat k a := ⟨_, rfl⟩
    rw [← hL] at HS HLEN HG4 HIN
    have HL := Lib.hid hL
    have HRG := Lib.hid (show ∀ q, q < N → rightB (L.getD q 0) = true from fun q hq => by
      rw [hL, flat_getD _ _ _ (by rw [← HN.out]; exact hq)]
      have h1 : q / (k + 1) < k + 1 := Nat.div_lt_of_lt_mul (by rw [← HN.out]; exact hq)
      have h2 := Nat.mod_lt q (show 0 < k + 1 by omega)
      exact HRR.out _ _ (by omega) (by omega))
    clear hgi hL
    go_loopg [13] 2 (fun q v wr => ∃ t : Nat, v = .int .i64 t ∧ Hid (SyP w4 gi (ansF k L l0 l1 t) wr) ∧ Hid (t ≤ 2 ∧ q + t = 2))
    case atStart => exact ⟨0, by simp, HS.out, by omega, by omega⟩
    case round =>
      clear HS
      obtain ⟨t, rfl, HP, HQ⟩ := hrel
      by_cases htt : t < 2
      · have hti : (t : Int) < 2 := by omega
        have HS1 := Lib.hid (HP.out.made (n := k) l0)
        go_upto_block 2 with fail
        generalize wr.alloc (.cells (madeCells #[.int .i64 0] (k + 1)) 2) = w6 at *
        obtain ⟨gv, hgv⟩ : ∃ gv, gv = wr.heap.size := ⟨_, rfl⟩
        rw [← hgv] at HS1 ⊢
        clear hgv
        go_cut [15] (fun s15 wx => Hid (SyR w4 gi gv (ansF k L l0 l1 t) (vecUp k l0 k) wx))
        case first =>
          go_wp2_with fail
          go_loopg [15] (k + 1) (fun q v wr => ∃ p : Nat, v = .int .i64 ((p : Int) + 1) ∧ Hid (SyR w4 gi gv (ansF k L l0 l1 t) (vecUp k l0 p) wr) ∧ Hid (p ≤ k ∧ q + p = k + 1))
          case atStart => exact ⟨0, by simp, HS1.out, by omega, by omega⟩
          case round =>
            clear HS1
            obtain ⟨p, rfl, HR, HU⟩ := hrel
            have cb0 := (HG4.out.step HR.out.below).at 4 rfl
            by_cases hpx : p < k ∧ p < l0.length
            · obtain ⟨hp, hx⟩ := hpx
              have hpi : (p : Int) + 1 ≤ (k : Int) := by omega
              have hxi : (p : Int) + 1 ≤ (l0.length : Int) := by omega
              have hxj : (p : Int) < (l0.length : Int) := by omega
              obtain ⟨b1, o1, rfl, cx⟩ := ((HG4.out.step HR.out.below).at 6 rfl : Ints _ .u32 A0 l0) p hx
              have hxb := HK0.out p hx
              have HN2 := Lib.hid (show SyR w4 gi gv (ansF k L l0 l1 t) (vecUp k l0 (p + 1)) (wr.setCell ⟨gv, p + 1, none⟩ (.int .i64 (l0.getD p 0))) by rw [← vecUp_next k l0 p hp hx]; exact HR.out.setV (p + 1) _)
              obtain ⟨x, hxx⟩ : ∃ x, x = l0.getD p 0 := ⟨_, rfl⟩
              rw [← hxx] at cx hxb HN2
              obtain ⟨hx0, hx1⟩ := hxb
              have cv := HR.out.vec.cell (p + 1) (by rw [vecUp_length]; omega)
              have fv := HR.out.vec.frozen (p + 1)
              have hlv := HR.out.vec.lt
              have gp : IntKind.i64.wrap ((p : Int) + 1 - 1) = (p : Int) := by rw [show (p : Int) + 1 - 1 = p by omega]; exact IntWalk.i64_in _ (by omega)
              have gx : IntKind.i64.wrap x = x := IntWalk.i64_in _ (by omega)
              have np : ((p : Int) + 1).toNat = p + 1 := by omega
              have lp : (p : Int) + 1 < (k : Int) + 1 := by omega
              clear hxx
              go_wp2
              go_roundg (gk - 1)
              case measure => have h := HU.out; omega
              case rel => exact ⟨p + 1, by go_num, HN2.out, by omega, by have h := HU.out; omega⟩
            · have HV := Lib.hid (show SyR w4 gi gv (ansF k L l0 l1 t) (vecUp k l0 k) wr by rw [← vecUp_stop k l0 p hpx]; exact HR.out)
              have hex : (p < k ∧ l0.length ≤ p) ∨ k ≤ p := by omega
              clear hpx HU
              rcases hex with ⟨hp, hx⟩ | hp
              · have hpi : (p : Int) + 1 ≤ (k : Int) := by omega
                have hxi : ¬ ((p : Int) + 1 ≤ (l0.length : Int)) := by omega
                go_wp2
                go_meet
                exact HV
              · have hpi : ¬ ((p : Int) + 1 ≤ (k : Int)) := by omega
                go_wp2
                go_meet
                exact HV
        case rest =>
          clear HS1
          have HV := Lib.hid hcut.out
          clear hcut
          have cb1 := (HG4.out.step HV.out.below).at 3 rfl
          obtain ⟨BB, hBB⟩ : ∃ BB, BB = decide (t = 1 ∧ 0 < l1.length) := ⟨_, rfl⟩
          have HBB := Lib.hid hBB
          clear hBB
          go_upto_region 19 with fail
          go_cut [90] (fun s90 wx => s90 = .bool BB ∧ Hid (SyR w4 gi gv (ansF k L l0 l1 t) (vecUp k l0 k) wx))
          case first =>
            rcases (show t = 0 ∨ t = 1 by omega) with rfl | rfl
            · go_wp2_with fail
              go_meet
              exact ⟨by rw [HBB.out]; rfl, HV⟩
            · by_cases hl1 : l1.length = 0
              · have hl1i : ¬ (0 < (l1.length : Int)) := by omega
                have hl1n : ¬ (0 < l1.length) := by omega
                have HE := Lib.hid (show BB = false by rw [HBB.out]; exact decide_eq_false (by omega))
                clear hl1
                go_wp2_with fail
                go_meet
                exact ⟨by rw [HE.out], HV⟩
              · have hl1i : 0 < (l1.length : Int) := by omega
                have hl1n : 0 < l1.length := by omega
                have HE := Lib.hid (show BB = true by rw [HBB.out]; exact decide_eq_true (by omega))
                clear hl1
                go_wp2_with fail
                go_meet
                exact ⟨by rw [HE.out], HV⟩
          case rest =>
            obtain ⟨rfl, hv⟩ := hcut
            have HV := Lib.hid hv.out
            clear hv cb1
            have cb1 := (HG4.out.step HV.out.below).at 3 rfl
            go_upto_if 90 with fail
            go_cut [13] (fun s13 wx => s13 = .int .i64 t ∧ Hid (SyR w4 gi gv (ansF k L l0 l1 t) (vecK k l0 l1 t) wx))
            case first =>
              cases hb : BB with
              | false =>
                have HV2 := Lib.hid (show SyR w4 gi gv (ansF k L l0 l1 t) (vecK k l0 l1 t) wc by unfold vecK; rw [if_neg (of_decide_eq_false (HBB.out.symm.trans hb))]; exact HV.out)
                subst hb
                go_wp2_with fail
                go_meet
                exact ⟨rfl, HV2⟩
              | true =>
                obtain ⟨ht1, hln⟩ := of_decide_eq_true (HBB.out.symm.trans hb)
                subst hb
                obtain ⟨b2, o2, rfl, cy⟩ := ((HG4.out.step HV.out.below).at 5 rfl : Ints _ .u32 A1 l1) 0 hln
                rw [Nat.add_zero] at cy
                have hyb := HK1.out 0 hln
                have HV2 := Lib.hid (show SyR w4 gi gv (ansF k L l0 l1 t) (vecK k l0 l1 t) (wc.setCell ⟨gv, 1, none⟩ (.int .i64 (l1.getD 0 0))) by unfold vecK; rw [if_pos ⟨ht1, hln⟩]; exact HV.out.setV 1 _)
                have hl1i : 0 < (l1.length : Int) := by omega
                have cv := HV.out.vec.cell 1 (by rw [vecUp_length]; omega)
                have fv := HV.out.vec.frozen 1
                have hlv := HV.out.vec.lt
                have k2 : 1 < (k : Int) + 1 := by omega
                have k3 : 1 < k + 1 := by omega
                obtain ⟨y, hy⟩ : ∃ y, y = l1.getD 0 0 := ⟨_, rfl⟩
                rw [← hy] at cy hyb HV2
                obtain ⟨hy0, hy1⟩ := hyb
                have gy : IntKind.i64.wrap y = y := IntWalk.i64_in _ (by omega)
                clear hy ht1
                go_wp2_with fail
                go_meet
                exact ⟨rfl, HV2⟩
            case rest =>
              obtain ⟨rfl, hv⟩ := hcut
              have HV2 := Lib.hid hv.out
              clear hv HV cb1 HBB
              have HST := Lib.hid (show SyR w4 gi gv (rowF k L (vecK k l0 l1 t) (ansF k L l0 l1 t) t (0 * (k + 1) + 0)) (vecK k l0 l1 t) _ from HV2.out.congr fun q _ => by
                unfold rowF
                split
                · rename_i e; subst e; rw [Nat.zero_mul, Nat.add_zero, inUp_zero]; unfold ansF; rw [if_neg (by omega)]
                · rfl)
              have HVB2 := Lib.hid (HVB.out t)
              have HVL := Lib.hid (vecK_length k l0 l1 t)
              go_wp2
              have HE2 := Lib.hid (show ∀ p, (k + 1) * (k + 1) = p → ∀ q, q < 2 → ansF k L l0 l1 (t + 1) q = rowF k L (vecK k l0 l1 t) (ansF k L l0 l1 t) t p q from fun p hp q hq => by
                subst hp
                unfold rowF ansF
                by_cases e1 : q = t
                · subst e1; rw [if_pos (by omega), if_pos rfl, inUp_all]
                · rw [if_neg e1]
                  by_cases e2 : q < t
                  · rw [if_pos e2, if_pos (by omega)]
                  · rw [if_neg e2, if_neg (by omega)])
              obtain ⟨vl, hvl⟩ : ∃ vl, vl = vecK k l0 l1 t := ⟨_, rfl⟩
              obtain ⟨G, hG⟩ : ∃ G, G = ansF k L l0 l1 t := ⟨_, rfl⟩
              rw [← hvl, ← hG] at HST HE2
              rw [← hvl] at HVB2 HVL
              clear hvl hG HV2
              go_loopg [16] (k + 1) (fun q v wr => ∃ i : Nat, v = .int .i64 i ∧ Hid (SyR w4 gi gv (rowF k L vl G t (i * (k + 1) + 0)) vl wr) ∧ Hid (i ≤ k + 1 ∧ q + i = k + 1))
              case atStart => exact ⟨0, by simp, HST.out, by omega, by omega⟩
              case round =>
                clear HST
                obtain ⟨i, rfl, HRi, HGi⟩ := hrel
                by_cases hi : i ≤ k
                · have hii : (i : Int) ≤ (k : Int) := by omega
                  obtain ⟨P, hP, hP1, hP2, hP3⟩ := prod_facts i k hi hk8
                  have hPN : P + k < N := by have := HN.out; omega
                  have HP2 := Lib.hid hP2
                  clear hP2 hP3
                  go_wp2
                  go_loopg [17] (k + 1) (fun q v wr => ∃ j : Nat, v = .int .i64 j ∧ Hid (SyR w4 gi gv (rowF k L vl G t (i * (k + 1) + j)) vl wr) ∧ Hid (j ≤ k + 1 ∧ q + j = k + 1))
                  case atStart => exact ⟨0, by simp, HRi.out, by omega, by omega⟩
                  case round =>
                    clear HRi
                    obtain ⟨j, rfl, HRj, HGj⟩ := hrel
                    by_cases hj : j ≤ k
                    · have hjj : (j : Int) ≤ (k : Int) := by omega
                      have HLL := Lib.hid (HRj.out.lt)
                      have cl := ((HG4.out.step HRj.out.below).at 0 rfl : RowAt _ g1 44 .i32 L).cell (P + j) (by rw [HLEN.out]; omega)
                      have cv1 := HRj.out.vec.cell i (by rw [HVL.out]; omega)
                      have cv2 := HRj.out.vec.cell j (by rw [HVL.out]; omega)
                      have f1 := HRj.out.frozen t
                      have hlt := HRj.out.lt
                      have hb1 := HVB2.out i hi
                      have hb2 := HVB2.out j hj
                      have hrb := HRG.out (P + j) (by omega)
                      have HNX := Lib.hid (fun (x : Bool) (hx : (inUp k L vl (i * (k + 1) + j) && holdsB (L.getD (P + j) 0) (vl.getD i 0 - vl.getD j 0) 2) = x) => (HRj.out.step (Below.drew (Below.refl wr.heap.size wr))).next htt hj x (by rw [HP2.out] at hx; exact hx))
                      have HCF := Lib.hid (fun x hx => HRj.out.cellF (x := x) htt hx)
                      obtain ⟨bd, hbd⟩ : ∃ bd, bd = L.getD (P + j) 0 := ⟨_, rfl⟩
                      obtain ⟨xa, hxa⟩ : ∃ xa, xa = vl.getD i 0 := ⟨_, rfl⟩
                      obtain ⟨xb, hxb⟩ : ∃ xb, xb = vl.getD j 0 := ⟨_, rfl⟩
                      rw [← hbd] at cl hrb HNX
                      rw [← hxa] at cv1 hb1 HNX
                      rw [← hxb] at cv2 hb2 HNX
                      obtain ⟨hb10, hb11⟩ := hb1
                      obtain ⟨hb20, hb21⟩ := hb2
                      have HH := Lib.hid (backC (rholds_any bd (xa - xb) 2 wr.drew hrb (by omega) (by omega) (by omega) (by omega)))
                      clear hbd hxa hxb hrb
                      obtain ⟨hx, hhx⟩ : ∃ hx, hx = holdsB bd (xa - xb) 2 := ⟨_, rfl⟩
                      rw [← hhx] at HH HNX
                      clear hhx
                      have g1' : IntKind.i64.wrap ((k : Int) + 1) = (k : Int) + 1 := IntWalk.i64_in _ (by omega)
                      have g2 : IntKind.i64.wrap (P : Int) = (P : Int) := IntWalk.i64_in _ (by omega)
                      have g4 : IntKind.i64.wrap ((P : Int) + (j : Int)) = (P : Int) + (j : Int) := IntWalk.i64_in _ (by omega)
                      have g5 : IntKind.i64.wrap (xa - xb) = xa - xb := IntWalk.i64_in _ (by omega)
                      have q1 : (P : Int) + (j : Int) < (N : Int) := by omega
                      have q3 : 0 ≤ (P : Int) + (j : Int) := by omega
                      have n1 : ((P : Int) + (j : Int)).toNat = P + j := by omega
                      have ik : (i : Int) < (k : Int) + 1 := by omega
                      have jk : (j : Int) < (k : Int) + 1 := by omega
                      have ik2 : i < k + 1 := by omega
                      have jk2 : j < k + 1 := by omega
                      have hg1 : g1 < w4.heap.size := (HG4.out.at 0 rfl : RowAt _ g1 44 .i32 L).lt
                      have HNE := Lib.hid (And.intro (show gi ≠ g1 by have := HRj.out.gi0; omega) HRj.out.ne)
                      clear hg1
                      have KS := Lib.hid (fun (x : Value) => And.intro ((World.cell?_setCell_other (w := wr) (a := ⟨gi, t, none⟩) (b := ⟨g1, P + j, none⟩) (v := x) (fun e => HNE.out.1 (congrArg Addr.block e))).trans cl) (And.intro ((World.cell?_setCell_other (w := wr) (a := ⟨gi, t, none⟩) (b := ⟨gv, i, none⟩) (v := x) (fun e => HNE.out.2 (congrArg Addr.block e))).trans cv1) ((World.cell?_setCell_other (w := wr) (a := ⟨gi, t, none⟩) (b := ⟨gv, j, none⟩) (v := x) (fun e => HNE.out.2 (congrArg Addr.block e))).trans cv2)))
                      cases hcu : inUp k L vl (i * (k + 1) + j) with
                      | true =>
                        have c9 := HCF.out true hcu
                        have HN2 := Lib.hid (HNX.out hx (by rw [hcu]; simp))
                        have C9 := Lib.hid (show wr.drew.cell? _ = _ from c9)
                        have C1 := Lib.hid (show wr.drew.cell? _ = _ from cl)
                        have C2 := Lib.hid (show wr.drew.cell? _ = _ from cv1)
                        have C3 := Lib.hid (show wr.drew.cell? _ = _ from cv2)
                        clear hcu HCF HNX
                        go_wp2_with fail
                        have e9 := C9.out
                        refine wp_region_held_drew (S := fun w' => w'.cell? ⟨g1, P + j, none⟩ = some (.int .i32 bd) ∧ w'.cell? ⟨gv, i, none⟩ = some (.int .i64 xa) ∧ w'.cell? ⟨gv, j, none⟩ = some (.int .i64 xb)) (by kernel_rfl) ⟨C1.out, C2.out, C3.out⟩ (fun hHeld => ?_)
                        refine wpAnyH_take (i := 0) (v := ?_) rfl (by kernel_rfl) (by kernel_rfl) (by kernel_rfl) (fun _ _ _ h => h) (Or.inl ⟨by rfl, ?_⟩) (by assumption) ?_
                        case refine_2 => intro w hSw; (try dsimp only at hSw); (obtain ⟨hS1, hS2, hS3⟩ := hSw); go_simp; with_reducible rfl
                        try simp only [Act.put, List.getElem_toArray, List.getElem_cons_succ, List.getElem_cons_zero, List.setIfInBounds_toArray, List.set_cons_zero, List.set_cons_succ]
                        refine wpAnyH_take (i := 1) (v := ?_) rfl (by kernel_rfl) (by kernel_rfl) (by kernel_rfl) (fun _ _ _ h => h) (Or.inl ⟨by rfl, ?_⟩) (by assumption) ?_
                        case refine_2 => intro w hSw; (try dsimp only at hSw); (obtain ⟨hS1, hS2, hS3⟩ := hSw); go_simp; with_reducible rfl
                        try simp only [Act.put, List.getElem_toArray, List.getElem_cons_succ, List.getElem_cons_zero, List.setIfInBounds_toArray, List.set_cons_zero, List.set_cons_succ]
                        refine wpAnyH_take (i := 2) (v := ?_) rfl (by kernel_rfl) (by kernel_rfl) (by kernel_rfl) (fun _ _ _ h => h) (Or.inl ⟨by rfl, ?_⟩) (by assumption) ?_
                        case refine_2 => intro w hSw; (try dsimp only at hSw); (obtain ⟨hS1, hS2, hS3⟩ := hSw); go_simp; with_reducible rfl
                        try simp only [Act.put, List.getElem_toArray, List.getElem_cons_succ, List.getElem_cons_zero, List.setIfInBounds_toArray, List.set_cons_zero, List.set_cons_succ]
                        refine wpAnyH_ready (rs := [3]) (by kernel_rfl) (by simp) ?_
                        refine AllReadyH.cons rfl (fun K hK => ?_) AllReadyH.nil
                        go_simp
                        refine hK.out _ _ ⟨C1.out, C2.out, C3.out⟩ (fun hHeld1 => ?_)
                        clear hK K hHeld
                        try simp only [Act.put, List.getElem_toArray, List.getElem_cons_succ, List.getElem_cons_zero, List.setIfInBounds_toArray, List.set_cons_zero, List.set_cons_succ]
                        refine wpAnyH_take (i := 4) (v := ?_) rfl (by kernel_rfl) (by kernel_rfl) (by kernel_rfl) (fun _ _ _ h => h) (Or.inl ⟨by rfl, ?_⟩) (by assumption) ?_
                        case refine_2 => intro w hSw; (try dsimp only at hSw); (obtain ⟨hS1, hS2, hS3⟩ := hSw); go_simp; with_reducible rfl
                        try simp only [Act.put, List.getElem_toArray, List.getElem_cons_succ, List.getElem_cons_zero, List.setIfInBounds_toArray, List.set_cons_zero, List.set_cons_succ]
                        refine wpAnyH_take (i := 5) (v := ?_) rfl (by kernel_rfl) (by kernel_rfl) (by kernel_rfl) (fun _ _ _ h => h) (Or.inl ⟨by rfl, ?_⟩) (by assumption) ?_
                        case refine_2 => intro w hSw; (try dsimp only at hSw); (obtain ⟨hS1, hS2, hS3⟩ := hSw); go_simp; with_reducible rfl
                        try simp only [Act.put, List.getElem_toArray, List.getElem_cons_succ, List.getElem_cons_zero, List.setIfInBounds_toArray, List.set_cons_zero, List.set_cons_succ]
                        refine wpAnyH_take (i := 6) (v := ?_) rfl (by kernel_rfl) (by kernel_rfl) (by kernel_rfl) (fun _ _ _ h => h) (Or.inl ⟨by rfl, ?_⟩) (by assumption) ?_
                        case refine_2 => intro w hSw; (try dsimp only at hSw); (obtain ⟨hS1, hS2, hS3⟩ := hSw); go_simp; with_reducible rfl
                        try simp only [Act.put, List.getElem_toArray, List.getElem_cons_succ, List.getElem_cons_zero, List.setIfInBounds_toArray, List.set_cons_zero, List.set_cons_succ]
                        refine wpAnyH_take (i := 7) (v := ?_) rfl (by kernel_rfl) (by kernel_rfl) (by kernel_rfl) (fun _ _ _ h => h) (Or.inl ⟨by rfl, ?_⟩) (by assumption) ?_
                        case refine_2 => intro w hSw; (try dsimp only at hSw); (obtain ⟨hS1, hS2, hS3⟩ := hSw); go_simp; with_reducible rfl
                        try simp only [Act.put, List.getElem_toArray, List.getElem_cons_succ, List.getElem_cons_zero, List.setIfInBounds_toArray, List.set_cons_zero, List.set_cons_succ]
                        refine wpAnyH_take (i := 8) (v := ?_) rfl (by kernel_rfl) (by kernel_rfl) (by kernel_rfl) (fun _ _ _ h => h) (Or.inl ⟨by rfl, ?_⟩) (by assumption) ?_
                        case refine_2 => intro w hSw; (try dsimp only at hSw); (obtain ⟨hS1, hS2, hS3⟩ := hSw); go_simp; with_reducible rfl
                        try simp only [Act.put, List.getElem_toArray, List.getElem_cons_succ, List.getElem_cons_zero, List.setIfInBounds_toArray, List.set_cons_zero, List.set_cons_succ]
                        refine wpAnyH_take (i := 9) (v := ?_) rfl (by kernel_rfl) (by kernel_rfl) (by kernel_rfl) (fun _ _ _ h => h) (Or.inl ⟨by rfl, ?_⟩) (by assumption) ?_
                        case refine_2 => intro w hSw; (try dsimp only at hSw); (obtain ⟨hS1, hS2, hS3⟩ := hSw); go_simp; with_reducible rfl
                        try simp only [Act.put, List.getElem_toArray, List.getElem_cons_succ, List.getElem_cons_zero, List.setIfInBounds_toArray, List.set_cons_zero, List.set_cons_succ]
                        refine wpAnyH_take (i := 10) (v := ?_) rfl (by kernel_rfl) (by kernel_rfl) (by kernel_rfl) (fun _ _ _ h => h) (Or.inl ⟨by rfl, ?_⟩) (by assumption) ?_
                        case refine_2 => intro w hSw; (try dsimp only at hSw); (obtain ⟨hS1, hS2, hS3⟩ := hSw); go_simp; with_reducible rfl
                        try simp only [Act.put, List.getElem_toArray, List.getElem_cons_succ, List.getElem_cons_zero, List.setIfInBounds_toArray, List.set_cons_zero, List.set_cons_succ]
                        refine wpAnyH_take (i := 11) (v := ?_) rfl (by kernel_rfl) (by kernel_rfl) (by kernel_rfl) (fun _ _ _ h => h) (Or.inl ⟨by rfl, ?_⟩) (by assumption) ?_
                        case refine_2 => intro w hSw; (try dsimp only at hSw); (obtain ⟨hS1, hS2, hS3⟩ := hSw); go_simp; with_reducible rfl
                        try simp only [Act.put, List.getElem_toArray, List.getElem_cons_succ, List.getElem_cons_zero, List.setIfInBounds_toArray, List.set_cons_zero, List.set_cons_succ]
                        refine wpAnyH_take (i := 12) (v := ?_) rfl (by kernel_rfl) (by kernel_rfl) (by kernel_rfl) (fun _ _ _ h => h) (Or.inl ⟨by rfl, ?_⟩) (by assumption) ?_
                        case refine_2 => intro w hSw; (try dsimp only at hSw); (obtain ⟨hS1, hS2, hS3⟩ := hSw); go_simp; with_reducible rfl
                        try simp only [Act.put, List.getElem_toArray, List.getElem_cons_succ, List.getElem_cons_zero, List.setIfInBounds_toArray, List.set_cons_zero, List.set_cons_succ]
                        refine wpAnyH_take (i := 13) (v := ?_) rfl (by kernel_rfl) (by kernel_rfl) (by kernel_rfl) (fun _ _ _ h => h) (Or.inl ⟨by rfl, ?_⟩) (by assumption) ?_
                        case refine_2 => intro w hSw; (try dsimp only at hSw); (obtain ⟨hS1, hS2, hS3⟩ := hSw); go_simp; with_reducible rfl
                        try simp only [Act.put, List.getElem_toArray, List.getElem_cons_succ, List.getElem_cons_zero, List.setIfInBounds_toArray, List.set_cons_zero, List.set_cons_succ]
                        refine wpAnyH_take (i := 14) (v := ?_) rfl (by kernel_rfl) (by kernel_rfl) (by kernel_rfl) (fun _ _ _ h => h) (Or.inl ⟨by rfl, ?_⟩) (by assumption) ?_
                        case refine_2 => intro w hSw; (try dsimp only at hSw); (obtain ⟨hS1, hS2, hS3⟩ := hSw); go_simp; with_reducible rfl
                        try simp only [Act.put, List.getElem_toArray, List.getElem_cons_succ, List.getElem_cons_zero, List.setIfInBounds_toArray, List.set_cons_zero, List.set_cons_succ]
                        refine wpAnyH_take (i := 15) (v := ?_) rfl (by kernel_rfl) (by kernel_rfl) (by kernel_rfl) (fun _ _ _ h => h) (Or.inl ⟨by rfl, ?_⟩) (by assumption) ?_
                        case refine_2 => intro w hSw; (try dsimp only at hSw); (obtain ⟨hS1, hS2, hS3⟩ := hSw); go_simp; with_reducible rfl
                        try simp only [Act.put, List.getElem_toArray, List.getElem_cons_succ, List.getElem_cons_zero, List.setIfInBounds_toArray, List.set_cons_zero, List.set_cons_succ]
                        refine wpAnyH_take (i := 16) (v := ?_) rfl (by kernel_rfl) (by kernel_rfl) (by kernel_rfl) (fun _ _ _ h => h) (Or.inl ⟨by rfl, ?_⟩) (by assumption) ?_
                        case refine_2 => intro w hSw; (try dsimp only at hSw); (obtain ⟨hS1, hS2, hS3⟩ := hSw); go_simp; with_reducible rfl
                        try simp only [Act.put, List.getElem_toArray, List.getElem_cons_succ, List.getElem_cons_zero, List.setIfInBounds_toArray, List.set_cons_zero, List.set_cons_succ]
                        refine wpAnyH_take (i := 17) (v := ?_) rfl (by kernel_rfl) (by kernel_rfl) (by kernel_rfl) (fun _ _ _ h => h) (Or.inl ⟨by rfl, ?_⟩) (by assumption) ?_
                        case refine_2 => intro w hSw; (try dsimp only at hSw); (obtain ⟨hS1, hS2, hS3⟩ := hSw); go_simp; with_reducible rfl
                        try simp only [Act.put, List.getElem_toArray, List.getElem_cons_succ, List.getElem_cons_zero, List.setIfInBounds_toArray, List.set_cons_zero, List.set_cons_succ]
                        refine wpAnyH_take (i := 18) (v := ?_) rfl (by kernel_rfl) (by kernel_rfl) (by kernel_rfl) (fun _ _ _ h => h) (Or.inl ⟨by rfl, ?_⟩) (by assumption) ?_
                        case refine_2 => intro w hSw; (try dsimp only at hSw); (obtain ⟨hS1, hS2, hS3⟩ := hSw); go_simp; with_reducible rfl
                        try simp only [Act.put, List.getElem_toArray, List.getElem_cons_succ, List.getElem_cons_zero, List.setIfInBounds_toArray, List.set_cons_zero, List.set_cons_succ]
                        refine wpAnyH_take (i := 19) (v := ?_) rfl (by kernel_rfl) (by kernel_rfl) (by kernel_rfl) (fun _ _ _ h => h) (Or.inl ⟨by rfl, ?_⟩) (by assumption) ?_
                        case refine_2 => intro w hSw; (try dsimp only at hSw); (obtain ⟨hS1, hS2, hS3⟩ := hSw); go_simp; with_reducible rfl
                        try simp only [Act.put, List.getElem_toArray, List.getElem_cons_succ, List.getElem_cons_zero, List.setIfInBounds_toArray, List.set_cons_zero, List.set_cons_succ]
                        refine wpAnyH_take (i := 20) (v := ?_) rfl (by kernel_rfl) (by kernel_rfl) (by kernel_rfl) (fun _ _ _ h => h) (Or.inl ⟨by rfl, ?_⟩) (by assumption) ?_
                        case refine_2 => intro w hSw; (try dsimp only at hSw); (obtain ⟨hS1, hS2, hS3⟩ := hSw); go_simp; with_reducible rfl
                        try simp only [Act.put, List.getElem_toArray, List.getElem_cons_succ, List.getElem_cons_zero, List.setIfInBounds_toArray, List.set_cons_zero, List.set_cons_succ]
                        refine wpAnyH_take (i := 21) (v := ?_) rfl (by kernel_rfl) (by kernel_rfl) (by kernel_rfl) (fun _ _ _ h => h) (Or.inl ⟨by rfl, ?_⟩) (by assumption) ?_
                        case refine_2 => intro w hSw; (try dsimp only at hSw); (obtain ⟨hS1, hS2, hS3⟩ := hSw); go_simp; with_reducible rfl
                        try simp only [Act.put, List.getElem_toArray, List.getElem_cons_succ, List.getElem_cons_zero, List.setIfInBounds_toArray, List.set_cons_zero, List.set_cons_succ]
                        refine wpAnyH_take (i := 22) (v := ?_) rfl (by kernel_rfl) (by kernel_rfl) (by kernel_rfl) (fun _ _ _ h => h) (Or.inl ⟨by rfl, ?_⟩) (by assumption) ?_
                        case refine_2 => intro w hSw; (try dsimp only at hSw); (obtain ⟨hS1, hS2, hS3⟩ := hSw); go_simp; with_reducible rfl
                        try simp only [Act.put, List.getElem_toArray, List.getElem_cons_succ, List.getElem_cons_zero, List.setIfInBounds_toArray, List.set_cons_zero, List.set_cons_succ]
                        refine wpAnyH_ready (rs := [23]) (by kernel_rfl) (by simp) ?_
                        refine AllReadyH.cons rfl (fun K hK => ?_) AllReadyH.nil
                        go_simp
                        refine HH.out.mono ?_
                        rintro e w2 ⟨rfl, rfl⟩
                        refine hK.out _ _ ⟨C1.out, C2.out, C3.out⟩ (fun hHeld2 => ?_)
                        clear hK K hHeld1
                        try simp only [Act.put, List.getElem_toArray, List.getElem_cons_succ, List.getElem_cons_zero, List.setIfInBounds_toArray, List.set_cons_zero, List.set_cons_succ]
                        refine wpAnyH_take (i := 24) (v := ?_) rfl (by kernel_rfl) (by kernel_rfl) (by kernel_rfl) (fun _ _ _ h => h) (Or.inl ⟨by rfl, ?_⟩) (by assumption) ?_
                        case refine_2 => intro w hSw; (try dsimp only at hSw); (obtain ⟨hS1, hS2, hS3⟩ := hSw); go_simp; with_reducible rfl
                        try simp only [Act.put, List.getElem_toArray, List.getElem_cons_succ, List.getElem_cons_zero, List.setIfInBounds_toArray, List.set_cons_zero, List.set_cons_succ]
                        refine wpAnyH_take (i := 25) (v := ?_) rfl (by kernel_rfl) (by kernel_rfl) (by kernel_rfl) (fun _ _ _ h => h) (Or.inl ⟨by rfl, ?_⟩) (by assumption) ?_
                        case refine_2 => intro w hSw; (try dsimp only at hSw); (obtain ⟨hS1, hS2, hS3⟩ := hSw); go_simp; with_reducible rfl
                        try simp only [Act.put, List.getElem_toArray, List.getElem_cons_succ, List.getElem_cons_zero, List.setIfInBounds_toArray, List.set_cons_zero, List.set_cons_succ]
                        refine wpAnyH_ready (rs := [26]) (by kernel_rfl) (by simp) ?_
                        refine AllReadyH.cons rfl (fun K hK => ?_) AllReadyH.nil
                        go_simp
                        refine hK.out _ _ (KS.out _) (fun hHeld3 => ?_)
                        clear hK K hHeld2
                        try simp only [Act.put, List.getElem_toArray, List.getElem_cons_succ, List.getElem_cons_zero, List.setIfInBounds_toArray, List.set_cons_zero, List.set_cons_succ]
                        refine wpAnyH_done (by kernel_rfl) ?_ _
                        clear hHeld3
                        go_wp2
                        go_roundg (gk - 1)
                        case measure => have h := HGj.out; omega
                        case rel => exact ⟨j + 1, by go_num, HN2.out, by omega, by have h := HGj.out; omega⟩
                      | false =>
                        have c9 := HCF.out false hcu
                        have KSF := Lib.hid (World.cell?_setCell_same (w := wr) (a := ⟨gi, t, none⟩) (v := .bool false) c9)
                        have HN2 := Lib.hid (HNX.out false (by rw [hcu]; simp))
                        have C9 := Lib.hid (show wr.drew.cell? _ = _ from c9)
                        clear hcu HCF HNX
                        go_wp2_with fail
                        have e9 := C9.out
                        refine wp_region_held_drew (S := fun w' => w'.cell? ⟨gi, t, none⟩ = some (.bool false)) (by kernel_rfl) C9.out (fun hHeld => ?_)
                        refine wpAnyH_take (i := 0) (v := ?_) rfl (by kernel_rfl) (by kernel_rfl) (by kernel_rfl) (fun _ _ _ h => h) (Or.inl ⟨by rfl, ?_⟩) (by assumption) ?_
                        case refine_2 => intro w hSw; (try dsimp only at hSw); go_simp; with_reducible rfl
                        try simp only [Act.put, List.getElem_toArray, List.getElem_cons_succ, List.getElem_cons_zero, List.setIfInBounds_toArray, List.set_cons_zero, List.set_cons_succ]
                        refine wpAnyH_take (i := 1) (v := ?_) rfl (by kernel_rfl) (by kernel_rfl) (by kernel_rfl) (fun _ _ _ h => h) (Or.inl ⟨by rfl, ?_⟩) (by assumption) ?_
                        case refine_2 => intro w hSw; (try dsimp only at hSw); go_simp; with_reducible rfl
                        try simp only [Act.put, List.getElem_toArray, List.getElem_cons_succ, List.getElem_cons_zero, List.setIfInBounds_toArray, List.set_cons_zero, List.set_cons_succ]
                        refine wpAnyH_take (i := 2) (v := ?_) rfl (by kernel_rfl) (by kernel_rfl) (by kernel_rfl) (fun _ _ _ h => h) (Or.inl ⟨by rfl, ?_⟩) (by assumption) ?_
                        case refine_2 => intro w hSw; (try dsimp only at hSw); go_simp; with_reducible rfl
                        try simp only [Act.put, List.getElem_toArray, List.getElem_cons_succ, List.getElem_cons_zero, List.setIfInBounds_toArray, List.set_cons_zero, List.set_cons_succ]
                        refine wpAnyH_take (i := 3) (v := ?_) rfl (by kernel_rfl) (by kernel_rfl) (by kernel_rfl) (fun _ _ _ h => h) (Or.inl ⟨by rfl, ?_⟩) (by assumption) ?_
                        case refine_2 => intro w hSw; (try dsimp only at hSw); go_simp; with_reducible rfl
                        try simp only [Act.put, List.getElem_toArray, List.getElem_cons_succ, List.getElem_cons_zero, List.setIfInBounds_toArray, List.set_cons_zero, List.set_cons_succ]
                        refine wpAnyH_take (i := 4) (v := ?_) rfl (by kernel_rfl) (by kernel_rfl) (by kernel_rfl) (fun _ _ _ h => h) (Or.inl ⟨by rfl, ?_⟩) (by assumption) ?_
                        case refine_2 => intro w hSw; (try dsimp only at hSw); go_simp; with_reducible rfl
                        try simp only [Act.put, List.getElem_toArray, List.getElem_cons_succ, List.getElem_cons_zero, List.setIfInBounds_toArray, List.set_cons_zero, List.set_cons_succ]
                        refine wpAnyH_take (i := 5) (v := undef) rfl (by kernel_rfl) (by kernel_rfl) (by kernel_rfl) (fun _ _ _ h => h) (Or.inr ⟨by kernel_rfl, rfl⟩) (by assumption) ?_
                        try simp only [Act.put, List.getElem_toArray, List.getElem_cons_succ, List.getElem_cons_zero, List.setIfInBounds_toArray, List.set_cons_zero, List.set_cons_succ]
                        refine wpAnyH_take (i := 6) (v := undef) rfl (by kernel_rfl) (by kernel_rfl) (by kernel_rfl) (fun _ _ _ h => h) (Or.inr ⟨by kernel_rfl, rfl⟩) (by assumption) ?_
                        try simp only [Act.put, List.getElem_toArray, List.getElem_cons_succ, List.getElem_cons_zero, List.setIfInBounds_toArray, List.set_cons_zero, List.set_cons_succ]
                        refine wpAnyH_take (i := 7) (v := undef) rfl (by kernel_rfl) (by kernel_rfl) (by kernel_rfl) (fun _ _ _ h => h) (Or.inr ⟨by kernel_rfl, rfl⟩) (by assumption) ?_
                        try simp only [Act.put, List.getElem_toArray, List.getElem_cons_succ, List.getElem_cons_zero, List.setIfInBounds_toArray, List.set_cons_zero, List.set_cons_succ]
                        refine wpAnyH_take (i := 8) (v := undef) rfl (by kernel_rfl) (by kernel_rfl) (by kernel_rfl) (fun _ _ _ h => h) (Or.inr ⟨by kernel_rfl, rfl⟩) (by assumption) ?_
                        try simp only [Act.put, List.getElem_toArray, List.getElem_cons_succ, List.getElem_cons_zero, List.setIfInBounds_toArray, List.set_cons_zero, List.set_cons_succ]
                        refine wpAnyH_take (i := 9) (v := undef) rfl (by kernel_rfl) (by kernel_rfl) (by kernel_rfl) (fun _ _ _ h => h) (Or.inr ⟨by kernel_rfl, rfl⟩) (by assumption) ?_
                        try simp only [Act.put, List.getElem_toArray, List.getElem_cons_succ, List.getElem_cons_zero, List.setIfInBounds_toArray, List.set_cons_zero, List.set_cons_succ]
                        refine wpAnyH_take (i := 10) (v := undef) rfl (by kernel_rfl) (by kernel_rfl) (by kernel_rfl) (fun _ _ _ h => h) (Or.inr ⟨by kernel_rfl, rfl⟩) (by assumption) ?_
                        try simp only [Act.put, List.getElem_toArray, List.getElem_cons_succ, List.getElem_cons_zero, List.setIfInBounds_toArray, List.set_cons_zero, List.set_cons_succ]
                        refine wpAnyH_take (i := 11) (v := undef) rfl (by kernel_rfl) (by kernel_rfl) (by kernel_rfl) (fun _ _ _ h => h) (Or.inr ⟨by kernel_rfl, rfl⟩) (by assumption) ?_
                        try simp only [Act.put, List.getElem_toArray, List.getElem_cons_succ, List.getElem_cons_zero, List.setIfInBounds_toArray, List.set_cons_zero, List.set_cons_succ]
                        refine wpAnyH_take (i := 12) (v := undef) rfl (by kernel_rfl) (by kernel_rfl) (by kernel_rfl) (fun _ _ _ h => h) (Or.inr ⟨by kernel_rfl, rfl⟩) (by assumption) ?_
                        try simp only [Act.put, List.getElem_toArray, List.getElem_cons_succ, List.getElem_cons_zero, List.setIfInBounds_toArray, List.set_cons_zero, List.set_cons_succ]
                        refine wpAnyH_take (i := 13) (v := undef) rfl (by kernel_rfl) (by kernel_rfl) (by kernel_rfl) (fun _ _ _ h => h) (Or.inr ⟨by kernel_rfl, rfl⟩) (by assumption) ?_
                        try simp only [Act.put, List.getElem_toArray, List.getElem_cons_succ, List.getElem_cons_zero, List.setIfInBounds_toArray, List.set_cons_zero, List.set_cons_succ]
                        refine wpAnyH_take (i := 14) (v := undef) rfl (by kernel_rfl) (by kernel_rfl) (by kernel_rfl) (fun _ _ _ h => h) (Or.inr ⟨by kernel_rfl, rfl⟩) (by assumption) ?_
                        try simp only [Act.put, List.getElem_toArray, List.getElem_cons_succ, List.getElem_cons_zero, List.setIfInBounds_toArray, List.set_cons_zero, List.set_cons_succ]
                        refine wpAnyH_take (i := 15) (v := undef) rfl (by kernel_rfl) (by kernel_rfl) (by kernel_rfl) (fun _ _ _ h => h) (Or.inr ⟨by kernel_rfl, rfl⟩) (by assumption) ?_
                        try simp only [Act.put, List.getElem_toArray, List.getElem_cons_succ, List.getElem_cons_zero, List.setIfInBounds_toArray, List.set_cons_zero, List.set_cons_succ]
                        refine wpAnyH_take (i := 16) (v := undef) rfl (by kernel_rfl) (by kernel_rfl) (by kernel_rfl) (fun _ _ _ h => h) (Or.inr ⟨by kernel_rfl, rfl⟩) (by assumption) ?_
                        try simp only [Act.put, List.getElem_toArray, List.getElem_cons_succ, List.getElem_cons_zero, List.setIfInBounds_toArray, List.set_cons_zero, List.set_cons_succ]
                        refine wpAnyH_take (i := 17) (v := undef) rfl (by kernel_rfl) (by kernel_rfl) (by kernel_rfl) (fun _ _ _ h => h) (Or.inr ⟨by kernel_rfl, rfl⟩) (by assumption) ?_
                        try simp only [Act.put, List.getElem_toArray, List.getElem_cons_succ, List.getElem_cons_zero, List.setIfInBounds_toArray, List.set_cons_zero, List.set_cons_succ]
                        refine wpAnyH_take (i := 18) (v := undef) rfl (by kernel_rfl) (by kernel_rfl) (by kernel_rfl) (fun _ _ _ h => h) (Or.inr ⟨by kernel_rfl, rfl⟩) (by assumption) ?_
                        try simp only [Act.put, List.getElem_toArray, List.getElem_cons_succ, List.getElem_cons_zero, List.setIfInBounds_toArray, List.set_cons_zero, List.set_cons_succ]
                        refine wpAnyH_take (i := 19) (v := undef) rfl (by kernel_rfl) (by kernel_rfl) (by kernel_rfl) (fun _ _ _ h => h) (Or.inr ⟨by kernel_rfl, rfl⟩) (by assumption) ?_
                        try simp only [Act.put, List.getElem_toArray, List.getElem_cons_succ, List.getElem_cons_zero, List.setIfInBounds_toArray, List.set_cons_zero, List.set_cons_succ]
                        refine wpAnyH_take (i := 20) (v := undef) rfl (by kernel_rfl) (by kernel_rfl) (by kernel_rfl) (fun _ _ _ h => h) (Or.inr ⟨by kernel_rfl, rfl⟩) (by assumption) ?_
                        try simp only [Act.put, List.getElem_toArray, List.getElem_cons_succ, List.getElem_cons_zero, List.setIfInBounds_toArray, List.set_cons_zero, List.set_cons_succ]
                        refine wpAnyH_take (i := 21) (v := undef) rfl (by kernel_rfl) (by kernel_rfl) (by kernel_rfl) (fun _ _ _ h => h) (Or.inr ⟨by kernel_rfl, rfl⟩) (by assumption) ?_
                        try simp only [Act.put, List.getElem_toArray, List.getElem_cons_succ, List.getElem_cons_zero, List.setIfInBounds_toArray, List.set_cons_zero, List.set_cons_succ]
                        refine wpAnyH_take (i := 22) (v := undef) rfl (by kernel_rfl) (by kernel_rfl) (by kernel_rfl) (fun _ _ _ h => h) (Or.inr ⟨by kernel_rfl, rfl⟩) (by assumption) ?_
                        try simp only [Act.put, List.getElem_toArray, List.getElem_cons_succ, List.getElem_cons_zero, List.setIfInBounds_toArray, List.set_cons_zero, List.set_cons_succ]
                        refine wpAnyH_take (i := 23) (v := undef) rfl (by kernel_rfl) (by kernel_rfl) (by kernel_rfl) (fun _ _ _ h => h) (Or.inr ⟨by kernel_rfl, rfl⟩) (by assumption) ?_
                        try simp only [Act.put, List.getElem_toArray, List.getElem_cons_succ, List.getElem_cons_zero, List.setIfInBounds_toArray, List.set_cons_zero, List.set_cons_succ]
                        refine wpAnyH_take (i := 24) (v := ?_) rfl (by kernel_rfl) (by kernel_rfl) (by kernel_rfl) (fun _ _ _ h => h) (Or.inl ⟨by rfl, ?_⟩) (by assumption) ?_
                        case refine_2 => intro w hSw; (try dsimp only at hSw); go_simp; with_reducible rfl
                        try simp only [Act.put, List.getElem_toArray, List.getElem_cons_succ, List.getElem_cons_zero, List.setIfInBounds_toArray, List.set_cons_zero, List.set_cons_succ]
                        refine wpAnyH_take (i := 25) (v := ?_) rfl (by kernel_rfl) (by kernel_rfl) (by kernel_rfl) (fun _ _ _ h => h) (Or.inl ⟨by rfl, ?_⟩) (by assumption) ?_
                        case refine_2 => intro w hSw; (try dsimp only at hSw); go_simp; with_reducible rfl
                        try simp only [Act.put, List.getElem_toArray, List.getElem_cons_succ, List.getElem_cons_zero, List.setIfInBounds_toArray, List.set_cons_zero, List.set_cons_succ]
                        refine wpAnyH_ready (rs := [26]) (by kernel_rfl) (by simp) ?_
                        refine AllReadyH.cons rfl (fun K hK => ?_) AllReadyH.nil
                        go_simp
                        refine hK.out _ _ KSF.out (fun hHeld3 => ?_)
                        clear hK K hHeld
                        try simp only [Act.put, List.getElem_toArray, List.getElem_cons_succ, List.getElem_cons_zero, List.setIfInBounds_toArray, List.set_cons_zero, List.set_cons_succ]
                        refine wpAnyH_done (by kernel_rfl) ?_ _
                        clear hHeld3
                        go_wp2
                        go_roundg (gk - 1)
                        case measure => have h := HGj.out; omega
                        case rel => exact ⟨j + 1, by go_num, HN2.out, by omega, by have h := HGj.out; omega⟩
                    · have e : j = k + 1 := by have := HGj.out.1; omega
                      subst e
                      have hjj : ¬ (((k + 1 : Nat) : Int) ≤ (k : Int)) := by omega
                      have HN2 := Lib.hid (show SyR w4 gi gv (rowF k L vl G t ((i + 1) * (k + 1) + 0)) vl wr by rw [Nat.add_zero, Nat.succ_mul]; exact HRj.out)
                      go_wp2
                      go_roundg (k - i)
                      case measure => have h := HGi.out; omega
                      case rel => exact ⟨i + 1, by go_num, HN2.out, by omega, by omega⟩
                · have e : i = k + 1 := by have := HGi.out.1; omega
                  subst e
                  have hii : ¬ (((k + 1 : Nat) : Int) ≤ (k : Int)) := by omega
                  have HN2 := Lib.hid (HRi.out.pair (HE2.out _ (Nat.add_zero _).symm))
                  go_wp2
                  go_roundg (2 - (t + 1))
                  case measure => have h := HQ.out; omega
                  case rel => exact ⟨t + 1, by go_num, HN2.out, by omega, by omega⟩
      · have e : t = 2 := by have := HQ.out.1; omega
        subst e
        have HB4 := Lib.hid (HG4.out.step HP.out.below)
        have hF0 : ansF k L l0 l1 2 0 = ansF k L l0 l1 2 1 := by unfold ansF; rw [if_pos (by omega), if_pos (by omega)]; exact HIN.out
        obtain ⟨f0, hf0⟩ : ∃ f, f = ansF k L l0 l1 2 0 := ⟨_, rfl⟩
        have HTW := Lib.hid (show wr.heap[gi]? = some (.cells #[.bool f0, .bool f0] 69 (0, 0)) by
          have h := HP.out.two
          unfold pairB at h
          rw [← hF0, ← hf0] at h
          exact h)
        have hgl : gi < wr.heap.size := (Array.getElem?_eq_some_iff.1 HTW.out).1
        have HCE := Lib.hid (fun (W : World) (hb : Below wr.heap.size wr W) => show W.cell? ⟨gi, 0, none⟩ = some (.bool f0) ∧ W.cell? ⟨gi, 1, none⟩ = some (.bool f0) from by
          have h := (hb.block gi hgl).trans HTW.out
          constructor <;> (unfold World.cell?; rw [h]; rfl))
        clear hF0 hf0
        go_wp2_with fail
        refine (live05_any _ (HB4.out.at 7 rfl)).mono ?_
        rintro e w8 ⟨rfl, hb⟩
        have HB5 := Lib.hid (HB4.out.step hb)
        obtain ⟨e0, e1⟩ := HCE.out _ hb
        clear hb HB4
        cases f0
        all_goals
          go_wp2_with fail
          refine (HINC.out _ _ _ (HB5.out.at 1 rfl) (HB5.out.at 2 rfl)).mono ?_
          rintro e w9 ⟨rfl, hb⟩
          have HB6 := Lib.hid (HB5.out.step hb)
          clear hb HB5
          go_wp2
          go_ret
          exact ⟨by simp, HB6.out.below⟩
  · have HNG := Lib.hid hgo
    clear hgo
    match hz : z with
    | none =>
      clear HNG
      go_enter Tryd.func9, Tryd.ntmps9
      go_wp2_with fail
      rw [← HWB.out, ← HBX.out]
      refine (HBO.out _ (HG0.out.at 5 rfl)).mono ?_
      rintro e w1 ⟨hb, v, v', rfl, hv, hv'⟩
      have hv : v = .pointer none := hv
      subst hv
      have HG1 := Lib.hid (HG0.out.step hb)
      clear hb hv' HG0
      go_wp2_with fail
      refine (live05_any _ (HG1.out.at 4 rfl)).mono ?_
      rintro e w8 ⟨rfl, hb⟩
      have HB5 := Lib.hid (HG1.out.step hb)
      clear hb
      go_wp2
      go_ret
      exact ⟨rfl, HB5.out.below⟩
    | some (k, m) =>
      obtain ⟨⟨hn0, hn8, hkn⟩, _⟩ := HNK.out k m rfl
      have hk0 : k = 0 := by
        by_cases h : 1 ≤ k
        · exact absurd ⟨k, m, rfl, h⟩ HNG.out
        · omega
      obtain rfl : n = 0 := by omega
      clear hn0 hn8 hkn hk0 HNG
      go_enter Tryd.func9, Tryd.ntmps9
      go_wp2_with fail
      rw [← HWB.out, ← HBX.out]
      refine (HBO.out _ (HG0.out.at 5 rfl)).mono ?_
      rintro e w1 ⟨hb, v, v', rfl, hv, hv'⟩
      obtain ⟨bz, rfl, _⟩ := hv
      have HG1 := Lib.hid (HG0.out.step hb)
      clear hb hv' HG0
      go_wp2_with fail
      refine (live05_any _ (HG1.out.at 4 rfl)).mono ?_
      rintro e w8 ⟨rfl, hb⟩
      have HB5 := Lib.hid (HG1.out.step hb)
      clear hb
      go_wp2
      go_ret
      exact ⟨rfl, HB5.out.below⟩

end Go.Proofs.YtncgapnooabdgaaDoor

/- A slice of structs of three numbers that came in; rows of 32 bits. -/
namespace Go.Proofs.YtncgapnooabdgaaDoor
open Go Go.ChangeShapes Go.WideShapes Go.ChangeAt Go.RowKit
set_option linter.unusedVariables false
set_option linter.unusedSimpArgs false

section
variable {H : Type} {enc : TypeId × Value → H} {P : Program} {W W' : World}
/-- A slice of bounds of differences that came in. -/
theorem came_lims {t e : TypeId} {f0 f1 f2 : Field} {v : Value} {d : DataW H} {ps : List MemPlace} {r : Reach} {base : Nat} (ht : P.underlying t = some (.slice e)) (he : P.underlying e = some (.struct #[f0, f1, f2]))
    (k0 : P.underlying f0.type = some (.int .i64)) (k1 : P.underlying f1.type = some (.int .i64)) (k2 : P.underlying f2.type = some (.int .i32)) (hone : Deep.oneCellFields P #[f0, f1, f2] = true) (hc : P.cellsOf e = 3)
    (hval : Value.okWide P W r base t v) (h : DataW.Trod enc P W 0 (fun _ => true) true t v d ps) :
    ∃ A c xs, v = .slice A xs.length c ∧ Lims W A xs ∧ (∀ q, q < xs.length → (Lit.int .i64 (xs.getD q (0, 0, 0)).1).wf = true ∧ (Lit.int .i64 (xs.getD q (0, 0, 0)).2.1).wf = true ∧ (Lit.int .i32 (xs.getD q (0, 0, 0)).2.2).wf = true) ∧
      (xs = [] ∨ ∃ el sp, d = .slice el sp ∧ el.length = xs.length) := by
  obtain ⟨a0, len, cap, rfl⟩ := okWide_slice ht hval
  obtain ⟨fuel, hf⟩ := h
  rcases Deep.open_slice ht hf with ⟨hcs, hx⟩ | ⟨a, len', cap', m, n, D, Pl, hcs, _, hle, _, hmm, hx, hi⟩
  · simp [Value.cells] at hcs
    obtain ⟨rfl, rfl, rfl⟩ := hcs
    exact ⟨none, 0, [], rfl, fun j hj => by simp at hj, by simp, .inl rfl⟩
  · simp [Value.cells] at hcs
    obtain ⟨rfl, rfl, rfl⟩ := hcs
    have hlm : len ≤ m := by rw [hmm]; split <;> omega
    have each : ∀ i, i < m → ∃ q : Int × Int × Int, W.cell? (a.add (i * 3)) = some (.int .i64 q.1) ∧ W.cell? (a.add (i * 3 + 1)) = some (.int .i64 q.2.1) ∧ W.cell? (a.add (i * 3 + 2)) = some (.int .i32 q.2.2) ∧
        (Lit.int .i64 q.1).wf = true ∧ (Lit.int .i64 q.2.1).wf = true ∧ (Lit.int .i32 q.2.2).wf = true := by
      intro i him
      obtain ⟨cs', h1, h2⟩ := hi i him
      rw [hc] at h1
      obtain ⟨_, hlen, hcell⟩ := World.cells?_some h1
      obtain ⟨xs, k, _, hxy, _, hxl, hfd⟩ := DataW.trod_struct he h2
      obtain ⟨o0, c0⟩ := Deep.hone_of hone 0 f0 rfl
      obtain ⟨o1, c1⟩ := Deep.hone_of hone 1 f1 rfl
      obtain ⟨o2, c2⟩ := Deep.hone_of hone 2 f2 rfl
      match xs, hxl, cs', hlen with
      | [y0, y1, y2], _, [v0, v1, v2], _ =>
        have g0 := hfd 0 f0 rfl
        have g1 := hfd 1 f1 rfl
        have g2 := hfd 2 f2 rfl
        simp [o0, o1, o2, c0, c1, c2] at g0 g1 g2
        have e0 := hcell 0 (by omega)
        have e1 := hcell 1 (by omega)
        have e2 := hcell 2 (by omega)
        rw [Deep.add_add] at e0 e1 e2
        obtain ⟨z0, q0, _, w0⟩ := DataW.trod_int k0 g0
        obtain ⟨z1, q1, _, w1⟩ := DataW.trod_int k1 g1
        obtain ⟨z2, q2, _, w2⟩ := DataW.trod_int k2 g2
        simp at q0 q1 q2
        subst q0 q1 q2
        exact ⟨(z0, z1, z2), by simpa using e0, by simpa using e1, by simpa using e2, w0, w1, w2⟩
    obtain ⟨q, hq⟩ := Deep.choose_lt each
    simp only [Prod.mk.injEq] at hx
    refine ⟨some a, cap, (List.range len).map q, by simp, ?_, ?_, .inr ⟨_, _, hx.1, by simp⟩⟩
    · intro j hj
      simp only [List.length_map, List.length_range] at hj
      obtain ⟨h0, h1, h2, _⟩ := hq j (by omega)
      have hsp : a.spot = none := by
        have := World.cell?_spot (hq 0 (by omega)).1
        simpa [Addr.add] using this
      obtain ⟨b, off, spot⟩ := a
      simp only at hsp
      subst hsp
      have eg : ((List.range len).map q).getD j (0, 0, 0) = q j := by simp [List.getD_eq_getElem?_getD, hj]
      rw [eg]
      have ea : ∀ k, (⟨b, off, none⟩ : Addr).add k = ⟨b, off + k, none⟩ := fun k => by unfold Addr.add; split <;> simp_all
      rw [ea] at h0 h1 h2
      exact ⟨b, off, rfl, h0, by rw [Nat.add_assoc]; exact h1, by rw [Nat.add_assoc]; exact h2⟩
    · intro j hj
      simp only [List.length_map, List.length_range] at hj
      have eg : ((List.range len).map q).getD j (0, 0, 0) = q j := by simp [List.getD_eq_getElem?_getD, hj]
      rw [eg]
      exact (hq j (by omega)).2.2.2
theorem came_lim32 {xs : List (Int × Int × Int)} (h : ∀ q, q < xs.length → (Lit.int .i64 (xs.getD q (0, 0, 0)).1).wf = true ∧ (Lit.int .i64 (xs.getD q (0, 0, 0)).2.1).wf = true ∧ (Lit.int .i32 (xs.getD q (0, 0, 0)).2.2).wf = true) :
    ∀ q, q < xs.length → -2147483648 ≤ (xs.getD q (0, 0, 0)).2.2 ∧ (xs.getD q (0, 0, 0)).2.2 ≤ 2147483647 := fun q hq => bounds_i32 (h q hq).2.2
/-- Its length is within what the machine can hold. -/
theorem came_short3 {ts : List TypeId} {ds : List (DataW H)} {j : Nat} {t e : TypeId} {d : DataW H} {xs : List (Int × Int × Int)} {m : Nat} (hsz : (DataW.weightsEach P ts ds).all (· ≤ reachBytes) = true) (ht : ts[j]? = some t) (hd : ds[j]? = some d)
    (hu : P.underlying t = some (.slice e)) (hm : P.bytesOf e = m) (h : xs = [] ∨ ∃ el sp, d = .slice el sp ∧ el.length = xs.length) : xs.length * m ≤ 140737488351232 := by
  rcases h with rfl | ⟨el, sp, rfl, he⟩
  · simp
  · have h1 := sized_slice hsz ht hd hu
    rw [hm] at h1
    have h2 : el.length * m ≤ (el.length + sp.length) * m := Nat.mul_le_mul_right _ (by omega)
    rw [← he]
    exact Nat.le_trans h2 h1
/-- The bounds of 32 bits without a sign. -/
theorem came_u32 {xs : List Int} (h : ∀ n ∈ xs, (Lit.int .u32 n).wf = true) : ∀ q, q < xs.length → 0 ≤ xs.getD q 0 ∧ xs.getD q 0 ≤ 4294967295 := by
  intro q hq
  have h1 := h (xs.getD q 0) (by rw [List.getD_eq_getElem?_getD, List.getElem?_eq_getElem hq]; exact List.getElem_mem hq)
  exact bounds_u32 h1
end

end Go.Proofs.YtncgapnooabdgaaDoor
