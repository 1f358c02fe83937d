/- The document's Value, and Holds of numbers that are not great. -/
import Derived.Test.YtgpmfnahjepjjaaRf
import Derived.Test.YtgpmfnahjepjjaaHm
namespace Go.Proofs.Ytgpmfnahjepjjaa
open Go Go.RowKit
set_option linter.unusedVariables false
set_option linter.unusedSimpArgs false

/-- Is a bound finite, and right? -/
def someB (b : Int) : Bool := rightB b && decide (b ≠ 2147483647)
set_option maxRecDepth 100000 in
set_option maxHeartbeats 1000000 in
theorem rvalue_yes (b : Int) (w : World) (h : someB b = true) :
    Calls Try.prog 55 #[.int .i32 b] w fun e w' => e = .returned (.tuple #[.int .i64 (b / 2), .bool (decide (b % 2 = 1)), .bool true]) ∧ w = w' := by
  obtain ⟨hr, hn⟩ : rightB b = true ∧ b ≠ 2147483647 := by simpa [someB] using h
  have hb := rightB_bd hr hn
  have t0 : (b == 2147483647) = false := by simp [hn]
  have HR := Lib.hid hr
  have HN := Lib.hid (fun w => number_w b w (by omega) (by omega))
  obtain ⟨q, hq⟩ : ∃ q, q = b / 2 := ⟨_, rfl⟩
  rw [← hq] at HN ⊢
  have hq1 : -268435456 ≤ q := by omega
  have hq2 : q ≤ 268435456 := by omega
  have hb0 := hb.1
  have hb1 := hb.2
  clear h hr hn hb
  by_cases e : b % 2 = 1
  · rw [decide_eq_true e]
    have t1 : (b == 2 * q) = false := by simp; omega
    have t2 : (b != 2 * q) = true := by simp; omega
    clear hq e
    go_enter Try.func55, Try.ntmps55
    go_wp2_with (first | (go_at_call 48; refine (rright_yes b _ HR.out (by omega) (by omega)).mono ?_; rintro e w' ⟨rfl, rfl⟩) | (go_at_call 62; refine (HN.out _).mono ?_; rintro e w' ⟨rfl, rfl⟩))
    go_ret3
    exact ⟨by simp [t1, t2], rfl⟩
  · rw [decide_eq_false e]
    have t1 : (b == 2 * q) = true := by simp; omega
    have t2 : (b != 2 * q) = false := by simp; omega
    clear hq e
    go_enter Try.func55, Try.ntmps55
    go_wp2_with (first | (go_at_call 48; refine (rright_yes b _ HR.out (by omega) (by omega)).mono ?_; rintro e w' ⟨rfl, rfl⟩) | (go_at_call 62; refine (HN.out _).mono ?_; rintro e w' ⟨rfl, rfl⟩))
    go_ret3
    exact ⟨by simp [t1, t2], rfl⟩
set_option maxRecDepth 100000 in
set_option maxHeartbeats 1000000 in
theorem rvalue_no (b : Int) (w : World) (h : someB b = false) (h0 : -2147483648 ≤ b) (h1 : b ≤ 2147483647) :
    Calls Try.prog 55 #[.int .i32 b] w fun e w' => e = .returned (.tuple #[.int .i64 0, .bool false, .bool false]) ∧ w = w' := by
  by_cases hn : b = 2147483647
  · subst hn
    clear h
    go_enter Try.func55, Try.ntmps55
    go_wp2
    go_ret3
    exact ⟨rfl, rfl⟩
  · have t0 : (b == 2147483647) = false := by simp [hn]
    have hr : rightB b = false := by simpa [someB, hn] using h
    have HR := Lib.hid hr
    clear h hn hr
    go_enter Try.func55, Try.ntmps55
    go_wp2_with (go_at_call 48; refine (rright_no b _ HR.out (by omega) (by omega)).mono ?_; rintro e w' ⟨rfl, rfl⟩)
    go_ret3
    exact ⟨rfl, rfl⟩

set_option maxRecDepth 100000 in
set_option maxHeartbeats 1000000 in
theorem rwide_pos (a b : Nat) (w : World) (ha : a ≤ 268435456) (hb : b ≤ 1048576) :
    Calls Try.prog 71 #[.int .i64 a, .int .i64 b] w fun e w' => e = .returned (.tuple #[.int .u64 0, .int .u64 ((a * b : Nat) : Int), .bool false]) ∧ w = w' := by
  have hm : a * b ≤ 268435456 * 1048576 := Nat.mul_le_mul ha hb
  have HM := Lib.hid (fun w => mul64_low a b (by omega) (by omega) (by omega) w)
  have g1 : IntKind.u64.wrap (a : Int) = (a : Int) := by rw [IntKind.wrap_u64]; omega
  have g2 : IntKind.u64.wrap (b : Int) = (b : Int) := by rw [IntKind.wrap_u64]; omega
  clear hm
  go_enter Try.func71, Try.ntmps71
  go_wp2_with fail
  refine (HM.out _).mono ?_
  rintro e w' ⟨rfl, rfl⟩
  go_wp2
  go_ret3
  exact ⟨rfl, rfl⟩
set_option maxRecDepth 100000 in
set_option maxHeartbeats 1000000 in
theorem rwide_neg (a b : Nat) (w : World) (ha : a ≤ 268435456) (hb : b ≤ 1048576) (ha0 : 0 < a) (hb0 : 0 < b) :
    Calls Try.prog 71 #[.int .i64 (-(a : Int)), .int .i64 b] w fun e w' => e = .returned (.tuple #[.int .u64 0, .int .u64 ((a * b : Nat) : Int), .bool true]) ∧ w = w' := by
  have hm : a * b ≤ 268435456 * 1048576 := Nat.mul_le_mul ha hb
  have hm0 : 0 < a * b := Nat.mul_pos ha0 hb0
  have HM := Lib.hid (fun w => mul64_low a b (by omega) (by omega) (by omega) w)
  have d0 : decide (-(a : Int) < 0) = true := decide_eq_true (by omega)
  have g2 : IntKind.u64.wrap (b : Int) = (b : Int) := by rw [IntKind.wrap_u64]; omega
  have t1 : (((a * b : Nat) : Int) != 0) = true := by simp; omega
  have t2 : (((a * b : Nat) : Int) == 0) = false := by simp; omega
  clear hm
  go_enter Try.func71, Try.ntmps71
  have g3 : IntKind.u64.wrap (-IntKind.u64.wrap (-(a : Int))) = (a : Int) := by rw [IntKind.wrap_u64, IntKind.wrap_u64]; omega
  go_wp2_with fail
  refine (HM.out _).mono ?_
  rintro e w' ⟨rfl, rfl⟩
  go_wp2
  go_ret3
  exact ⟨by simp [t1, t2]; omega, rfl⟩

/-- Which of two numbers is greater: -1, 0, 1. -/
def cmpI (a b : Int) : Int := if a < b then -1 else if a = b then 0 else 1

set_option maxRecDepth 100000 in
set_option maxHeartbeats 2000000 in
theorem rless_pp (x k d : Nat) (w : World) (hx : x ≤ 1099511627776) (hk : k ≤ 268435456) (hd : d ≤ 1048576) :
    Calls Try.prog 65 #[.int .i64 x, .int .i64 d, .int .i64 k] w fun e w' => e = .returned (.int .i64 (cmpI x ((k * d : Nat) : Int))) ∧ w = w' := by
  have hm : k * d ≤ 268435456 * 1048576 := Nat.mul_le_mul hk hd
  have HM := Lib.hid (fun w => rwide_pos k d w hk hd)
  obtain ⟨P, hP⟩ : ∃ P, P = k * d := ⟨_, rfl⟩
  rw [← hP] at hm HM ⊢
  have g1 : IntKind.u64.wrap (x : Int) = (x : Int) := by rw [IntKind.wrap_u64]; omega
  clear hP
  rcases Nat.lt_trichotomy x P with h | h | h
  · have e : cmpI x (P : Int) = -1 := if_pos (by omega)
    rw [e]
    have hi : (x : Int) < (P : Int) := by omega
    clear h e
    go_enter Try.func65, Try.ntmps65
    go_wp2_with (go_at_call 71; refine (HM.out _).mono ?_; rintro e w' ⟨rfl, rfl⟩)
    go_ret
    exact ⟨rfl, rfl⟩
  · have e : cmpI x (P : Int) = 0 := by unfold cmpI; rw [if_neg (by omega), if_pos (by omega)]
    rw [e]
    subst h
    have d1 : decide ((x : Int) < (x : Int)) = false := decide_eq_false (by omega)
    clear e
    go_enter Try.func65, Try.ntmps65
    go_wp2_with (go_at_call 71; refine (HM.out _).mono ?_; rintro e w' ⟨rfl, rfl⟩)
    go_ret
    exact ⟨rfl, rfl⟩
  · have e : cmpI x (P : Int) = 1 := by unfold cmpI; rw [if_neg (by omega), if_neg (by omega)]
    rw [e]
    have hi : (P : Int) < (x : Int) := by omega
    clear h e
    go_enter Try.func65, Try.ntmps65
    go_wp2_with (go_at_call 71; refine (HM.out _).mono ?_; rintro e w' ⟨rfl, rfl⟩)
    go_ret
    exact ⟨rfl, rfl⟩
set_option maxRecDepth 100000 in
set_option maxHeartbeats 2000000 in
theorem rless_pn (x k d : Nat) (w : World) (hx : x ≤ 1099511627776) (hk : k ≤ 268435456) (hd : d ≤ 1048576) (hk0 : 0 < k) (hd0 : 0 < d) :
    Calls Try.prog 65 #[.int .i64 x, .int .i64 d, .int .i64 (-(k : Int))] w fun e w' => e = .returned (.int .i64 1) ∧ w = w' := by
  have hm : k * d ≤ 268435456 * 1048576 := Nat.mul_le_mul hk hd
  have HM := Lib.hid (fun w => rwide_neg k d w hk hd hk0 hd0)
  obtain ⟨P, hP⟩ : ∃ P, P = k * d := ⟨_, rfl⟩
  rw [← hP] at hm HM
  have g1 : IntKind.u64.wrap (x : Int) = (x : Int) := by rw [IntKind.wrap_u64]; omega
  clear hP
  rcases Nat.lt_trichotomy x P with h | h | h
  · have hi : (x : Int) < (P : Int) := by omega
    clear h
    go_enter Try.func65, Try.ntmps65
    go_wp2_with (go_at_call 71; refine (HM.out _).mono ?_; rintro e w' ⟨rfl, rfl⟩)
    go_ret
    exact ⟨rfl, rfl⟩
  · subst h
    have d1 : decide ((x : Int) < (x : Int)) = false := decide_eq_false (by omega)
    go_enter Try.func65, Try.ntmps65
    go_wp2_with (go_at_call 71; refine (HM.out _).mono ?_; rintro e w' ⟨rfl, rfl⟩)
    go_ret
    exact ⟨rfl, rfl⟩
  · have hi : (P : Int) < (x : Int) := by omega
    clear h
    go_enter Try.func65, Try.ntmps65
    go_wp2_with (go_at_call 71; refine (HM.out _).mono ?_; rintro e w' ⟨rfl, rfl⟩)
    go_ret
    exact ⟨rfl, rfl⟩
set_option maxRecDepth 100000 in
set_option maxHeartbeats 2000000 in
theorem rless_np (x k d : Nat) (w : World) (hx : x ≤ 1099511627776) (hx0 : 0 < x) (hk : k ≤ 268435456) (hd : d ≤ 1048576) :
    Calls Try.prog 65 #[.int .i64 (-(x : Int)), .int .i64 d, .int .i64 k] w fun e w' => e = .returned (.int .i64 (-1)) ∧ w = w' := by
  have hm : k * d ≤ 268435456 * 1048576 := Nat.mul_le_mul hk hd
  have HM := Lib.hid (fun w => rwide_pos k d w hk hd)
  obtain ⟨P, hP⟩ : ∃ P, P = k * d := ⟨_, rfl⟩
  rw [← hP] at hm HM
  have d0 : decide (-(x : Int) < 0) = true := decide_eq_true (by omega)
  have g3 : IntKind.u64.wrap (-IntKind.u64.wrap (-(x : Int))) = (x : Int) := by rw [IntKind.wrap_u64, IntKind.wrap_u64]; omega
  have t1 : ((x : Int) != 0) = true := by simp; omega
  have t2 : ((x : Int) == 0) = false := by simp; omega
  clear hP
  rcases Nat.lt_trichotomy x P with h | h | h
  · have hi : (x : Int) < (P : Int) := by omega
    clear h
    go_enter Try.func65, Try.ntmps65
    go_wp2_with (go_at_call 71; refine (HM.out _).mono ?_; rintro e w' ⟨rfl, rfl⟩)
    go_ret
    exact ⟨rfl, rfl⟩
  · subst h
    have d1 : decide ((x : Int) < (x : Int)) = false := decide_eq_false (by omega)
    go_enter Try.func65, Try.ntmps65
    go_wp2_with (go_at_call 71; refine (HM.out _).mono ?_; rintro e w' ⟨rfl, rfl⟩)
    go_ret
    exact ⟨rfl, rfl⟩
  · have hi : (P : Int) < (x : Int) := by omega
    clear h
    go_enter Try.func65, Try.ntmps65
    go_wp2_with (go_at_call 71; refine (HM.out _).mono ?_; rintro e w' ⟨rfl, rfl⟩)
    go_ret
    exact ⟨rfl, rfl⟩
set_option maxRecDepth 100000 in
set_option maxHeartbeats 2000000 in
theorem rless_nn (x k d : Nat) (w : World) (hx : x ≤ 1099511627776) (hx0 : 0 < x) (hk : k ≤ 268435456) (hd : d ≤ 1048576) (hk0 : 0 < k) (hd0 : 0 < d) :
    Calls Try.prog 65 #[.int .i64 (-(x : Int)), .int .i64 d, .int .i64 (-(k : Int))] w fun e w' => e = .returned (.int .i64 (cmpI ((k * d : Nat) : Int) x)) ∧ w = w' := by
  have hm : k * d ≤ 268435456 * 1048576 := Nat.mul_le_mul hk hd
  have HM := Lib.hid (fun w => rwide_neg k d w hk hd hk0 hd0)
  obtain ⟨P, hP⟩ : ∃ P, P = k * d := ⟨_, rfl⟩
  rw [← hP] at hm HM ⊢
  have d0 : decide (-(x : Int) < 0) = true := decide_eq_true (by omega)
  have g3 : IntKind.u64.wrap (-IntKind.u64.wrap (-(x : Int))) = (x : Int) := by rw [IntKind.wrap_u64, IntKind.wrap_u64]; omega
  clear hP
  rcases Nat.lt_trichotomy x P with h | h | h
  · have e : cmpI (P : Int) x = 1 := by unfold cmpI; rw [if_neg (by omega), if_neg (by omega)]
    rw [e]
    have hi : (x : Int) < (P : Int) := by omega
    clear h e
    go_enter Try.func65, Try.ntmps65
    go_wp2_with (go_at_call 71; refine (HM.out _).mono ?_; rintro e w' ⟨rfl, rfl⟩)
    go_ret
    exact ⟨rfl, rfl⟩
  · have e : cmpI (P : Int) x = 0 := by unfold cmpI; rw [if_neg (by omega), if_pos (by omega)]
    rw [e]
    subst h
    have d1 : decide ((x : Int) < (x : Int)) = false := decide_eq_false (by omega)
    clear e
    go_enter Try.func65, Try.ntmps65
    go_wp2_with (go_at_call 71; refine (HM.out _).mono ?_; rintro e w' ⟨rfl, rfl⟩)
    go_ret
    exact ⟨rfl, rfl⟩
  · have e : cmpI (P : Int) x = -1 := if_pos (by omega)
    rw [e]
    have hi : (P : Int) < (x : Int) := by omega
    clear h e
    go_enter Try.func65, Try.ntmps65
    go_wp2_with (go_at_call 71; refine (HM.out _).mono ?_; rintro e w' ⟨rfl, rfl⟩)
    go_ret
    exact ⟨rfl, rfl⟩

/-- Less, of numbers that are not great. -/
theorem rless_any (x v d : Int) (w : World) (hx0 : -1099511627776 ≤ x) (hx1 : x ≤ 1099511627776) (hv0 : -268435456 ≤ v) (hv1 : v ≤ 268435456) (hd0 : 1 ≤ d) (hd1 : d ≤ 1048576) :
    Calls Try.prog 65 #[.int .i64 x, .int .i64 d, .int .i64 v] w fun e w' => e = .returned (.int .i64 (cmpI x (v * d))) ∧ w = w' := by
  obtain ⟨d, rfl⟩ : ∃ k : Nat, d = k := ⟨d.toNat, by omega⟩
  by_cases a : 0 ≤ x
  · obtain ⟨x, rfl⟩ : ∃ k : Nat, x = k := ⟨x.toNat, by omega⟩
    by_cases b : 0 ≤ v
    · obtain ⟨v, rfl⟩ : ∃ k : Nat, v = k := ⟨v.toNat, by omega⟩
      rw [show (v : Int) * (d : Int) = ((v * d : Nat) : Int) from (Int.natCast_mul v d).symm]
      exact rless_pp x v d w (by omega) (by omega) (by omega)
    · obtain ⟨k, rfl⟩ : ∃ k : Nat, v = -(k : Int) := ⟨(-v).toNat, by omega⟩
      have hp : 0 < k * d := Nat.mul_pos (by omega) (by omega)
      have e : cmpI x (-(k : Int) * d) = 1 := by
        have e1 : -(k : Int) * d = -((k * d : Nat) : Int) := by rw [Int.neg_mul, Int.natCast_mul]
        unfold cmpI
        rw [e1, if_neg (by omega), if_neg (by omega)]
      rw [e]
      exact rless_pn x k d w (by omega) (by omega) (by omega) (by omega) (by omega)
  · obtain ⟨y, rfl⟩ : ∃ k : Nat, x = -(k : Int) := ⟨(-x).toNat, by omega⟩
    by_cases b : 0 ≤ v
    · obtain ⟨v, rfl⟩ : ∃ k : Nat, v = k := ⟨v.toNat, by omega⟩
      have e : cmpI (-(y : Int)) ((v : Int) * d) = -1 := by
        rw [show (v : Int) * (d : Int) = ((v * d : Nat) : Int) from (Int.natCast_mul v d).symm]
        exact if_pos (by omega)
      rw [e]
      exact rless_np y v d w (by omega) (by omega) (by omega) (by omega)
    · obtain ⟨k, rfl⟩ : ∃ k : Nat, v = -(k : Int) := ⟨(-v).toNat, by omega⟩
      have e : cmpI (-(y : Int)) (-(k : Int) * d) = cmpI ((k * d : Nat) : Int) y := by
        have e1 : -(k : Int) * d = -((k * d : Nat) : Int) := by rw [Int.neg_mul, Int.natCast_mul]
        rw [e1]
        unfold cmpI
        by_cases h1 : ((k * d : Nat) : Int) < y
        · rw [if_pos (by omega), if_pos h1]
        · rw [if_neg (by omega), if_neg h1]
          by_cases h2 : ((k * d : Nat) : Int) = y
          · rw [if_pos (by omega), if_pos h2]
          · rw [if_neg (by omega), if_neg h2]
      rw [e]
      exact rless_nn y k d w (by omega) (by omega) (by omega) (by omega) (by omega) (by omega)

/-- Does a fraction keep a bound? -/
def holdsB (b x d : Int) : Bool := decide (b = 2147483647 ∨ x < b / 2 * d + b % 2)

set_option maxRecDepth 100000 in
set_option maxHeartbeats 2000000 in
/-- Holds, of a right bound and numbers that are not great. -/
theorem rholds_any (b x d : Int) (w : World) (hr : rightB b = true) (hx0 : -1099511627776 ≤ x) (hx1 : x ≤ 1099511627776) (hd0 : 1 ≤ d) (hd1 : d ≤ 1048576) :
    Calls Try.prog 54 #[.int .i32 b, .int .i64 x, .int .i64 d] w fun e w' => e = .returned (.bool (holdsB b x d)) ∧ w = w' := by
  have HR := Lib.hid hr
  have hb32 : -2147483648 ≤ b ∧ b ≤ 2147483647 := by
    unfold rightB at hr
    have := of_decide_eq_true hr
    omega
  obtain ⟨hb0, hb1⟩ := hb32
  have d0 : decide (d < 1) = false := decide_eq_false (by omega)
  by_cases hn : b = 2147483647
  · have e : holdsB b x d = true := decide_eq_true (.inl hn)
    rw [e]
    have HV := Lib.hid (fun w => rvalue_no b w (by simp [someB, hn]) hb0 hb1)
    clear e hn hr
    go_enter Try.func54, Try.ntmps54
    go_wp2_with (first | (go_at_call 48; refine (rright_yes b _ HR.out (by omega) (by omega)).mono ?_; rintro e w' ⟨rfl, rfl⟩) | (go_at_call 55; refine (HV.out _).mono ?_; rintro e w' ⟨rfl, rfl⟩))
    go_ret
    exact ⟨rfl, rfl⟩
  · have hbd := rightB_bd hr hn
    have HV := Lib.hid (fun w => rvalue_yes b w (by simp [someB, hr, hn]))
    have e : holdsB b x d = decide (x < b / 2 * d + b % 2) := by unfold holdsB; simp [hn]
    rw [e]
    obtain ⟨q, hq⟩ : ∃ q, q = b / 2 := ⟨_, rfl⟩
    obtain ⟨r, hr'⟩ : ∃ r, r = b % 2 := ⟨_, rfl⟩
    rw [← hq, ← hr'] at HV ⊢
    have hq0 : -268435456 ≤ q := by omega
    have hq1 : q ≤ 268435456 := by omega
    have hr0 : r = 0 ∨ r = 1 := by omega
    have HL := Lib.hid (fun w => rless_any x q d w hx0 hx1 hq0 hq1 hd0 hd1)
    obtain ⟨P, hP⟩ : ∃ P, P = q * d := ⟨_, rfl⟩
    rw [← hP] at HL ⊢
    clear hP e hn hr hbd hq hr'
    rcases hr0 with rfl | rfl
    · have e1 : decide ((0 : Int) = 1) = false := rfl
      rw [e1] at HV
      clear e1
      by_cases h1 : x < P
      · have e2 : cmpI x P = -1 := if_pos h1
        rw [e2] at HL
        rw [decide_eq_true (show x < P + 0 by omega)]
        clear e2 h1
        go_enter Try.func54, Try.ntmps54
        go_wp2_with (first | (go_at_call 48; refine (rright_yes b _ HR.out (by omega) (by omega)).mono ?_; rintro e w' ⟨rfl, rfl⟩) | (go_at_call 55; refine (HV.out _).mono ?_; rintro e w' ⟨rfl, rfl⟩) | (go_at_call 65; refine (HL.out _).mono ?_; rintro e w' ⟨rfl, rfl⟩))
        go_ret
        exact ⟨rfl, rfl⟩
      · have e2 : cmpI x P = 0 ∨ cmpI x P = 1 := by unfold cmpI; rw [if_neg h1]; split <;> simp
        rw [decide_eq_false (show ¬ x < P + 0 by omega)]
        rcases e2 with e2 | e2
        all_goals
          rw [e2] at HL
          clear e2 h1
          go_enter Try.func54, Try.ntmps54
          go_wp2_with (first | (go_at_call 48; refine (rright_yes b _ HR.out (by omega) (by omega)).mono ?_; rintro e w' ⟨rfl, rfl⟩) | (go_at_call 55; refine (HV.out _).mono ?_; rintro e w' ⟨rfl, rfl⟩) | (go_at_call 65; refine (HL.out _).mono ?_; rintro e w' ⟨rfl, rfl⟩))
          go_ret
          exact ⟨rfl, rfl⟩
    · have e1 : decide ((1 : Int) = 1) = true := rfl
      rw [e1] at HV
      clear e1
      by_cases h1 : x < P + 1
      · have e2 : cmpI x P = -1 ∨ cmpI x P = 0 := by unfold cmpI; split <;> simp; omega
        rw [decide_eq_true h1]
        rcases e2 with e2 | e2
        all_goals
          rw [e2] at HL
          clear e2 h1
          go_enter Try.func54, Try.ntmps54
          go_wp2_with (first | (go_at_call 48; refine (rright_yes b _ HR.out (by omega) (by omega)).mono ?_; rintro e w' ⟨rfl, rfl⟩) | (go_at_call 55; refine (HV.out _).mono ?_; rintro e w' ⟨rfl, rfl⟩) | (go_at_call 65; refine (HL.out _).mono ?_; rintro e w' ⟨rfl, rfl⟩))
          go_ret
          exact ⟨rfl, rfl⟩
      · have e2 : cmpI x P = 1 := by unfold cmpI; rw [if_neg (by omega), if_neg (by omega)]
        rw [e2] at HL
        rw [decide_eq_false h1]
        clear e2 h1
        go_enter Try.func54, Try.ntmps54
        go_wp2_with (first | (go_at_call 48; refine (rright_yes b _ HR.out (by omega) (by omega)).mono ?_; rintro e w' ⟨rfl, rfl⟩) | (go_at_call 55; refine (HV.out _).mono ?_; rintro e w' ⟨rfl, rfl⟩) | (go_at_call 65; refine (HL.out _).mono ?_; rintro e w' ⟨rfl, rfl⟩))
        go_ret
        exact ⟨rfl, rfl⟩

end Go.Proofs.Ytgpmfnahjepjjaa
