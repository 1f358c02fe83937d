/- Holds of the program: of whatever bound and fraction. -/
import Derived.Test.YtdeblempnmklfaaDoorBa
import Derived.Test.YtdeblempnmklfaaDoorHm
namespace Go.Proofs.YtdeblempnmklfaaDoor
open Go Go.RowKit
set_option linter.unusedVariables false
set_option linter.unusedSimpArgs false

set_option maxRecDepth 100000 in
set_option maxHeartbeats 1000000 in
/-- The product of a number of a bound and of one above 0, in two words. -/
theorem product_any (v d : Int) (w : World) (hv0 : -268435456 ≤ v) (hv1 : v ≤ 268435456) (hd0 : 1 ≤ d) (hd1 : d ≤ 9223372036854775807) :
    Calls Tryd.prog 38 #[.int .i64 v, .int .i64 d] w fun e w' => e = .returned (.tuple #[.int .i64 (v * d / 18446744073709551616), .int .u64 (v * d % 18446744073709551616)]) ∧ w = w' := by
  have hP0 : -2475880078570760549798248448 ≤ v * d ∧ v * d ≤ 2475880078570760549798248448 := by
    have e1 : -(268435456 * d) ≤ v * d := by
      have := Int.mul_le_mul_of_nonneg_right hv0 (show (0 : Int) ≤ d by omega)
      rw [Int.neg_mul] at this
      exact this
    have e2 : v * d ≤ 268435456 * d := Int.mul_le_mul_of_nonneg_right hv1 (by omega)
    omega
  obtain ⟨D, hD⟩ : ∃ D : Nat, d = D := ⟨d.toNat, by omega⟩
  subst hD
  by_cases hn : v < 0
  · obtain ⟨V, hV⟩ : ∃ V : Nat, v + 18446744073709551616 = V := ⟨(v + 18446744073709551616).toNat, by omega⟩
    have HM := Lib.hid (fun w => mul64_any V D (by omega) (by omega) w)
    have hVD : ((V * D : Nat) : Int) = v * D + 18446744073709551616 * D := by
      rw [Int.natCast_mul, ← hV, Int.add_mul]
    obtain ⟨P, hP⟩ : ∃ P, P = v * (D : Int) := ⟨_, rfl⟩
    rw [← hP] at hVD hP0 ⊢
    obtain ⟨Q, hQ⟩ : ∃ Q, Q = V * D := ⟨_, rfl⟩
    rw [← hQ] at hVD HM
    clear hP hQ
    have g0 : IntKind.u64.wrap v = (V : Int) := by rw [IntKind.wrap_u64]; omega
    have g1 : IntKind.u64.wrap (D : Int) = (D : Int) := by rw [IntKind.wrap_u64]; omega
    have g2 : IntKind.i64.wrap (IntKind.u64.wrap (((Q / 18446744073709551616 : Nat) : Int) - D)) = P / 18446744073709551616 := by rw [IntKind.wrap_u64, IntKind.wrap_i64]; omega
    have g3 : ((Q % 18446744073709551616 : Nat) : Int) = P % 18446744073709551616 := by omega
    have d1 : decide (v < 0) = true := decide_eq_true hn
    have d2 : decide ((D : Int) < 0) = false := decide_eq_false (by omega)
    rw [g3] at HM
    obtain ⟨h, hh⟩ : ∃ h, h = ((Q / 18446744073709551616 : Nat) : Int) := ⟨_, rfl⟩
    rw [← hh] at HM g2
    obtain ⟨u, hu⟩ : ∃ u, u = P % 18446744073709551616 := ⟨_, rfl⟩
    rw [← hu] at HM ⊢
    obtain ⟨z, hz⟩ : ∃ z, z = P / 18446744073709551616 := ⟨_, rfl⟩
    rw [← hz] at g2 ⊢
    clear g3 hVD hP0 hu hh hV hz hv0 hv1 hd0 hd1
    have hd : ¬ (D : Int) < 0 := by omega
    go_enter Tryd.func38, Tryd.ntmps38
    go_wp2_with fail
    refine (HM.out _).mono ?_
    rintro e w' ⟨rfl, rfl⟩
    go_wp2
    go_ret2
    exact ⟨by simp [g2], rfl⟩
  · obtain ⟨V, hV⟩ : ∃ V : Nat, v = V := ⟨v.toNat, by omega⟩
    subst hV
    have HM := Lib.hid (fun w => mul64_any V D (by omega) (by omega) w)
    have hVD : ((V * D : Nat) : Int) = (V : Int) * D := Int.natCast_mul _ _
    rw [← hVD] at hP0 ⊢
    obtain ⟨Q, hQ⟩ : ∃ Q, Q = V * D := ⟨_, rfl⟩
    rw [← hQ] at hP0 HM ⊢
    have g0 : IntKind.u64.wrap (V : Int) = (V : Int) := by rw [IntKind.wrap_u64]; omega
    have g1 : IntKind.u64.wrap (D : Int) = (D : Int) := by rw [IntKind.wrap_u64]; omega
    have g2 : IntKind.i64.wrap ((Q / 18446744073709551616 : Nat) : Int) = (Q : Int) / 18446744073709551616 := by rw [IntKind.wrap_i64]; omega
    have g3 : ((Q % 18446744073709551616 : Nat) : Int) = (Q : Int) % 18446744073709551616 := by omega
    rw [g3] at HM
    obtain ⟨h, hh⟩ : ∃ h, h = ((Q / 18446744073709551616 : Nat) : Int) := ⟨_, rfl⟩
    rw [← hh] at HM g2
    obtain ⟨u, hu⟩ : ∃ u, u = (Q : Int) % 18446744073709551616 := ⟨_, rfl⟩
    rw [← hu] at HM ⊢
    obtain ⟨z, hz⟩ : ∃ z, z = (Q : Int) / 18446744073709551616 := ⟨_, rfl⟩
    rw [← hz] at g2 ⊢
    have hd : ¬ (D : Int) < 0 := by omega
    clear g3 hVD hP0 hu hh hz hv0 hv1 hd0 hd1 hQ
    go_enter Tryd.func38, Tryd.ntmps38
    go_wp2_with fail
    refine (HM.out _).mono ?_
    rintro e w' ⟨rfl, rfl⟩
    go_wp2
    go_ret2
    exact ⟨by simp [g2], rfl⟩

/-- Two numbers held against one another by their words. -/
theorem words_lt (x P r : Int) (hx0 : -9223372036854775808 ≤ x) (hx1 : x ≤ 9223372036854775807) (hr : r = 0 ∨ r = 1) :
    decide (x < P + r) = (if (if x < 0 then -1 else 0) ≠ P / 18446744073709551616 then decide ((if x < 0 then -1 else 0 : Int) < P / 18446744073709551616)
      else (decide (x % 18446744073709551616 < P % 18446744073709551616) || (decide (x % 18446744073709551616 = P % 18446744073709551616) && decide (r = 1)))) := by
  by_cases hn : x < 0
  · rw [if_pos hn]
    by_cases hh : (-1 : Int) = P / 18446744073709551616
    · rw [if_neg (by simp [hh])]
      by_cases c : x % 18446744073709551616 < P % 18446744073709551616
      · rw [decide_eq_true c, decide_eq_true (by omega)]; rfl
      · rw [decide_eq_false c, Bool.false_or]
        by_cases c2 : x % 18446744073709551616 = P % 18446744073709551616
        · rw [decide_eq_true c2, Bool.true_and]
          by_cases c3 : r = 1
          · rw [decide_eq_true c3, decide_eq_true (by omega)]
          · rw [decide_eq_false c3, decide_eq_false (by omega)]
        · rw [decide_eq_false c2, Bool.false_and, decide_eq_false (by omega)]
    · rw [if_pos hh]
      by_cases c : (-1 : Int) < P / 18446744073709551616
      · rw [decide_eq_true c, decide_eq_true (by omega)]
      · rw [decide_eq_false c, decide_eq_false (by omega)]
  · rw [if_neg hn]
    by_cases hh : (0 : Int) = P / 18446744073709551616
    · rw [if_neg (by simp [← hh])]
      by_cases c : x % 18446744073709551616 < P % 18446744073709551616
      · rw [decide_eq_true c, decide_eq_true (by omega)]; rfl
      · rw [decide_eq_false c, Bool.false_or]
        by_cases c2 : x % 18446744073709551616 = P % 18446744073709551616
        · rw [decide_eq_true c2, Bool.true_and]
          by_cases c3 : r = 1
          · rw [decide_eq_true c3, decide_eq_true (by omega)]
          · rw [decide_eq_false c3, decide_eq_false (by omega)]
        · rw [decide_eq_false c2, Bool.false_and, decide_eq_false (by omega)]
    · rw [if_pos hh]
      by_cases c : (0 : Int) < P / 18446744073709551616
      · rw [decide_eq_true c, decide_eq_true (by omega)]
      · rw [decide_eq_false c, decide_eq_false (by omega)]

set_option maxRecDepth 100000 in
set_option maxHeartbeats 1000000 in
theorem holds_any (b x d : Int) (w : World) (hx0 : -9223372036854775808 ≤ x) (hx1 : x ≤ 9223372036854775807) (hd1 : d ≤ 9223372036854775807) :
    Calls Tryd.prog 26 #[.int .i32 b, .int .i64 x, .int .i64 d] w fun e w' => e = .returned (.bool (keepsB b x d)) ∧ w = w' := by
  by_cases h : someB b = true
  · have HV := Lib.hid (fun w => value_yes b w h)
    obtain ⟨hr, hn⟩ : rightB b = true ∧ b ≠ 2147483647 := by simpa [someB] using h
    have hbd := rightB_bd hr hn
    have t1 : (b != 2147483647) = true := by simp [hn]
    by_cases hd : d < 1
    · rw [show keepsB b x d = false from decide_eq_false (by omega)]
      clear hr hn hbd h
      obtain ⟨q, hq⟩ : ∃ q, q = b / 2 := ⟨_, rfl⟩
      obtain ⟨z, hz⟩ : ∃ z, z = decide (b % 2 = 1) := ⟨_, rfl⟩
      rw [← hq, ← hz] at HV
      clear hq hz
      go_enter Tryd.func26, Tryd.ntmps26
      go_wp2_with fail
      refine (HV.out _).mono ?_
      rintro e w' ⟨rfl, rfl⟩
      go_wp2
      go_ret
      exact ⟨rfl, rfl⟩
    · have hk : keepsB b x d = decide (x < b / 2 * d + b % 2) := by
        unfold keepsB
        congr 1
        simp [h, hn]
        omega
      have HP := Lib.hid (fun w => product_any (b / 2) d w (by omega) (by omega) (by omega) hd1)
      have hw := words_lt x (b / 2 * d) (b % 2) hx0 hx1 (by omega)
      rw [hk, hw]
      generalize b / 2 * d = P at *
      obtain ⟨q, hq⟩ : ∃ q, q = b / 2 := ⟨_, rfl⟩
      obtain ⟨z, hz⟩ : ∃ z, z = decide (b % 2 = 1) := ⟨_, rfl⟩
      rw [← hq, ← hz] at HV
      rw [← hq] at HP
      have hz' : decide (b % 2 = 1) = z := hz.symm
      generalize P / 18446744073709551616 = ph at *
      generalize P % 18446744073709551616 = pl at *
      have g0 : IntKind.u64.wrap x = x % 18446744073709551616 := by rw [IntKind.wrap_u64]
      generalize x % 18446744073709551616 = xl at *
      clear hr hn hbd h hk hw hq hz t1
      have hd' : ¬ d < 1 := hd
      by_cases hn : x < 0
      · rw [if_pos hn]
        by_cases hh : (-1 : Int) = ph
        · subst hh
          rw [if_neg (by simp)]
          by_cases c : xl < pl
          · rw [decide_eq_true c, Bool.true_or]
            go_enter Tryd.func26, Tryd.ntmps26
            go_wp2_with fail
            refine (HV.out _).mono ?_
            rintro e w' ⟨rfl, rfl⟩
            go_wp2_with fail
            refine (HP.out _).mono ?_
            rintro e w' ⟨rfl, rfl⟩
            go_wp2
            go_ret
            exact ⟨by first | rfl | simp [*], rfl⟩
          · rw [decide_eq_false c, Bool.false_or]
            by_cases c2 : xl = pl
            · subst c2
              rw [decide_eq_true rfl, Bool.true_and, hz']
              cases z
              · go_enter Tryd.func26, Tryd.ntmps26
                go_wp2_with fail
                refine (HV.out _).mono ?_
                rintro e w' ⟨rfl, rfl⟩
                go_wp2_with fail
                refine (HP.out _).mono ?_
                rintro e w' ⟨rfl, rfl⟩
                go_wp2
                go_ret
                exact ⟨by first | rfl | simp [*], rfl⟩
              · go_enter Tryd.func26, Tryd.ntmps26
                go_wp2_with fail
                refine (HV.out _).mono ?_
                rintro e w' ⟨rfl, rfl⟩
                go_wp2_with fail
                refine (HP.out _).mono ?_
                rintro e w' ⟨rfl, rfl⟩
                go_wp2
                go_ret
                exact ⟨by first | rfl | simp [*], rfl⟩
            · rw [decide_eq_false c2, Bool.false_and]
              have t2 : (xl == pl) = false := by simp [c2]
              go_enter Tryd.func26, Tryd.ntmps26
              go_wp2_with fail
              refine (HV.out _).mono ?_
              rintro e w' ⟨rfl, rfl⟩
              go_wp2_with fail
              refine (HP.out _).mono ?_
              rintro e w' ⟨rfl, rfl⟩
              go_wp2
              go_ret
              exact ⟨by first | rfl | simp [*], rfl⟩
        · rw [if_pos hh]
          have t2 : ((-1 : Int) != ph) = true := by simp [hh]
          obtain ⟨u, hu⟩ : ∃ u, u = decide ((-1 : Int) < ph) := ⟨_, rfl⟩
          go_enter Tryd.func26, Tryd.ntmps26
          go_wp2_with fail
          refine (HV.out _).mono ?_
          rintro e w' ⟨rfl, rfl⟩
          go_wp2_with fail
          refine (HP.out _).mono ?_
          rintro e w' ⟨rfl, rfl⟩
          go_wp2
          go_ret
          exact ⟨by first | rfl | simp [*], rfl⟩
      · rw [if_neg hn]
        by_cases hh : (0 : Int) = ph
        · subst hh
          rw [if_neg (by simp)]
          by_cases c : xl < pl
          · rw [decide_eq_true c, Bool.true_or]
            go_enter Tryd.func26, Tryd.ntmps26
            go_wp2_with fail
            refine (HV.out _).mono ?_
            rintro e w' ⟨rfl, rfl⟩
            go_wp2_with fail
            refine (HP.out _).mono ?_
            rintro e w' ⟨rfl, rfl⟩
            go_wp2
            go_ret
            exact ⟨by first | rfl | simp [*], rfl⟩
          · rw [decide_eq_false c, Bool.false_or]
            by_cases c2 : xl = pl
            · subst c2
              rw [decide_eq_true rfl, Bool.true_and, hz']
              cases z
              · go_enter Tryd.func26, Tryd.ntmps26
                go_wp2_with fail
                refine (HV.out _).mono ?_
                rintro e w' ⟨rfl, rfl⟩
                go_wp2_with fail
                refine (HP.out _).mono ?_
                rintro e w' ⟨rfl, rfl⟩
                go_wp2
                go_ret
                exact ⟨by first | rfl | simp [*], rfl⟩
              · go_enter Tryd.func26, Tryd.ntmps26
                go_wp2_with fail
                refine (HV.out _).mono ?_
                rintro e w' ⟨rfl, rfl⟩
                go_wp2_with fail
                refine (HP.out _).mono ?_
                rintro e w' ⟨rfl, rfl⟩
                go_wp2
                go_ret
                exact ⟨by first | rfl | simp [*], rfl⟩
            · rw [decide_eq_false c2, Bool.false_and]
              have t2 : (xl == pl) = false := by simp [c2]
              go_enter Tryd.func26, Tryd.ntmps26
              go_wp2_with fail
              refine (HV.out _).mono ?_
              rintro e w' ⟨rfl, rfl⟩
              go_wp2_with fail
              refine (HP.out _).mono ?_
              rintro e w' ⟨rfl, rfl⟩
              go_wp2
              go_ret
              exact ⟨by first | rfl | simp [*], rfl⟩
        · rw [if_pos hh]
          have t2 : ((0 : Int) != ph) = true := by simp [hh]
          obtain ⟨u, hu⟩ : ∃ u, u = decide ((0 : Int) < ph) := ⟨_, rfl⟩
          go_enter Tryd.func26, Tryd.ntmps26
          go_wp2_with fail
          refine (HV.out _).mono ?_
          rintro e w' ⟨rfl, rfl⟩
          go_wp2_with fail
          refine (HP.out _).mono ?_
          rintro e w' ⟨rfl, rfl⟩
          go_wp2
          go_ret
          exact ⟨by first | rfl | simp [*], rfl⟩
  · have h : someB b = false := by simpa using h
    have HV := Lib.hid (fun w => value_no b w h)
    by_cases hd : d < 1
    · rw [show keepsB b x d = false from decide_eq_false (by omega)]
      clear h
      go_enter Tryd.func26, Tryd.ntmps26
      go_wp2_with fail
      refine (HV.out _).mono ?_
      rintro e w' ⟨rfl, rfl⟩
      go_wp2
      go_ret
      exact ⟨rfl, rfl⟩
    · by_cases hn : b = 2147483647
      · subst hn
        rw [show keepsB 2147483647 x d = true from decide_eq_true ⟨by omega, .inl rfl⟩]
        clear h
        go_enter Tryd.func26, Tryd.ntmps26
        go_wp2_with fail
        refine (HV.out _).mono ?_
        rintro e w' ⟨rfl, rfl⟩
        go_wp2
        go_ret
        exact ⟨rfl, rfl⟩
      · rw [show keepsB b x d = false from decide_eq_false (by simp [h, hn])]
        have t1 : (b != 2147483647) = true := by simp [hn]
        clear h hn
        go_enter Tryd.func26, Tryd.ntmps26
        go_wp2_with fail
        refine (HV.out _).mono ?_
        rintro e w' ⟨rfl, rfl⟩
        go_wp2
        go_ret
        exact ⟨rfl, rfl⟩

end Go.Proofs.YtdeblempnmklfaaDoor
