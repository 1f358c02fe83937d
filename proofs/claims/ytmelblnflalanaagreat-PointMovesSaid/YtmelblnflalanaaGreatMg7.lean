/- Texts of ours, laid together: Bh, Vp, Jh, Vt, Vu, Vv, Vw. -/
import Derived.Deep.DeepCutAuto
import Derived.Test.YtmelblnflalanaaGreatMg6
/- Holds of the program: of whatever bound and fraction. -/
namespace Go.Proofs.YtmelblnflalanaaGreat
open Go Go.RowKit
set_option linter.unusedVariables false
set_option linter.unusedSimpArgs false

set_option maxRecDepth 100000 in
set_option maxHeartbeats 1000000 in
/-- The product of a number of a bound and of one above 0, in two words. -/
theorem product_any (v d : Int) (w : World) (hv0 : -268435456 ≤ v) (hv1 : v ≤ 268435456) (hd0 : 1 ≤ d) (hd1 : d ≤ 9223372036854775807) :
    Calls Tryz.prog 101 #[.int .i64 v, .int .i64 d] w fun e w' => e = .returned (.tuple #[.int .i64 (v * d / 18446744073709551616), .int .u64 (v * d % 18446744073709551616)]) ∧ w = w' := by
  have hP0 : -2475880078570760549798248448 ≤ v * d ∧ v * d ≤ 2475880078570760549798248448 := by
    have e1 : -(268435456 * d) ≤ v * d := by
      have := Int.mul_le_mul_of_nonneg_right hv0 (show (0 : Int) ≤ d by omega)
      rw [Int.neg_mul] at this
      exact this
    have e2 : v * d ≤ 268435456 * d := Int.mul_le_mul_of_nonneg_right hv1 (by omega)
    omega
  obtain ⟨D, hD⟩ : ∃ D : Nat, d = D := ⟨d.toNat, by omega⟩
  subst hD
  by_cases hn : v < 0
  · obtain ⟨V, hV⟩ : ∃ V : Nat, v + 18446744073709551616 = V := ⟨(v + 18446744073709551616).toNat, by omega⟩
    have HM := Lib.hid (fun w => mul64_any V D (by omega) (by omega) w)
    have hVD : ((V * D : Nat) : Int) = v * D + 18446744073709551616 * D := by
      rw [Int.natCast_mul, ← hV, Int.add_mul]
    obtain ⟨P, hP⟩ : ∃ P, P = v * (D : Int) := ⟨_, rfl⟩
    rw [← hP] at hVD hP0 ⊢
    obtain ⟨Q, hQ⟩ : ∃ Q, Q = V * D := ⟨_, rfl⟩
    rw [← hQ] at hVD HM
    clear hP hQ
    have g0 : IntKind.u64.wrap v = (V : Int) := by rw [IntKind.wrap_u64]; omega
    have g1 : IntKind.u64.wrap (D : Int) = (D : Int) := by rw [IntKind.wrap_u64]; omega
    have g2 : IntKind.i64.wrap (IntKind.u64.wrap (((Q / 18446744073709551616 : Nat) : Int) - D)) = P / 18446744073709551616 := by rw [IntKind.wrap_u64, IntKind.wrap_i64]; omega
    have g3 : ((Q % 18446744073709551616 : Nat) : Int) = P % 18446744073709551616 := by omega
    have d1 : decide (v < 0) = true := decide_eq_true hn
    have d2 : decide ((D : Int) < 0) = false := decide_eq_false (by omega)
    rw [g3] at HM
    obtain ⟨h, hh⟩ : ∃ h, h = ((Q / 18446744073709551616 : Nat) : Int) := ⟨_, rfl⟩
    rw [← hh] at HM g2
    obtain ⟨u, hu⟩ : ∃ u, u = P % 18446744073709551616 := ⟨_, rfl⟩
    rw [← hu] at HM ⊢
    obtain ⟨z, hz⟩ : ∃ z, z = P / 18446744073709551616 := ⟨_, rfl⟩
    rw [← hz] at g2 ⊢
    clear g3 hVD hP0 hu hh hV hz hv0 hv1 hd0 hd1
    have hd : ¬ (D : Int) < 0 := by omega
    go_enter Tryz.func101, Tryz.ntmps101
    go_wp2_with fail
    refine (HM.out _).mono ?_
    rintro e w' ⟨rfl, rfl⟩
    go_wp2
    go_ret2
    exact ⟨by simp [g2], rfl⟩
  · obtain ⟨V, hV⟩ : ∃ V : Nat, v = V := ⟨v.toNat, by omega⟩
    subst hV
    have HM := Lib.hid (fun w => mul64_any V D (by omega) (by omega) w)
    have hVD : ((V * D : Nat) : Int) = (V : Int) * D := Int.natCast_mul _ _
    rw [← hVD] at hP0 ⊢
    obtain ⟨Q, hQ⟩ : ∃ Q, Q = V * D := ⟨_, rfl⟩
    rw [← hQ] at hP0 HM ⊢
    have g0 : IntKind.u64.wrap (V : Int) = (V : Int) := by rw [IntKind.wrap_u64]; omega
    have g1 : IntKind.u64.wrap (D : Int) = (D : Int) := by rw [IntKind.wrap_u64]; omega
    have g2 : IntKind.i64.wrap ((Q / 18446744073709551616 : Nat) : Int) = (Q : Int) / 18446744073709551616 := by rw [IntKind.wrap_i64]; omega
    have g3 : ((Q % 18446744073709551616 : Nat) : Int) = (Q : Int) % 18446744073709551616 := by omega
    rw [g3] at HM
    obtain ⟨h, hh⟩ : ∃ h, h = ((Q / 18446744073709551616 : Nat) : Int) := ⟨_, rfl⟩
    rw [← hh] at HM g2
    obtain ⟨u, hu⟩ : ∃ u, u = (Q : Int) % 18446744073709551616 := ⟨_, rfl⟩
    rw [← hu] at HM ⊢
    obtain ⟨z, hz⟩ : ∃ z, z = (Q : Int) / 18446744073709551616 := ⟨_, rfl⟩
    rw [← hz] at g2 ⊢
    have hd : ¬ (D : Int) < 0 := by omega
    clear g3 hVD hP0 hu hh hz hv0 hv1 hd0 hd1 hQ
    go_enter Tryz.func101, Tryz.ntmps101
    go_wp2_with fail
    refine (HM.out _).mono ?_
    rintro e w' ⟨rfl, rfl⟩
    go_wp2
    go_ret2
    exact ⟨by simp [g2], rfl⟩

/-- Two numbers held against one another by their words. -/
theorem words_lt (x P r : Int) (hx0 : -9223372036854775808 ≤ x) (hx1 : x ≤ 9223372036854775807) (hr : r = 0 ∨ r = 1) :
    decide (x < P + r) = (if (if x < 0 then -1 else 0) ≠ P / 18446744073709551616 then decide ((if x < 0 then -1 else 0 : Int) < P / 18446744073709551616)
      else (decide (x % 18446744073709551616 < P % 18446744073709551616) || (decide (x % 18446744073709551616 = P % 18446744073709551616) && decide (r = 1)))) := by
  by_cases hn : x < 0
  · rw [if_pos hn]
    by_cases hh : (-1 : Int) = P / 18446744073709551616
    · rw [if_neg (by simp [hh])]
      by_cases c : x % 18446744073709551616 < P % 18446744073709551616
      · rw [decide_eq_true c, decide_eq_true (by omega)]; rfl
      · rw [decide_eq_false c, Bool.false_or]
        by_cases c2 : x % 18446744073709551616 = P % 18446744073709551616
        · rw [decide_eq_true c2, Bool.true_and]
          by_cases c3 : r = 1
          · rw [decide_eq_true c3, decide_eq_true (by omega)]
          · rw [decide_eq_false c3, decide_eq_false (by omega)]
        · rw [decide_eq_false c2, Bool.false_and, decide_eq_false (by omega)]
    · rw [if_pos hh]
      by_cases c : (-1 : Int) < P / 18446744073709551616
      · rw [decide_eq_true c, decide_eq_true (by omega)]
      · rw [decide_eq_false c, decide_eq_false (by omega)]
  · rw [if_neg hn]
    by_cases hh : (0 : Int) = P / 18446744073709551616
    · rw [if_neg (by simp [← hh])]
      by_cases c : x % 18446744073709551616 < P % 18446744073709551616
      · rw [decide_eq_true c, decide_eq_true (by omega)]; rfl
      · rw [decide_eq_false c, Bool.false_or]
        by_cases c2 : x % 18446744073709551616 = P % 18446744073709551616
        · rw [decide_eq_true c2, Bool.true_and]
          by_cases c3 : r = 1
          · rw [decide_eq_true c3, decide_eq_true (by omega)]
          · rw [decide_eq_false c3, decide_eq_false (by omega)]
        · rw [decide_eq_false c2, Bool.false_and, decide_eq_false (by omega)]
    · rw [if_pos hh]
      by_cases c : (0 : Int) < P / 18446744073709551616
      · rw [decide_eq_true c, decide_eq_true (by omega)]
      · rw [decide_eq_false c, decide_eq_false (by omega)]

set_option maxRecDepth 100000 in
set_option maxHeartbeats 1000000 in
theorem holds_any (b x d : Int) (w : World) (hx0 : -9223372036854775808 ≤ x) (hx1 : x ≤ 9223372036854775807) (hd1 : d ≤ 9223372036854775807) :
    Calls Tryz.prog 64 #[.int .i32 b, .int .i64 x, .int .i64 d] w fun e w' => e = .returned (.bool (keepsB b x d)) ∧ w = w' := by
  by_cases h : someB b = true
  · have HV := Lib.hid (fun w => value_yes b w h)
    obtain ⟨hr, hn⟩ : rightB b = true ∧ b ≠ 2147483647 := by simpa [someB] using h
    have hbd := rightB_bd hr hn
    have t1 : (b != 2147483647) = true := by simp [hn]
    by_cases hd : d < 1
    · rw [show keepsB b x d = false from decide_eq_false (by omega)]
      clear hr hn hbd h
      obtain ⟨q, hq⟩ : ∃ q, q = b / 2 := ⟨_, rfl⟩
      obtain ⟨z, hz⟩ : ∃ z, z = decide (b % 2 = 1) := ⟨_, rfl⟩
      rw [← hq, ← hz] at HV
      clear hq hz
      go_enter Tryz.func64, Tryz.ntmps64
      go_wp2_with fail
      refine (HV.out _).mono ?_
      rintro e w' ⟨rfl, rfl⟩
      go_wp2
      go_ret
      exact ⟨rfl, rfl⟩
    · have hk : keepsB b x d = decide (x < b / 2 * d + b % 2) := by
        unfold keepsB
        congr 1
        simp [h, hn]
        omega
      have HP := Lib.hid (fun w => product_any (b / 2) d w (by omega) (by omega) (by omega) hd1)
      have hw := words_lt x (b / 2 * d) (b % 2) hx0 hx1 (by omega)
      rw [hk, hw]
      generalize b / 2 * d = P at *
      obtain ⟨q, hq⟩ : ∃ q, q = b / 2 := ⟨_, rfl⟩
      obtain ⟨z, hz⟩ : ∃ z, z = decide (b % 2 = 1) := ⟨_, rfl⟩
      rw [← hq, ← hz] at HV
      rw [← hq] at HP
      have hz' : decide (b % 2 = 1) = z := hz.symm
      generalize P / 18446744073709551616 = ph at *
      generalize P % 18446744073709551616 = pl at *
      have g0 : IntKind.u64.wrap x = x % 18446744073709551616 := by rw [IntKind.wrap_u64]
      generalize x % 18446744073709551616 = xl at *
      clear hr hn hbd h hk hw hq hz t1
      have hd' : ¬ d < 1 := hd
      by_cases hn : x < 0
      · rw [if_pos hn]
        by_cases hh : (-1 : Int) = ph
        · subst hh
          rw [if_neg (by simp)]
          by_cases c : xl < pl
          · rw [decide_eq_true c, Bool.true_or]
            go_enter Tryz.func64, Tryz.ntmps64
            go_wp2_with fail
            refine (HV.out _).mono ?_
            rintro e w' ⟨rfl, rfl⟩
            go_wp2_with fail
            refine (HP.out _).mono ?_
            rintro e w' ⟨rfl, rfl⟩
            go_wp2
            go_ret
            exact ⟨by first | rfl | simp [*], rfl⟩
          · rw [decide_eq_false c, Bool.false_or]
            by_cases c2 : xl = pl
            · subst c2
              rw [decide_eq_true rfl, Bool.true_and, hz']
              cases z
              · go_enter Tryz.func64, Tryz.ntmps64
                go_wp2_with fail
                refine (HV.out _).mono ?_
                rintro e w' ⟨rfl, rfl⟩
                go_wp2_with fail
                refine (HP.out _).mono ?_
                rintro e w' ⟨rfl, rfl⟩
                go_wp2
                go_ret
                exact ⟨by first | rfl | simp [*], rfl⟩
              · go_enter Tryz.func64, Tryz.ntmps64
                go_wp2_with fail
                refine (HV.out _).mono ?_
                rintro e w' ⟨rfl, rfl⟩
                go_wp2_with fail
                refine (HP.out _).mono ?_
                rintro e w' ⟨rfl, rfl⟩
                go_wp2
                go_ret
                exact ⟨by first | rfl | simp [*], rfl⟩
            · rw [decide_eq_false c2, Bool.false_and]
              have t2 : (xl == pl) = false := by simp [c2]
              go_enter Tryz.func64, Tryz.ntmps64
              go_wp2_with fail
              refine (HV.out _).mono ?_
              rintro e w' ⟨rfl, rfl⟩
              go_wp2_with fail
              refine (HP.out _).mono ?_
              rintro e w' ⟨rfl, rfl⟩
              go_wp2
              go_ret
              exact ⟨by first | rfl | simp [*], rfl⟩
        · rw [if_pos hh]
          have t2 : ((-1 : Int) != ph) = true := by simp [hh]
          obtain ⟨u, hu⟩ : ∃ u, u = decide ((-1 : Int) < ph) := ⟨_, rfl⟩
          go_enter Tryz.func64, Tryz.ntmps64
          go_wp2_with fail
          refine (HV.out _).mono ?_
          rintro e w' ⟨rfl, rfl⟩
          go_wp2_with fail
          refine (HP.out _).mono ?_
          rintro e w' ⟨rfl, rfl⟩
          go_wp2
          go_ret
          exact ⟨by first | rfl | simp [*], rfl⟩
      · rw [if_neg hn]
        by_cases hh : (0 : Int) = ph
        · subst hh
          rw [if_neg (by simp)]
          by_cases c : xl < pl
          · rw [decide_eq_true c, Bool.true_or]
            go_enter Tryz.func64, Tryz.ntmps64
            go_wp2_with fail
            refine (HV.out _).mono ?_
            rintro e w' ⟨rfl, rfl⟩
            go_wp2_with fail
            refine (HP.out _).mono ?_
            rintro e w' ⟨rfl, rfl⟩
            go_wp2
            go_ret
            exact ⟨by first | rfl | simp [*], rfl⟩
          · rw [decide_eq_false c, Bool.false_or]
            by_cases c2 : xl = pl
            · subst c2
              rw [decide_eq_true rfl, Bool.true_and, hz']
              cases z
              · go_enter Tryz.func64, Tryz.ntmps64
                go_wp2_with fail
                refine (HV.out _).mono ?_
                rintro e w' ⟨rfl, rfl⟩
                go_wp2_with fail
                refine (HP.out _).mono ?_
                rintro e w' ⟨rfl, rfl⟩
                go_wp2
                go_ret
                exact ⟨by first | rfl | simp [*], rfl⟩
              · go_enter Tryz.func64, Tryz.ntmps64
                go_wp2_with fail
                refine (HV.out _).mono ?_
                rintro e w' ⟨rfl, rfl⟩
                go_wp2_with fail
                refine (HP.out _).mono ?_
                rintro e w' ⟨rfl, rfl⟩
                go_wp2
                go_ret
                exact ⟨by first | rfl | simp [*], rfl⟩
            · rw [decide_eq_false c2, Bool.false_and]
              have t2 : (xl == pl) = false := by simp [c2]
              go_enter Tryz.func64, Tryz.ntmps64
              go_wp2_with fail
              refine (HV.out _).mono ?_
              rintro e w' ⟨rfl, rfl⟩
              go_wp2_with fail
              refine (HP.out _).mono ?_
              rintro e w' ⟨rfl, rfl⟩
              go_wp2
              go_ret
              exact ⟨by first | rfl | simp [*], rfl⟩
        · rw [if_pos hh]
          have t2 : ((0 : Int) != ph) = true := by simp [hh]
          obtain ⟨u, hu⟩ : ∃ u, u = decide ((0 : Int) < ph) := ⟨_, rfl⟩
          go_enter Tryz.func64, Tryz.ntmps64
          go_wp2_with fail
          refine (HV.out _).mono ?_
          rintro e w' ⟨rfl, rfl⟩
          go_wp2_with fail
          refine (HP.out _).mono ?_
          rintro e w' ⟨rfl, rfl⟩
          go_wp2
          go_ret
          exact ⟨by first | rfl | simp [*], rfl⟩
  · have h : someB b = false := by simpa using h
    have HV := Lib.hid (fun w => value_no b w h)
    by_cases hd : d < 1
    · rw [show keepsB b x d = false from decide_eq_false (by omega)]
      clear h
      go_enter Tryz.func64, Tryz.ntmps64
      go_wp2_with fail
      refine (HV.out _).mono ?_
      rintro e w' ⟨rfl, rfl⟩
      go_wp2
      go_ret
      exact ⟨rfl, rfl⟩
    · by_cases hn : b = 2147483647
      · subst hn
        rw [show keepsB 2147483647 x d = true from decide_eq_true ⟨by omega, .inl rfl⟩]
        clear h
        go_enter Tryz.func64, Tryz.ntmps64
        go_wp2_with fail
        refine (HV.out _).mono ?_
        rintro e w' ⟨rfl, rfl⟩
        go_wp2
        go_ret
        exact ⟨rfl, rfl⟩
      · rw [show keepsB b x d = false from decide_eq_false (by simp [h, hn])]
        have t1 : (b != 2147483647) = true := by simp [hn]
        clear h hn
        go_enter Tryz.func64, Tryz.ntmps64
        go_wp2_with fail
        refine (HV.out _).mono ?_
        rintro e w' ⟨rfl, rfl⟩
        go_wp2
        go_ret
        exact ⟨rfl, rfl⟩

end Go.Proofs.YtmelblnflalanaaGreat

/- Which of two fractions is greater, as rat holds them. -/
namespace Go.Proofs.YtmelblnflalanaaGreat
open Go Go.RowKit
set_option linter.unusedVariables false
set_option linter.unusedSimpArgs false

/-- Two fractions in blocks. -/
structure Rc2 (w0 : World) (x1 x2 y1 y2 : Int) (wr : World) : Prop where
  below : Below w0.heap.size w0 wr
  ha : wr.heap[w0.heap.size]? = some (.cells #[.int .i64 x1, .int .i64 x2] 24)
  hb : wr.heap[w0.heap.size + 1]? = some (.cells #[.int .i64 y1, .int .i64 y2] 24)
section
variable {w0 wr w' : World} {x1 x2 y1 y2 : Int}
theorem Rc2.step (h : Rc2 w0 x1 x2 y1 y2 wr) (hb : Below wr.heap.size wr w') : Rc2 w0 x1 x2 y1 y2 w' :=
  ⟨h.below.trans (hb.mono h.below.size), heap_keep h.ha hb, heap_keep h.hb hb⟩
theorem Rc2.drew (h : Rc2 w0 x1 x2 y1 y2 wr) : Rc2 w0 x1 x2 y1 y2 wr.drew := ⟨Below.drew h.below, h.ha, h.hb⟩
theorem Rc2.four (h : Rc2 w0 x1 x2 y1 y2 wr) : wr.cell? ⟨w0.heap.size, 0, none⟩ = some (.int .i64 x1) ∧ wr.cell? ⟨w0.heap.size, 1, none⟩ = some (.int .i64 x2) ∧ wr.cell? ⟨w0.heap.size + 1, 0, none⟩ = some (.int .i64 y1) ∧ wr.cell? ⟨w0.heap.size + 1, 1, none⟩ = some (.int .i64 y2) := by
  obtain ⟨a1, a2, _, _⟩ := cell_two h.ha
  obtain ⟨b1, b2, _, _⟩ := cell_two h.hb
  exact ⟨a1, a2, b1, b2⟩
end
theorem Rc2.fourX {w0 wr : World} {x1 x2 y1 y2 : Int} (h : Rc2 w0 x1 x2 y1 y2 wr) {g : Nat} (hg : w0.heap.size + 1 < g) (x y z : Value) :
    (((wr.setCell ⟨g, 0, none⟩ x).setCell ⟨g, 1, none⟩ y).setCell ⟨g, 2, none⟩ z).cell? ⟨w0.heap.size, 0, none⟩ = some (.int .i64 x1) ∧ (((wr.setCell ⟨g, 0, none⟩ x).setCell ⟨g, 1, none⟩ y).setCell ⟨g, 2, none⟩ z).cell? ⟨w0.heap.size, 1, none⟩ = some (.int .i64 x2) ∧
    (((wr.setCell ⟨g, 0, none⟩ x).setCell ⟨g, 1, none⟩ y).setCell ⟨g, 2, none⟩ z).cell? ⟨w0.heap.size + 1, 0, none⟩ = some (.int .i64 y1) ∧ (((wr.setCell ⟨g, 0, none⟩ x).setCell ⟨g, 1, none⟩ y).setCell ⟨g, 2, none⟩ z).cell? ⟨w0.heap.size + 1, 1, none⟩ = some (.int .i64 y2) := by
  have e1 := heap_other (c := 2) (g := g) z (heap_other (c := 1) (g := g) y (heap_other (c := 0) (g := g) x h.ha (by omega)) (by omega)) (by omega)
  have e2 := heap_other (c := 2) (g := g) z (heap_other (c := 1) (g := g) y (heap_other (c := 0) (g := g) x h.hb (by omega)) (by omega)) (by omega)
  obtain ⟨a1, a2, _, _⟩ := cell_two e1
  obtain ⟨b1, b2, _, _⟩ := cell_two e2
  exact ⟨a1, a2, b1, b2⟩
theorem Rc2.belowX {w0 wr : World} {x1 x2 y1 y2 : Int} (h : Rc2 w0 x1 x2 y1 y2 wr) {g : Nat} (hg : w0.heap.size + 1 < g) (x y z : Value) : Below w0.heap.size w0 (((wr.setCell ⟨g, 0, none⟩ x).setCell ⟨g, 1, none⟩ y).setCell ⟨g, 2, none⟩ z) := by
  have hl : w0.heap.size ≤ g := by omega
  exact ((h.below.setCell (p := ⟨g, 0, none⟩) hl _).setCell (p := ⟨g, 1, none⟩) hl _).setCell (p := ⟨g, 2, none⟩) hl _
theorem Rc2.made (w : World) (x1 x2 y1 y2 : Int) : Rc2 w x1 x2 y1 y2 ((w.alloc (.cells #[.int .i64 x1, .int .i64 x2] 24)).alloc (.cells #[.int .i64 y1, .int .i64 y2] 24)) := by
  obtain ⟨h1, h2⟩ := two_fr w (.cells #[.int .i64 x1, .int .i64 x2] 24) (.cells #[.int .i64 y1, .int .i64 y2] 24)
  exact ⟨below_two _ _ _, h1, h2⟩
theorem cmpI_neg {x : Int} (h : x < 0) : cmpQI x = -1 := by unfold cmpQI; rw [if_pos h]
theorem cmpI_zero : cmpQI 0 = 0 := rfl
theorem cmpI_pos {x : Int} (h : 0 < x) : cmpQI x = 1 := by unfold cmpQI; rw [if_neg (by omega), if_neg (by omega)]

set_option maxRecDepth 100000 in
set_option maxHeartbeats 8000000 in
theorem compare_any (x1 x2 y1 y2 : Int) (hx1 : I64 x1) (hx2 : I64 x2) (hy1 : I64 y1) (hy2 : I64 y2) (w : World) :
    Calls Tryz.prog 81 #[.agg #[.int .i64 x1, .int .i64 x2], .agg #[.int .i64 y1, .int .i64 y2]] w fun e w' => e = .returned (.int .i64 (cmpP (x1, x2) (y1, y2))) ∧ Below w.heap.size w w' := by
  have HBO := Lib.hid (fun W => both_any x1 x2 y1 y2 hx1 hx2 hy1 hy2 W)
  have HA1 := Lib.hid (show (rightR (x1, x2) && rightR (y1, y2)) = true → cmpP (x1, x2) (y1, y2) = cmpQI (x1 * y2 - y1 * x2) from fun h => by unfold cmpP; rw [if_pos h])
  have HA0 := Lib.hid (show (rightR (x1, x2) && rightR (y1, y2)) = false → cmpP (x1, x2) (y1, y2) = 0 from fun h => by unfold cmpP; rw [if_neg (by rw [h]; decide)])
  obtain ⟨AP, hAP⟩ : ∃ AP, AP = cmpP (x1, x2) (y1, y2) := ⟨_, rfl⟩
  obtain ⟨rb, hrb⟩ : ∃ rb, rb = (rightR (x1, x2) && rightR (y1, y2)) := ⟨_, rfl⟩
  rw [← hAP] at HA1 HA0 ⊢
  rw [← hrb] at HA1 HA0 HBO
  clear hAP hrb
  have HT1 := Lib.hid (fun W => times_any x1 y2 hx1 hy2 W)
  have HT2 := Lib.hid (fun W => times_any y1 x2 hy1 hx2 W)
  have HOP := Lib.hid (fun W => opposite_any (y1 * x2) W)
  have HSU := Lib.hid (fun W => sumq_any (x1 * y2) (-(y1 * x2)) W (prod_abs hx1 hy2) (by rw [Int.natAbs_neg]; exact prod_abs hy1 hx2))
  rw [show x1 * y2 + -(y1 * x2) = x1 * y2 - y1 * x2 from rfl] at HSU
  obtain ⟨X, hX⟩ : ∃ X, X = x1 * y2 - y1 * x2 := ⟨_, rfl⟩
  rw [← hX] at HSU HA1
  have HSU : Hid (∀ W, Calls Tryz.prog 58 #[wdV (x1 * y2), wdV (-(y1 * x2))] W fun e w' => e = .returned (.agg #[.int .u64 (hiN X.natAbs), .int .u64 (loN X.natAbs), .bool (decide (X < 0))]) ∧ Below W.heap.size W w') := HSU
  have HSZ : Hid (∀ W, Calls Tryz.prog 88 #[.agg #[.int .u64 (hiN X.natAbs), .int .u64 (loN X.natAbs)]] W fun e w' => e = .returned (.bool (decide (X.natAbs = 0))) ∧ Below W.heap.size W w') := Lib.hid (fun W => szero_any X.natAbs W)
  have HW := Lib.hid (Rc2.made w x1 x2 y1 y2)
  clear hX hx1 hx2 hy1 hy2
  go_enter Tryz.func81, Tryz.ntmps81
  go_upto_region 1 with fail
  generalize (w.alloc (.cells #[.int .i64 x1, .int .i64 x2] 24)).alloc (.cells #[.int .i64 y1, .int .i64 y2] 24) = w1 at *
  obtain ⟨k1, k2, k3, k4⟩ := HW.out.four
  go_wp2_with fail
  refine (HBO.out _).mono ?_
  rintro e w2 ⟨rfl, hb⟩
  have HW2 := Lib.hid (HW.out.step hb)
  clear hb HW HBO k1 k2 k3 k4
  cases rb with
  | false =>
    go_wp2
    go_ret
    exact ⟨by rw [HA0.out (by simp)]; rfl, HW2.out.below⟩
  | true =>
    have HE := Lib.hid (HA1.out (by simp))
    clear HA1 HA0
    go_upto_region 3 with fail
    go_cut [5] (fun s5 wx => ∃ g : Nat, s5 = .pointer (some ⟨g, 0, none⟩) ∧ Hid (wx.heap[g]? = some (.cells #[.int .u64 (hiN X.natAbs), .int .u64 (loN X.natAbs), .bool (decide (X < 0))] 92)) ∧ Hid (Below w.heap.size w wx))
    case first =>
      have kb := HW2.out.drew
      go_region_held3 (fun wr => wr.cell? ⟨w.heap.size, 0, none⟩ = some (.int .i64 x1) ∧ wr.cell? ⟨w.heap.size, 1, none⟩ = some (.int .i64 x2) ∧ wr.cell? ⟨w.heap.size + 1, 0, none⟩ = some (.int .i64 y1) ∧ wr.cell? ⟨w.heap.size + 1, 1, none⟩ = some (.int .i64 y2))
        (first | exact kb.four | exact (kb.step (below_one v7 _)).four | exact kb.fourX hlt _ _ _ | exact (kb.step (below_one _ _)).four | go_keep)
        (first | (go_at_call_of 57 x1; refine (HT1.out _).mono ?_; rintro e v1 ⟨rfl, hb⟩; have hz := heap_keep hz hb; have kb := kb.step hb; obtain ⟨z1, z2, z3, z4⟩ := cell_three hz; obtain ⟨z5, z6, z7⟩ := three_frozen hz; clear hb) | (go_at_call_of 57 x1; refine (HT1.out _).mono ?_; rintro e v1 ⟨rfl, hb⟩; have kb := kb.step hb; clear hb) | (go_at_call_of 57 x1; refine (HT1.out _).mono ?_; rintro e v1 ⟨rfl, hb⟩; have hlt := heap_lt2 kb.hb; have hz := heap_keep (heap_alloc_new _ _) hb; have kb := (kb.step (below_one _ _)).step hb; obtain ⟨z1, z2, z3, z4⟩ := cell_three hz; obtain ⟨z5, z6, z7⟩ := three_frozen hz; clear hb) | (go_at_call_of 57 x1; refine (HT1.out _).mono ?_; rintro e v1 ⟨rfl, hb⟩; have hlt := heap_lt2 HW2.out.hb; have hz := heap_keep (w := (w2.alloc _).drew) (heap_alloc_new w2 _) hb; have kb := (HW2.out.step (below_one w2 _)).drew.step hb; obtain ⟨z1, z2, z3, z4⟩ := cell_three hz; obtain ⟨z5, z6, z7⟩ := three_frozen hz; clear hb) | (go_at_call_of 57 y1; refine (HT2.out _).mono ?_; rintro e v2 ⟨rfl, hb⟩; have hz := heap_keep hz hb; have kb := kb.step hb; obtain ⟨z1, z2, z3, z4⟩ := cell_three hz; obtain ⟨z5, z6, z7⟩ := three_frozen hz; clear hb) | (go_at_call_of 57 y1; refine (HT2.out _).mono ?_; rintro e v2 ⟨rfl, hb⟩; have kb := kb.step hb; clear hb) | (go_at_call_of 57 y1; refine (HT2.out _).mono ?_; rintro e v2 ⟨rfl, hb⟩; have hlt := heap_lt2 kb.hb; have hz := heap_keep (heap_alloc_new _ _) hb; have kb := (kb.step (below_one _ _)).step hb; obtain ⟨z1, z2, z3, z4⟩ := cell_three hz; obtain ⟨z5, z6, z7⟩ := three_frozen hz; clear hb) | (go_at_call_of 57 y1; refine (HT2.out _).mono ?_; rintro e v2 ⟨rfl, hb⟩; have hlt := heap_lt2 HW2.out.hb; have hz := heap_keep (w := (w2.alloc _).drew) (heap_alloc_new w2 _) hb; have kb := (HW2.out.step (below_one w2 _)).drew.step hb; obtain ⟨z1, z2, z3, z4⟩ := cell_three hz; obtain ⟨z5, z6, z7⟩ := three_frozen hz; clear hb) | (go_at_call 58; refine (HSU.out _).mono ?_; rintro e v7 ⟨rfl, hb⟩; have hz := heap_keep hz hb; have kb := kb.step hb; obtain ⟨z1, z2, z3, z4⟩ := cell_three hz; obtain ⟨z5, z6, z7⟩ := three_frozen hz; clear hb) | (go_at_call 58; refine (HSU.out _).mono ?_; rintro e v7 ⟨rfl, hb⟩; have kb := kb.step hb; clear hb) | (go_at_call 58; refine (HSU.out _).mono ?_; rintro e v7 ⟨rfl, hb⟩; have hlt := heap_lt2 kb.hb; have hz := heap_keep (heap_alloc_new _ _) hb; have kb := (kb.step (below_one _ _)).step hb; obtain ⟨z1, z2, z3, z4⟩ := cell_three hz; obtain ⟨z5, z6, z7⟩ := three_frozen hz; clear hb) | (go_at_call 100; refine (HOP.out _).mono ?_; rintro e v8 ⟨rfl, hb⟩; have hz := heap_keep hz hb; have kb := kb.step hb; obtain ⟨z1, z2, z3, z4⟩ := cell_three hz; obtain ⟨z5, z6, z7⟩ := three_frozen hz; clear hb) | (go_at_call 100; refine (HOP.out _).mono ?_; rintro e v8 ⟨rfl, hb⟩; have kb := kb.step hb; clear hb) | (go_at_call 100; refine (HOP.out _).mono ?_; rintro e v8 ⟨rfl, hb⟩; have hlt := heap_lt2 kb.hb; have hz := heap_keep (heap_alloc_new _ _) hb; have kb := (kb.step (below_one _ _)).step hb; obtain ⟨z1, z2, z3, z4⟩ := cell_three hz; obtain ⟨z5, z6, z7⟩ := three_frozen hz; clear hb))
      all_goals
        first
          | (have HX := Lib.hid (three_set hz (.int .u64 (hiN X.natAbs)) (.int .u64 (loN X.natAbs)) (.bool (decide (X < 0))))
             have HY := Lib.hid (kb.belowX hlt (.int .u64 (hiN X.natAbs)) (.int .u64 (loN X.natAbs)) (.bool (decide (X < 0))))
             go_wp2_with fail
             go_meet
             exact ⟨_, rfl, HX, HY⟩)
          | (have HX := Lib.hid (heap_alloc_new v7 (.cells #[.int .u64 (hiN X.natAbs), .int .u64 (loN X.natAbs), .bool (decide (X < 0))] 92))
             have HY := Lib.hid (kb.step (below_one v7 (.cells #[.int .u64 (hiN X.natAbs), .int .u64 (loN X.natAbs), .bool (decide (X < 0))] 92))).below
             go_wp2_with fail
             go_meet
             exact ⟨_, rfl, HX, HY⟩)
    case rest =>
      obtain ⟨g, rfl, H5, HB⟩ := hcut
      obtain ⟨c1, c2, c3, _⟩ := cell_three H5.out
      go_wp2_with fail
      refine (HSZ.out _).mono ?_
      rintro e w4 ⟨rfl, hb⟩
      have H6 := Lib.hid (heap_keep H5.out hb)
      have HB4 := Lib.hid (HB.out.trans (hb.mono HB.out.size))
      clear hb c1 c2 c3 H5 HB
      obtain ⟨c1, c2, c3, _⟩ := cell_three H6.out
      rcases Int.lt_trichotomy X 0 with hx | hx | hx
      · have d1 : decide (X.natAbs = 0) = false := decide_eq_false (by omega)
        have d2 : decide (X < 0) = true := decide_eq_true hx
        have HR := Lib.hid (HE.out.trans (cmpI_neg hx))
        rw [d1]
        rw [d2] at c3
        clear hx HE d1 d2
        go_wp2
        go_ret
        exact ⟨by rw [HR.out]; rfl, HB4.out⟩
      · have d1 : decide (X.natAbs = 0) = true := decide_eq_true (by omega)
        have HR := Lib.hid (show AP = 0 by rw [HE.out, hx]; rfl)
        rw [d1]
        clear hx HE d1
        go_wp2
        go_ret
        exact ⟨by rw [HR.out]; rfl, HB4.out⟩
      · have d1 : decide (X.natAbs = 0) = false := decide_eq_false (by omega)
        have d2 : decide (X < 0) = false := decide_eq_false (by omega)
        have HR := Lib.hid (HE.out.trans (cmpI_pos hx))
        rw [d1]
        rw [d2] at c3
        clear hx HE d1 d2
        go_wp2
        go_ret
        exact ⟨by rw [HR.out]; rfl, HB4.out⟩

end Go.Proofs.YtmelblnflalanaaGreat

/- A clock's value, and whether a difference keeps a bound, as point tells them. -/
namespace Go.Proofs.YtmelblnflalanaaGreat
open Go Go.RowKit
set_option linter.unusedVariables false
set_option linter.unusedSimpArgs false

theorem clock64 {l : List (Int × Int)} (h : All64v l) {i : Nat} (hi : i ≤ l.length) : I64 (clockV l i).1 ∧ I64 (clockV l i).2 := by
  unfold clockV
  split
  · exact ⟨⟨by decide, by decide⟩, ⟨by decide, by decide⟩⟩
  · exact h (i - 1) (by omega)

set_option maxRecDepth 100000 in
set_option maxHeartbeats 1000000 in
theorem at_val (A : Option Addr) (c : Nat) (l : List (Int × Int)) (i : Nat) (hi : i ≤ l.length) (hmax : l.length ≤ 8796093022000) (w : World) (hI : RatsA w A l) :
    Calls Tryz.prog 29 #[.slice A l.length c, .int .i64 i] w fun e w' => e = .returned (.agg #[.int .i64 (clockV l i).1, .int .i64 (clockV l i).2]) ∧ Below w.heap.size w w' := by
  have K := Lib.hid ((Blx.start w).new #[.int .i64 0, .int .i64 0] 24)
  by_cases h0 : i = 0
  · subst h0
    have HO := Lib.hid (fun W => rof2_any 0 W)
    rw [show clockV l 0 = (0, 1) from rfl]
    clear hI hi hmax
    go_enter Tryz.func29, Tryz.ntmps29
    go_upto_block 0 with fail
    generalize w.alloc (.cells #[.int .i64 0, .int .i64 0] 24) = w1 at *
    go_wp2_with fail
    refine (HO.out _).mono ?_
    rintro e w2 ⟨rfl, hb⟩
    replace K := Lib.hid (K.out.step hb)
    clear hb
    obtain ⟨k1, k2, k3, k4⟩ := K.out.cells2 0 rfl
    replace K := Lib.hid ((K.out.set 0 rfl 0 (.int .i64 0)).set 0 rfl 1 (.int .i64 1))
    go_wp2
    refine bodyPost_ret (results_cell_row (fn := Tryz.f29) rfl _ _ w.heap.size _ _ _ _ rfl (K.out.l _ (List.mem_singleton.2 rfl)) Tryz.underlying24 rfl (by kernel_rfl)) rfl ?_
    exact ⟨rfl, K.out.below⟩
  · have e0 : ((i : Int) == 0) = false := by simp; omega
    have HI := Lib.hid hI
    obtain ⟨b, off, rfl, d1, d2⟩ := HI.out.below K.out.below (i - 1) (by omega)
    rw [show clockV l i = l.getD (i - 1) (0, 0) by unfold clockV; rw [if_neg h0]]
    obtain ⟨x, hx⟩ : ∃ q, q = l.getD (i - 1) (0, 0) := ⟨_, rfl⟩
    rw [← hx] at d1 d2 ⊢
    obtain ⟨x1, x2⟩ := x
    have f1 : IntKind.i64.wrap ((i : Int) - 1) = ((i - 1 : Nat) : Int) := by rw [IntWalk.i64_in _ (by omega)]; omega
    have f2 : ((i - 1 : Nat) : Int) < (l.length : Int) := by omega
    clear hx hI HI hi h0
    go_enter Tryz.func29, Tryz.ntmps29
    go_wp2
    refine bodyPost_ret (results_cell_row (fn := Tryz.f29) rfl _ _ w.heap.size _ _ _ _ rfl (heap_alloc_new _ _) Tryz.underlying24 rfl (by kernel_rfl)) rfl ?_
    exact ⟨rfl, below_one _ _⟩

/-- What wide tells by the difference of the whole parts, and which of the rests is greater. -/
def wideKP (k n c : Int) (r : Bool) : Bool := if k = n then (decide (c < 0) || (decide (c = 0) && r)) else decide (k < n)

def tbWideA (x1 x2 y1 y2 f g k : Int) (g1 g2 : Nat) : List (Nat × Nat × Value) :=
  [(0, 11, .agg #[.int .i64 x1, .int .i64 x2]), (1, 12, .int .i64 f), (2, 13, .agg #[.int .i64 y1, .int .i64 y2]), (3, 14, .int .i64 g), (4, 15, .int .i64 k), (5, 9, .int .i64 k)]
def bsWideA (x1 x2 y1 y2 f g k : Int) (g1 g2 : Nat) : List (Nat × Value) := [(4, .pointer (some ⟨g1, 0, none⟩)), (5, .pointer (some ⟨g2, 0, none⟩))]

def tbWideB (x1 x2 y1 y2 p1 p2 q1 q2 c k : Int) (g1 g2 : Nat) : List (Nat × Nat × Value) :=
  [(0, 16, .agg #[.int .i64 x1, .int .i64 x2]), (1, 17, .agg #[.int .i64 p1, .int .i64 p2]), (2, 18, .agg #[.int .i64 y1, .int .i64 y2]), (3, 19, .agg #[.int .i64 q1, .int .i64 q2]), (4, 20, .int .i64 c), (5, 10, .int .i64 c)]
def bsWideB (x1 x2 y1 y2 p1 p2 q1 q2 c k : Int) (g1 g2 : Nat) : List (Nat × Value) := [(4, .pointer (some ⟨g1, 0, none⟩)), (5, .pointer (some ⟨g2, 0, none⟩)), (9, .int .i64 k)]

set_option maxRecDepth 100000 in
set_option maxHeartbeats 8000000 in
theorem wideq_any (x1 x2 y1 y2 n : Int) (r : Bool) (hx1 : I64 x1) (hx2 : I64 x2) (hy1 : I64 y1) (hy2 : I64 y2) (h0 : 0 ≤ floorP (x1, x2)) (h1 : 0 ≤ floorP (y1, y2)) (hn : -268435456 ≤ n ∧ n ≤ 268435456) (w : World) :
    Calls Tryz.prog 65 #[.agg #[.int .i64 x1, .int .i64 x2], .agg #[.int .i64 y1, .int .i64 y2], .int .i64 n, .bool r] w fun e w' => e = .returned (.bool (wideKP (floorP (x1, x2) - floorP (y1, y2)) n (cmpP (partP (x1, x2)) (partP (y1, y2))) r)) ∧ Below w.heap.size w w' := by
  have HFX := Lib.hid (fun W => floor_any x1 x2 hx1 hx2 W)
  have HFY := Lib.hid (fun W => floor_any y1 y2 hy1 hy2 W)
  have HPX := Lib.hid (fun W => frac_any x1 x2 hx1 hx2 W)
  have HPY := Lib.hid (fun W => frac_any y1 y2 hy1 hy2 W)
  have px := part64 (r := (x1, x2)) hx1 hx2
  have py := part64 (r := (y1, y2)) hy1 hy2
  have f64 := floor64 (r := (x1, x2)) hx1
  have g64 := floor64 (r := (y1, y2)) hy1
  obtain ⟨f, hf⟩ : ∃ q, q = floorP (x1, x2) := ⟨_, rfl⟩
  obtain ⟨g, hg⟩ : ∃ q, q = floorP (y1, y2) := ⟨_, rfl⟩
  obtain ⟨p, hp⟩ : ∃ q, q = partP (x1, x2) := ⟨_, rfl⟩
  obtain ⟨q, hq⟩ : ∃ z, z = partP (y1, y2) := ⟨_, rfl⟩
  rw [← hf] at HFX h0 f64 ⊢
  rw [← hg] at HFY h1 g64 ⊢
  rw [← hp] at HPX px ⊢
  rw [← hq] at HPY py ⊢
  obtain ⟨p1, p2⟩ := p
  obtain ⟨q1, q2⟩ := q
  unfold rtV at HPX HPY
  have HC := Lib.hid (fun W => compare_any p1 p2 q1 q2 px.1 px.2 py.1 py.2 W)
  obtain ⟨c, hc⟩ : ∃ z, z = cmpP (p1, p2) (q1, q2) := ⟨_, rfl⟩
  rw [← hc] at HC ⊢
  obtain ⟨k, hk⟩ : ∃ z, z = f - g := ⟨_, rfl⟩
  have w1 : IntKind.i64.wrap (f - g) = k := by
    obtain ⟨_, _⟩ := f64
    obtain ⟨_, _⟩ := g64
    rw [IntWalk.i64_in _ (by omega)]; exact hk.symm
  have w2 : IntKind.i64.wrap (n + 1) = n + 1 := IntWalk.i64_in _ (by omega)
  have w3 : IntKind.i64.wrap (n - 1) = n - 1 := IntWalk.i64_in _ (by omega)
  rw [← hk]
  obtain ⟨R, hR⟩ : ∃ z, z = wideKP k n c r := ⟨_, rfl⟩
  rw [← hR]
  have HR := Lib.hid hR
  have K := Lib.hid (((Blx.start w).new #[.int .i64 x1, .int .i64 x2] 24).new #[.int .i64 y1, .int .i64 y2] 24)
  rw [show (w.alloc (.cells #[.int .i64 x1, .int .i64 x2] 24)).heap.size = w.heap.size + 1 by simp] at K
  clear hf hg hp hq hc hk hR h0 h1 f64 g64 px py hx1 hx2 hy1 hy2 hn
  go_enter Tryz.func65, Tryz.ntmps65
  go_upto_block 0 with fail
  generalize (w.alloc (.cells #[.int .i64 x1, .int .i64 x2] 24)).alloc (.cells #[.int .i64 y1, .int .i64 y2] 24) = wa at *
  simp only [List.cons_append, List.nil_append] at K
  go_upto_region 1 with fail
  refine wp_region_tab (by kernel_rfl) [4, 5, 11, 12, 13, 14, 15, 9] [[], [0], [], [1, 2], [1, 3], [0, 1, 2, 3, 4]]
    (fun L vals wx => Blx w [(w.heap.size, #[.int .i64 x1, .int .i64 x2], 24), (w.heap.size + 1, #[.int .i64 y1, .int .i64 y2], 24)] wx ∧ TabR (tbWideA x1 x2 y1 y2 f g k w.heap.size (w.heap.size + 1)) (bsWideA x1 x2 y1 y2 f g k w.heap.size (w.heap.size + 1)) L vals) (by kernel_rfl) rfl ?_ ?_ ?_
  · exact ⟨K.out.drew, TabR.start (by simp [bsWideA])⟩
  · intro i hi a L vals wx E hJ hLi hn K hK hK0
    obtain ⟨hI, hT⟩ := hJ
    match i, hi with
    | 0, _ => exact op_loadG rfl rfl rfl rfl Tryz.underlying24 rfl (by kernel_rfl) ((E 4 (by decide)).trans (hT.rd 0 rfl)) (hI.l (w.heap.size, #[.int .i64 x1, .int .i64 x2], 24) (by simp)) (hK 11 _ _ (by decide) ⟨hI, hT.set 0 rfl (by kernel_rfl) (by kernel_rfl)⟩)
    | 1, _ =>
      have e1 := (E 11 (by decide)).trans (hT.val 0 rfl (hn 0 (by decide)))
      exact op_goG rfl rfl rfl rfl Tryz.func102 (by kernel_rfl) rfl (by simp only [List.map_toArray, List.map_cons, List.map_nil, e1]) (HFX.out _) (fun w' hb => hK 12 _ _ (by decide) ⟨hI.step hb, hT.set 1 rfl (by kernel_rfl) (by kernel_rfl)⟩)
    | 2, _ => exact op_loadG rfl rfl rfl rfl Tryz.underlying24 rfl (by kernel_rfl) ((E 5 (by decide)).trans (hT.rd 1 rfl)) (hI.l (w.heap.size + 1, #[.int .i64 y1, .int .i64 y2], 24) (by simp)) (hK 13 _ _ (by decide) ⟨hI, hT.set 2 rfl (by kernel_rfl) (by kernel_rfl)⟩)
    | 3, _ =>
      have e1 := (E 13 (by decide)).trans (hT.val 2 rfl (hn 2 (by decide)))
      exact op_goG rfl rfl rfl rfl Tryz.func102 (by kernel_rfl) rfl (by simp only [List.map_toArray, List.map_cons, List.map_nil, e1]) (HFY.out _) (fun w' hb => hK 14 _ _ (by decide) ⟨hI.step hb, hT.set 3 rfl (by kernel_rfl) (by kernel_rfl)⟩)
    | 4, _ =>
      have e1 := (E 12 (by decide)).trans (hT.val 1 rfl (hn 1 (by decide)))
      have e2 := (E 14 (by decide)).trans (hT.val 3 rfl (hn 3 (by decide)))
      refine op_valueG (w' := wx) (v := .int .i64 k) rfl rfl rfl ?_ (hK 15 _ _ (by decide) ⟨hI, hT.set 4 rfl (by kernel_rfl) (by kernel_rfl)⟩)
      clear hK hK0 hT E
      revert e1 e2
      generalize a.eval = ρ
      intro e1 e2
      go_simp
    | 5, _ => exact op_assignG rfl rfl rfl rfl ((E 15 (by decide)).trans (hT.val 4 rfl (hn 4 (by decide)))) (hK 9 _ _ (by decide) ⟨hI, hT.set 5 rfl (by kernel_rfl) (by kernel_rfl)⟩)
    | k + 6, h => exact absurd (show k + 6 < 6 from h) (by omega)
  · intro L vals wx hJ hall
    obtain ⟨hI, hT⟩ := hJ
    have HI := Lib.hid hI
    have v4 : vals 4 = .pointer (some ⟨w.heap.size, 0, none⟩) := hT.rd 0 rfl
    have v5 : vals 5 = .pointer (some ⟨(w.heap.size + 1), 0, none⟩) := hT.rd 1 rfl
    have v9 : vals 9 = .int .i64 k := hT.val 5 rfl (hall 5 (by decide))
    simp only [overA, Act.put, List.setIfInBounds_toArray, List.set_cons_zero, List.set_cons_succ]
    rw [v4, v5, v9]
    clear hI hT hall v4 v5 v9
    replace K := HI
    clear HI
    generalize wx = wb at *
    go_upto_region 2 with fail
    refine wp_region_tab (by kernel_rfl) [4, 5, 9, 16, 17, 18, 19, 20, 10] [[], [0], [], [1, 2], [1, 3], [0, 1, 2, 3, 4]]
      (fun L vals wx => Blx w [(w.heap.size, #[.int .i64 x1, .int .i64 x2], 24), (w.heap.size + 1, #[.int .i64 y1, .int .i64 y2], 24)] wx ∧ TabR (tbWideB x1 x2 y1 y2 p1 p2 q1 q2 c k w.heap.size (w.heap.size + 1)) (bsWideB x1 x2 y1 y2 p1 p2 q1 q2 c k w.heap.size (w.heap.size + 1)) L vals) (by kernel_rfl) rfl ?_ ?_ ?_
    · exact ⟨K.out.drew, TabR.start (by simp [bsWideB])⟩
    · intro i hi a L vals wx E hJ hLi hn K hK hK0
      obtain ⟨hI, hT⟩ := hJ
      match i, hi with
      | 0, _ => exact op_loadG rfl rfl rfl rfl Tryz.underlying24 rfl (by kernel_rfl) ((E 4 (by decide)).trans (hT.rd 0 rfl)) (hI.l (w.heap.size, #[.int .i64 x1, .int .i64 x2], 24) (by simp)) (hK 16 _ _ (by decide) ⟨hI, hT.set 0 rfl (by kernel_rfl) (by kernel_rfl)⟩)
      | 1, _ =>
        have e1 := (E 16 (by decide)).trans (hT.val 0 rfl (hn 0 (by decide)))
        exact op_goG rfl rfl rfl rfl Tryz.func103 (by kernel_rfl) rfl (by simp only [List.map_toArray, List.map_cons, List.map_nil, e1]) (HPX.out _) (fun w' hb => hK 17 _ _ (by decide) ⟨hI.step hb, hT.set 1 rfl (by kernel_rfl) (by kernel_rfl)⟩)
      | 2, _ => exact op_loadG rfl rfl rfl rfl Tryz.underlying24 rfl (by kernel_rfl) ((E 5 (by decide)).trans (hT.rd 1 rfl)) (hI.l (w.heap.size + 1, #[.int .i64 y1, .int .i64 y2], 24) (by simp)) (hK 18 _ _ (by decide) ⟨hI, hT.set 2 rfl (by kernel_rfl) (by kernel_rfl)⟩)
      | 3, _ =>
        have e1 := (E 18 (by decide)).trans (hT.val 2 rfl (hn 2 (by decide)))
        exact op_goG rfl rfl rfl rfl Tryz.func103 (by kernel_rfl) rfl (by simp only [List.map_toArray, List.map_cons, List.map_nil, e1]) (HPY.out _) (fun w' hb => hK 19 _ _ (by decide) ⟨hI.step hb, hT.set 3 rfl (by kernel_rfl) (by kernel_rfl)⟩)
      | 4, _ =>
        have e1 := (E 17 (by decide)).trans (hT.val 1 rfl (hn 1 (by decide)))
        have e2 := (E 19 (by decide)).trans (hT.val 3 rfl (hn 3 (by decide)))
        exact op_goG rfl rfl rfl rfl Tryz.func81 (by kernel_rfl) rfl (by simp only [List.map_toArray, List.map_cons, List.map_nil, e1, e2]) (HC.out _) (fun w' hb => hK 20 _ _ (by decide) ⟨hI.step hb, hT.set 4 rfl (by kernel_rfl) (by kernel_rfl)⟩)
      | 5, _ => exact op_assignG rfl rfl rfl rfl ((E 20 (by decide)).trans (hT.val 4 rfl (hn 4 (by decide)))) (hK 10 _ _ (by decide) ⟨hI, hT.set 5 rfl (by kernel_rfl) (by kernel_rfl)⟩)
      | k + 6, h => exact absurd (show k + 6 < 6 from h) (by omega)
    · intro L vals wx hJ hall
      obtain ⟨hI, hT⟩ := hJ
      have HI := Lib.hid hI
      have v4 : vals 4 = .pointer (some ⟨w.heap.size, 0, none⟩) := hT.rd 0 rfl
      have v5 : vals 5 = .pointer (some ⟨(w.heap.size + 1), 0, none⟩) := hT.rd 1 rfl
      have v9 : vals 9 = .int .i64 k := hT.rd 2 rfl
      have v10 : vals 10 = .int .i64 c := hT.val 5 rfl (hall 5 (by decide))
      simp only [overA, Act.put, List.setIfInBounds_toArray, List.set_cons_zero, List.set_cons_succ]
      rw [v4, v5, v9, v10]
      clear hI hT hall v4 v5 v9 v10
      clear HFX HFY HPX HPY HC K
      by_cases ck : k = n
      · subst ck
        by_cases c0 : c < 0
        · have d0 : decide (c < 0) = true := decide_eq_true c0
          have HE : Hid (R = true) := Lib.hid (by rw [HR.out]; unfold wideKP; rw [if_pos rfl, d0]; rfl)
          go_wp2
          go_ret
          exact ⟨by rw [HE.out]; rfl, HI.out.below⟩
        · have d0 : decide (c < 0) = false := decide_eq_false c0
          by_cases c1 : c = 0
          · have e1 : (c == 0) = true := by simp [c1]
            have HE : Hid (R = r) := Lib.hid (by rw [HR.out]; unfold wideKP; rw [if_pos rfl, d0, decide_eq_true c1]; rfl)
            go_wp2
            go_ret
            exact ⟨by rw [HE.out]; rfl, HI.out.below⟩
          · have e1 : (c == 0) = false := by simp [c1]
            have HE : Hid (R = false) := Lib.hid (by rw [HR.out]; unfold wideKP; rw [if_pos rfl, d0, decide_eq_false c1]; rfl)
            go_wp2
            go_ret
            exact ⟨by rw [HE.out]; rfl, HI.out.below⟩
      · have e0 : (k == n) = false := by simp [ck]
        by_cases c1 : k = n + 1
        · have e1 : (k == n + 1) = true := by simp [c1]
          have HE : Hid (R = false) := Lib.hid (by rw [HR.out]; unfold wideKP; rw [if_neg ck, decide_eq_false (by omega)])
          clear ck c1
          go_wp2
          go_ret
          exact ⟨by rw [HE.out]; rfl, HI.out.below⟩
        · have e1 : (k == n + 1) = false := by simp [c1]
          by_cases c2 : k = n - 1
          · have e2 : (k == n - 1) = true := by simp [c2]
            have HE : Hid (R = true) := Lib.hid (by rw [HR.out]; unfold wideKP; rw [if_neg ck, decide_eq_true (by omega)])
            clear ck c1 c2
            go_wp2
            go_ret
            exact ⟨by rw [HE.out]; rfl, HI.out.below⟩
          · have e2 : (k == n - 1) = false := by simp [c2]
            have HE : Hid (R = decide (k < n)) := Lib.hid (by rw [HR.out]; unfold wideKP; rw [if_neg ck])
            clear ck c1 c2
            go_wp2
            go_ret
            exact ⟨by rw [HE.out]; rfl, HI.out.below⟩

theorem floor_pos {x1 x2 : Int} (h : rightR (x1, x2) = true) (h0 : 0 ≤ x1) : 0 ≤ floorP (x1, x2) := by
  unfold floorP
  rw [if_pos h]
  exact Int.ediv_nonneg h0 (Int.le_of_lt (of_decide_eq_true h).1)
theorem keeps_hold {x y : Int × Int} {b : Int} (hx : rightR x = true) (hy : rightR y = true) (hb : rightB b = true) (hn : b ≠ 2147483647) (h : (subP x y).2 = 0) : keepsB b (subP x y).1.1 (subP x y).1.2 = keepsQ x y b := by
  have e : subP x y = fracP (x.1 * y.2 - y.1 * x.2) (x.2 * y.2) := by unfold subP; rw [if_pos (by rw [hx, hy]; rfl)]
  have hp := Int.mul_pos (of_decide_eq_true hx).1 (of_decide_eq_true hy).1
  have hd : 0 < (subP x y).1.2 := by
    rw [e] at h ⊢
    exact (of_decide_eq_true (frac_right (by omega) h).1).1
  rw [← keeps_sub hx hy h]
  unfold keepsB
  have hs : someB b = true := by unfold someB; rw [hb]; simp [hn]
  refine decide_eq_decide.2 ⟨fun a => a.2.imp id (fun z => z.2), fun a => ⟨by omega, a.imp id (fun z => ⟨hs, z⟩)⟩⟩
theorem keeps_wide {x y : Int × Int} {b : Int} (hx : rightR x = true) (hy : rightR y = true) (hn : b ≠ 2147483647) : wideKP (floorP x - floorP y) (b / 2) (cmpP (partP x) (partP y)) (decide (b % 2 = 1)) = keepsQ x y b := (keeps_parts hx hy hn).symm
theorem keepsq_inf (x y : Int × Int) : keepsQ x y 2147483647 = true := decide_eq_true (.inl rfl)

set_option maxRecDepth 100000 in
set_option maxHeartbeats 4000000 in
theorem keepsq_any (x1 x2 y1 y2 b : Int) (hx1 : I64 x1) (hx2 : I64 x2) (hy1 : I64 y1) (hy2 : I64 y2) (hx : rightR (x1, x2) = true) (hy : rightR (y1, y2) = true) (h0 : 0 ≤ x1) (h1 : 0 ≤ y1) (hb : rightB b = true) (w : World) :
    Calls Tryz.prog 28 #[.agg #[.int .i64 x1, .int .i64 x2], .agg #[.int .i64 y1, .int .i64 y2], .int .i32 b] w fun e w' => e = .returned (.bool (keepsQ (x1, x2) (y1, y2) b)) ∧ Below w.heap.size w w' := by
  have K := Lib.hid (((Blx.start w).new #[.int .i64 x1, .int .i64 x2] 24).new #[.int .i64 y1, .int .i64 y2] 24)
  rw [show (w.alloc (.cells #[.int .i64 x1, .int .i64 x2] 24)).heap.size = w.heap.size + 1 by simp] at K
  by_cases hn : b = 2147483647
  · subst hn
    rw [keepsq_inf]
    clear hx hy h0 h1 hb hx1 hx2 hy1 hy2
    go_enter Tryz.func28, Tryz.ntmps28
    go_upto_block 0 with fail
    generalize (w.alloc (.cells #[.int .i64 x1, .int .i64 x2] 24)).alloc (.cells #[.int .i64 y1, .int .i64 y2] 24) = wa at *
    go_wp2
    go_ret
    exact ⟨rfl, K.out.below⟩
  · have b0 : (b == 2147483647) = false := by simp [hn]
    have hs : someB b = true := by unfold someB; rw [hb]; simp [hn]
    have HV := Lib.hid (fun W => value_yes b W hs)
    have hbd := rightB_bd hb hn
    have HS := Lib.hid (fun W => sub_any x1 x2 y1 y2 hx1 hx2 hy1 hy2 W)
    have HW := Lib.hid (fun W => wideq_any x1 x2 y1 y2 (b / 2) (decide (b % 2 = 1)) hx1 hx2 hy1 hy2 (floor_pos hx h0) (floor_pos hy h1) (by omega) W)
    rw [keeps_wide hx hy hn] at HW
    have d64 := subP64 (x1, x2) (y1, y2)
    have HH := Lib.hid (fun W => holds_any b (subP (x1, x2) (y1, y2)).1.1 (subP (x1, x2) (y1, y2)).1.2 W d64.1.1 d64.1.2 d64.2.2)
    have HK := Lib.hid (keeps_hold hx hy hb hn)
    obtain ⟨R, hR⟩ : ∃ q, q = keepsQ (x1, x2) (y1, y2) b := ⟨_, rfl⟩
    rw [← hR] at HW HK ⊢
    obtain ⟨D, hD⟩ : ∃ q, q = subP (x1, x2) (y1, y2) := ⟨_, rfl⟩
    rw [← hD] at HS HH HK
    obtain ⟨⟨d1, d2⟩, de⟩ := D
    unfold rtV at HS
    obtain ⟨n, hnn⟩ : ∃ q, q = b / 2 := ⟨_, rfl⟩
    obtain ⟨rc, hrc⟩ : ∃ q, q = decide (b % 2 = 1) := ⟨_, rfl⟩
    rw [← hnn, ← hrc] at HV HW
    clear hx hy h0 h1 hb hx1 hx2 hy1 hy2 hbd hn hs d64 hR hD hnn hrc
    go_enter Tryz.func28, Tryz.ntmps28
    go_upto_block 0 with fail
    generalize (w.alloc (.cells #[.int .i64 x1, .int .i64 x2] 24)).alloc (.cells #[.int .i64 y1, .int .i64 y2] 24) = wa at *
    simp only [List.cons_append, List.nil_append] at K
    go_wp2_with fail
    refine (HV.out _).mono ?_
    rintro e w' ⟨rfl, rfl⟩
    obtain ⟨k1, k2, _, _⟩ := K.out.cells2 0 rfl
    obtain ⟨k3, k4, _, _⟩ := K.out.cells2 1 rfl
    go_wp2_with fail
    refine (HS.out _).mono ?_
    rintro e w2 ⟨rfl, hb⟩
    replace K := Lib.hid (K.out.step hb)
    clear hb k1 k2 k3 k4 HS HV
    go_upto_region 5 with fail
    replace K := Lib.hid (K.out.new #[.int .i64 d1, .int .i64 d2] 24)
    generalize w2.alloc (.cells #[.int .i64 d1, .int .i64 d2] 24) = w3 at *
    generalize w2.heap.size = g3 at *
    simp only [List.cons_append, List.nil_append] at K
    by_cases e0 : de = 0
    · subst e0
      have HE := Lib.hid (HK.out rfl)
      obtain ⟨k5, k6, _, _⟩ := K.out.cells2 2 rfl
      go_wp2_with fail
      refine (HH.out _).mono ?_
      rintro e w4 ⟨rfl, rfl⟩
      go_wp2
      go_ret
      exact ⟨by rw [← HE.out]; rfl, K.out.below⟩
    · have e1 : (de == 0) = false := by simp [e0]
      clear e0
      obtain ⟨k1, k2, _, _⟩ := K.out.cells2 0 rfl
      obtain ⟨k3, k4, _, _⟩ := K.out.cells2 1 rfl
      go_wp2_with fail
      refine (HW.out _).mono ?_
      rintro e w4 ⟨rfl, hb⟩
      replace K := Lib.hid (K.out.step hb)
      clear hb
      go_wp2
      go_ret
      exact ⟨rfl, K.out.below⟩

end Go.Proofs.YtmelblnflalanaaGreat

/- Numbers of two words, as the document reckons with them. -/
namespace Go.Proofs.YtmelblnflalanaaGreat
open Go Go.RowKit
set_option linter.unusedVariables false
set_option linter.unusedSimpArgs false

set_option maxRecDepth 100000 in
set_option maxHeartbeats 1000000 in
theorem dplus_any (s t : Nat) (h : s + t < 340282366920938463463374607431768211456) (w : World) : Calls Tryz.prog 97 #[szV s, szV t] w fun e w' => e = .returned (szV (s + t)) ∧ Below w.heap.size w w' := by
  obtain ⟨a1, a2⟩ := hi_range (n := s) (by omega)
  obtain ⟨b1, b2⟩ := hi_range (n := t) (by omega)
  obtain ⟨c1, c2⟩ := lo_range s
  obtain ⟨d1, d2⟩ := lo_range t
  have e1 := plus_lo s t
  have e2 := plus_hi s t h
  have k0 : 0 ≤ (loN s + loN t) / 18446744073709551616 := by omega
  have k1 : (loN s + loN t) / 18446744073709551616 ≤ 1 := by omega
  unfold szV
  go_enter Tryz.func97, Tryz.ntmps97
  go_wp2_with (first | simp only [add64_0 (loN s) (loN t) c1 d1] | simp only [add64 (hiN s) (hiN t) _ a1 b1 k0 k1])
  simp [bodyPost, results, Tryz.results97, go_sem]
  exact below_three w _ _ _

set_option maxRecDepth 100000 in
set_option maxHeartbeats 1000000 in
theorem dminus_any (s t : Nat) (h : t ≤ s) (hs : s < 340282366920938463463374607431768211456) (w : World) : Calls Tryz.prog 99 #[szV s, szV t] w fun e w' => e = .returned (szV (s - t)) ∧ Below w.heap.size w w' := by
  obtain ⟨a1, a2⟩ := hi_range (n := s) (by omega)
  obtain ⟨b1, b2⟩ := hi_range (n := t) (by omega)
  obtain ⟨c1, c2⟩ := lo_range s
  obtain ⟨d1, d2⟩ := lo_range t
  obtain ⟨k0, k1⟩ := bor_range (loN s) (loN t)
  have e1 := less_lo s t h
  have e2 := less_hi s t h hs
  unfold szV
  go_enter Tryz.func99, Tryz.ntmps99
  go_wp2_with (first | simp only [sub64_0 (loN s) (loN t) c1 d1 d2] | simp only [sub64 (hiN s) (hiN t) _ a1 b1 b2 k0 k1])
  simp [bodyPost, results, Tryz.results99, go_sem]
  exact below_three w _ _ _

theorem below_words (s t : Nat) : (s < t) ↔ (hiN s < hiN t ∨ (hiN s = hiN t ∧ loN s < loN t)) := by
  have h1 := hi_lo s
  have h2 := hi_lo t
  have h3 := lo_range s
  have h4 := lo_range t
  omega
set_option maxRecDepth 100000 in
set_option maxHeartbeats 1000000 in
theorem dbelow_any (s t : Nat) (w : World) : Calls Tryz.prog 98 #[szV s, szV t] w fun e w' => e = .returned (.bool (decide (s < t))) ∧ Below w.heap.size w w' := by
  have hb := below_words s t
  unfold szV
  by_cases h1 : hiN s < hiN t
  · rw [decide_eq_true (hb.2 (.inl h1))]
    have d1 : decide (hiN s < hiN t) = true := decide_eq_true h1
    clear hb
    generalize hiN s = a at *
    generalize loN s = b at *
    generalize hiN t = c at *
    generalize loN t = d at *
    go_enter Tryz.func98, Tryz.ntmps98
    go_wp2
    go_ret
    exact ⟨rfl, below_two w _ _⟩
  · have d1 : decide (hiN s < hiN t) = false := decide_eq_false h1
    by_cases h2 : hiN s = hiN t
    · have d2 : (hiN s == hiN t) = true := by simp [h2]
      by_cases h3 : loN s < loN t
      · rw [decide_eq_true (hb.2 (.inr ⟨h2, h3⟩))]
        have d3 : decide (loN s < loN t) = true := decide_eq_true h3
        clear hb h2
        generalize hiN s = a at *
        generalize loN s = b at *
        generalize hiN t = c at *
        generalize loN t = d at *
        go_enter Tryz.func98, Tryz.ntmps98
        go_wp2
        go_ret
        exact ⟨rfl, below_two w _ _⟩
      · rw [decide_eq_false (fun h => by rcases hb.1 h with h | h; exact h1 h; exact h3 h.2)]
        have d3 : decide (loN s < loN t) = false := decide_eq_false h3
        clear hb h2
        generalize hiN s = a at *
        generalize loN s = b at *
        generalize hiN t = c at *
        generalize loN t = d at *
        go_enter Tryz.func98, Tryz.ntmps98
        go_wp2
        go_ret
        exact ⟨rfl, below_two w _ _⟩
    · rw [decide_eq_false (fun h => by rcases hb.1 h with h | h; exact h1 h; exact h2 h.1)]
      have d2 : (hiN s == hiN t) = false := by simp [h2]
      clear hb
      generalize hiN s = a at *
      generalize loN s = b at *
      generalize hiN t = c at *
      generalize loN t = d at *
      go_enter Tryz.func98, Tryz.ntmps98
      go_wp2
      go_ret
      exact ⟨rfl, below_two w _ _⟩
set_option maxRecDepth 100000 in
set_option maxHeartbeats 1000000 in
theorem dmul_any (x y : Nat) (hx : x < 18446744073709551616) (hy : y < 18446744073709551616) (w : World) : Calls Tryz.prog 95 #[.int .u64 x, .int .u64 y] w fun e w' => e = .returned (szV (x * y)) ∧ Below w.heap.size w w' := by
  have HM : Hid (∀ W, Calls Tryz.prog 90 #[.int .u64 x, .int .u64 y] W fun e w' => e = .returned (.tuple #[.int .u64 (hiN (x * y)), .int .u64 (loN (x * y))]) ∧ W = w') := Lib.hid (fun W => mul64_any x y hx hy W)
  generalize x * y = P at *
  clear hx hy
  unfold szV
  go_enter Tryz.func95, Tryz.ntmps95
  go_wp2_with (refine (HM.out _).mono ?_; rintro e w1 ⟨rfl, rfl⟩)
  simp [bodyPost, results, Tryz.results95, go_sem]
  first | exact below_one w _ | exact ⟨rfl, below_one w _⟩
set_option maxRecDepth 100000 in
set_option maxHeartbeats 1000000 in
theorem dsize_any (n : Int) (h0 : -9223372036854775808 ≤ n) (h1 : n ≤ 9223372036854775807) (w : World) : Calls Tryz.prog 60 #[.int .i64 n] w fun e w' => e = .returned (.int .u64 (n.natAbs : Int)) ∧ w = w' := by
  by_cases hn : n < 0
  · have e1 : decide (n < 0) = true := decide_eq_true hn
    have e2 : IntKind.u64.wrap (-IntKind.u64.wrap n) = (n.natAbs : Int) := by rw [IntKind.wrap_u64, IntKind.wrap_u64]; omega
    obtain ⟨m, hm⟩ : ∃ m : Int, m = (n.natAbs : Int) := ⟨_, rfl⟩
    rw [← hm] at e2 ⊢
    clear hm
    go_enter Tryz.func60, Tryz.ntmps60
    go_wp2
    go_ret
    exact ⟨rfl, rfl⟩
  · have e1 : decide (n < 0) = false := decide_eq_false hn
    have e2 : IntKind.u64.wrap n = (n.natAbs : Int) := by rw [IntKind.wrap_u64]; omega
    obtain ⟨m, hm⟩ : ∃ m : Int, m = (n.natAbs : Int) := ⟨_, rfl⟩
    rw [← hm] at e2 ⊢
    clear hm
    go_enter Tryz.func60, Tryz.ntmps60
    go_wp2
    go_ret
    exact ⟨rfl, rfl⟩

/-- The blocks of a division while it goes on. -/
structure OdR (w0 : World) (gt g0 g1 gq gr : Nat) (s t q r : Nat) (wr : World) : Prop where
  below : Below w0.heap.size w0 wr
  ne : w0.heap.size < gt ∧ gt < g0 ∧ g0 < g1 ∧ g1 < gq ∧ gq < gr
  hs : wr.heap[w0.heap.size]? = some (.cells #[.int .u64 (hiN s), .int .u64 (loN s)] 96)
  ht : wr.heap[gt]? = some (.cells #[.int .u64 (hiN t), .int .u64 (loN t)] 96)
  h0 : wr.heap[g0]? = some (.cells #[.int .u64 0, .int .u64 0] 96)
  h1 : wr.heap[g1]? = some (.cells #[.int .u64 0, .int .u64 0] 96)
  hq : wr.heap[gq]? = some (.cells #[.int .u64 (hiN q), .int .u64 (loN q)] 96)
  hr : wr.heap[gr]? = some (.cells #[.int .u64 (hiN r), .int .u64 (loN r)] 96)
section
variable {w0 wr w' : World} {gt g0 g1 gq gr s t q r : Nat}
theorem OdR.step (h : OdR w0 gt g0 g1 gq gr s t q r wr) (hb : Below wr.heap.size wr w') : OdR w0 gt g0 g1 gq gr s t q r w' :=
  ⟨h.below.trans (hb.mono h.below.size), h.ne, (hb.block _ (heap_lt2 h.hs)).trans h.hs, (hb.block _ (heap_lt2 h.ht)).trans h.ht, (hb.block _ (heap_lt2 h.h0)).trans h.h0, (hb.block _ (heap_lt2 h.h1)).trans h.h1, (hb.block _ (heap_lt2 h.hq)).trans h.hq, (hb.block _ (heap_lt2 h.hr)).trans h.hr⟩
theorem OdR.drew (h : OdR w0 gt g0 g1 gq gr s t q r wr) : OdR w0 gt g0 g1 gq gr s t q r wr.drew := ⟨Below.drew h.below, h.ne, h.hs, h.ht, h.h0, h.h1, h.hq, h.hr⟩
theorem OdR.setR (h : OdR w0 gt g0 g1 gq gr s t q r wr) (x : Nat) : OdR w0 gt g0 g1 gq gr s t q x (wr.setRow gr #[.int .u64 (hiN x), .int .u64 (loN x)]) := by
  have hn := h.ne
  exact ⟨below_row h.below (by omega) _, hn, row_other _ h.hs (by omega), row_other _ h.ht (by omega), row_other _ h.h0 (by omega), row_other _ h.h1 (by omega), row_other _ h.hq (by omega), setRow_heap _ _ _ _ _ _ h.hr⟩
theorem OdR.setRlo (h : OdR w0 gt g0 g1 gq gr s t q r wr) (x : Nat) (y : Int) (hh : hiN r = hiN x) (hy : y = loN x) : OdR w0 gt g0 g1 gq gr s t q x (wr.setCell ⟨gr, 1, none⟩ (.int .u64 y)) := by
  have hn := h.ne
  have h1 := (cell_set h.hr (.int .u64 y)).2
  rw [hh, hy] at h1
  rw [hy]
  exact ⟨h.below.setCell (p := ⟨gr, 1, none⟩) (by show w0.heap.size ≤ gr; omega) _, hn, heap_other _ h.hs (by omega), heap_other _ h.ht (by omega), heap_other _ h.h0 (by omega), heap_other _ h.h1 (by omega), heap_other _ h.hq (by omega), h1⟩
theorem OdR.setQhi (h : OdR w0 gt g0 g1 gq gr s t q r wr) (x : Nat) (y : Int) (hh : loN q = loN x) (hy : y = hiN x) : OdR w0 gt g0 g1 gq gr s t x r (wr.setCell ⟨gq, 0, none⟩ (.int .u64 y)) := by
  have hn := h.ne
  have h1 := (cell_set h.hq (.int .u64 y)).1
  rw [hh, hy] at h1
  rw [hy]
  exact ⟨h.below.setCell (p := ⟨gq, 0, none⟩) (by show w0.heap.size ≤ gq; omega) _, hn, heap_other _ h.hs (by omega), heap_other _ h.ht (by omega), heap_other _ h.h0 (by omega), heap_other _ h.h1 (by omega), h1, heap_other _ h.hr (by omega)⟩
theorem OdR.setQlo (h : OdR w0 gt g0 g1 gq gr s t q r wr) (x : Nat) (y : Int) (hh : hiN q = hiN x) (hy : y = loN x) : OdR w0 gt g0 g1 gq gr s t x r (wr.setCell ⟨gq, 1, none⟩ (.int .u64 y)) := by
  have hn := h.ne
  have h1 := (cell_set h.hq (.int .u64 y)).2
  rw [hh, hy] at h1
  rw [hy]
  exact ⟨h.below.setCell (p := ⟨gq, 1, none⟩) (by show w0.heap.size ≤ gq; omega) _, hn, heap_other _ h.hs (by omega), heap_other _ h.ht (by omega), heap_other _ h.h0 (by omega), heap_other _ h.h1 (by omega), h1, heap_other _ h.hr (by omega)⟩
end
theorem OdR.made (w : World) (s t : Nat) : OdR w (w.heap.size + 1) (w.heap.size + 1 + 1) (w.heap.size + 1 + 1 + 1) (w.heap.size + 1 + 1 + 1 + 1) (w.heap.size + 1 + 1 + 1 + 1 + 1) s t 0 0
    ((((((w.alloc (.cells #[.int .u64 (hiN s), .int .u64 (loN s)] 96)).alloc (.cells #[.int .u64 (hiN t), .int .u64 (loN t)] 96)).alloc (.cells #[.int .u64 0, .int .u64 0] 96)).alloc (.cells #[.int .u64 0, .int .u64 0] 96)).alloc (.cells #[.int .u64 0, .int .u64 0] 96)).alloc (.cells #[.int .u64 0, .int .u64 0] 96)) := by
  have hz : ∀ (w : World) (o : Obj), (w.alloc o).heap.size = w.heap.size + 1 := fun w o => by simp
  have b2 := below_two w (.cells #[.int .u64 (hiN s), .int .u64 (loN s)] 96) (.cells #[.int .u64 (hiN t), .int .u64 (loN t)] 96)
  have b3 := b2.alloc b2.size (.cells #[.int .u64 0, .int .u64 0] 96)
  have b4 := b3.alloc b3.size (.cells #[.int .u64 0, .int .u64 0] 96)
  have b5 := b4.alloc b4.size (.cells #[.int .u64 0, .int .u64 0] 96)
  have b6 := b5.alloc b5.size (.cells #[.int .u64 0, .int .u64 0] 96)
  refine ⟨b6, by omega, ?_, ?_, ?_, ?_, ?_, ?_⟩
  · iterate 5 rw [heap_alloc_old _ _ (by simp only [hz]; omega)]
    exact heap_alloc_new _ _
  · iterate 4 rw [heap_alloc_old _ _ (by simp only [hz]; omega)]
    rw [← hz w (.cells #[.int .u64 (hiN s), .int .u64 (loN s)] 96)]
    exact heap_alloc_new _ _
  · iterate 3 rw [heap_alloc_old _ _ (by simp only [hz]; omega)]
    have h := heap_alloc_new ((w.alloc (.cells #[.int .u64 (hiN s), .int .u64 (loN s)] 96)).alloc (.cells #[.int .u64 (hiN t), .int .u64 (loN t)] 96)) (.cells #[.int .u64 0, .int .u64 0] 96)
    simp only [hz] at h
    exact h
  · iterate 2 rw [heap_alloc_old _ _ (by simp only [hz]; omega)]
    have h := heap_alloc_new (((w.alloc (.cells #[.int .u64 (hiN s), .int .u64 (loN s)] 96)).alloc (.cells #[.int .u64 (hiN t), .int .u64 (loN t)] 96)).alloc (.cells #[.int .u64 0, .int .u64 0] 96)) (.cells #[.int .u64 0, .int .u64 0] 96)
    simp only [hz] at h
    exact h
  · rw [heap_alloc_old _ _ (by simp only [hz]; omega)]
    have h := heap_alloc_new ((((w.alloc (.cells #[.int .u64 (hiN s), .int .u64 (loN s)] 96)).alloc (.cells #[.int .u64 (hiN t), .int .u64 (loN t)] 96)).alloc (.cells #[.int .u64 0, .int .u64 0] 96)).alloc (.cells #[.int .u64 0, .int .u64 0] 96)) (.cells #[.int .u64 0, .int .u64 0] 96)
    simp only [hz] at h
    exact h
  · have h := heap_alloc_new (((((w.alloc (.cells #[.int .u64 (hiN s), .int .u64 (loN s)] 96)).alloc (.cells #[.int .u64 (hiN t), .int .u64 (loN t)] 96)).alloc (.cells #[.int .u64 0, .int .u64 0] 96)).alloc (.cells #[.int .u64 0, .int .u64 0] 96)).alloc (.cells #[.int .u64 0, .int .u64 0] 96)) (.cells #[.int .u64 0, .int .u64 0] 96)
    simp only [hz] at h
    exact h

end Go.Proofs.YtmelblnflalanaaGreat

/- Division of numbers of two words, as the document does it. -/
namespace Go.Proofs.YtmelblnflalanaaGreat
open Go Go.RowKit
set_option linter.unusedVariables false
set_option linter.unusedSimpArgs false

def dvQ (s t j : Nat) : Nat := s / 2 ^ j / t
theorem dv_start (s t : Nat) (h : s < 340282366920938463463374607431768211456) : dvQ s t 128 = 0 ∧ ovR s t 128 = 0 := by
  have e : s / 2 ^ 128 = 0 := Nat.div_eq_of_lt (by simpa using h)
  unfold dvQ ovR
  rw [e]
  simp
theorem dv_end (s t : Nat) : dvQ s t 0 = s / t ∧ ovR s t 0 = s % t := by unfold dvQ ovR; simp
theorem dv_le (s t j : Nat) : dvQ s t j ≤ s := Nat.le_trans (Nat.div_le_self _ _) (Nat.div_le_self _ _)
theorem dv_step (s t i : Nat) (ht : 0 < t) :
    (2 * ovR s t (i + 1) + bitN s i < t → ovR s t i = 2 * ovR s t (i + 1) + bitN s i ∧ dvQ s t i = 2 * dvQ s t (i + 1)) ∧
    (¬ 2 * ovR s t (i + 1) + bitN s i < t → ovR s t i = 2 * ovR s t (i + 1) + bitN s i - t ∧ dvQ s t i = 2 * dvQ s t (i + 1) + 1) := rem_step s t i ht
theorem or_one (r : Nat) : bits .or .u64 (loN (2 * r)) 1 = loN (2 * r + 1) ∧ hiN (2 * r) = hiN (2 * r + 1) := low_bit r 1 (by decide)
theorem OdR.setQ {w0 wr : World} {gt g0 g1 gq gr s t q r : Nat} (h : OdR w0 gt g0 g1 gq gr s t q r wr) (x : Nat) : OdR w0 gt g0 g1 gq gr s t x r (wr.setRow gq #[.int .u64 (hiN x), .int .u64 (loN x)]) := by
  have hn := h.ne
  exact ⟨below_row h.below (by omega) _, hn, row_other _ h.hs (by omega), row_other _ h.ht (by omega), row_other _ h.h0 (by omega), row_other _ h.h1 (by omega), setRow_heap _ _ _ _ _ _ h.hq, row_other _ h.hr (by omega)⟩

set_option maxRecDepth 100000 in
set_option maxHeartbeats 4000000 in
theorem divide_any (s t : Nat) (hs : s < 340282366920938463463374607431768211456) (ht0 : 0 < t) (ht : t ≤ 170141183460469231731687303715884105728) (w : World) :
    Calls Tryz.prog 94 #[szV s, szV t] w fun e w' => e = .returned (.tuple #[szV (s / t), szV (s % t)]) ∧ Below w.heap.size w w' := by
  have HE := Lib.hid (dv_end s t)
  obtain ⟨q0, r0⟩ := dv_start s t hs
  have HQ := Lib.hid q0
  have HR := Lib.hid r0
  have HS := Lib.hid hs
  clear q0 r0
  unfold szV
  go_enter Tryz.func94, Tryz.ntmps94
  go_upto_region 2 with fail
  have HO := Lib.hid (OdR.made w s t)
  generalize ((((((w.alloc (.cells #[.int .u64 (hiN s), .int .u64 (loN s)] 96)).alloc (.cells #[.int .u64 (hiN t), .int .u64 (loN t)] 96)).alloc (.cells #[.int .u64 0, .int .u64 0] 96)).alloc (.cells #[.int .u64 0, .int .u64 0] 96)).alloc (.cells #[.int .u64 0, .int .u64 0] 96)).alloc (.cells #[.int .u64 0, .int .u64 0] 96)) = w1 at *
  obtain ⟨gr, hgr⟩ : ∃ g, g = w.heap.size + 1 + 1 + 1 + 1 + 1 := ⟨_, rfl⟩
  rw [← hgr] at HO ⊢
  obtain ⟨gq, hgq⟩ : ∃ g, g = w.heap.size + 1 + 1 + 1 + 1 := ⟨_, rfl⟩
  rw [← hgq] at HO ⊢
  obtain ⟨g1, hg1⟩ : ∃ g, g = w.heap.size + 1 + 1 + 1 := ⟨_, rfl⟩
  rw [← hg1] at HO ⊢
  obtain ⟨g0, hg0⟩ : ∃ g, g = w.heap.size + 1 + 1 := ⟨_, rfl⟩
  rw [← hg0] at HO ⊢
  obtain ⟨gt, hgt⟩ : ∃ g, g = w.heap.size + 1 := ⟨_, rfl⟩
  rw [← hgt] at HO ⊢
  clear hgr hgq hg1 hg0 hgt
  go_wp2
  go_loopg [8] 128 (fun g v wr => ∃ j : Nat, v = .int .i64 ((j : Int) - 1) ∧ Hid (OdR w gt g0 g1 gq gr s t (dvQ s t j) (ovR s t j) wr) ∧ Hid (j ≤ 128 ∧ g = j))
  case atStart => exact ⟨128, by simp, by rw [HQ.out, HR.out]; exact HO.out, by omega, rfl⟩
  case round =>
    obtain ⟨j, rfl, HV, HJ⟩ := hrel
    by_cases hj : 0 < j
    · obtain ⟨i, rfl⟩ : ∃ i, j = i + 1 := ⟨j - 1, by omega⟩
      have hji : 0 ≤ ((i + 1 : Nat) : Int) - 1 := by omega
      rw [show ((i + 1 : Nat) : Int) - 1 = (i : Int) by omega] at hji ⊢
      have hi127 : i < 128 := by have := HJ.out.1; omega
      have hrt : ovR s t (i + 1) < t := Nat.mod_lt _ ht0
      obtain ⟨hst1, hst2⟩ := dv_step s t i ht0
      have hqle := dv_le s t i
      obtain ⟨r, hr⟩ : ∃ r, r = ovR s t (i + 1) := ⟨_, rfl⟩
      obtain ⟨q, hq⟩ : ∃ q, q = dvQ s t (i + 1) := ⟨_, rfl⟩
      rw [← hr] at HV hrt hst1 hst2
      rw [← hq] at HV hst1 hst2
      have hb2 : bitN s i < 2 := Nat.mod_lt _ (by omega)
      have hq2 : q < 170141183460469231731687303715884105728 := by
        by_cases hc : 2 * r + bitN s i < t
        · have := (hst1 hc).2; omega
        · have := (hst2 hc).2; omega
      have HST := Lib.hid (And.intro hst1 hst2)
      clear hst1 hst2 hr hq hqle
      obtain ⟨lb1, lb2⟩ := low_bit r (bitN s i) hb2
      have e1 := shl_hi r (by omega)
      have e2 : IntKind.u64.wrap (hiN r * 2) = hiN r * 2 := by rw [IntKind.wrap_u64]; unfold hiN; omega
      have e3 : IntKind.u64.wrap (loN r * 2) = loN (2 * r) := by rw [IntKind.wrap_u64]; exact shl_lo r
      have f1 := shl_hi q hq2
      have f2 : IntKind.u64.wrap (hiN q * 2) = hiN q * 2 := by rw [IntKind.wrap_u64]; unfold hiN; omega
      have f3 : IntKind.u64.wrap (loN q * 2) = loN (2 * q) := by rw [IntKind.wrap_u64]; exact shl_lo q
      have et : hiN r / 9223372036854775808 = 0 := by unfold hiN; omega
      have HLB := Lib.hid lb2
      obtain ⟨k1, k2, _, _⟩ := cell_two HV.out.hs
      obtain ⟨k3, k4, _, _⟩ := cell_two HV.out.hr
      obtain ⟨k5, k6, _, _⟩ := cell_two HV.out.hq
      by_cases h64 : 64 ≤ i
      · have dd : decide (64 ≤ (i : Int)) = true := decide_eq_true (by omega)
        have dm : 64 ≤ (i : Int) := by omega
        have tm : (i : Int).tmod 64 = (i : Int) - 64 := by rw [Int.tmod_eq_emod_of_nonneg (by omega)]; omega
        have pu : IntKind.u64.wrap ((i : Int) - 64) = (i : Int) - 64 := by rw [IntKind.wrap_u64]; omega
        have pn : ((i : Int) - 64).toNat = i - 64 := by omega
        have pw : IntKind.i64.wrap ((i : Int) - 64) = (i : Int) - 64 := IntWalk.i64_in _ (by omega)
        have pa : 0 ≤ (i : Int) - 64 := by omega
        have pb : (i : Int) - 64 ≤ 64 := by omega
        have eb := bit_hi_word s i h64 hs
        go_upto_region 10 with ((refine wpList_store_row rfl 96 _ _ rfl gr _ rfl rfl 96 _ HV.out.hr (by kernel_rfl) rfl (by kernel_rfl) ?_))
        have HV2 := Lib.hid (HV.out.setR (2 * r + bitN s i))

        generalize wr.setRow gr #[.int .u64 (hiN (2 * r + bitN s i)), .int .u64 (loN (2 * r + bitN s i))] = w2 at *
        clear k1 k2 k3 k4 k5 k6 e1 e2 e3 lb1 lb2 HLB HV
        obtain ⟨k5, k6, _, _⟩ := cell_two HV2.out.hq
        go_upto_region 11 with ((refine wpList_store_row rfl 96 _ _ rfl gq _ rfl rfl 96 _ HV2.out.hq (by kernel_rfl) rfl (by kernel_rfl) ?_))
        have HV3 := Lib.hid (HV2.out.setQ (2 * q))
        generalize w2.setRow gq #[.int .u64 (hiN (2 * q)), .int .u64 (loN (2 * q))] = w3 at *
        clear k5 k6 f1 f2 f3 HV2
        obtain ⟨R, hR⟩ : ∃ R, R = 2 * r + bitN s i := ⟨_, rfl⟩
        rw [← hR] at HV3 HST
        have hR2 : R < 340282366920938463463374607431768211456 := by omega
        clear hR
        obtain ⟨c1, c2, _, _⟩ := cell_two HV3.out.hr
        obtain ⟨c3, c4, _, _⟩ := cell_two HV3.out.ht
        go_wp2_with fail
        refine (dbelow_any R t _).mono ?_
        rintro e w4 ⟨rfl, hb⟩
        have HV4 := Lib.hid (HV3.out.step hb)
        clear hb HV3 c1 c2 c3 c4
        by_cases hlt : R < t
        · obtain ⟨n1, n2⟩ := HST.out.1 hlt
          have HV5 := Lib.hid (show OdR w gt g0 g1 gq gr s t (dvQ s t i) (ovR s t i) w4 by rw [n1, n2]; exact HV4.out)
          rw [decide_eq_true hlt]
          clear n1 n2 hlt HV4
          go_wp2_with fail
          go_roundg i
          case measure => have h := HJ.out; omega
          case rel => exact ⟨i, by go_num, HV5.out, by omega, rfl⟩
        · obtain ⟨n1, n2⟩ := HST.out.2 hlt
          have HN := Lib.hid (And.intro n1 n2)
          rw [decide_eq_false hlt]
          clear n1 n2
          go_wp2_with (first | (refine wpList_load_row rfl 96 _ rfl gr rfl 96 _ (0, 0) _ HV4.out.hr Tryz.underlying96 rfl (by kernel_rfl) ?_) | (refine wpList_load_row rfl 96 _ rfl gt rfl 96 _ (0, 0) _ HV4.out.ht Tryz.underlying96 rfl (by kernel_rfl) ?_))
          refine (dminus_any R t (by omega) hR2 _).mono ?_
          rintro e w5 ⟨rfl, hb⟩
          have HV5 := Lib.hid (HV4.out.step hb)
          clear hb HV4
          rw [show szV (R - t) = .agg #[.int .u64 (hiN (R - t)), .int .u64 (loN (R - t))] from rfl]
          go_upto_region 13 with ((refine wpList_store_row rfl 96 _ _ rfl gr _ rfl rfl 96 _ HV5.out.hr (by kernel_rfl) rfl (by kernel_rfl) ?_))
          have HV6 := Lib.hid (HV5.out.setR (R - t))
          generalize w5.setRow gr #[.int .u64 (hiN (R - t)), .int .u64 (loN (R - t))] = w6 at *
          clear HV5
          obtain ⟨sh1, sh2⟩ := or_one q
          obtain ⟨k1, k2, k3, k4⟩ := cell_two HV6.out.hq
          have HV7 := Lib.hid (HV6.out.setQlo (2 * q + 1) _ sh2 rfl)
          have HV8 := Lib.hid (show OdR w gt g0 g1 gq gr s t (dvQ s t i) (ovR s t i) _ by rw [HN.out.1, HN.out.2]; exact HV7.out)
          clear sh2 HV7 HV6 HN
          go_wp2_with fail
          go_roundg i
          case measure => have h := HJ.out; omega
          case rel => exact ⟨i, by go_num, HV8.out, by omega, rfl⟩
      · have dd : decide (64 ≤ (i : Int)) = false := decide_eq_false (by omega)
        have dm : ¬ 64 ≤ (i : Int) := by omega
        have tm : (i : Int).tmod 64 = (i : Int) := by rw [Int.tmod_eq_emod_of_nonneg (by omega)]; omega
        have pu : IntKind.u64.wrap (i : Int) = (i : Int) := by rw [IntKind.wrap_u64]; omega
        have pw : IntKind.i64.wrap (i : Int) = (i : Int) := IntWalk.i64_in _ (by omega)
        have pa : 0 ≤ (i : Int) := by omega
        have pb : (i : Int) ≤ 64 := by omega
        have eb := bit_lo_word s i (by omega)
        go_upto_region 10 with ((refine wpList_store_row rfl 96 _ _ rfl gr _ rfl rfl 96 _ HV.out.hr (by kernel_rfl) rfl (by kernel_rfl) ?_))
        have HV2 := Lib.hid (HV.out.setR (2 * r + bitN s i))

        generalize wr.setRow gr #[.int .u64 (hiN (2 * r + bitN s i)), .int .u64 (loN (2 * r + bitN s i))] = w2 at *
        clear k1 k2 k3 k4 k5 k6 e1 e2 e3 lb1 lb2 HLB HV
        obtain ⟨k5, k6, _, _⟩ := cell_two HV2.out.hq
        go_upto_region 11 with ((refine wpList_store_row rfl 96 _ _ rfl gq _ rfl rfl 96 _ HV2.out.hq (by kernel_rfl) rfl (by kernel_rfl) ?_))
        have HV3 := Lib.hid (HV2.out.setQ (2 * q))
        generalize w2.setRow gq #[.int .u64 (hiN (2 * q)), .int .u64 (loN (2 * q))] = w3 at *
        clear k5 k6 f1 f2 f3 HV2
        obtain ⟨R, hR⟩ : ∃ R, R = 2 * r + bitN s i := ⟨_, rfl⟩
        rw [← hR] at HV3 HST
        have hR2 : R < 340282366920938463463374607431768211456 := by omega
        clear hR
        obtain ⟨c1, c2, _, _⟩ := cell_two HV3.out.hr
        obtain ⟨c3, c4, _, _⟩ := cell_two HV3.out.ht
        go_wp2_with fail
        refine (dbelow_any R t _).mono ?_
        rintro e w4 ⟨rfl, hb⟩
        have HV4 := Lib.hid (HV3.out.step hb)
        clear hb HV3 c1 c2 c3 c4
        by_cases hlt : R < t
        · obtain ⟨n1, n2⟩ := HST.out.1 hlt
          have HV5 := Lib.hid (show OdR w gt g0 g1 gq gr s t (dvQ s t i) (ovR s t i) w4 by rw [n1, n2]; exact HV4.out)
          rw [decide_eq_true hlt]
          clear n1 n2 hlt HV4
          go_wp2_with fail
          go_roundg i
          case measure => have h := HJ.out; omega
          case rel => exact ⟨i, by go_num, HV5.out, by omega, rfl⟩
        · obtain ⟨n1, n2⟩ := HST.out.2 hlt
          have HN := Lib.hid (And.intro n1 n2)
          rw [decide_eq_false hlt]
          clear n1 n2
          go_wp2_with (first | (refine wpList_load_row rfl 96 _ rfl gr rfl 96 _ (0, 0) _ HV4.out.hr Tryz.underlying96 rfl (by kernel_rfl) ?_) | (refine wpList_load_row rfl 96 _ rfl gt rfl 96 _ (0, 0) _ HV4.out.ht Tryz.underlying96 rfl (by kernel_rfl) ?_))
          refine (dminus_any R t (by omega) hR2 _).mono ?_
          rintro e w5 ⟨rfl, hb⟩
          have HV5 := Lib.hid (HV4.out.step hb)
          clear hb HV4
          rw [show szV (R - t) = .agg #[.int .u64 (hiN (R - t)), .int .u64 (loN (R - t))] from rfl]
          go_upto_region 13 with ((refine wpList_store_row rfl 96 _ _ rfl gr _ rfl rfl 96 _ HV5.out.hr (by kernel_rfl) rfl (by kernel_rfl) ?_))
          have HV6 := Lib.hid (HV5.out.setR (R - t))
          generalize w5.setRow gr #[.int .u64 (hiN (R - t)), .int .u64 (loN (R - t))] = w6 at *
          clear HV5
          obtain ⟨sh1, sh2⟩ := or_one q
          obtain ⟨k1, k2, k3, k4⟩ := cell_two HV6.out.hq
          have HV7 := Lib.hid (HV6.out.setQlo (2 * q + 1) _ sh2 rfl)
          have HV8 := Lib.hid (show OdR w gt g0 g1 gq gr s t (dvQ s t i) (ovR s t i) _ by rw [HN.out.1, HN.out.2]; exact HV7.out)
          clear sh2 HV7 HV6 HN
          go_wp2_with fail
          go_roundg i
          case measure => have h := HJ.out; omega
          case rel => exact ⟨i, by go_num, HV8.out, by omega, rfl⟩
    · obtain rfl : j = 0 := by omega
      have hji : ¬ (0 : Int) ≤ -1 := by omega
      rw [show ((0 : Nat) : Int) - 1 = -1 from rfl]
      rw [HE.out.1, HE.out.2] at HV
      go_upto_region 14 with fail
      obtain ⟨hb, hne, _, _, h0, h1, hq, hr⟩ := HV.out
      obtain ⟨q1, q2, q3, q4⟩ := cell_two hq
      obtain ⟨r1, r2, r3, r4⟩ := cell_two hr
      obtain ⟨a1, a2, a3, a4⟩ := cell_two h0
      obtain ⟨b1, b2, b3, b4⟩ := cell_two h1
      clear hq hr
      have HB := Lib.hid hb
      have H0 := Lib.hid h0
      have H1 := Lib.hid h1
      have n1 : g0 ≠ g1 := by omega
      have n2 : g0 ≠ gq := by omega
      have n3 : g0 ≠ gr := by omega
      have n4 : g1 ≠ gq := by omega
      have n5 : g1 ≠ gr := by omega
      clear hb h0 h1
      go_region
      obtain ⟨W, hW⟩ : ∃ W, W = ((((wr.setCell ⟨g0, 0, none⟩ (.int .u64 (hiN (s / t)))).setCell ⟨g0, 1, none⟩ (.int .u64 (loN (s / t)))).setCell ⟨g1, 0, none⟩ (.int .u64 (hiN (s % t)))).setCell ⟨g1, 1, none⟩ (.int .u64 (loN (s % t)))).drew := ⟨_, rfl⟩
      rw [← hW]
      have f0 : W.heap[g0]? = some (.cells #[.int .u64 (hiN (s / t)), .int .u64 (loN (s / t))] 96) := by
        rw [hW]
        exact heap_other _ (heap_other _ (cell_set (cell_set H0.out (.int .u64 (hiN (s / t)))).1 (.int .u64 (loN (s / t)))).2 n1) n1
      have f1 : W.heap[g1]? = some (.cells #[.int .u64 (hiN (s % t)), .int .u64 (loN (s % t))] 96) := by
        rw [hW]
        exact (cell_set (cell_set (heap_other _ (heap_other _ H1.out (Ne.symm n1)) (Ne.symm n1)) (.int .u64 (hiN (s % t)))).1 (.int .u64 (loN (s % t)))).2
      have HF := Lib.hid (show Below w.heap.size w W by
        rw [hW]
        exact Below.drew ((((HB.out.setCell (p := ⟨g0, 0, none⟩) (by show w.heap.size ≤ g0; omega) _).setCell (p := ⟨g0, 1, none⟩) (by show w.heap.size ≤ g0; omega) _).setCell (p := ⟨g1, 0, none⟩) (by show w.heap.size ≤ g1; omega) _).setCell (p := ⟨g1, 1, none⟩) (by show w.heap.size ≤ g1; omega) _))
      have HF0 := Lib.hid f0
      have HF1 := Lib.hid f1
      clear hW q1 q2 q3 q4 r1 r2 r3 r4 a1 a2 a3 a4 b1 b2 b3 b4 f0 f1
      go_wp2
      refine bodyPost_ret (results_cells2 (fn := Tryz.f94) rfl _ _ g0 g1 _ _ _ _ _ _ rfl rfl HF0.out HF1.out Tryz.underlying96 rfl (by kernel_rfl) (by kernel_rfl)) rfl ?_
      exact ⟨rfl, HF.out⟩

end Go.Proofs.YtmelblnflalanaaGreat

/- The greatest divisor, and the fraction of a sign and two sizes, as the document makes them. -/
namespace Go.Proofs.YtmelblnflalanaaGreat
open Go Go.RowKit
set_option linter.unusedVariables false
set_option linter.unusedSimpArgs false

set_option maxRecDepth 100000 in
set_option maxHeartbeats 4000000 in
theorem dcommon_any (a b : Nat) (ha : a ≤ 170141183460469231731687303715884105728) (hb : b ≤ 170141183460469231731687303715884105728) (w : World) :
    Calls Tryz.prog 59 #[szV a, szV b] w fun e w' => e = .returned (szV (Nat.gcd a b)) ∧ Below w.heap.size w w' := by
  obtain ⟨G, hG⟩ : ∃ G, G = Nat.gcd a b := ⟨_, rfl⟩
  rw [← hG]
  have HG := Lib.hid hG
  have HA := Lib.hid (And.intro ha hb)
  clear ha hb hG
  unfold szV
  go_enter Tryz.func59, Tryz.ntmps59
  go_upto_block 0 with fail
  have HO := Lib.hid (CmR.made 96 w a b)
  generalize (((w.alloc (.cells #[.int .u64 (hiN a), .int .u64 (loN a)] 96)).alloc (.cells #[.int .u64 (hiN b), .int .u64 (loN b)] 96)).alloc (.cells #[.int .u64 0, .int .u64 0] 96)) = w1 at *
  obtain ⟨g0, hg0⟩ : ∃ g, g = w.heap.size + 1 + 1 := ⟨_, rfl⟩
  rw [← hg0] at HO ⊢
  obtain ⟨gb, hgb⟩ : ∃ g, g = w.heap.size + 1 := ⟨_, rfl⟩
  rw [← hgb] at HO ⊢
  clear hg0 hgb
  go_wp2
  go_loopg [5] b (fun g v wr => ∃ x y : Nat, Hid (CmR 96 w gb g0 x y wr) ∧ Hid (g = y ∧ G = Nat.gcd x y ∧ x ≤ 170141183460469231731687303715884105728 ∧ y ≤ 170141183460469231731687303715884105728))
  case atStart => exact ⟨a, b, HO.out, rfl, HG.out, HA.out.1, HA.out.2⟩
  case round =>
    obtain ⟨x, y, HV, HP⟩ := hrel
    by_cases hy : y = 0
    · have e1 : (hiN y == 0) = true := by rw [hy]; rfl
      have e2 : (loN y == 0) = true := by rw [hy]; rfl
      have h := HP.out.2.1
      rw [hy, Nat.gcd_zero_right] at h
      subst h
      clear hy
      go_wp2_with (first | (refine wpList_load_row rfl 96 _ rfl w.heap.size rfl 96 _ (0, 0) _ HV.out.ha Tryz.underlying96 rfl (by kernel_rfl) ?_) | (refine wpList_load_row rfl 96 _ rfl gb rfl 96 _ (0, 0) _ HV.out.hb Tryz.underlying96 rfl (by kernel_rfl) ?_) | (refine wpList_store_row rfl 96 _ _ rfl g0 _ rfl rfl 96 _ HV.out.h0 (by kernel_rfl) rfl (by kernel_rfl) ?_))
      refine bodyPost_ret (results_cell_row (fn := Tryz.f59) rfl _ _ g0 _ _ _ _ rfl (setRow_heap _ _ _ _ _ _ HV.out.h0) Tryz.underlying96 rfl (by kernel_rfl)) rfl ?_
      exact ⟨rfl, below_row HV.out.below (by have := HV.out.ne; omega) _⟩
    · have e0 : ((hiN y == 0) && (loN y == 0)) = false := by
        rw [Bool.eq_false_iff]; intro h
        rw [Bool.and_eq_true] at h
        exact hy (hilo_zero.1 ⟨by simpa using h.1, by simpa using h.2⟩)
      cases e1 : (hiN y == 0) with
      | true =>
        have e2 : (loN y == 0) = false := by rw [e1, Bool.true_and] at e0; exact e0
        clear e0
        go_wp2_with (first | (refine wpList_load_row rfl 96 _ rfl w.heap.size rfl 96 _ (0, 0) _ HV.out.ha Tryz.underlying96 rfl (by kernel_rfl) ?_) | (refine wpList_load_row rfl 96 _ rfl gb rfl 96 _ (0, 0) _ HV.out.hb Tryz.underlying96 rfl (by kernel_rfl) ?_))
        refine (divide_any x y (by have h := HP.out; omega) (by omega) (by have h := HP.out; omega) _).mono ?_
        rintro e w3 ⟨rfl, hb2⟩
        have HV3 := Lib.hid (HV.out.step hb2)
        clear hb2 HV
        rw [show szV (x / y) = .agg #[.int .u64 (hiN (x / y)), .int .u64 (loN (x / y))] from rfl, show szV (x % y) = .agg #[.int .u64 (hiN (x % y)), .int .u64 (loN (x % y))] from rfl]
        have HZ := Lib.hid (two_fresh w3 96)
        go_upto_region 3 with (first | (refine wpList_store_row rfl 96 _ _ rfl w3.heap.size _ rfl rfl 96 _ HZ.out.1 (by kernel_rfl) rfl (by kernel_rfl) ?_) | (refine wpList_store_row rfl 96 _ _ rfl (w3.heap.size + 1) _ rfl rfl 96 _ (second_fresh _ HZ.out.2) (by kernel_rfl) rfl (by kernel_rfl) ?_))
        obtain ⟨pb, p1, p2⟩ := pair_stored w3 96 (x / y) (x % y)
        have HV4 := Lib.hid (HV3.out.step pb)
        have HR := Lib.hid p2
        have hlt : gb < w3.heap.size := HV3.out.hb.lt
        have hla : w.heap.size < w3.heap.size := HV3.out.ha.lt
        clear pb p1 p2 HZ HV3
        generalize (((w3.alloc (.cells #[.int .u64 0, .int .u64 0] 96)).alloc (.cells #[.int .u64 0, .int .u64 0] 96)).setRow w3.heap.size #[.int .u64 (hiN (x / y)), .int .u64 (loN (x / y))]).setRow (w3.heap.size + 1) #[.int .u64 (hiN (x % y)), .int .u64 (loN (x % y))] = w4 at *
        obtain ⟨gr, hgr⟩ : ∃ g, g = w3.heap.size + 1 := ⟨_, rfl⟩
        rw [← hgr] at HR ⊢
        have hgr2 : w.heap.size < gr ∧ gb < gr := by omega
        have HV5 := Lib.hid (HV4.out.setA y)
        have HR5 := Lib.hid (show Blk 96 gr (x % y) _ from row_other #[.int .u64 (hiN y), .int .u64 (loN y)] HR.out (show gr ≠ w.heap.size by omega))
        have HV6 := Lib.hid (HV5.out.setB (x % y))
        have HQ := Lib.hid (show G = Nat.gcd y (x % y) ∧ x % y < y from ⟨by rw [HP.out.2.1, Nat.gcd_comm x y, Nat.gcd_rec y x, Nat.gcd_comm], Nat.mod_lt _ (by omega)⟩)
        clear hgr hlt hla hgr2
        go_upto_region 4 with (first | (refine wpList_load_row rfl 96 _ rfl gb rfl 96 _ (0, 0) _ HV4.out.hb Tryz.underlying96 rfl (by kernel_rfl) ?_) | (refine wpList_store_row rfl 96 _ _ rfl w.heap.size _ rfl rfl 96 _ HV4.out.ha (by kernel_rfl) rfl (by kernel_rfl) ?_))
        go_wp2_with (first | (refine wpList_load_row rfl 96 _ rfl gr rfl 96 _ (0, 0) _ HR5.out Tryz.underlying96 rfl (by kernel_rfl) ?_) | (refine wpList_store_row rfl 96 _ _ rfl gb _ rfl rfl 96 _ HV5.out.hb (by kernel_rfl) rfl (by kernel_rfl) ?_))
        go_roundg (x % y)
        case measure => have h := HP.out; have h2 := HQ.out; omega
        case rel => exact ⟨y, x % y, HV6.out, rfl, HQ.out.1, by have h := HP.out; omega, by have h := HP.out; have h2 := HQ.out; omega⟩
      | false =>
        clear e0
        go_wp2_with (first | (refine wpList_load_row rfl 96 _ rfl w.heap.size rfl 96 _ (0, 0) _ HV.out.ha Tryz.underlying96 rfl (by kernel_rfl) ?_) | (refine wpList_load_row rfl 96 _ rfl gb rfl 96 _ (0, 0) _ HV.out.hb Tryz.underlying96 rfl (by kernel_rfl) ?_))
        refine (divide_any x y (by have h := HP.out; omega) (by omega) (by have h := HP.out; omega) _).mono ?_
        rintro e w3 ⟨rfl, hb2⟩
        have HV3 := Lib.hid (HV.out.step hb2)
        clear hb2 HV
        rw [show szV (x / y) = .agg #[.int .u64 (hiN (x / y)), .int .u64 (loN (x / y))] from rfl, show szV (x % y) = .agg #[.int .u64 (hiN (x % y)), .int .u64 (loN (x % y))] from rfl]
        have HZ := Lib.hid (two_fresh w3 96)
        go_upto_region 3 with (first | (refine wpList_store_row rfl 96 _ _ rfl w3.heap.size _ rfl rfl 96 _ HZ.out.1 (by kernel_rfl) rfl (by kernel_rfl) ?_) | (refine wpList_store_row rfl 96 _ _ rfl (w3.heap.size + 1) _ rfl rfl 96 _ (second_fresh _ HZ.out.2) (by kernel_rfl) rfl (by kernel_rfl) ?_))
        obtain ⟨pb, p1, p2⟩ := pair_stored w3 96 (x / y) (x % y)
        have HV4 := Lib.hid (HV3.out.step pb)
        have HR := Lib.hid p2
        have hlt : gb < w3.heap.size := HV3.out.hb.lt
        have hla : w.heap.size < w3.heap.size := HV3.out.ha.lt
        clear pb p1 p2 HZ HV3
        generalize (((w3.alloc (.cells #[.int .u64 0, .int .u64 0] 96)).alloc (.cells #[.int .u64 0, .int .u64 0] 96)).setRow w3.heap.size #[.int .u64 (hiN (x / y)), .int .u64 (loN (x / y))]).setRow (w3.heap.size + 1) #[.int .u64 (hiN (x % y)), .int .u64 (loN (x % y))] = w4 at *
        obtain ⟨gr, hgr⟩ : ∃ g, g = w3.heap.size + 1 := ⟨_, rfl⟩
        rw [← hgr] at HR ⊢
        have hgr2 : w.heap.size < gr ∧ gb < gr := by omega
        have HV5 := Lib.hid (HV4.out.setA y)
        have HR5 := Lib.hid (show Blk 96 gr (x % y) _ from row_other #[.int .u64 (hiN y), .int .u64 (loN y)] HR.out (show gr ≠ w.heap.size by omega))
        have HV6 := Lib.hid (HV5.out.setB (x % y))
        have HQ := Lib.hid (show G = Nat.gcd y (x % y) ∧ x % y < y from ⟨by rw [HP.out.2.1, Nat.gcd_comm x y, Nat.gcd_rec y x, Nat.gcd_comm], Nat.mod_lt _ (by omega)⟩)
        clear hgr hlt hla hgr2
        go_upto_region 4 with (first | (refine wpList_load_row rfl 96 _ rfl gb rfl 96 _ (0, 0) _ HV4.out.hb Tryz.underlying96 rfl (by kernel_rfl) ?_) | (refine wpList_store_row rfl 96 _ _ rfl w.heap.size _ rfl rfl 96 _ HV4.out.ha (by kernel_rfl) rfl (by kernel_rfl) ?_))
        go_wp2_with (first | (refine wpList_load_row rfl 96 _ rfl gr rfl 96 _ (0, 0) _ HR5.out Tryz.underlying96 rfl (by kernel_rfl) ?_) | (refine wpList_store_row rfl 96 _ _ rfl gb _ rfl rfl 96 _ HV5.out.hb (by kernel_rfl) rfl (by kernel_rfl) ?_))
        go_roundg (x % y)
        case measure => have h := HP.out; have h2 := HQ.out; omega
        case rel => exact ⟨y, x % y, HV6.out, rfl, HQ.out.1, by have h := HP.out; omega, by have h := HP.out; have h2 := HQ.out; omega⟩

end Go.Proofs.YtmelblnflalanaaGreat

/- Whether a fraction is right, as the document tells it. -/
namespace Go.Proofs.YtmelblnflalanaaGreat
open Go Go.RowKit
set_option linter.unusedVariables false
set_option linter.unusedSimpArgs false

set_option maxRecDepth 100000 in
set_option maxHeartbeats 4000000 in
theorem dright_any (x y : Int) (hx : I64 x) (hy : I64 y) (w : World) : Calls Tryz.prog 22 #[.agg #[.int .i64 x, .int .i64 y]] w fun e w' => e = .returned (.bool (rightR (x, y))) ∧ Below w.heap.size w w' := by
  have H1 := Lib.hid (heap_alloc_new w (.cells #[.int .i64 x, .int .i64 y] 24))
  have HB := Lib.hid (below_one w (.cells #[.int .i64 x, .int .i64 y] 24))
  by_cases h : 0 < y
  · have d1 : decide (0 < y) = true := decide_eq_true h
    have ax := abs64 hx
    have ay := abs64 hy
    have HS := Lib.hid (fun W => dsize_any x hx.1 hx.2 W)
    have HC := Lib.hid (fun W => dcommon_any x.natAbs y.natAbs (by omega) (by omega) W)
    have hG : Nat.gcd x.natAbs y.natAbs ≤ y.natAbs := Nat.le_of_dvd (by omega) (Nat.gcd_dvd_right _ _)
    have hyw : IntKind.u64.wrap y = (y.natAbs : Int) := by rw [IntKind.wrap_u64]; obtain ⟨_, _⟩ := hy; omega
    have hR : rightR (x, y) = true ↔ Nat.gcd x.natAbs y.natAbs = 1 := ⟨fun h' => (of_decide_eq_true h').2, fun h' => decide_eq_true ⟨h, h'⟩⟩
    obtain ⟨G, hg⟩ : ∃ G, G = Nat.gcd x.natAbs y.natAbs := ⟨_, rfl⟩
    rw [← hg] at HC hG hR
    have HC : Hid (∀ W, Calls Tryz.prog 59 #[.agg #[.int .u64 (hiN x.natAbs), .int .u64 (loN x.natAbs)], .agg #[.int .u64 (hiN y.natAbs), .int .u64 (loN y.natAbs)]] W fun e w' => e = .returned (.agg #[.int .u64 (hiN G), .int .u64 (loN G)]) ∧ Below W.heap.size W w') := HC
    rw [small_hi (show x.natAbs < 18446744073709551616 by omega), small_lo (show x.natAbs < 18446744073709551616 by omega), small_hi (show y.natAbs < 18446744073709551616 by omega), small_lo (show y.natAbs < 18446744073709551616 by omega), small_hi (show G < 18446744073709551616 by omega), small_lo (show G < 18446744073709551616 by omega)] at HC
    obtain ⟨R, hR2⟩ : ∃ R, R = rightR (x, y) := ⟨_, rfl⟩
    rw [← hR2] at hR ⊢
    have HR := Lib.hid hR
    clear hR2 hR hg hG h ax ay
    obtain ⟨mx, hmx⟩ : ∃ m, m = x.natAbs := ⟨_, rfl⟩
    obtain ⟨my, hmy⟩ : ∃ m, m = y.natAbs := ⟨_, rfl⟩
    rw [← hmx] at HS HC
    rw [← hmy] at HC hyw
    clear hmx hmy hx hy
    have hgr : ((G : Int) == 1) = R := by
      rw [Bool.eq_iff_iff, HR.out]
      simp
      omega
    clear HR
    go_enter Tryz.func22, Tryz.ntmps22
    go_upto_region 1 with fail
    generalize w.alloc (.cells #[.int .i64 x, .int .i64 y] 24) = w1 at *
    have kh : Below w.heap.size w w1.drew ∧ w1.drew.heap[w.heap.size]? = some (.cells #[.int .i64 x, .int .i64 y] 24) := ⟨Below.drew HB.out, H1.out⟩
    cases R with
    | true =>
      go_region_held3 (fun wr => wr.cell? ⟨w.heap.size, 0, none⟩ = some (.int .i64 x) ∧ wr.cell? ⟨w.heap.size, 1, none⟩ = some (.int .i64 y))
        (first | exact ⟨(cell_two kh.2).1, (cell_two kh.2).2.1⟩ | go_keep)
        (first | (go_at_call 60; refine (HS.out _).mono ?_; rintro e v1 ⟨rfl, rfl⟩) | (go_at_call 59; refine (HC.out _).mono ?_; rintro e v2 ⟨rfl, hb⟩; have kh := And.intro (kh.1.trans (hb.mono kh.1.size)) (heap_keep kh.2 hb); clear hb))
      go_wp2
      go_ret
      exact ⟨rfl, kh.1⟩
    | false =>
      go_region_held3 (fun wr => wr.cell? ⟨w.heap.size, 0, none⟩ = some (.int .i64 x) ∧ wr.cell? ⟨w.heap.size, 1, none⟩ = some (.int .i64 y))
        (first | exact ⟨(cell_two kh.2).1, (cell_two kh.2).2.1⟩ | go_keep)
        (first | (go_at_call 60; refine (HS.out _).mono ?_; rintro e v1 ⟨rfl, rfl⟩) | (go_at_call 59; refine (HC.out _).mono ?_; rintro e v2 ⟨rfl, hb⟩; have kh := And.intro (kh.1.trans (hb.mono kh.1.size)) (heap_keep kh.2 hb); clear hb))
      go_wp2
      go_ret
      exact ⟨rfl, kh.1⟩
  · have d1 : decide (0 < y) = false := decide_eq_false h
    have hR : rightR (x, y) = false := decide_eq_false (fun h' => h h'.1)
    rw [hR]
    clear hR h
    go_enter Tryz.func22, Tryz.ntmps22
    go_upto_region 1 with fail
    generalize w.alloc (.cells #[.int .i64 x, .int .i64 y] 24) = w1 at *
    obtain ⟨k1, k2, _, _⟩ := cell_two H1.out
    go_quiet (fail)
    go_wp2
    go_ret
    exact ⟨rfl, belowN HB.out _⟩

end Go.Proofs.YtmelblnflalanaaGreat
