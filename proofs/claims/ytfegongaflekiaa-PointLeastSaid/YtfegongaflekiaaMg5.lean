/- Texts of ours, laid together: Bh, Vp, Jh, Zv, Da, De, Dy, Jk. -/
import Derived.Deep.DeepCutAuto
import Derived.Test.YtfegongaflekiaaProg
import Derived.WalkKit
import Derived.KernelRfl
import Derived.Lib.Hide
import Derived.Deep.LoopGhost
import Derived.Deep.QuietTactic
import Derived.BigQuiet
import Derived.BigRegion
import Derived.StillTailTactics
import Derived.Deep.RegionWith
import Derived.Test.YtfegongaflekiaaMg4
/- Holds of the program: of whatever bound and fraction. -/
namespace Go.Proofs.Ytfegongaflekiaa
open Go Go.RowKit
set_option linter.unusedVariables false
set_option linter.unusedSimpArgs false

set_option maxRecDepth 100000 in
set_option maxHeartbeats 1000000 in
/-- The product of a number of a bound and of one above 0, in two words. -/
theorem product_any (v d : Int) (w : World) (hv0 : -268435456 ≤ v) (hv1 : v ≤ 268435456) (hd0 : 1 ≤ d) (hd1 : d ≤ 9223372036854775807) :
    Calls Try.prog 129 #[.int .i64 v, .int .i64 d] w fun e w' => e = .returned (.tuple #[.int .i64 (v * d / 18446744073709551616), .int .u64 (v * d % 18446744073709551616)]) ∧ w = w' := by
  have hP0 : -2475880078570760549798248448 ≤ v * d ∧ v * d ≤ 2475880078570760549798248448 := by
    have e1 : -(268435456 * d) ≤ v * d := by
      have := Int.mul_le_mul_of_nonneg_right hv0 (show (0 : Int) ≤ d by omega)
      rw [Int.neg_mul] at this
      exact this
    have e2 : v * d ≤ 268435456 * d := Int.mul_le_mul_of_nonneg_right hv1 (by omega)
    omega
  obtain ⟨D, hD⟩ : ∃ D : Nat, d = D := ⟨d.toNat, by omega⟩
  subst hD
  by_cases hn : v < 0
  · obtain ⟨V, hV⟩ : ∃ V : Nat, v + 18446744073709551616 = V := ⟨(v + 18446744073709551616).toNat, by omega⟩
    have HM := Lib.hid (fun w => mul64_any V D (by omega) (by omega) w)
    have hVD : ((V * D : Nat) : Int) = v * D + 18446744073709551616 * D := by
      rw [Int.natCast_mul, ← hV, Int.add_mul]
    obtain ⟨P, hP⟩ : ∃ P, P = v * (D : Int) := ⟨_, rfl⟩
    rw [← hP] at hVD hP0 ⊢
    obtain ⟨Q, hQ⟩ : ∃ Q, Q = V * D := ⟨_, rfl⟩
    rw [← hQ] at hVD HM
    clear hP hQ
    have g0 : IntKind.u64.wrap v = (V : Int) := by rw [IntKind.wrap_u64]; omega
    have g1 : IntKind.u64.wrap (D : Int) = (D : Int) := by rw [IntKind.wrap_u64]; omega
    have g2 : IntKind.i64.wrap (IntKind.u64.wrap (((Q / 18446744073709551616 : Nat) : Int) - D)) = P / 18446744073709551616 := by rw [IntKind.wrap_u64, IntKind.wrap_i64]; omega
    have g3 : ((Q % 18446744073709551616 : Nat) : Int) = P % 18446744073709551616 := by omega
    have d1 : decide (v < 0) = true := decide_eq_true hn
    have d2 : decide ((D : Int) < 0) = false := decide_eq_false (by omega)
    rw [g3] at HM
    obtain ⟨h, hh⟩ : ∃ h, h = ((Q / 18446744073709551616 : Nat) : Int) := ⟨_, rfl⟩
    rw [← hh] at HM g2
    obtain ⟨u, hu⟩ : ∃ u, u = P % 18446744073709551616 := ⟨_, rfl⟩
    rw [← hu] at HM ⊢
    obtain ⟨z, hz⟩ : ∃ z, z = P / 18446744073709551616 := ⟨_, rfl⟩
    rw [← hz] at g2 ⊢
    clear g3 hVD hP0 hu hh hV hz hv0 hv1 hd0 hd1
    have hd : ¬ (D : Int) < 0 := by omega
    go_enter Try.func129, Try.ntmps129
    go_wp2_with fail
    refine (HM.out _).mono ?_
    rintro e w' ⟨rfl, rfl⟩
    go_wp2
    go_ret2
    exact ⟨by simp [g2], rfl⟩
  · obtain ⟨V, hV⟩ : ∃ V : Nat, v = V := ⟨v.toNat, by omega⟩
    subst hV
    have HM := Lib.hid (fun w => mul64_any V D (by omega) (by omega) w)
    have hVD : ((V * D : Nat) : Int) = (V : Int) * D := Int.natCast_mul _ _
    rw [← hVD] at hP0 ⊢
    obtain ⟨Q, hQ⟩ : ∃ Q, Q = V * D := ⟨_, rfl⟩
    rw [← hQ] at hP0 HM ⊢
    have g0 : IntKind.u64.wrap (V : Int) = (V : Int) := by rw [IntKind.wrap_u64]; omega
    have g1 : IntKind.u64.wrap (D : Int) = (D : Int) := by rw [IntKind.wrap_u64]; omega
    have g2 : IntKind.i64.wrap ((Q / 18446744073709551616 : Nat) : Int) = (Q : Int) / 18446744073709551616 := by rw [IntKind.wrap_i64]; omega
    have g3 : ((Q % 18446744073709551616 : Nat) : Int) = (Q : Int) % 18446744073709551616 := by omega
    rw [g3] at HM
    obtain ⟨h, hh⟩ : ∃ h, h = ((Q / 18446744073709551616 : Nat) : Int) := ⟨_, rfl⟩
    rw [← hh] at HM g2
    obtain ⟨u, hu⟩ : ∃ u, u = (Q : Int) % 18446744073709551616 := ⟨_, rfl⟩
    rw [← hu] at HM ⊢
    obtain ⟨z, hz⟩ : ∃ z, z = (Q : Int) / 18446744073709551616 := ⟨_, rfl⟩
    rw [← hz] at g2 ⊢
    have hd : ¬ (D : Int) < 0 := by omega
    clear g3 hVD hP0 hu hh hz hv0 hv1 hd0 hd1 hQ
    go_enter Try.func129, Try.ntmps129
    go_wp2_with fail
    refine (HM.out _).mono ?_
    rintro e w' ⟨rfl, rfl⟩
    go_wp2
    go_ret2
    exact ⟨by simp [g2], rfl⟩

/-- Two numbers held against one another by their words. -/
theorem words_lt (x P r : Int) (hx0 : -9223372036854775808 ≤ x) (hx1 : x ≤ 9223372036854775807) (hr : r = 0 ∨ r = 1) :
    decide (x < P + r) = (if (if x < 0 then -1 else 0) ≠ P / 18446744073709551616 then decide ((if x < 0 then -1 else 0 : Int) < P / 18446744073709551616)
      else (decide (x % 18446744073709551616 < P % 18446744073709551616) || (decide (x % 18446744073709551616 = P % 18446744073709551616) && decide (r = 1)))) := by
  by_cases hn : x < 0
  · rw [if_pos hn]
    by_cases hh : (-1 : Int) = P / 18446744073709551616
    · rw [if_neg (by simp [hh])]
      by_cases c : x % 18446744073709551616 < P % 18446744073709551616
      · rw [decide_eq_true c, decide_eq_true (by omega)]; rfl
      · rw [decide_eq_false c, Bool.false_or]
        by_cases c2 : x % 18446744073709551616 = P % 18446744073709551616
        · rw [decide_eq_true c2, Bool.true_and]
          by_cases c3 : r = 1
          · rw [decide_eq_true c3, decide_eq_true (by omega)]
          · rw [decide_eq_false c3, decide_eq_false (by omega)]
        · rw [decide_eq_false c2, Bool.false_and, decide_eq_false (by omega)]
    · rw [if_pos hh]
      by_cases c : (-1 : Int) < P / 18446744073709551616
      · rw [decide_eq_true c, decide_eq_true (by omega)]
      · rw [decide_eq_false c, decide_eq_false (by omega)]
  · rw [if_neg hn]
    by_cases hh : (0 : Int) = P / 18446744073709551616
    · rw [if_neg (by simp [← hh])]
      by_cases c : x % 18446744073709551616 < P % 18446744073709551616
      · rw [decide_eq_true c, decide_eq_true (by omega)]; rfl
      · rw [decide_eq_false c, Bool.false_or]
        by_cases c2 : x % 18446744073709551616 = P % 18446744073709551616
        · rw [decide_eq_true c2, Bool.true_and]
          by_cases c3 : r = 1
          · rw [decide_eq_true c3, decide_eq_true (by omega)]
          · rw [decide_eq_false c3, decide_eq_false (by omega)]
        · rw [decide_eq_false c2, Bool.false_and, decide_eq_false (by omega)]
    · rw [if_pos hh]
      by_cases c : (0 : Int) < P / 18446744073709551616
      · rw [decide_eq_true c, decide_eq_true (by omega)]
      · rw [decide_eq_false c, decide_eq_false (by omega)]

set_option maxRecDepth 100000 in
set_option maxHeartbeats 1000000 in
theorem holds_any (b x d : Int) (w : World) (hx0 : -9223372036854775808 ≤ x) (hx1 : x ≤ 9223372036854775807) (hd1 : d ≤ 9223372036854775807) :
    Calls Try.prog 114 #[.int .i32 b, .int .i64 x, .int .i64 d] w fun e w' => e = .returned (.bool (keepsB b x d)) ∧ w = w' := by
  by_cases h : someB b = true
  · have HV := Lib.hid (fun w => value_yes b w h)
    obtain ⟨hr, hn⟩ : rightB b = true ∧ b ≠ 2147483647 := by simpa [someB] using h
    have hbd := rightB_bd hr hn
    have t1 : (b != 2147483647) = true := by simp [hn]
    by_cases hd : d < 1
    · rw [show keepsB b x d = false from decide_eq_false (by omega)]
      clear hr hn hbd h
      obtain ⟨q, hq⟩ : ∃ q, q = b / 2 := ⟨_, rfl⟩
      obtain ⟨z, hz⟩ : ∃ z, z = decide (b % 2 = 1) := ⟨_, rfl⟩
      rw [← hq, ← hz] at HV
      clear hq hz
      go_enter Try.func114, Try.ntmps114
      go_wp2_with fail
      refine (HV.out _).mono ?_
      rintro e w' ⟨rfl, rfl⟩
      go_wp2
      go_ret
      exact ⟨rfl, rfl⟩
    · have hk : keepsB b x d = decide (x < b / 2 * d + b % 2) := by
        unfold keepsB
        congr 1
        simp [h, hn]
        omega
      have HP := Lib.hid (fun w => product_any (b / 2) d w (by omega) (by omega) (by omega) hd1)
      have hw := words_lt x (b / 2 * d) (b % 2) hx0 hx1 (by omega)
      rw [hk, hw]
      generalize b / 2 * d = P at *
      obtain ⟨q, hq⟩ : ∃ q, q = b / 2 := ⟨_, rfl⟩
      obtain ⟨z, hz⟩ : ∃ z, z = decide (b % 2 = 1) := ⟨_, rfl⟩
      rw [← hq, ← hz] at HV
      rw [← hq] at HP
      have hz' : decide (b % 2 = 1) = z := hz.symm
      generalize P / 18446744073709551616 = ph at *
      generalize P % 18446744073709551616 = pl at *
      have g0 : IntKind.u64.wrap x = x % 18446744073709551616 := by rw [IntKind.wrap_u64]
      generalize x % 18446744073709551616 = xl at *
      clear hr hn hbd h hk hw hq hz t1
      have hd' : ¬ d < 1 := hd
      by_cases hn : x < 0
      · rw [if_pos hn]
        by_cases hh : (-1 : Int) = ph
        · subst hh
          rw [if_neg (by simp)]
          by_cases c : xl < pl
          · rw [decide_eq_true c, Bool.true_or]
            go_enter Try.func114, Try.ntmps114
            go_wp2_with fail
            refine (HV.out _).mono ?_
            rintro e w' ⟨rfl, rfl⟩
            go_wp2_with fail
            refine (HP.out _).mono ?_
            rintro e w' ⟨rfl, rfl⟩
            go_wp2
            go_ret
            exact ⟨by first | rfl | simp [*], rfl⟩
          · rw [decide_eq_false c, Bool.false_or]
            by_cases c2 : xl = pl
            · subst c2
              rw [decide_eq_true rfl, Bool.true_and, hz']
              cases z
              · go_enter Try.func114, Try.ntmps114
                go_wp2_with fail
                refine (HV.out _).mono ?_
                rintro e w' ⟨rfl, rfl⟩
                go_wp2_with fail
                refine (HP.out _).mono ?_
                rintro e w' ⟨rfl, rfl⟩
                go_wp2
                go_ret
                exact ⟨by first | rfl | simp [*], rfl⟩
              · go_enter Try.func114, Try.ntmps114
                go_wp2_with fail
                refine (HV.out _).mono ?_
                rintro e w' ⟨rfl, rfl⟩
                go_wp2_with fail
                refine (HP.out _).mono ?_
                rintro e w' ⟨rfl, rfl⟩
                go_wp2
                go_ret
                exact ⟨by first | rfl | simp [*], rfl⟩
            · rw [decide_eq_false c2, Bool.false_and]
              have t2 : (xl == pl) = false := by simp [c2]
              go_enter Try.func114, Try.ntmps114
              go_wp2_with fail
              refine (HV.out _).mono ?_
              rintro e w' ⟨rfl, rfl⟩
              go_wp2_with fail
              refine (HP.out _).mono ?_
              rintro e w' ⟨rfl, rfl⟩
              go_wp2
              go_ret
              exact ⟨by first | rfl | simp [*], rfl⟩
        · rw [if_pos hh]
          have t2 : ((-1 : Int) != ph) = true := by simp [hh]
          obtain ⟨u, hu⟩ : ∃ u, u = decide ((-1 : Int) < ph) := ⟨_, rfl⟩
          go_enter Try.func114, Try.ntmps114
          go_wp2_with fail
          refine (HV.out _).mono ?_
          rintro e w' ⟨rfl, rfl⟩
          go_wp2_with fail
          refine (HP.out _).mono ?_
          rintro e w' ⟨rfl, rfl⟩
          go_wp2
          go_ret
          exact ⟨by first | rfl | simp [*], rfl⟩
      · rw [if_neg hn]
        by_cases hh : (0 : Int) = ph
        · subst hh
          rw [if_neg (by simp)]
          by_cases c : xl < pl
          · rw [decide_eq_true c, Bool.true_or]
            go_enter Try.func114, Try.ntmps114
            go_wp2_with fail
            refine (HV.out _).mono ?_
            rintro e w' ⟨rfl, rfl⟩
            go_wp2_with fail
            refine (HP.out _).mono ?_
            rintro e w' ⟨rfl, rfl⟩
            go_wp2
            go_ret
            exact ⟨by first | rfl | simp [*], rfl⟩
          · rw [decide_eq_false c, Bool.false_or]
            by_cases c2 : xl = pl
            · subst c2
              rw [decide_eq_true rfl, Bool.true_and, hz']
              cases z
              · go_enter Try.func114, Try.ntmps114
                go_wp2_with fail
                refine (HV.out _).mono ?_
                rintro e w' ⟨rfl, rfl⟩
                go_wp2_with fail
                refine (HP.out _).mono ?_
                rintro e w' ⟨rfl, rfl⟩
                go_wp2
                go_ret
                exact ⟨by first | rfl | simp [*], rfl⟩
              · go_enter Try.func114, Try.ntmps114
                go_wp2_with fail
                refine (HV.out _).mono ?_
                rintro e w' ⟨rfl, rfl⟩
                go_wp2_with fail
                refine (HP.out _).mono ?_
                rintro e w' ⟨rfl, rfl⟩
                go_wp2
                go_ret
                exact ⟨by first | rfl | simp [*], rfl⟩
            · rw [decide_eq_false c2, Bool.false_and]
              have t2 : (xl == pl) = false := by simp [c2]
              go_enter Try.func114, Try.ntmps114
              go_wp2_with fail
              refine (HV.out _).mono ?_
              rintro e w' ⟨rfl, rfl⟩
              go_wp2_with fail
              refine (HP.out _).mono ?_
              rintro e w' ⟨rfl, rfl⟩
              go_wp2
              go_ret
              exact ⟨by first | rfl | simp [*], rfl⟩
        · rw [if_pos hh]
          have t2 : ((0 : Int) != ph) = true := by simp [hh]
          obtain ⟨u, hu⟩ : ∃ u, u = decide ((0 : Int) < ph) := ⟨_, rfl⟩
          go_enter Try.func114, Try.ntmps114
          go_wp2_with fail
          refine (HV.out _).mono ?_
          rintro e w' ⟨rfl, rfl⟩
          go_wp2_with fail
          refine (HP.out _).mono ?_
          rintro e w' ⟨rfl, rfl⟩
          go_wp2
          go_ret
          exact ⟨by first | rfl | simp [*], rfl⟩
  · have h : someB b = false := by simpa using h
    have HV := Lib.hid (fun w => value_no b w h)
    by_cases hd : d < 1
    · rw [show keepsB b x d = false from decide_eq_false (by omega)]
      clear h
      go_enter Try.func114, Try.ntmps114
      go_wp2_with fail
      refine (HV.out _).mono ?_
      rintro e w' ⟨rfl, rfl⟩
      go_wp2
      go_ret
      exact ⟨rfl, rfl⟩
    · by_cases hn : b = 2147483647
      · subst hn
        rw [show keepsB 2147483647 x d = true from decide_eq_true ⟨by omega, .inl rfl⟩]
        clear h
        go_enter Try.func114, Try.ntmps114
        go_wp2_with fail
        refine (HV.out _).mono ?_
        rintro e w' ⟨rfl, rfl⟩
        go_wp2
        go_ret
        exact ⟨rfl, rfl⟩
      · rw [show keepsB b x d = false from decide_eq_false (by simp [h, hn])]
        have t1 : (b != 2147483647) = true := by simp [hn]
        clear h hn
        go_enter Try.func114, Try.ntmps114
        go_wp2_with fail
        refine (HV.out _).mono ?_
        rintro e w' ⟨rfl, rfl⟩
        go_wp2
        go_ret
        exact ⟨rfl, rfl⟩

end Go.Proofs.Ytfegongaflekiaa

/- Which of two fractions is greater, as rat holds them. -/
namespace Go.Proofs.Ytfegongaflekiaa
open Go Go.RowKit
set_option linter.unusedVariables false
set_option linter.unusedSimpArgs false

/-- Two fractions in blocks. -/
structure Rc2 (w0 : World) (x1 x2 y1 y2 : Int) (wr : World) : Prop where
  below : Below w0.heap.size w0 wr
  ha : wr.heap[w0.heap.size]? = some (.cells #[.int .i64 x1, .int .i64 x2] 59)
  hb : wr.heap[w0.heap.size + 1]? = some (.cells #[.int .i64 y1, .int .i64 y2] 59)
section
variable {w0 wr w' : World} {x1 x2 y1 y2 : Int}
theorem Rc2.step (h : Rc2 w0 x1 x2 y1 y2 wr) (hb : Below wr.heap.size wr w') : Rc2 w0 x1 x2 y1 y2 w' :=
  ⟨h.below.trans (hb.mono h.below.size), heap_keep h.ha hb, heap_keep h.hb hb⟩
theorem Rc2.drew (h : Rc2 w0 x1 x2 y1 y2 wr) : Rc2 w0 x1 x2 y1 y2 wr.drew := ⟨Below.drew h.below, h.ha, h.hb⟩
theorem Rc2.four (h : Rc2 w0 x1 x2 y1 y2 wr) : wr.cell? ⟨w0.heap.size, 0, none⟩ = some (.int .i64 x1) ∧ wr.cell? ⟨w0.heap.size, 1, none⟩ = some (.int .i64 x2) ∧ wr.cell? ⟨w0.heap.size + 1, 0, none⟩ = some (.int .i64 y1) ∧ wr.cell? ⟨w0.heap.size + 1, 1, none⟩ = some (.int .i64 y2) := by
  obtain ⟨a1, a2, _, _⟩ := cell_two h.ha
  obtain ⟨b1, b2, _, _⟩ := cell_two h.hb
  exact ⟨a1, a2, b1, b2⟩
end
theorem Rc2.fourX {w0 wr : World} {x1 x2 y1 y2 : Int} (h : Rc2 w0 x1 x2 y1 y2 wr) {g : Nat} (hg : w0.heap.size + 1 < g) (x y z : Value) :
    (((wr.setCell ⟨g, 0, none⟩ x).setCell ⟨g, 1, none⟩ y).setCell ⟨g, 2, none⟩ z).cell? ⟨w0.heap.size, 0, none⟩ = some (.int .i64 x1) ∧ (((wr.setCell ⟨g, 0, none⟩ x).setCell ⟨g, 1, none⟩ y).setCell ⟨g, 2, none⟩ z).cell? ⟨w0.heap.size, 1, none⟩ = some (.int .i64 x2) ∧
    (((wr.setCell ⟨g, 0, none⟩ x).setCell ⟨g, 1, none⟩ y).setCell ⟨g, 2, none⟩ z).cell? ⟨w0.heap.size + 1, 0, none⟩ = some (.int .i64 y1) ∧ (((wr.setCell ⟨g, 0, none⟩ x).setCell ⟨g, 1, none⟩ y).setCell ⟨g, 2, none⟩ z).cell? ⟨w0.heap.size + 1, 1, none⟩ = some (.int .i64 y2) := by
  have e1 := heap_other (c := 2) (g := g) z (heap_other (c := 1) (g := g) y (heap_other (c := 0) (g := g) x h.ha (by omega)) (by omega)) (by omega)
  have e2 := heap_other (c := 2) (g := g) z (heap_other (c := 1) (g := g) y (heap_other (c := 0) (g := g) x h.hb (by omega)) (by omega)) (by omega)
  obtain ⟨a1, a2, _, _⟩ := cell_two e1
  obtain ⟨b1, b2, _, _⟩ := cell_two e2
  exact ⟨a1, a2, b1, b2⟩
theorem Rc2.belowX {w0 wr : World} {x1 x2 y1 y2 : Int} (h : Rc2 w0 x1 x2 y1 y2 wr) {g : Nat} (hg : w0.heap.size + 1 < g) (x y z : Value) : Below w0.heap.size w0 (((wr.setCell ⟨g, 0, none⟩ x).setCell ⟨g, 1, none⟩ y).setCell ⟨g, 2, none⟩ z) := by
  have hl : w0.heap.size ≤ g := by omega
  exact ((h.below.setCell (p := ⟨g, 0, none⟩) hl _).setCell (p := ⟨g, 1, none⟩) hl _).setCell (p := ⟨g, 2, none⟩) hl _
theorem Rc2.made (w : World) (x1 x2 y1 y2 : Int) : Rc2 w x1 x2 y1 y2 ((w.alloc (.cells #[.int .i64 x1, .int .i64 x2] 59)).alloc (.cells #[.int .i64 y1, .int .i64 y2] 59)) := by
  obtain ⟨h1, h2⟩ := two_fr w (.cells #[.int .i64 x1, .int .i64 x2] 59) (.cells #[.int .i64 y1, .int .i64 y2] 59)
  exact ⟨below_two _ _ _, h1, h2⟩
theorem cmpI_neg {x : Int} (h : x < 0) : cmpQI x = -1 := by unfold cmpQI; rw [if_pos h]
theorem cmpI_zero : cmpQI 0 = 0 := rfl
theorem cmpI_pos {x : Int} (h : 0 < x) : cmpQI x = 1 := by unfold cmpQI; rw [if_neg (by omega), if_neg (by omega)]

set_option maxRecDepth 100000 in
set_option maxHeartbeats 8000000 in
theorem compare_any (x1 x2 y1 y2 : Int) (hx1 : I64 x1) (hx2 : I64 x2) (hy1 : I64 y1) (hy2 : I64 y2) (w : World) :
    Calls Try.prog 21 #[.agg #[.int .i64 x1, .int .i64 x2], .agg #[.int .i64 y1, .int .i64 y2]] w fun e w' => e = .returned (.int .i64 (cmpP (x1, x2) (y1, y2))) ∧ Below w.heap.size w w' := by
  have HBO := Lib.hid (fun W => both_any x1 x2 y1 y2 hx1 hx2 hy1 hy2 W)
  have HA1 := Lib.hid (show (rightR (x1, x2) && rightR (y1, y2)) = true → cmpP (x1, x2) (y1, y2) = cmpQI (x1 * y2 - y1 * x2) from fun h => by unfold cmpP; rw [if_pos h])
  have HA0 := Lib.hid (show (rightR (x1, x2) && rightR (y1, y2)) = false → cmpP (x1, x2) (y1, y2) = 0 from fun h => by unfold cmpP; rw [if_neg (by rw [h]; decide)])
  obtain ⟨AP, hAP⟩ : ∃ AP, AP = cmpP (x1, x2) (y1, y2) := ⟨_, rfl⟩
  obtain ⟨rb, hrb⟩ : ∃ rb, rb = (rightR (x1, x2) && rightR (y1, y2)) := ⟨_, rfl⟩
  rw [← hAP] at HA1 HA0 ⊢
  rw [← hrb] at HA1 HA0 HBO
  clear hAP hrb
  have HT1 := Lib.hid (fun W => times_any x1 y2 hx1 hy2 W)
  have HT2 := Lib.hid (fun W => times_any y1 x2 hy1 hx2 W)
  have HOP := Lib.hid (fun W => opposite_any (y1 * x2) W)
  have HSU := Lib.hid (fun W => sumq_any (x1 * y2) (-(y1 * x2)) W (prod_abs hx1 hy2) (by rw [Int.natAbs_neg]; exact prod_abs hy1 hx2))
  rw [show x1 * y2 + -(y1 * x2) = x1 * y2 - y1 * x2 from rfl] at HSU
  obtain ⟨X, hX⟩ : ∃ X, X = x1 * y2 - y1 * x2 := ⟨_, rfl⟩
  rw [← hX] at HSU HA1
  have HSU : Hid (∀ W, Calls Try.prog 71 #[wdV (x1 * y2), wdV (-(y1 * x2))] W fun e w' => e = .returned (.agg #[.int .u64 (hiN X.natAbs), .int .u64 (loN X.natAbs), .bool (decide (X < 0))]) ∧ Below W.heap.size W w') := HSU
  have HSZ : Hid (∀ W, Calls Try.prog 73 #[.agg #[.int .u64 (hiN X.natAbs), .int .u64 (loN X.natAbs)]] W fun e w' => e = .returned (.bool (decide (X.natAbs = 0))) ∧ Below W.heap.size W w') := Lib.hid (fun W => szero_any X.natAbs W)
  have HW := Lib.hid (Rc2.made w x1 x2 y1 y2)
  clear hX hx1 hx2 hy1 hy2
  go_enter Try.func21, Try.ntmps21
  go_upto_region 1 with fail
  generalize (w.alloc (.cells #[.int .i64 x1, .int .i64 x2] 59)).alloc (.cells #[.int .i64 y1, .int .i64 y2] 59) = w1 at *
  obtain ⟨k1, k2, k3, k4⟩ := HW.out.four
  go_wp2_with fail
  refine (HBO.out _).mono ?_
  rintro e w2 ⟨rfl, hb⟩
  have HW2 := Lib.hid (HW.out.step hb)
  clear hb HW HBO k1 k2 k3 k4
  cases rb with
  | false =>
    go_wp2
    go_ret
    exact ⟨by rw [HA0.out (by simp)]; rfl, HW2.out.below⟩
  | true =>
    have HE := Lib.hid (HA1.out (by simp))
    clear HA1 HA0
    go_upto_region 3 with fail
    go_cut [5] (fun s5 wx => ∃ g : Nat, s5 = .pointer (some ⟨g, 0, none⟩) ∧ Hid (wx.heap[g]? = some (.cells #[.int .u64 (hiN X.natAbs), .int .u64 (loN X.natAbs), .bool (decide (X < 0))] 116)) ∧ Hid (Below w.heap.size w wx))
    case first =>
      have kb := HW2.out.drew
      go_region_held3 (fun wr => wr.cell? ⟨w.heap.size, 0, none⟩ = some (.int .i64 x1) ∧ wr.cell? ⟨w.heap.size, 1, none⟩ = some (.int .i64 x2) ∧ wr.cell? ⟨w.heap.size + 1, 0, none⟩ = some (.int .i64 y1) ∧ wr.cell? ⟨w.heap.size + 1, 1, none⟩ = some (.int .i64 y2))
        (first | exact kb.four | exact (kb.step (below_one v7 _)).four | exact kb.fourX hlt _ _ _ | exact (kb.step (below_one _ _)).four | go_keep)
        (first | (go_at_call_of 70 x1; refine (HT1.out _).mono ?_; rintro e v1 ⟨rfl, hb⟩; have hz := heap_keep hz hb; have kb := kb.step hb; obtain ⟨z1, z2, z3, z4⟩ := cell_three hz; obtain ⟨z5, z6, z7⟩ := three_frozen hz; clear hb) | (go_at_call_of 70 x1; refine (HT1.out _).mono ?_; rintro e v1 ⟨rfl, hb⟩; have kb := kb.step hb; clear hb) | (go_at_call_of 70 x1; refine (HT1.out _).mono ?_; rintro e v1 ⟨rfl, hb⟩; have hlt := heap_lt2 kb.hb; have hz := heap_keep (heap_alloc_new _ _) hb; have kb := (kb.step (below_one _ _)).step hb; obtain ⟨z1, z2, z3, z4⟩ := cell_three hz; obtain ⟨z5, z6, z7⟩ := three_frozen hz; clear hb) | (go_at_call_of 70 x1; refine (HT1.out _).mono ?_; rintro e v1 ⟨rfl, hb⟩; have hlt := heap_lt2 HW2.out.hb; have hz := heap_keep (w := (w2.alloc _).drew) (heap_alloc_new w2 _) hb; have kb := (HW2.out.step (below_one w2 _)).drew.step hb; obtain ⟨z1, z2, z3, z4⟩ := cell_three hz; obtain ⟨z5, z6, z7⟩ := three_frozen hz; clear hb) | (go_at_call_of 70 y1; refine (HT2.out _).mono ?_; rintro e v2 ⟨rfl, hb⟩; have hz := heap_keep hz hb; have kb := kb.step hb; obtain ⟨z1, z2, z3, z4⟩ := cell_three hz; obtain ⟨z5, z6, z7⟩ := three_frozen hz; clear hb) | (go_at_call_of 70 y1; refine (HT2.out _).mono ?_; rintro e v2 ⟨rfl, hb⟩; have kb := kb.step hb; clear hb) | (go_at_call_of 70 y1; refine (HT2.out _).mono ?_; rintro e v2 ⟨rfl, hb⟩; have hlt := heap_lt2 kb.hb; have hz := heap_keep (heap_alloc_new _ _) hb; have kb := (kb.step (below_one _ _)).step hb; obtain ⟨z1, z2, z3, z4⟩ := cell_three hz; obtain ⟨z5, z6, z7⟩ := three_frozen hz; clear hb) | (go_at_call_of 70 y1; refine (HT2.out _).mono ?_; rintro e v2 ⟨rfl, hb⟩; have hlt := heap_lt2 HW2.out.hb; have hz := heap_keep (w := (w2.alloc _).drew) (heap_alloc_new w2 _) hb; have kb := (HW2.out.step (below_one w2 _)).drew.step hb; obtain ⟨z1, z2, z3, z4⟩ := cell_three hz; obtain ⟨z5, z6, z7⟩ := three_frozen hz; clear hb) | (go_at_call 71; refine (HSU.out _).mono ?_; rintro e v7 ⟨rfl, hb⟩; have hz := heap_keep hz hb; have kb := kb.step hb; obtain ⟨z1, z2, z3, z4⟩ := cell_three hz; obtain ⟨z5, z6, z7⟩ := three_frozen hz; clear hb) | (go_at_call 71; refine (HSU.out _).mono ?_; rintro e v7 ⟨rfl, hb⟩; have kb := kb.step hb; clear hb) | (go_at_call 71; refine (HSU.out _).mono ?_; rintro e v7 ⟨rfl, hb⟩; have hlt := heap_lt2 kb.hb; have hz := heap_keep (heap_alloc_new _ _) hb; have kb := (kb.step (below_one _ _)).step hb; obtain ⟨z1, z2, z3, z4⟩ := cell_three hz; obtain ⟨z5, z6, z7⟩ := three_frozen hz; clear hb) | (go_at_call 72; refine (HOP.out _).mono ?_; rintro e v8 ⟨rfl, hb⟩; have hz := heap_keep hz hb; have kb := kb.step hb; obtain ⟨z1, z2, z3, z4⟩ := cell_three hz; obtain ⟨z5, z6, z7⟩ := three_frozen hz; clear hb) | (go_at_call 72; refine (HOP.out _).mono ?_; rintro e v8 ⟨rfl, hb⟩; have kb := kb.step hb; clear hb) | (go_at_call 72; refine (HOP.out _).mono ?_; rintro e v8 ⟨rfl, hb⟩; have hlt := heap_lt2 kb.hb; have hz := heap_keep (heap_alloc_new _ _) hb; have kb := (kb.step (below_one _ _)).step hb; obtain ⟨z1, z2, z3, z4⟩ := cell_three hz; obtain ⟨z5, z6, z7⟩ := three_frozen hz; clear hb))
      all_goals
        first
          | (have HX := Lib.hid (three_set hz (.int .u64 (hiN X.natAbs)) (.int .u64 (loN X.natAbs)) (.bool (decide (X < 0))))
             have HY := Lib.hid (kb.belowX hlt (.int .u64 (hiN X.natAbs)) (.int .u64 (loN X.natAbs)) (.bool (decide (X < 0))))
             go_wp2_with fail
             go_meet
             exact ⟨_, rfl, HX, HY⟩)
          | (have HX := Lib.hid (heap_alloc_new v7 (.cells #[.int .u64 (hiN X.natAbs), .int .u64 (loN X.natAbs), .bool (decide (X < 0))] 116))
             have HY := Lib.hid (kb.step (below_one v7 (.cells #[.int .u64 (hiN X.natAbs), .int .u64 (loN X.natAbs), .bool (decide (X < 0))] 116))).below
             go_wp2_with fail
             go_meet
             exact ⟨_, rfl, HX, HY⟩)
    case rest =>
      obtain ⟨g, rfl, H5, HB⟩ := hcut
      obtain ⟨c1, c2, c3, _⟩ := cell_three H5.out
      go_wp2_with fail
      refine (HSZ.out _).mono ?_
      rintro e w4 ⟨rfl, hb⟩
      have H6 := Lib.hid (heap_keep H5.out hb)
      have HB4 := Lib.hid (HB.out.trans (hb.mono HB.out.size))
      clear hb c1 c2 c3 H5 HB
      obtain ⟨c1, c2, c3, _⟩ := cell_three H6.out
      rcases Int.lt_trichotomy X 0 with hx | hx | hx
      · have d1 : decide (X.natAbs = 0) = false := decide_eq_false (by omega)
        have d2 : decide (X < 0) = true := decide_eq_true hx
        have HR := Lib.hid (HE.out.trans (cmpI_neg hx))
        rw [d1]
        rw [d2] at c3
        clear hx HE d1 d2
        go_wp2
        go_ret
        exact ⟨by rw [HR.out]; rfl, HB4.out⟩
      · have d1 : decide (X.natAbs = 0) = true := decide_eq_true (by omega)
        have HR := Lib.hid (show AP = 0 by rw [HE.out, hx]; rfl)
        rw [d1]
        clear hx HE d1
        go_wp2
        go_ret
        exact ⟨by rw [HR.out]; rfl, HB4.out⟩
      · have d1 : decide (X.natAbs = 0) = false := decide_eq_false (by omega)
        have d2 : decide (X < 0) = false := decide_eq_false (by omega)
        have HR := Lib.hid (HE.out.trans (cmpI_pos hx))
        rw [d1]
        rw [d2] at c3
        clear hx HE d1 d2
        go_wp2
        go_ret
        exact ⟨by rw [HR.out]; rfl, HB4.out⟩

end Go.Proofs.Ytfegongaflekiaa

/- A clock's value, and whether a difference keeps a bound, as point tells them. -/
namespace Go.Proofs.Ytfegongaflekiaa
open Go Go.RowKit
set_option linter.unusedVariables false
set_option linter.unusedSimpArgs false

theorem clock64 {l : List (Int × Int)} (h : All64v l) {i : Nat} (hi : i ≤ l.length) : I64 (clockV l i).1 ∧ I64 (clockV l i).2 := by
  unfold clockV
  split
  · exact ⟨⟨by decide, by decide⟩, ⟨by decide, by decide⟩⟩
  · exact h (i - 1) (by omega)

set_option maxRecDepth 100000 in
set_option maxHeartbeats 1000000 in
theorem at_val (A : Option Addr) (c : Nat) (l : List (Int × Int)) (i : Nat) (hi : i ≤ l.length) (hmax : l.length ≤ 8796093022000) (w : World) (hI : RatsA w A l) :
    Calls Try.prog 78 #[.slice A l.length c, .int .i64 i] w fun e w' => e = .returned (.agg #[.int .i64 (clockV l i).1, .int .i64 (clockV l i).2]) ∧ Below w.heap.size w w' := by
  have K := Lib.hid ((Blx.start w).new #[.int .i64 0, .int .i64 0] 59)
  by_cases h0 : i = 0
  · subst h0
    have HO := Lib.hid (fun W => rof2_any 0 W)
    rw [show clockV l 0 = (0, 1) from rfl]
    clear hI hi hmax
    go_enter Try.func78, Try.ntmps78
    go_upto_block 0 with fail
    generalize w.alloc (.cells #[.int .i64 0, .int .i64 0] 59) = w1 at *
    go_wp2_with fail
    refine (HO.out _).mono ?_
    rintro e w2 ⟨rfl, hb⟩
    replace K := Lib.hid (K.out.step hb)
    clear hb
    obtain ⟨k1, k2, k3, k4⟩ := K.out.cells2 0 rfl
    replace K := Lib.hid ((K.out.set 0 rfl 0 (.int .i64 0)).set 0 rfl 1 (.int .i64 1))
    go_wp2
    refine bodyPost_ret (results_cell_row (fn := Try.f78) rfl _ _ w.heap.size _ _ _ _ rfl (K.out.l _ (List.mem_singleton.2 rfl)) Try.underlying59 rfl (by kernel_rfl)) rfl ?_
    exact ⟨rfl, K.out.below⟩
  · have e0 : ((i : Int) == 0) = false := by simp; omega
    have HI := Lib.hid hI
    obtain ⟨b, off, rfl, d1, d2⟩ := HI.out.below K.out.below (i - 1) (by omega)
    rw [show clockV l i = l.getD (i - 1) (0, 0) by unfold clockV; rw [if_neg h0]]
    obtain ⟨x, hx⟩ : ∃ q, q = l.getD (i - 1) (0, 0) := ⟨_, rfl⟩
    rw [← hx] at d1 d2 ⊢
    obtain ⟨x1, x2⟩ := x
    have f1 : IntKind.i64.wrap ((i : Int) - 1) = ((i - 1 : Nat) : Int) := by rw [IntWalk.i64_in _ (by omega)]; omega
    have f2 : ((i - 1 : Nat) : Int) < (l.length : Int) := by omega
    clear hx hI HI hi h0
    go_enter Try.func78, Try.ntmps78
    go_wp2
    refine bodyPost_ret (results_cell_row (fn := Try.f78) rfl _ _ w.heap.size _ _ _ _ rfl (heap_alloc_new _ _) Try.underlying59 rfl (by kernel_rfl)) rfl ?_
    exact ⟨rfl, below_one _ _⟩

/-- What wide tells by the difference of the whole parts, and which of the rests is greater. -/
def wideKP (k n c : Int) (r : Bool) : Bool := if k = n then (decide (c < 0) || (decide (c = 0) && r)) else decide (k < n)

def tbWideA (x1 x2 y1 y2 f g k : Int) (g1 g2 : Nat) : List (Nat × Nat × Value) :=
  [(0, 11, .agg #[.int .i64 x1, .int .i64 x2]), (1, 12, .int .i64 f), (2, 13, .agg #[.int .i64 y1, .int .i64 y2]), (3, 14, .int .i64 g), (4, 15, .int .i64 k), (5, 9, .int .i64 k)]
def bsWideA (x1 x2 y1 y2 f g k : Int) (g1 g2 : Nat) : List (Nat × Value) := [(4, .pointer (some ⟨g1, 0, none⟩)), (5, .pointer (some ⟨g2, 0, none⟩))]

def tbWideB (x1 x2 y1 y2 p1 p2 q1 q2 c k : Int) (g1 g2 : Nat) : List (Nat × Nat × Value) :=
  [(0, 16, .agg #[.int .i64 x1, .int .i64 x2]), (1, 17, .agg #[.int .i64 p1, .int .i64 p2]), (2, 18, .agg #[.int .i64 y1, .int .i64 y2]), (3, 19, .agg #[.int .i64 q1, .int .i64 q2]), (4, 20, .int .i64 c), (5, 10, .int .i64 c)]
def bsWideB (x1 x2 y1 y2 p1 p2 q1 q2 c k : Int) (g1 g2 : Nat) : List (Nat × Value) := [(4, .pointer (some ⟨g1, 0, none⟩)), (5, .pointer (some ⟨g2, 0, none⟩)), (9, .int .i64 k)]

set_option maxRecDepth 100000 in
set_option maxHeartbeats 8000000 in
theorem wideq_any (x1 x2 y1 y2 n : Int) (r : Bool) (hx1 : I64 x1) (hx2 : I64 x2) (hy1 : I64 y1) (hy2 : I64 y2) (h0 : 0 ≤ floorP (x1, x2)) (h1 : 0 ≤ floorP (y1, y2)) (hn : -268435456 ≤ n ∧ n ≤ 268435456) (w : World) :
    Calls Try.prog 115 #[.agg #[.int .i64 x1, .int .i64 x2], .agg #[.int .i64 y1, .int .i64 y2], .int .i64 n, .bool r] w fun e w' => e = .returned (.bool (wideKP (floorP (x1, x2) - floorP (y1, y2)) n (cmpP (partP (x1, x2)) (partP (y1, y2))) r)) ∧ Below w.heap.size w w' := by
  have HFX := Lib.hid (fun W => floor_any x1 x2 hx1 hx2 W)
  have HFY := Lib.hid (fun W => floor_any y1 y2 hy1 hy2 W)
  have HPX := Lib.hid (fun W => frac_any x1 x2 hx1 hx2 W)
  have HPY := Lib.hid (fun W => frac_any y1 y2 hy1 hy2 W)
  have px := part64 (r := (x1, x2)) hx1 hx2
  have py := part64 (r := (y1, y2)) hy1 hy2
  have f64 := floor64 (r := (x1, x2)) hx1
  have g64 := floor64 (r := (y1, y2)) hy1
  obtain ⟨f, hf⟩ : ∃ q, q = floorP (x1, x2) := ⟨_, rfl⟩
  obtain ⟨g, hg⟩ : ∃ q, q = floorP (y1, y2) := ⟨_, rfl⟩
  obtain ⟨p, hp⟩ : ∃ q, q = partP (x1, x2) := ⟨_, rfl⟩
  obtain ⟨q, hq⟩ : ∃ z, z = partP (y1, y2) := ⟨_, rfl⟩
  rw [← hf] at HFX h0 f64 ⊢
  rw [← hg] at HFY h1 g64 ⊢
  rw [← hp] at HPX px ⊢
  rw [← hq] at HPY py ⊢
  obtain ⟨p1, p2⟩ := p
  obtain ⟨q1, q2⟩ := q
  unfold rtV at HPX HPY
  have HC := Lib.hid (fun W => compare_any p1 p2 q1 q2 px.1 px.2 py.1 py.2 W)
  obtain ⟨c, hc⟩ : ∃ z, z = cmpP (p1, p2) (q1, q2) := ⟨_, rfl⟩
  rw [← hc] at HC ⊢
  obtain ⟨k, hk⟩ : ∃ z, z = f - g := ⟨_, rfl⟩
  have w1 : IntKind.i64.wrap (f - g) = k := by
    obtain ⟨_, _⟩ := f64
    obtain ⟨_, _⟩ := g64
    rw [IntWalk.i64_in _ (by omega)]; exact hk.symm
  have w2 : IntKind.i64.wrap (n + 1) = n + 1 := IntWalk.i64_in _ (by omega)
  have w3 : IntKind.i64.wrap (n - 1) = n - 1 := IntWalk.i64_in _ (by omega)
  rw [← hk]
  obtain ⟨R, hR⟩ : ∃ z, z = wideKP k n c r := ⟨_, rfl⟩
  rw [← hR]
  have HR := Lib.hid hR
  have K := Lib.hid (((Blx.start w).new #[.int .i64 x1, .int .i64 x2] 59).new #[.int .i64 y1, .int .i64 y2] 59)
  rw [show (w.alloc (.cells #[.int .i64 x1, .int .i64 x2] 59)).heap.size = w.heap.size + 1 by simp] at K
  clear hf hg hp hq hc hk hR h0 h1 f64 g64 px py hx1 hx2 hy1 hy2 hn
  go_enter Try.func115, Try.ntmps115
  go_upto_block 0 with fail
  generalize (w.alloc (.cells #[.int .i64 x1, .int .i64 x2] 59)).alloc (.cells #[.int .i64 y1, .int .i64 y2] 59) = wa at *
  simp only [List.cons_append, List.nil_append] at K
  go_upto_region 1 with fail
  refine wp_region_tab (by kernel_rfl) [4, 5, 11, 12, 13, 14, 15, 9] [[], [0], [], [1, 2], [1, 3], [0, 1, 2, 3, 4]]
    (fun L vals wx => Blx w [(w.heap.size, #[.int .i64 x1, .int .i64 x2], 59), (w.heap.size + 1, #[.int .i64 y1, .int .i64 y2], 59)] wx ∧ TabR (tbWideA x1 x2 y1 y2 f g k w.heap.size (w.heap.size + 1)) (bsWideA x1 x2 y1 y2 f g k w.heap.size (w.heap.size + 1)) L vals) (by kernel_rfl) rfl ?_ ?_ ?_
  · exact ⟨K.out.drew, TabR.start (by simp [bsWideA])⟩
  · intro i hi a L vals wx E hJ hLi hn K hK hK0
    obtain ⟨hI, hT⟩ := hJ
    match i, hi with
    | 0, _ => exact op_loadG rfl rfl rfl rfl Try.underlying59 rfl (by kernel_rfl) ((E 4 (by decide)).trans (hT.rd 0 rfl)) (hI.l (w.heap.size, #[.int .i64 x1, .int .i64 x2], 59) (by simp)) (hK 11 _ _ (by decide) ⟨hI, hT.set 0 rfl (by kernel_rfl) (by kernel_rfl)⟩)
    | 1, _ =>
      have e1 := (E 11 (by decide)).trans (hT.val 0 rfl (hn 0 (by decide)))
      exact op_goG rfl rfl rfl rfl Try.func130 (by kernel_rfl) rfl (by simp only [List.map_toArray, List.map_cons, List.map_nil, e1]) (HFX.out _) (fun w' hb => hK 12 _ _ (by decide) ⟨hI.step hb, hT.set 1 rfl (by kernel_rfl) (by kernel_rfl)⟩)
    | 2, _ => exact op_loadG rfl rfl rfl rfl Try.underlying59 rfl (by kernel_rfl) ((E 5 (by decide)).trans (hT.rd 1 rfl)) (hI.l (w.heap.size + 1, #[.int .i64 y1, .int .i64 y2], 59) (by simp)) (hK 13 _ _ (by decide) ⟨hI, hT.set 2 rfl (by kernel_rfl) (by kernel_rfl)⟩)
    | 3, _ =>
      have e1 := (E 13 (by decide)).trans (hT.val 2 rfl (hn 2 (by decide)))
      exact op_goG rfl rfl rfl rfl Try.func130 (by kernel_rfl) rfl (by simp only [List.map_toArray, List.map_cons, List.map_nil, e1]) (HFY.out _) (fun w' hb => hK 14 _ _ (by decide) ⟨hI.step hb, hT.set 3 rfl (by kernel_rfl) (by kernel_rfl)⟩)
    | 4, _ =>
      have e1 := (E 12 (by decide)).trans (hT.val 1 rfl (hn 1 (by decide)))
      have e2 := (E 14 (by decide)).trans (hT.val 3 rfl (hn 3 (by decide)))
      refine op_valueG (w' := wx) (v := .int .i64 k) rfl rfl rfl ?_ (hK 15 _ _ (by decide) ⟨hI, hT.set 4 rfl (by kernel_rfl) (by kernel_rfl)⟩)
      clear hK hK0 hT E
      revert e1 e2
      generalize a.eval = ρ
      intro e1 e2
      go_simp
    | 5, _ => exact op_assignG rfl rfl rfl rfl ((E 15 (by decide)).trans (hT.val 4 rfl (hn 4 (by decide)))) (hK 9 _ _ (by decide) ⟨hI, hT.set 5 rfl (by kernel_rfl) (by kernel_rfl)⟩)
    | k + 6, h => exact absurd (show k + 6 < 6 from h) (by omega)
  · intro L vals wx hJ hall
    obtain ⟨hI, hT⟩ := hJ
    have HI := Lib.hid hI
    have v4 : vals 4 = .pointer (some ⟨w.heap.size, 0, none⟩) := hT.rd 0 rfl
    have v5 : vals 5 = .pointer (some ⟨(w.heap.size + 1), 0, none⟩) := hT.rd 1 rfl
    have v9 : vals 9 = .int .i64 k := hT.val 5 rfl (hall 5 (by decide))
    simp only [overA, Act.put, List.setIfInBounds_toArray, List.set_cons_zero, List.set_cons_succ]
    rw [v4, v5, v9]
    clear hI hT hall v4 v5 v9
    replace K := HI
    clear HI
    generalize wx = wb at *
    go_upto_region 2 with fail
    refine wp_region_tab (by kernel_rfl) [4, 5, 9, 16, 17, 18, 19, 20, 10] [[], [0], [], [1, 2], [1, 3], [0, 1, 2, 3, 4]]
      (fun L vals wx => Blx w [(w.heap.size, #[.int .i64 x1, .int .i64 x2], 59), (w.heap.size + 1, #[.int .i64 y1, .int .i64 y2], 59)] wx ∧ TabR (tbWideB x1 x2 y1 y2 p1 p2 q1 q2 c k w.heap.size (w.heap.size + 1)) (bsWideB x1 x2 y1 y2 p1 p2 q1 q2 c k w.heap.size (w.heap.size + 1)) L vals) (by kernel_rfl) rfl ?_ ?_ ?_
    · exact ⟨K.out.drew, TabR.start (by simp [bsWideB])⟩
    · intro i hi a L vals wx E hJ hLi hn K hK hK0
      obtain ⟨hI, hT⟩ := hJ
      match i, hi with
      | 0, _ => exact op_loadG rfl rfl rfl rfl Try.underlying59 rfl (by kernel_rfl) ((E 4 (by decide)).trans (hT.rd 0 rfl)) (hI.l (w.heap.size, #[.int .i64 x1, .int .i64 x2], 59) (by simp)) (hK 16 _ _ (by decide) ⟨hI, hT.set 0 rfl (by kernel_rfl) (by kernel_rfl)⟩)
      | 1, _ =>
        have e1 := (E 16 (by decide)).trans (hT.val 0 rfl (hn 0 (by decide)))
        exact op_goG rfl rfl rfl rfl Try.func131 (by kernel_rfl) rfl (by simp only [List.map_toArray, List.map_cons, List.map_nil, e1]) (HPX.out _) (fun w' hb => hK 17 _ _ (by decide) ⟨hI.step hb, hT.set 1 rfl (by kernel_rfl) (by kernel_rfl)⟩)
      | 2, _ => exact op_loadG rfl rfl rfl rfl Try.underlying59 rfl (by kernel_rfl) ((E 5 (by decide)).trans (hT.rd 1 rfl)) (hI.l (w.heap.size + 1, #[.int .i64 y1, .int .i64 y2], 59) (by simp)) (hK 18 _ _ (by decide) ⟨hI, hT.set 2 rfl (by kernel_rfl) (by kernel_rfl)⟩)
      | 3, _ =>
        have e1 := (E 18 (by decide)).trans (hT.val 2 rfl (hn 2 (by decide)))
        exact op_goG rfl rfl rfl rfl Try.func131 (by kernel_rfl) rfl (by simp only [List.map_toArray, List.map_cons, List.map_nil, e1]) (HPY.out _) (fun w' hb => hK 19 _ _ (by decide) ⟨hI.step hb, hT.set 3 rfl (by kernel_rfl) (by kernel_rfl)⟩)
      | 4, _ =>
        have e1 := (E 17 (by decide)).trans (hT.val 1 rfl (hn 1 (by decide)))
        have e2 := (E 19 (by decide)).trans (hT.val 3 rfl (hn 3 (by decide)))
        exact op_goG rfl rfl rfl rfl Try.func21 (by kernel_rfl) rfl (by simp only [List.map_toArray, List.map_cons, List.map_nil, e1, e2]) (HC.out _) (fun w' hb => hK 20 _ _ (by decide) ⟨hI.step hb, hT.set 4 rfl (by kernel_rfl) (by kernel_rfl)⟩)
      | 5, _ => exact op_assignG rfl rfl rfl rfl ((E 20 (by decide)).trans (hT.val 4 rfl (hn 4 (by decide)))) (hK 10 _ _ (by decide) ⟨hI, hT.set 5 rfl (by kernel_rfl) (by kernel_rfl)⟩)
      | k + 6, h => exact absurd (show k + 6 < 6 from h) (by omega)
    · intro L vals wx hJ hall
      obtain ⟨hI, hT⟩ := hJ
      have HI := Lib.hid hI
      have v4 : vals 4 = .pointer (some ⟨w.heap.size, 0, none⟩) := hT.rd 0 rfl
      have v5 : vals 5 = .pointer (some ⟨(w.heap.size + 1), 0, none⟩) := hT.rd 1 rfl
      have v9 : vals 9 = .int .i64 k := hT.rd 2 rfl
      have v10 : vals 10 = .int .i64 c := hT.val 5 rfl (hall 5 (by decide))
      simp only [overA, Act.put, List.setIfInBounds_toArray, List.set_cons_zero, List.set_cons_succ]
      rw [v4, v5, v9, v10]
      clear hI hT hall v4 v5 v9 v10
      clear HFX HFY HPX HPY HC K
      by_cases ck : k = n
      · subst ck
        by_cases c0 : c < 0
        · have d0 : decide (c < 0) = true := decide_eq_true c0
          have HE : Hid (R = true) := Lib.hid (by rw [HR.out]; unfold wideKP; rw [if_pos rfl, d0]; rfl)
          go_wp2
          go_ret
          exact ⟨by rw [HE.out]; rfl, HI.out.below⟩
        · have d0 : decide (c < 0) = false := decide_eq_false c0
          by_cases c1 : c = 0
          · have e1 : (c == 0) = true := by simp [c1]
            have HE : Hid (R = r) := Lib.hid (by rw [HR.out]; unfold wideKP; rw [if_pos rfl, d0, decide_eq_true c1]; rfl)
            go_wp2
            go_ret
            exact ⟨by rw [HE.out]; rfl, HI.out.below⟩
          · have e1 : (c == 0) = false := by simp [c1]
            have HE : Hid (R = false) := Lib.hid (by rw [HR.out]; unfold wideKP; rw [if_pos rfl, d0, decide_eq_false c1]; rfl)
            go_wp2
            go_ret
            exact ⟨by rw [HE.out]; rfl, HI.out.below⟩
      · have e0 : (k == n) = false := by simp [ck]
        by_cases c1 : k = n + 1
        · have e1 : (k == n + 1) = true := by simp [c1]
          have HE : Hid (R = false) := Lib.hid (by rw [HR.out]; unfold wideKP; rw [if_neg ck, decide_eq_false (by omega)])
          clear ck c1
          go_wp2
          go_ret
          exact ⟨by rw [HE.out]; rfl, HI.out.below⟩
        · have e1 : (k == n + 1) = false := by simp [c1]
          by_cases c2 : k = n - 1
          · have e2 : (k == n - 1) = true := by simp [c2]
            have HE : Hid (R = true) := Lib.hid (by rw [HR.out]; unfold wideKP; rw [if_neg ck, decide_eq_true (by omega)])
            clear ck c1 c2
            go_wp2
            go_ret
            exact ⟨by rw [HE.out]; rfl, HI.out.below⟩
          · have e2 : (k == n - 1) = false := by simp [c2]
            have HE : Hid (R = decide (k < n)) := Lib.hid (by rw [HR.out]; unfold wideKP; rw [if_neg ck])
            clear ck c1 c2
            go_wp2
            go_ret
            exact ⟨by rw [HE.out]; rfl, HI.out.below⟩

theorem floor_pos {x1 x2 : Int} (h : rightR (x1, x2) = true) (h0 : 0 ≤ x1) : 0 ≤ floorP (x1, x2) := by
  unfold floorP
  rw [if_pos h]
  exact Int.ediv_nonneg h0 (Int.le_of_lt (of_decide_eq_true h).1)
theorem keeps_hold {x y : Int × Int} {b : Int} (hx : rightR x = true) (hy : rightR y = true) (hb : rightB b = true) (hn : b ≠ 2147483647) (h : (subP x y).2 = 0) : keepsB b (subP x y).1.1 (subP x y).1.2 = keepsQ x y b := by
  have e : subP x y = fracP (x.1 * y.2 - y.1 * x.2) (x.2 * y.2) := by unfold subP; rw [if_pos (by rw [hx, hy]; rfl)]
  have hp := Int.mul_pos (of_decide_eq_true hx).1 (of_decide_eq_true hy).1
  have hd : 0 < (subP x y).1.2 := by
    rw [e] at h ⊢
    exact (of_decide_eq_true (frac_right (by omega) h).1).1
  rw [← keeps_sub hx hy h]
  unfold keepsB
  have hs : someB b = true := by unfold someB; rw [hb]; simp [hn]
  refine decide_eq_decide.2 ⟨fun a => a.2.imp id (fun z => z.2), fun a => ⟨by omega, a.imp id (fun z => ⟨hs, z⟩)⟩⟩
theorem keeps_wide {x y : Int × Int} {b : Int} (hx : rightR x = true) (hy : rightR y = true) (hn : b ≠ 2147483647) : wideKP (floorP x - floorP y) (b / 2) (cmpP (partP x) (partP y)) (decide (b % 2 = 1)) = keepsQ x y b := (keeps_parts hx hy hn).symm
theorem keepsq_inf (x y : Int × Int) : keepsQ x y 2147483647 = true := decide_eq_true (.inl rfl)

set_option maxRecDepth 100000 in
set_option maxHeartbeats 4000000 in
theorem keepsq_any (x1 x2 y1 y2 b : Int) (hx1 : I64 x1) (hx2 : I64 x2) (hy1 : I64 y1) (hy2 : I64 y2) (hx : rightR (x1, x2) = true) (hy : rightR (y1, y2) = true) (h0 : 0 ≤ x1) (h1 : 0 ≤ y1) (hb : rightB b = true) (w : World) :
    Calls Try.prog 77 #[.agg #[.int .i64 x1, .int .i64 x2], .agg #[.int .i64 y1, .int .i64 y2], .int .i32 b] w fun e w' => e = .returned (.bool (keepsQ (x1, x2) (y1, y2) b)) ∧ Below w.heap.size w w' := by
  have K := Lib.hid (((Blx.start w).new #[.int .i64 x1, .int .i64 x2] 59).new #[.int .i64 y1, .int .i64 y2] 59)
  rw [show (w.alloc (.cells #[.int .i64 x1, .int .i64 x2] 59)).heap.size = w.heap.size + 1 by simp] at K
  by_cases hn : b = 2147483647
  · subst hn
    rw [keepsq_inf]
    clear hx hy h0 h1 hb hx1 hx2 hy1 hy2
    go_enter Try.func77, Try.ntmps77
    go_upto_block 0 with fail
    generalize (w.alloc (.cells #[.int .i64 x1, .int .i64 x2] 59)).alloc (.cells #[.int .i64 y1, .int .i64 y2] 59) = wa at *
    go_wp2
    go_ret
    exact ⟨rfl, K.out.below⟩
  · have b0 : (b == 2147483647) = false := by simp [hn]
    have hs : someB b = true := by unfold someB; rw [hb]; simp [hn]
    have HV := Lib.hid (fun W => value_yes b W hs)
    have hbd := rightB_bd hb hn
    have HS := Lib.hid (fun W => sub_any x1 x2 y1 y2 hx1 hx2 hy1 hy2 W)
    have HW := Lib.hid (fun W => wideq_any x1 x2 y1 y2 (b / 2) (decide (b % 2 = 1)) hx1 hx2 hy1 hy2 (floor_pos hx h0) (floor_pos hy h1) (by omega) W)
    rw [keeps_wide hx hy hn] at HW
    have d64 := subP64 (x1, x2) (y1, y2)
    have HH := Lib.hid (fun W => holds_any b (subP (x1, x2) (y1, y2)).1.1 (subP (x1, x2) (y1, y2)).1.2 W d64.1.1 d64.1.2 d64.2.2)
    have HK := Lib.hid (keeps_hold hx hy hb hn)
    obtain ⟨R, hR⟩ : ∃ q, q = keepsQ (x1, x2) (y1, y2) b := ⟨_, rfl⟩
    rw [← hR] at HW HK ⊢
    obtain ⟨D, hD⟩ : ∃ q, q = subP (x1, x2) (y1, y2) := ⟨_, rfl⟩
    rw [← hD] at HS HH HK
    obtain ⟨⟨d1, d2⟩, de⟩ := D
    unfold rtV at HS
    obtain ⟨n, hnn⟩ : ∃ q, q = b / 2 := ⟨_, rfl⟩
    obtain ⟨rc, hrc⟩ : ∃ q, q = decide (b % 2 = 1) := ⟨_, rfl⟩
    rw [← hnn, ← hrc] at HV HW
    clear hx hy h0 h1 hb hx1 hx2 hy1 hy2 hbd hn hs d64 hR hD hnn hrc
    go_enter Try.func77, Try.ntmps77
    go_upto_block 0 with fail
    generalize (w.alloc (.cells #[.int .i64 x1, .int .i64 x2] 59)).alloc (.cells #[.int .i64 y1, .int .i64 y2] 59) = wa at *
    simp only [List.cons_append, List.nil_append] at K
    go_wp2_with fail
    refine (HV.out _).mono ?_
    rintro e w' ⟨rfl, rfl⟩
    obtain ⟨k1, k2, _, _⟩ := K.out.cells2 0 rfl
    obtain ⟨k3, k4, _, _⟩ := K.out.cells2 1 rfl
    go_wp2_with fail
    refine (HS.out _).mono ?_
    rintro e w2 ⟨rfl, hb⟩
    replace K := Lib.hid (K.out.step hb)
    clear hb k1 k2 k3 k4 HS HV
    go_upto_region 5 with fail
    replace K := Lib.hid (K.out.new #[.int .i64 d1, .int .i64 d2] 59)
    generalize w2.alloc (.cells #[.int .i64 d1, .int .i64 d2] 59) = w3 at *
    generalize w2.heap.size = g3 at *
    simp only [List.cons_append, List.nil_append] at K
    by_cases e0 : de = 0
    · subst e0
      have HE := Lib.hid (HK.out rfl)
      obtain ⟨k5, k6, _, _⟩ := K.out.cells2 2 rfl
      go_wp2_with fail
      refine (HH.out _).mono ?_
      rintro e w4 ⟨rfl, rfl⟩
      go_wp2
      go_ret
      exact ⟨by rw [← HE.out]; rfl, K.out.below⟩
    · have e1 : (de == 0) = false := by simp [e0]
      clear e0
      obtain ⟨k1, k2, _, _⟩ := K.out.cells2 0 rfl
      obtain ⟨k3, k4, _, _⟩ := K.out.cells2 1 rfl
      go_wp2_with fail
      refine (HW.out _).mono ?_
      rintro e w4 ⟨rfl, hb⟩
      replace K := Lib.hid (K.out.step hb)
      clear hb
      go_wp2
      go_ret
      exact ⟨rfl, K.out.below⟩

end Go.Proofs.Ytfegongaflekiaa

/- The zero values of the great types. -/
namespace Go.Proofs.Ytfegongaflekiaa
open Go Go.RowKit
end Go.Proofs.Ytfegongaflekiaa

/- Small functions of bound and dbm: what each call computes. -/
namespace Go.Proofs.Ytfegongaflekiaa
open Go.RowKit
set_option linter.unusedVariables false
set_option linter.unusedSimpArgs false
attribute [local go_sem] min_ints max_ints

set_option maxHeartbeats 400000 in
theorem few_any (n : Int) (w : World) :
    Calls Try.prog 61 #[.int .i64 n] w fun e w' => e = .returned (.bool (decide (0 ≤ n ∧ n ≤ 8))) ∧ w = w' := by
  by_cases h0 : 0 ≤ n
  · have hd : decide ((0 : Int) ≤ n) = true := decide_eq_true h0
    by_cases h1 : n ≤ 8
    all_goals
      go_enter Try.func61, Try.ntmps61
      go_wp2
      go_ret
      exact ⟨by simp [*], rfl⟩
  · have hd : decide ((0 : Int) ≤ n) = false := decide_eq_false h0
    go_enter Try.func61, Try.ntmps61
    go_wp2
    go_ret
    exact ⟨by simp [*], rfl⟩

set_option maxHeartbeats 400000 in
set_option maxRecDepth 100000 in
theorem keep_some (b i j : Nat) (n : Nat) (m : Nat → Nat → Int) (x : Int) (w : World) (hi : i < 9) (hj : j < 9) (h : MatAt w b 182 .i64 n m)
    (hx : (x == 2147483647) = false) (hx2 : (x != 2147483647) = true) (hx3 : -2147483648 ≤ x) (hx4 : x ≤ 2147483647) :
    Calls Try.prog 64 #[.pointer (some ⟨b, 0, none⟩), .int .i64 i, .int .i64 j, .int .i32 x] w fun e w' =>
      e = .returned (.tuple #[]) ∧ w' = (w.setCell ⟨b, 1 + i * 9 + j, none⟩ (.int .i64 (min (m i j) x))).drew := by
  have hc := h.cell i j hi hj
  have hf := h.frozen (1 + i * 9 + j)
  clear h
  go_enter Try.func64, Try.ntmps64
  go_wp2
  go_region
  go_wp2
  go_end0
  exact ⟨rfl, rfl⟩

set_option maxHeartbeats 400000 in
theorem keep_inf (p i j : Value) (w : World) :
    Calls Try.prog 64 #[p, i, j, .int .i32 2147483647] w fun e w' => e = .returned (.tuple #[]) ∧ w = w' := by
  go_enter Try.func64, Try.ntmps64
  go_wp2
  go_end0
  exact ⟨rfl, rfl⟩

theorem open_cells (n : Nat) : (Try.zeroCells182).setIfInBounds 0 (Value.int .i64 n) = matCells .i64 n (fun _ _ => 0) := by
  rfl

theorem keep_any (b : Nat) (x y : Int) (i j : Nat) (n : Nat) (m : Mat) (bd : Int) (w : World) (hi : i < 9) (hj : j < 9) (h : MatAt w b 182 .i64 n m) (hx : x = i) (hy : y = j)
    (h3 : -2147483648 ≤ bd) (h4 : bd ≤ 2147483647) :
    Calls Try.prog 64 #[.pointer (some ⟨b, 0, none⟩), .int .i64 x, .int .i64 y, .int .i32 bd] w fun e w' => e = .returned (.tuple #[]) ∧ Only b w w' ∧ MatAt w' b 182 .i64 n (keepM m i j bd) := by
  subst hx hy
  by_cases e : bd = 2147483647
  · subst e
    refine (keep_inf _ _ _ w).mono ?_
    rintro e w' ⟨rfl, rfl⟩
    exact ⟨rfl, Only.refl _ _, by unfold keepM; rw [if_pos rfl]; exact h⟩
  · refine (keep_some b i j n m bd w hi hj h (by simp [e]) (by simp [e]) h3 h4).mono ?_
    rintro e' w' ⟨rfl, rfl⟩
    refine ⟨rfl, ((Only.refl _ _).setCell _ _).drew, ?_⟩
    unfold keepM; rw [if_neg e]
    exact h.set i j hi hj _

/-- What the outer loop of 'open' has made. -/
def OpenRel (w0 : World) (n i j : Nat) (wr : World) : Prop := Below w0.heap.size w0 wr ∧ MatAt wr w0.heap.size 182 .i64 n (filled (openM n) i j) ∧ i ≤ n + 1 ∧ j ≤ n + 1

theorem open_start (w : World) (n : Nat) : OpenRel w n 0 0 (w.alloc (.cells ((Try.zeroCells182).setIfInBounds 0 (Value.int .i64 n)) 182)) := by
  refine ⟨(Below.refl _ _).alloc (Nat.le_refl _) _, ?_, by omega, by omega⟩
  unfold MatAt
  rw [heap_alloc_new, open_cells]
  rw [filled_zero]

theorem open_step {w wr : World} {n i j : Nat} (h : OpenRel w n i j wr) (hn : n ≤ 8) (hi : i < n + 1) (hj : j < n + 1) (v : Int) (hv : v = openM n i j) :
    OpenRel w n i (j + 1) (wr.setCell ⟨w.heap.size, 1 + i * 9 + j, none⟩ (.int .i64 v)) := by
  subst hv
  refine ⟨h.1.setCell (Nat.le_refl _) _, ?_, h.2.2.1, by omega⟩
  have := h.2.1.set i j (by omega) (by omega) (openM n i j)
  rw [upd_filled] at this
  exact this
theorem open_step2 {w wr : World} {n i j : Nat} (h : OpenRel w n i j wr) (hn : n ≤ 8) (hi : i < n + 1) (hj : j < n + 1) (u v : Int) (hv : v = openM n i j) :
    OpenRel w n i (j + 1) ((wr.setCell ⟨w.heap.size, 1 + i * 9 + j, none⟩ (.int .i64 u)).setCell ⟨w.heap.size, 1 + i * 9 + j, none⟩ (.int .i64 v)) := by
  subst hv
  refine ⟨(h.1.setCell (Nat.le_refl _) _).setCell (Nat.le_refl _) _, ?_, h.2.2.1, by omega⟩
  have := (h.2.1.set i j (by omega) (by omega) u).set i j (by omega) (by omega) (openM n i j)
  rw [upd_upd, upd_filled] at this
  exact this
theorem open_row {w wr : World} {n i : Nat} (h : OpenRel w n i (n + 1) wr) (hi : i < n + 1) : OpenRel w n (i + 1) 0 wr :=
  ⟨h.1, by rw [filled_row (openM_inside n)]; exact h.2.1, by omega, by omega⟩
theorem open_done {w wr : World} {n : Nat} (h : OpenRel w n (n + 1) 0 wr) : MatAt wr w.heap.size 182 .i64 n (openM n) := by
  have := h.2.1
  rw [filled_done (openM_inside n)] at this
  exact this

set_option maxRecDepth 100000 in
set_option maxHeartbeats 1000000 in
theorem open_any (n : Nat) (w : World) (hn : n ≤ 8) :
    Calls Try.prog 62 #[.int .i64 n] w fun e w' => e = .returned (.pointer (some ⟨w.heap.size, 0, none⟩)) ∧ Below w.heap.size w w' ∧ MatAt w' w.heap.size 182 .i64 n (openM n) := by
  have H0 := Lib.hid (open_start w n)
  go_enter Try.func62, Try.ntmps62
  go_wp2
  go_loopg [11] (n + 1) (fun k v wr => ∃ i : Nat, v = .int .i64 i ∧ OpenRel w n i 0 wr ∧ k + i = n + 1)
  case atStart => exact ⟨0, by simp, H0.out, by omega⟩
  case round =>
    clear H0
    obtain ⟨i, rfl, H, hk⟩ := hrel
    have HK := Lib.hid hk
    clear hk
    have HH := Lib.hid H
    by_cases hi : i < n + 1
    · clear H
      have hii : (i : Int) < (n : Int) + 1 := by omega
      go_wp2
      go_loopg [16] (n + 1) (fun k v wr => ∃ j : Nat, v = .int .i64 j ∧ OpenRel w n i j wr ∧ k + j = n + 1)
      case atStart => exact ⟨0, by simp, HH.out, by omega⟩
      case round =>
        clear HH
        obtain ⟨j, rfl, H, hk2⟩ := hrel
        have HK2 := Lib.hid hk2
        clear hk2
        have hf := H.2.1.frozen (1 + i * 9 + j)
        have hcell := H.2.1.cell i j (by omega) 
        have HH := Lib.hid H
        clear H hcell
        by_cases hj : j < n + 1
        · have hjj : (j : Int) < (n : Int) + 1 := by omega
          have hlt : w.heap.size < wr.heap.size := HH.out.2.1.lt
          have hcell := HH.out.2.1.cell i j (by omega) (by omega)
          by_cases e1 : i = j
          · have t1 : ((i : Int) == (j : Int)) = true := by simp [e1]
            have E1 := Lib.hid e1
            clear e1
            go_wp2
            go_roundg (gk - 1)
            case measure => have := HK2.out; omega
            case rel => exact ⟨j + 1, by go_num, open_step2 HH.out hn hi hj _ _ (by simp [openM, E1.out]; omega), by have := HK2.out; omega⟩
          · have t1 : ((i : Int) == (j : Int)) = false := by simp; omega
            by_cases e2 : i = 0
            · have t2 : ((i : Int) == 0) = true := by simp [e2]
              have E1 := Lib.hid e1
              have E2 := Lib.hid e2
              clear e1 e2
              go_wp2
              go_roundg (gk - 1)
              case measure => have := HK2.out; omega
              case rel => exact ⟨j + 1, by go_num, open_step2 HH.out hn hi hj _ _ (by simp [openM, E2.out]; omega), by have := HK2.out; omega⟩
            · have t2 : ((i : Int) == 0) = false := by simp; omega
              have E1 := Lib.hid e1
              have E2 := Lib.hid e2
              clear e1 e2
              go_wp2
              go_roundg (gk - 1)
              case measure => have := HK2.out; omega
              case rel => exact ⟨j + 1, by go_num, open_step HH.out hn hi hj _ (by have := E1.out; have := E2.out; simp [openM, none62, *]; omega), by have := HK2.out; omega⟩
        · have hjj : ¬ (j : Int) < (n : Int) + 1 := by omega
          go_wp2
          go_roundg (n - i)
          case measure => have := HK.out; omega
          case rel =>
            have : j = n + 1 := by have := HH.out.2.2.2; omega
            subst this
            exact ⟨i + 1, by go_num, open_row HH.out hi, by have := HK.out; omega⟩
    · have hii : ¬ (i : Int) < (n : Int) + 1 := by omega
      go_wp2
      go_ret
      have : i = n + 1 := by have := H.2.2.1; omega
      subst this
      exact ⟨rfl, H.1, open_done H⟩

end Go.Proofs.Ytfegongaflekiaa

/- What is asked of zones: Dim, Empty, Cell, Cells, Includes. -/
namespace Go.Proofs.Ytfegongaflekiaa
open Go.RowKit
set_option linter.unusedVariables false
set_option linter.unusedSimpArgs false
attribute [local go_sem] min_ints max_ints

set_option maxHeartbeats 400000 in
theorem dim_nil (w : World) : Calls Try.prog 37 #[.pointer none] w fun e w' => e = .returned (.int .i64 0) ∧ w = w' := by
  go_enter Try.func37, Try.ntmps37
  go_wp2
  go_ret
  exact ⟨rfl, rfl⟩
set_option maxHeartbeats 400000 in
theorem dim_zone (b n : Nat) (m : Mat) (w : World) (h : MatAt w b 108 .i32 n m) : Calls Try.prog 37 #[.pointer (some ⟨b, 0, none⟩)] w fun e w' => e = .returned (.int .i64 n) ∧ w = w' := by
  have h0 := h.head
  clear h
  go_enter Try.func37, Try.ntmps37
  go_wp2
  go_ret
  exact ⟨rfl, rfl⟩
set_option maxHeartbeats 400000 in
theorem empty_nil (w : World) : Calls Try.prog 18 #[.pointer none] w fun e w' => e = .returned (.bool false) ∧ w = w' := by
  go_enter Try.func18, Try.ntmps18
  go_wp2
  go_ret
  exact ⟨rfl, rfl⟩
set_option maxHeartbeats 400000 in
theorem empty_zone (b n : Nat) (m : Mat) (w : World) (h : MatAt w b 108 .i32 n m) : Calls Try.prog 18 #[.pointer (some ⟨b, 0, none⟩)] w fun e w' => e = .returned (.bool (decide (m 0 0 < 1))) ∧ w = w' := by
  have h0 := h.cell 0 0 (by omega) (by omega)
  simp only [Nat.zero_mul, Nat.add_zero] at h0
  clear h
  go_enter Try.func18, Try.ntmps18
  go_wp2
  go_ret
  exact ⟨rfl, rfl⟩

/-- What Cell answers. -/
def cellP (n : Nat) (m : Mat) (i j : Int) : Int × Int := if 0 ≤ i ∧ i ≤ n ∧ 0 ≤ j ∧ j ≤ n then (m i.toNat j.toNat, 0) else (0, 12)
set_option maxHeartbeats 400000 in
theorem cell_nil (i j : Int) (w : World) : Calls Try.prog 76 #[.pointer none, .int .i64 i, .int .i64 j] w fun e w' => e = .returned (.tuple #[.int .i32 0, .int .i64 1]) ∧ w = w' := by
  go_enter Try.func76, Try.ntmps76
  go_wp2
  go_ret2
  exact ⟨rfl, rfl⟩
set_option maxRecDepth 100000 in
set_option maxHeartbeats 1000000 in
theorem cell_zone (b n : Nat) (m : Mat) (i j : Int) (w : World) (hn : n ≤ 8) (h : MatAt w b 108 .i32 n m) :
    Calls Try.prog 76 #[.pointer (some ⟨b, 0, none⟩), .int .i64 i, .int .i64 j] w fun e w' => e = .returned (.tuple #[.int .i32 (cellP n m i j).1, .int .i64 (cellP n m i j).2]) ∧ w = w' := by
  have h0 := h.head
  have H := Lib.hid h
  clear h
  by_cases a1 : i < 0
  · have hz : cellP n m i j = (0, 12) := by unfold cellP; rw [if_neg (by omega)]
    rw [hz]
    clear hz
    have d1 : decide (i < 0) = true := decide_eq_true a1
    go_enter Try.func76, Try.ntmps76
    go_wp2
    go_ret2
    exact ⟨rfl, rfl⟩
  · have d1 : decide (i < 0) = false := decide_eq_false a1
    by_cases a2 : (n : Int) < i
    · have hz : cellP n m i j = (0, 12) := by unfold cellP; rw [if_neg (by omega)]
      rw [hz]
      clear hz
      have d2 : decide ((n : Int) < i) = true := decide_eq_true a2
      go_enter Try.func76, Try.ntmps76
      go_wp2
      go_ret2
      exact ⟨rfl, rfl⟩
    · have d2 : decide ((n : Int) < i) = false := decide_eq_false a2
      by_cases a3 : j < 0
      · have hz : cellP n m i j = (0, 12) := by unfold cellP; rw [if_neg (by omega)]
        rw [hz]
        clear hz
        have d3 : decide (j < 0) = true := decide_eq_true a3
        go_enter Try.func76, Try.ntmps76
        go_wp2
        go_ret2
        exact ⟨rfl, rfl⟩
      · have d3 : decide (j < 0) = false := decide_eq_false a3
        by_cases a4 : (n : Int) < j
        · have hz : cellP n m i j = (0, 12) := by unfold cellP; rw [if_neg (by omega)]
          rw [hz]
          clear hz
          have d4 : decide ((n : Int) < j) = true := decide_eq_true a4
          go_enter Try.func76, Try.ntmps76
          go_wp2
          go_ret2
          exact ⟨rfl, rfl⟩
        · have d4 : decide ((n : Int) < j) = false := decide_eq_false a4
          obtain ⟨p, rfl⟩ : ∃ p : Nat, i = p := ⟨i.toNat, by omega⟩
          obtain ⟨q, rfl⟩ : ∃ q : Nat, j = q := ⟨j.toNat, by omega⟩
          have hz : cellP n m p q = (m p q, 0) := by unfold cellP; rw [if_pos (by omega)]; rfl
          rw [hz]
          clear hz
          have hc := H.out.cell p q (by omega) (by omega)
          go_enter Try.func76, Try.ntmps76
          go_wp2
          go_ret2
          exact ⟨rfl, rfl⟩

theorem infoB : (Try.prog.info? 88).map (fun i => (i.zero, i.size, i.bytes)) = some (some (.int .i32 0), 1, 4) := by kernel_rfl
theorem addr_add (g o j : Nat) : (⟨g, o, none⟩ : Addr).add j = ⟨g, o + j, none⟩ := by unfold Addr.add; split <;> simp_all

theorem slice_row (g o n : Nat) (hn : n ≤ 8) (w : World) :
    (Instr.sliceAt 103 (.pointer (some ⟨g, o, none⟩)) none (some (.int .i64 ((n : Int) + 1))) none).run Try.prog w = .ok (.slice (some ⟨g, o, none⟩) (n + 1) 9) w := by
  have hl : Try.prog.arrayLen 103 = 9 := by kernel_rfl
  have hu : Try.prog.underlying 103 = some (.array (Try.prog.arrayLen 103) (Try.prog.elem 103)) := by kernel_rfl
  have hs : (sizeOf (Try.prog.elem 103)).run Try.prog w = .ok 1 w := by kernel_rfl
  rw [run_sliceAt_array_h w _ _ hu .i64 _ (by omega) (by rw [hl]; omega), hs, hl]
  have e : ((n : Int) + 1).toNat = n + 1 := by omega
  simp [slicedAt, e, Addr.add]

theorem own_drew {w : World} {base : Nat} {e : TypeId} {size n : Nat} {v : Value} {xs : List Value} (h : w.ownsRow base e size v n xs) : w.drew.ownsRow base e size v n xs := h
theorem row_cells {w : World} {b n N : Nat} {T : TypeId} {k : IntKind} {m : Mat} (h : MatAt w b T k N m) {i : Nat} (hi : i < 9) (hn : n ≤ 8) :
    ∀ j u, ((List.range (n + 1)).map (fun c => Value.int k (m i c)))[j]? = some u → w.cell? ((⟨b, 1 + i * 9, none⟩ : Addr).add j) = some u := by
  intro j u hu
  rw [addr_add]
  rw [List.getElem?_map] at hu
  by_cases hj : j < n + 1
  · simp [hj] at hu
    subst hu
    exact h.cell i j hi (by omega)
  · simp [hj] at hu

/-- The rows that all has gathered. -/
def AllR (w0 : World) (b n : Nat) (m : Mat) (i : Nat) (v : Value) (wr : World) : Prop :=
  Below w0.heap.size w0 wr ∧ wr.ownsRow w0.heap.size 88 1 v (i * (n + 1)) (vals .i32 (rowsL n m i)) ∧ i ≤ n + 1

set_option maxRecDepth 100000 in
set_option maxHeartbeats 1000000 in
theorem all_any (b n : Nat) (m : Mat) (w : World) (hn : n ≤ 8) (h : MatAt w b 108 .i32 n m) :
    Calls Try.prog 101 #[.pointer (some ⟨b, 0, none⟩)] w fun e w' => ∃ v, e = .returned v ∧ AllR w b n m (n + 1) v w' := by
  have h0 := h.head
  have H := Lib.hid h
  clear h
  obtain ⟨i0, hi, hz0, hz1, hz2⟩ := info_parts infoB
  have HI := Lib.hid (And.intro hi (And.intro hz0 (And.intro hz1 hz2)))
  clear hi hz0 hz1 hz2
  have HS := Lib.hid (show AllR w b n m 0 (.slice none 0 0) w from ⟨Below.refl _ _, by simpa [rowsL, vals] using World.ownsRow_nil w _ _ _, by omega⟩)
  go_enter Try.func101, Try.ntmps101
  go_wp2
  go_loopg [3, 10] (n + 1) (fun g v x wr => ∃ i : Nat, x = .int .i64 i ∧ AllR w b n m i v wr ∧ Hid (g + i = n + 1))
  case atStart => exact ⟨0, by simp, HS.out, by show _ = _; omega⟩
  case round =>
    clear HS h0
    obtain ⟨i, rfl, HA, HG⟩ := hrel
    have HR := Lib.hid HA
    have hm := H.out.later HA.1
    have h0 := hm.head
    have HM := Lib.hid hm
    clear HA hm
    by_cases hi : i < n + 1
    · have hii : (i : Int) < (n : Int) + 1 := by omega
      have i9 : (i : Int) < 9 := by omega
      have n9 : (n : Int) + 1 ≤ 9 := by omega
      have g1 : IntKind.i64.wrap ((n : Int) + 1) = (n : Int) + 1 := IntWalk.i64_in _ (by omega)
      have D0 := Lib.hid (show wr.drew.cell? _ = _ from h0)
      have hin : i * (n + 1) ≤ 8 * 9 := Nat.mul_le_mul (by omega) (by omega)
      have hsl := slice_row b (1 + i * 9) n hn
      go_wp2_with fail
      refine wp_region_still_tail 12 (by kernel_rfl) (by kernel_rfl) ?_
      simp only [List.take_succ_cons, List.take_zero, List.drop_succ_cons, List.drop_zero]
      change wpStill _ _ wr.drew _ _ _
      generalize wr.drew = w2 at *
      have d0 := D0.out
      clear D0
      repeat still_step
      refine wpStill_nil ?_
      go_wp2_with (at_builtin; refine wpList_append_own _ rfl _ _ 22 rfl w.heap.size 88 i0 (.int .i32 0) 1 4 Try.underlying22 HI.out.1 HI.out.2.1 HI.out.2.2.1 HI.out.2.2.2 rfl (by decide) _ _ _ rfl (own_drew HR.out.2.1) ⟨b, 1 + i * 9, none⟩ (n + 1) 9 ((List.range (n + 1)).map (fun c => Value.int .i32 (m i c))) rfl (by simp) (row_cells HM.out.drew (by omega) hn) (by intro u hu; obtain ⟨c, _, rfl⟩ := List.mem_map.1 hu; rfl) ?c3 ?c4 ?c5 ?_)
      case c3 => unfold maxLen; omega
      case c4 => omega
      case c5 => exact HR.out.1.size
      intro v' w3 hown hgrow _
      have HN := Lib.hid (show AllR w b n m (i + 1) v' w3 from by
        refine ⟨(Below.drew HR.out.1).grown hgrow HR.out.1.size (fun k hk => ?_), ?_, by omega⟩
        · exact (HR.out.2.1.lt k hk).1
        · have e : (i + 1) * (n + 1) = i * (n + 1) + (n + 1) := by rw [Nat.add_mul]; omega
          rw [e]
          have e2 : vals .i32 (rowsL n m (i + 1)) = vals .i32 (rowsL n m i) ++ (List.range (n + 1)).map (fun c => Value.int .i32 (m i c)) := by
            simp [vals, rowsL]
          rw [e2, List.range_succ, List.map_append]; exact hown)
      clear hown hgrow
      go_wp2
      go_roundg (gk - 1)
      case measure => have h := HG.out; omega
      case rel => exact ⟨i + 1, by go_num, HN.out, by have h := HG.out; show _ = _; omega⟩
    · have hii : ¬ (i : Int) < (n : Int) + 1 := by omega
      have e : i = n + 1 := by have := HR.out.2.2; omega
      subst e
      go_wp2
      go_ret
      exact ⟨_, rfl, HR.out⟩

/-- A slice that cells tells: all of them, in new memory. -/
theorem AllR.own {w0 wr : World} {b n : Nat} {m : Mat} {v : Value} (h : AllR w0 b n m (n + 1) v wr) : OwnI wr w0.heap.size 88 .i32 v (flat n m) := by
  unfold OwnI
  rw [flat_length]; exact h.2.1

theorem cells_nil (w : World) : Calls Try.prog 38 #[.pointer none] w fun e w' => e = .returned (.slice none 0 0) ∧ w = w' := by
  go_enter Try.func38, Try.ntmps38
  go_wp2
  go_ret
  exact ⟨rfl, rfl⟩
set_option maxRecDepth 100000 in
set_option maxHeartbeats 1000000 in
theorem cells_zone (b n : Nat) (m : Mat) (w : World) (hn : n ≤ 8) (h : MatAt w b 108 .i32 n m) :
    Calls Try.prog 38 #[.pointer (some ⟨b, 0, none⟩)] w fun e w' => ∃ v, e = .returned v ∧ Below w.heap.size w w' ∧ OwnI w' w.heap.size 88 .i32 v (flat n m) := by
  go_enter Try.func38, Try.ntmps38
  go_wp2_with fail
  refine (all_any b n m _ hn h).mono ?_
  rintro e w1 ⟨v, rfl, hA⟩
  have HA := Lib.hid hA
  clear hA h
  go_wp2
  go_ret
  exact ⟨v, rfl, HA.out.1, HA.out.own⟩

/-! ### are two of as many clocks? -/
def alikeP (z o : Option (Nat × Mat)) : Bool := match z, o with
  | some (n, _), some (k, _) => decide (n = k)
  | _, _ => false
end Go.Proofs.Ytfegongaflekiaa

/- What is asked of the program's zones, or of nil. -/
namespace Go.Proofs.Ytfegongaflekiaa
open Go Go.RowKit
set_option linter.unusedVariables false
set_option linter.unusedSimpArgs false

/-- The number of a zone's clocks. -/
def dimP (z : Option (Nat × Mat)) : Int := match z with | some (n, _) => n | none => 0
/-- All cells of a zone. -/
def cellsP (z : Option (Nat × Mat)) : List Int := match z with | some (n, m) => flat n m | none => []

/-- Has a zone no valuation? -/
def emptyP (z : Option (Nat × Mat)) : Bool := match z with | some (_, m) => decide (m 0 0 < 1) | none => false
/-- What Cell answers of a zone, or of nil. -/
def cellZ (z : Option (Nat × Mat)) (i j : Int) : Int × Int := match z with | some (n, m) => cellP n m i j | none => (0, 1)
theorem cell_any (v : Value) (z : Option (Nat × Mat)) (i j : Int) (w : World) (h : ZoneV 108 w v z) :
    Calls Try.prog 76 #[v, .int .i64 i, .int .i64 j] w fun e w' => e = .returned (.tuple #[.int .i32 (cellZ z i j).1, .int .i64 (cellZ z i j).2]) ∧ w = w' := by
  match z, h with
  | none, h =>
    have h : v = .pointer none := h
    subst h
    exact cell_nil i j w
  | some (n, m), ⟨b, e, hn, _, hm⟩ =>
    subst e
    exact cell_zone b n m i j w hn hm

/-- A slice in new memory, or nil: what Cells tells. -/
def TellsL (w0 : World) (xs : List Int) (e : Ending) (w' : World) : Prop := ∃ v, e = .returned v ∧ Below w0.heap.size w0 w' ∧ OwnI w' w0.heap.size 88 .i32 v xs
theorem tells_nil (w0 w' : World) (h : w0 = w') : TellsL w0 [] (.returned (.slice none 0 0)) w' := by
  subst h
  exact ⟨_, rfl, Below.refl _ _, by unfold OwnI; simpa [vals] using World.ownsRow_nil _ _ _ _⟩
theorem cells_any (v : Value) (z : Option (Nat × Mat)) (w : World) (h : ZoneV 108 w v z) : Calls Try.prog 38 #[v] w (TellsL w (cellsP z)) := by
  match z, h with
  | none, h =>
    have h : v = .pointer none := h
    subst h
    refine (cells_nil w).mono ?_
    rintro e w' ⟨rfl, hw⟩
    exact tells_nil w w' hw
  | some (n, m), ⟨b, e, hn, _, hm⟩ =>
    subst e
    exact cells_zone b n m w hn hm

/-- The zone that Of tells of. -/
def zOf (n : Int) (cells : List Int) : Option (Nat × Mat) := (ofP n cells).1.map fun m => (n.toNat, m)
theorem cellsP_short (z : Option (Nat × Mat)) (h : ∀ n m, z = some (n, m) → n ≤ 8) : (cellsP z).length ≤ 81 := by
  match z with
  | none => simp [cellsP]
  | some (n, m) =>
    have hn := h n m rfl
    show (flat n m).length ≤ 81
    rw [flat_length]
    have := Nat.mul_le_mul (show n + 1 ≤ 9 by omega) (show n + 1 ≤ 9 by omega)
    omega


end Go.Proofs.Ytfegongaflekiaa

/- Whether a valuation is in a zone, as point tells it. -/
namespace Go.Proofs.Ytfegongaflekiaa
open Go Go.RowKit
set_option linter.unusedVariables false
set_option linter.unusedSimpArgs false

theorem zdimq_any (v : Value) (z : Option (Nat × Mat)) (w : World) (h : ZoneV 108 w v z) : Calls Try.prog 37 #[v] w fun e w' => e = .returned (.int .i64 (dimP z)) ∧ w = w' := by
  match z, h with
  | none, h =>
    have h : v = .pointer none := h
    subst h
    exact dim_nil w
  | some (n, m), ⟨b, e, hn, _, hm⟩ =>
    subst e
    exact dim_zone b n m w hm
theorem quo_rem {k n i j : Nat} (hi : i = k / (n + 1)) (hj : j = k % (n + 1)) : Int.tdiv (k : Int) ((n : Int) + 1) = (i : Int) ∧ Int.tmod (k : Int) ((n : Int) + 1) = (j : Int) := by
  have e : (n : Int) + 1 = ((n + 1 : Nat) : Int) := by omega
  rw [e, Int.tdiv_eq_ediv_of_nonneg (by omega), Int.tmod_eq_emod_of_nonneg (by omega), hi, hj]
  exact ⟨(Int.natCast_ediv k (n + 1)).symm, (Int.natCast_emod k (n + 1)).symm⟩
/-- Which cell is broken, in a limit; and whether one is. -/
def BrkEnds (w : World) (r : Bool) (e : Ending) (w' : World) : Prop := (∃ i j b, e = .returned (.tuple #[.agg #[.int .i64 i, .int .i64 j, .int .i32 b], .bool r])) ∧ Below w.heap.size w w'

set_option maxRecDepth 100000 in
set_option maxHeartbeats 4000000 in
theorem breaks_any (b n : Nat) (m : Mat) (A : Option Addr) (c : Nat) (l : List (Int × Int)) (w : World) (hn : n ≤ 8) (hm : MatAt w b 108 .i32 n m) (hr : RightM n m) (hI : RatsA w A l) (h64 : All64v l) (hv : rightV l = true) (hl : l.length = n) :
    Calls Try.prog 66 #[.pointer (some ⟨b, 0, none⟩), .slice A l.length c] w (BrkEnds w (breaksP n m l).isSome) := by
  have HR := Lib.hid (fun W (hb : Below w.heap.size w W) => right_val A c l W (hI.below hb) (by omega) h64)
  rw [hv] at HR
  have HD := Lib.hid (fun W (hb : Below w.heap.size w W) => dim_zone b n m W (hm.later hb))
  have HC := Lib.hid (fun W (hb : Below w.heap.size w W) => cells_zone b n m W hn (hm.later hb))
  have HA := Lib.hid (fun W (hb : Below w.heap.size w W) (i : Nat) (hi : i ≤ n) => at_val A c l i (by omega) (by omega) W (hI.below hb))
  have HK := Lib.hid (fun W (i j : Nat) (hi : i ≤ n) (hj : j ≤ n) => keepsq_any (clockV l i).1 (clockV l i).2 (clockV l j).1 (clockV l j).2 (m i j) (clock64 h64 (by omega)).1 (clock64 h64 (by omega)).2 (clock64 h64 (by omega)).1 (clock64 h64 (by omega)).2 (clock_right hv (by omega)).1 (clock_right hv (by omega)).1 (clock_right hv (by omega)).2 (clock_right hv (by omega)).2 (hr i j hi hj) W)
  obtain ⟨N, hN⟩ : ∃ q, q = (n + 1) * (n + 1) := ⟨_, rfl⟩
  obtain ⟨R, hR⟩ : ∃ q, q = (breaksP n m l).isSome := ⟨_, rfl⟩
  rw [← hR]
  have HE : Hid (R = (breakFrom n m l N 0).isSome) := Lib.hid (by rw [hR, hN]; rfl)
  have K := Lib.hid ((Blx.start w).new #[.int .i64 0, .int .i64 0, .int .i32 0] 95)
  have HN := Lib.hid hN
  have HN9 := Lib.hid (And.intro hn hl)
  have hlen : ((l.length : Nat) : Int) = (n : Int) := by rw [hl]
  clear hR hI h64 hv hr hm hN hn hl
  go_enter Try.func66, Try.ntmps66
  go_upto_block 0 with fail
  generalize w.alloc (.cells #[.int .i64 0, .int .i64 0, .int .i32 0] 95) = w1 at *
  go_wp2_with fail
  refine (HR.out _ K.out.below).mono ?_
  rintro e w2 ⟨rfl, hb⟩
  replace K := Lib.hid (K.out.step hb)
  clear hb HR
  go_wp2_with fail
  refine (HD.out _ K.out.below).mono ?_
  rintro e w3 ⟨rfl, rfl⟩
  clear HD
  go_wp2_with fail
  refine (HC.out _ K.out.below).mono ?_
  rintro e w4 ⟨v, rfl, hb, hown⟩
  replace K := Lib.hid (K.out.step hb)
  clear hb HC
  obtain ⟨Af, cf, rfl, hints⟩ := hown.slice
  have hfl : (flat n m).length = N := by rw [flat_length, HN.out]
  rw [hfl]
  have HF := Lib.hid hints
  clear hown hints
  go_wp2
  go_loopg [28] N (fun g s28 wr => ∃ k : Nat, s28 = .int .i64 k ∧ Hid (Blx w [(w.heap.size, #[.int .i64 0, .int .i64 0, .int .i32 0], 95)] wr ∧ Ints wr .i32 Af (flat n m)) ∧ Hid (k ≤ N ∧ g + k = N ∧ R = (breakFrom n m l g k).isSome))
  case atStart => exact ⟨0, by simp, Lib.hid ⟨K.out, HF.out⟩, Lib.hid ⟨by omega, by omega, HE.out⟩⟩
  case round =>
    clear K HF HE
    obtain ⟨k, rfl, K, HG⟩ := hrel
    by_cases hk : k < N
    · have hki : (k : Int) < (N : Int) := by omega
      obtain ⟨bf, off, rfl, hc⟩ := K.out.2 k (by rw [hfl]; exact hk)
      rw [flat_getD n m k (by rw [← HN.out]; exact hk)] at hc
      have HST : Hid (R = (if keptAt n m l k = true then breakFrom n m l (gk - 1) (k + 1) else some k).isSome) := Lib.hid (by
        have h := HG.out.2.2
        rw [show gk = (gk - 1) + 1 by have := HG.out.2.1; omega] at h
        exact h)
      have d1 : k / (n + 1) < n + 1 := Nat.div_lt_of_lt_mul (by rw [← HN.out]; exact hk)
      have d2 := Nat.mod_lt k (show 0 < n + 1 by omega)
      have HKE : Hid (keptAt n m l k = keepsQ (clockV l (k / (n + 1))) (clockV l (k % (n + 1))) (m (k / (n + 1)) (k % (n + 1)))) := Lib.hid rfl
      obtain ⟨i, hi⟩ : ∃ i, i = k / (n + 1) := ⟨_, rfl⟩
      obtain ⟨j, hj⟩ : ∃ j, j = k % (n + 1) := ⟨_, rfl⟩
      obtain ⟨t1, t2⟩ := quo_rem hi hj
      rw [← hi, ← hj] at HKE hc
      rw [← hi] at d1
      rw [← hj] at d2
      have n9 := HN9.out.1
      have k81 : k ≤ 81 := by have := Nat.mul_le_mul (show n + 1 ≤ 9 by omega) (show n + 1 ≤ 9 by omega); have := HN.out; omega
      have q1 : IntKind.i64.wrap ((n : Int) + 1) = (n : Int) + 1 := IntWalk.i64_in _ (by omega)
      have q2 : IntKind.i64.wrap (i : Int) = (i : Int) := IntWalk.i64_in _ (by omega)
      have q3 : IntKind.i64.wrap (j : Int) = (j : Int) := IntWalk.i64_in _ (by omega)
      have q4 : ((n : Int) + 1 == 0) = false := by simp; omega
      have w5 : IntKind.i64.wrap ((k : Int) + 1) = ((k + 1 : Nat) : Int) := by rw [IntWalk.i64_in _ (by omega)]; omega
      obtain ⟨b', hb'⟩ : ∃ b, b = m i j := ⟨_, rfl⟩
      have HAI := Lib.hid (fun W hb => HA.out W hb i (by omega))
      have HAJ := Lib.hid (fun W hb => HA.out W hb j (by omega))
      have HKK := Lib.hid (fun W => HK.out W i j (by omega) (by omega))
      rw [← hb'] at HKK HKE hc
      obtain ⟨x, hx⟩ : ∃ x, x = clockV l i := ⟨_, rfl⟩
      obtain ⟨y, hy⟩ : ∃ y, y = clockV l j := ⟨_, rfl⟩
      rw [← hx] at HAI HKK HKE
      rw [← hy] at HAJ HKK HKE
      obtain ⟨x1, x2⟩ := x
      obtain ⟨y1, y2⟩ := y
      simp only at HAI HAJ HKK
      obtain ⟨kb, hkb⟩ : ∃ q, q = keepsQ (x1, x2) (y1, y2) b' := ⟨_, rfl⟩
      rw [← hkb] at HKK HKE
      rw [HKE.out] at HST
      clear HKE hkb hx hy hb' hi hj n9 k81
      go_wp2_with fail
      go_quiet (fail)
      generalize nq = nq at *
      replace K := Lib.hid (And.intro (K.out.1.drewN nq) (show Ints (wr.drewN nq) .i32 (some ⟨bf, off, none⟩) (flat n m) from K.out.2.below (belowN (Below.refl _ _) nq)))
      generalize wr.drewN nq = wq at *
      clear t1 t2 q1 q2 q3 q4 hc
      go_wp2_with fail
      refine (HAI.out _ K.out.1.below).mono ?_
      rintro e wa ⟨rfl, hb⟩
      replace K := Lib.hid (And.intro (K.out.1.step hb) (K.out.2.below hb))
      clear hb HAI
      go_wp2_with fail
      refine (HAJ.out _ K.out.1.below).mono ?_
      rintro e wb ⟨rfl, hb⟩
      replace K := Lib.hid (And.intro (K.out.1.step hb) (K.out.2.below hb))
      clear hb HAJ
      go_wp2_with fail
      refine (HKK.out _).mono ?_
      rintro e wc ⟨rfl, hb⟩
      replace K := Lib.hid (And.intro (K.out.1.step hb) (K.out.2.below hb))
      clear hb HKK
      cases kb with
      | false =>
        rw [if_neg (by decide)] at HST
        obtain ⟨k1, k2, k3, k4, k5, k6⟩ := K.out.1.cells3 0 rfl
        replace K := Lib.hid (((K.out.1.set 0 rfl 0 (.int .i64 i)).set 0 rfl 1 (.int .i64 j)).set 0 rfl 2 (.int .i32 b'))
        go_wp2
        refine bodyPost_ret (results_row_tmp (fn := Try.f66) rfl _ _ w.heap.size _ _ _ _ rfl (K.out.l _ (List.mem_singleton.2 rfl)) Try.underlying95 rfl (by kernel_rfl)) rfl ?_
        exact ⟨⟨_, _, _, by rw [HST.out]; rfl⟩, K.out.below⟩
      | true =>
        rw [if_pos rfl] at HST
        go_wp2
        go_roundg (gk - 1)
        case measure => have h := HG.out.2.1; omega
        case rel => exact ⟨k + 1, by go_num, K, Lib.hid ⟨by omega, by have h := HG.out.2.1; omega, HST.out⟩⟩
    · have hki : ¬ (k : Int) < (N : Int) := by omega
      have HE : Hid (R = false) := Lib.hid (by
        have h := HG.out.2.2
        rw [show gk = 0 by have := HG.out.2.1; omega] at h
        exact h)
      obtain ⟨k1, k2, k3, k4, k5, k6⟩ := K.out.1.cells3 0 rfl
      replace K := Lib.hid (((K.out.1.set 0 rfl 0 (.int .i64 0)).set 0 rfl 1 (.int .i64 0)).set 0 rfl 2 (.int .i32 0))
      go_wp2
      refine bodyPost_ret (results_row_tmp (fn := Try.f66) rfl _ _ w.heap.size _ _ _ _ rfl (K.out.l _ (List.mem_singleton.2 rfl)) Try.underlying95 rfl (by kernel_rfl)) rfl ?_
      exact ⟨⟨_, _, _, by rw [HE.out]; rfl⟩, K.out.below⟩

/-- Is a valuation in a zone, or in none? -/
def inZ (z : Option (Nat × Mat)) (l : List (Int × Int)) : Bool := match z with | some (n, m) => inP n m l | none => false
set_option maxRecDepth 100000 in
set_option maxHeartbeats 2000000 in
theorem in_nil (A : Option Addr) (c : Nat) (l : List (Int × Int)) (w : World) :
    Calls Try.prog 19 #[.pointer none, .slice A l.length c] w fun e w' => e = .returned (.bool false) ∧ Below w.heap.size w w' := by
  have HB := Lib.hid (Below.refl w.heap.size w)
  go_enter Try.func19, Try.ntmps19
  go_wp2
  go_ret
  exact ⟨rfl, HB.out⟩
set_option maxRecDepth 100000 in
set_option maxHeartbeats 2000000 in
theorem in_zone (b n : Nat) (m : Mat) (A : Option Addr) (c : Nat) (l : List (Int × Int)) (w : World) (hn : n ≤ 8) (hm : MatAt w b 108 .i32 n m) (hr : RightM n m) (hI : RatsA w A l) (hmax : l.length ≤ 8796093022000) (h64 : All64v l) :
    Calls Try.prog 19 #[.pointer (some ⟨b, 0, none⟩), .slice A l.length c] w fun e w' => e = .returned (.bool (inP n m l)) ∧ Below w.heap.size w w' := by
  have HR := Lib.hid (fun W (hb : Below w.heap.size w W) => right_val A c l W (hI.below hb) (by omega) h64)
  have HB := Lib.hid (Below.refl w.heap.size w)
  have HBR := Lib.hid (fun W (hb : Below w.heap.size w W) (hv : rightV l = true) (hl : l.length = n) => breaks_any b n m A c l W hn (hm.later hb) hr (hI.below hb) h64 hv hl)
  obtain ⟨R, hR⟩ : ∃ q, q = inP n m l := ⟨_, rfl⟩
  rw [← hR]
  have HE : Hid (R = (rightV l && decide (l.length = n) && (breaksP n m l).isNone)) := Lib.hid hR
  clear hR
  by_cases hv : rightV l = true
  · rw [hv] at HR HE
    have HD := Lib.hid (fun W (hb : Below w.heap.size w W) => dim_zone b n m W (hm.later hb))
    by_cases hl : l.length = n
    · have HBR := Lib.hid (fun W hb => HBR.out W hb hv hl)
      rw [decide_eq_true hl] at HE
      have hlen : ((l.length : Nat) : Int) = (n : Int) := by rw [hl]
      obtain ⟨k, hk⟩ : ∃ q, q = breaksP n m l := ⟨_, rfl⟩
      rw [← hk] at HBR HE
      clear hk hI hm hr h64 hv hl hn hmax
      go_enter Try.func19, Try.ntmps19
      go_wp2_with fail
      refine (HR.out _ HB.out).mono ?_
      rintro e w2 ⟨rfl, hb⟩
      have K := Lib.hid hb
      clear hb HR
      go_wp2_with fail
      refine (HD.out _ K.out).mono ?_
      rintro e w3 ⟨rfl, rfl⟩
      go_wp2_with fail
      refine (HBR.out _ K.out).mono ?_
      rintro e w4 ⟨⟨ci, cj, cb, rfl⟩, hb⟩
      replace K := Lib.hid (K.out.trans (hb.mono K.out.size))
      clear hb HBR
      obtain ⟨s, hs⟩ : ∃ s, s = k.isSome := ⟨_, rfl⟩
      rw [← hs]
      have HE : Hid (R = !s) := Lib.hid (by rw [HE.out, hs]; cases k <;> rfl)
      clear hs
      go_wp2
      go_ret
      exact ⟨by rw [HE.out]; rfl, K.out.alloc K.out.size _⟩
    · have HE : Hid (R = false) := Lib.hid (by rw [HE.out, decide_eq_false hl]; rfl)
      have hlen : ¬ ((l.length : Nat) : Int) = (n : Int) := by omega
      clear hI hm hr h64 hv hl hn hmax
      go_enter Try.func19, Try.ntmps19
      go_wp2_with fail
      refine (HR.out _ HB.out).mono ?_
      rintro e w2 ⟨rfl, hb⟩
      have K := Lib.hid hb
      clear hb HR
      go_wp2_with fail
      refine (HD.out _ K.out).mono ?_
      rintro e w3 ⟨rfl, rfl⟩
      go_wp2
      go_ret
      exact ⟨by rw [HE.out]; rfl, K.out⟩
  · have hv : rightV l = false := by simpa using hv
    rw [hv] at HR HE
    have HE : Hid (R = false) := HE
    clear hI hm hr h64 hv hn hmax
    go_enter Try.func19, Try.ntmps19
    go_wp2_with fail
    refine (HR.out _ HB.out).mono ?_
    rintro e w2 ⟨rfl, hb⟩
    have K := Lib.hid hb
    clear hb HR
    go_wp2
    go_ret
    exact ⟨by rw [HE.out]; rfl, K.out⟩

theorem in_any (v : Value) (z : Option (Nat × Mat)) (A : Option Addr) (c : Nat) (l : List (Int × Int)) (w : World) (hz : ZoneV 108 w v z) (hI : RatsA w A l) (hmax : l.length ≤ 8796093022000) (h64 : All64v l) :
    Calls Try.prog 19 #[v, .slice A l.length c] w fun e w' => e = .returned (.bool (inZ z l)) ∧ Below w.heap.size w w' := by
  match z, hz with
  | none, h =>
    have h : v = .pointer none := h
    subst h
    exact in_nil A c l w
  | some (n, m), ⟨b, e, hn, hr, hm⟩ =>
    subst e
    exact in_zone b n m A c l w hn hm hr hI hmax h64

end Go.Proofs.Ytfegongaflekiaa
