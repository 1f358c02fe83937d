/- What BoundPlus tells. -/
import Derived.Test.YtdeblempnmklfaaDoorBp
import Derived.Test.YtdeblempnmklfaaDoorBh
import Derived.Test.YtdeblempnmklfaaDoorPk
namespace Go.Proofs.YtdeblempnmklfaaDoor
open Go Go.RowKit
set_option linter.unusedVariables false
set_option linter.unusedSimpArgs false

set_option maxRecDepth 100000 in
set_option maxHeartbeats 2000000 in
theorem plus_law (a b x y d : Int) (w : World) (ka : -2147483648 ≤ a ∧ a ≤ 2147483647) (kb : -2147483648 ≤ b ∧ b ≤ 2147483647) (kx : -9223372036854775808 ≤ x ∧ x ≤ 9223372036854775807) (ky : -9223372036854775808 ≤ y ∧ y ≤ 9223372036854775807)
    (kd : -9223372036854775808 ≤ d ∧ d ≤ 9223372036854775807) (ht : Tab w) :
    Calls Tryd.prog 6 #[.int .i32 a, .int .i32 b, .agg #[.int .i64 x, .int .i64 y, .int .i64 d]] w fun e w' => e = .returned (.bool true) ∧ Below w.heap.size w w' := by
  clear ka kb
  have HB0 := Lib.hid ((Below.refl w.heap.size w).alloc (Nat.le_refl _) (.cells #[.int .i64 x, .int .i64 y, .int .i64 d] 40))
  have HT0 := Lib.hid (ht.below HB0.out)
  have k0 : (w.alloc (.cells #[.int .i64 x, .int .i64 y, .int .i64 d] 40)).cell? ⟨w.heap.size, 0, none⟩ = some (.int .i64 x) := by rw [World.cell?, heap_alloc_new]; rfl
  have k1 : (w.alloc (.cells #[.int .i64 x, .int .i64 y, .int .i64 d] 40)).cell? ⟨w.heap.size, 1, none⟩ = some (.int .i64 y) := by rw [World.cell?, heap_alloc_new]; rfl
  have k2 : (w.alloc (.cells #[.int .i64 x, .int .i64 y, .int .i64 d] 40)).cell? ⟨w.heap.size, 2, none⟩ = some (.int .i64 d) := by rw [World.cell?, heap_alloc_new]; rfl
  obtain ⟨X, hX⟩ : ∃ X, X = x.tmod 1152921504606846976 := ⟨_, rfl⟩
  obtain ⟨Y, hY⟩ : ∃ Y, Y = y.tmod 1152921504606846976 := ⟨_, rfl⟩
  have hX1 : -1152921504606846976 < X ∧ X < 1152921504606846976 := by
    rw [hX]
    have h1 := Int.lt_tmod_of_pos x (show (0 : Int) < 1152921504606846976 by omega)
    have h2 := Int.tmod_lt_of_pos x (show (0 : Int) < 1152921504606846976 by omega)
    omega
  have hY1 : -1152921504606846976 < Y ∧ Y < 1152921504606846976 := by
    rw [hY]
    have h1 := Int.lt_tmod_of_pos y (show (0 : Int) < 1152921504606846976 by omega)
    have h2 := Int.tmod_lt_of_pos y (show (0 : Int) < 1152921504606846976 by omega)
    omega
  have gX : IntKind.i64.wrap (x.tmod 1152921504606846976) = X := by rw [← hX]; exact IntWalk.i64_in _ (by omega)
  have gY : IntKind.i64.wrap (y.tmod 1152921504606846976) = Y := by rw [← hY]; exact IntWalk.i64_in _ (by omega)
  have gS : IntKind.i64.wrap (X + Y) = X + Y := IntWalk.i64_in _ (by omega)
  have HA := Lib.hid (fun w => holds_any a X d w (by omega) (by omega) (by omega))
  have HH := Lib.hid (fun w => holds_any b Y d w (by omega) (by omega) (by omega))
  have HC := Lib.hid (fun c w => holds_any c (X + Y) d w (by omega) (by omega) (by omega))
  have HS := Lib.hid (fun w => add_any a b w)
  obtain ⟨c, hc⟩ : ∃ c, c = (sumP [a, b]).1 := ⟨_, rfl⟩
  obtain ⟨e0, he⟩ : ∃ c, c = (sumP [a, b]).2 := ⟨_, rfl⟩
  have HL := Lib.hid (fun (h1 : e0 = 0) (h2 : 1 ≤ d) => plus_keeps (a := a) (b := b) (x := X) (y := Y) h2 (he ▸ h1))
  rw [show sumP [a, b] = (c, e0) by rw [hc, he]] at HS
  rw [← hc] at HL
  have HX := Lib.hid hX
  have HY := Lib.hid hY
  clear hc he hX hY hX1 hY1 kx ky kd ht gX gY
  go_enter Tryd.func6, Tryd.ntmps6
  go_wp2_with fail
  generalize w.alloc (.cells #[.int .i64 x, .int .i64 y, .int .i64 d] 40) = w0 at *
  go_quiet (fail)
  rename_i nq
  have HB1 := Lib.hid (belowN HB0.out nq)
  have HT1 := Lib.hid (HT0.out.below (belowN (Below.refl _ _) nq))
  rw [← HX.out, ← HY.out]
  clear HX HY
  generalize w0.drewN nq = w1 at *
  clear HB0 HT0 k0 k1 k2
  go_wp2_with fail
  refine (HS.out _).mono ?_
  rintro e w2 ⟨rfl, hb⟩
  have HB2 := Lib.hid (HB1.out.trans (hb.mono HB1.out.size))
  have HT2 := Lib.hid (HT1.out.below hb)
  clear hb HB1 HT1
  have HLV := Lib.hid (live01_any w2 HT2.out)
  clear HT2
  by_cases hd : d < 1
  · go_wp2_with fail
    refine HLV.out.mono ?_
    rintro e w3 ⟨rfl, hb⟩
    have HB3 := Lib.hid (HB2.out.trans (hb.mono HB2.out.size))
    clear hb
    go_wp2
    go_ret
    exact ⟨rfl, HB3.out⟩
  · by_cases h0 : e0 = 0
    · have HLL := Lib.hid (HL.out h0 (by omega))
      subst h0
      go_wp2_with fail
      refine HLV.out.mono ?_
      rintro e w3 ⟨rfl, hb⟩
      have HB3 := Lib.hid (HB2.out.trans (hb.mono HB2.out.size))
      clear hb HL
      go_wp2_with fail
      refine (HA.out _).mono ?_
      cases hA : keepsB a X d with
      | false =>
        rintro e w4 ⟨rfl, rfl⟩
        go_wp2
        go_ret
        exact ⟨rfl, HB3.out⟩
      | true =>
        rintro e w4 ⟨rfl, rfl⟩
        go_wp2_with fail
        refine (HH.out _).mono ?_
        cases hB : keepsB b Y d with
        | false =>
          rintro e w4 ⟨rfl, rfl⟩
          go_wp2
          go_ret
          exact ⟨rfl, HB3.out⟩
        | true =>
          rintro e w4 ⟨rfl, rfl⟩
          have hC := HLL.out hA hB
          go_wp2_with fail
          refine (HC.out c _).mono ?_
          rw [hC]
          rintro e w4 ⟨rfl, rfl⟩
          go_wp2
          go_ret
          exact ⟨rfl, HB3.out⟩
    · have t1 : (e0 != 0) = true := by simp [h0]
      clear HL
      go_wp2_with fail
      refine HLV.out.mono ?_
      rintro e w3 ⟨rfl, hb⟩
      have HB3 := Lib.hid (HB2.out.trans (hb.mono HB2.out.size))
      clear hb
      go_wp2
      go_ret
      exact ⟨rfl, HB3.out⟩

end Go.Proofs.YtdeblempnmklfaaDoor
