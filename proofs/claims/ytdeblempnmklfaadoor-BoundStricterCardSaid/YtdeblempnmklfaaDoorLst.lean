/- What BoundStricter tells. -/
import Derived.Test.YtdeblempnmklfaaDoorBp
import Derived.Test.YtdeblempnmklfaaDoorBh
import Derived.Test.YtdeblempnmklfaaDoorPk
namespace Go.Proofs.YtdeblempnmklfaaDoor
open Go Go.RowKit
set_option linter.unusedVariables false
set_option linter.unusedSimpArgs false

set_option maxRecDepth 100000 in
set_option maxHeartbeats 2000000 in
theorem stricter_law (a b x d : Int) (w : World) (ka : -2147483648 ≤ a ∧ a ≤ 2147483647) (kb : -2147483648 ≤ b ∧ b ≤ 2147483647) (kx : -9223372036854775808 ≤ x ∧ x ≤ 9223372036854775807)
    (kd : -9223372036854775808 ≤ d ∧ d ≤ 9223372036854775807) (ht : Tab w) :
    Calls Tryd.prog 7 #[.int .i32 a, .int .i32 b, .agg #[.int .i64 x, .int .i64 d]] w fun e w' => e = .returned (.bool true) ∧ Below w.heap.size w w' := by
  clear ka kb
  have HB0 := Lib.hid ((Below.refl w.heap.size w).alloc (Nat.le_refl _) (.cells #[.int .i64 x, .int .i64 d] 43))
  have HT0 := Lib.hid (ht.below HB0.out)
  have k0 : (w.alloc (.cells #[.int .i64 x, .int .i64 d] 43)).cell? ⟨w.heap.size, 0, none⟩ = some (.int .i64 x) := by rw [World.cell?, heap_alloc_new]; rfl
  have k1 : (w.alloc (.cells #[.int .i64 x, .int .i64 d] 43)).cell? ⟨w.heap.size, 1, none⟩ = some (.int .i64 d) := by rw [World.cell?, heap_alloc_new]; rfl
  have HRA := Lib.hid (fun w => right_any a w)
  have HRB := Lib.hid (fun w => right_any b w)
  have HN := Lib.hid (fun w => not_any a w)
  have HA := Lib.hid (fun w => holds_any a x d w kx.1 kx.2 kd.2)
  have HH := Lib.hid (fun w => holds_any b x d w kx.1 kx.2 kd.2)
  have KX := Lib.hid kx
  have KD := Lib.hid kd
  clear ht kx kd
  go_enter Tryd.func7, Tryd.ntmps7
  go_wp2_with fail
  generalize w.alloc (.cells #[.int .i64 x, .int .i64 d] 43) = w0 at *
  go_quiet (fail)
  rename_i nq
  have HB1 := Lib.hid (belowN HB0.out nq)
  have HT1 := Lib.hid (HT0.out.below (belowN (Below.refl _ _) nq))
  generalize w0.drewN nq = w1 at *
  clear HB0 HT0 k0 k1
  have HLV := Lib.hid (live01_any w1 HT1.out)
  clear HT1
  go_wp2_with fail
  refine (HRA.out _).mono ?_
  rintro e w2 ⟨rfl, rfl⟩
  cases hra : rightB a with
  | false =>
    go_wp2_with fail
    refine HLV.out.mono ?_
    rintro e w3 ⟨rfl, hb⟩
    have HB3 := Lib.hid (HB1.out.trans (hb.mono HB1.out.size))
    clear hb
    go_wp2
    go_ret
    exact ⟨rfl, HB3.out⟩
  | true =>
  go_wp2_with fail
  refine (HRB.out _).mono ?_
  rintro e w2 ⟨rfl, rfl⟩
  cases hrb : rightB b with
  | false =>
    go_wp2_with fail
    refine HLV.out.mono ?_
    rintro e w3 ⟨rfl, hb⟩
    have HB3 := Lib.hid (HB1.out.trans (hb.mono HB1.out.size))
    clear hb
    go_wp2
    go_ret
    exact ⟨rfl, HB3.out⟩
  | true =>
  by_cases hd : d < 1
  · go_wp2_with fail
    refine HLV.out.mono ?_
    rintro e w3 ⟨rfl, hb⟩
    have HB3 := Lib.hid (HB1.out.trans (hb.mono HB1.out.size))
    clear hb
    go_wp2
    go_ret
    exact ⟨rfl, HB3.out⟩
  by_cases hm : x = -9223372036854775808
  · have t0 : (x == -9223372036854775808) = true := by simp [hm]
    clear hm HRA HRB HN HA HH KX
    go_wp2_with fail
    refine HLV.out.mono ?_
    rintro e w3 ⟨rfl, hb⟩
    have HB3 := Lib.hid (HB1.out.trans (hb.mono HB1.out.size))
    clear hb
    go_wp2
    go_ret
    exact ⟨rfl, HB3.out⟩
  have t0 : (x == -9223372036854775808) = false := by simp [hm]
  have HSK := Lib.hid (fun (h : a ≤ b) (h2 : keepsB a x d = true) => stricter_keeps (b := b) hra hrb (by omega) h h2)
  have HNX := Lib.hid (fun (h : someB a = true) w => holds_any (1 - a) (-x) d w (by have := KX.out; omega) (by have := KX.out; omega) KD.out.2)
  have HNK := Lib.hid (fun (h : someB a = true) => not_keeps (x := x) (d := d) h (by omega))
  have gN : IntKind.i64.wrap (-x) = -x := IntWalk.i64_in _ (by have := KX.out; omega)
  clear hm
  have HR := Lib.hid (show rightB a = true from hra)
  clear hra hrb
  by_cases hab : a ≤ b
  · go_wp2_with fail
    refine (HA.out _).mono ?_
    cases hA : keepsB a x d with
    | false =>
      rintro e w2 ⟨rfl, rfl⟩
      go_wp2_with fail
      refine (HN.out _).mono ?_
      by_cases hi : a = 2147483647
      · subst hi
        rw [show notP 2147483647 = (0, 4) by decide +kernel]
        rintro e w2 ⟨rfl, rfl⟩
        go_wp2_with fail
        refine HLV.out.mono ?_
        rintro e w3 ⟨rfl, hb⟩
        have HB3 := Lib.hid (HB1.out.trans (hb.mono HB1.out.size))
        clear hb
        go_wp2
        go_ret
        exact ⟨rfl, HB3.out⟩
      · have hs := fin_some HR.out hi
        have HS := Lib.hid hs
        rw [not_fin hs]
        rintro e w2 ⟨rfl, rfl⟩
        have t1 : (a == 2147483647) = false := by simp [hi]
        clear hs hi
        go_wp2_with fail
        refine HLV.out.mono ?_
        rintro e w3 ⟨rfl, hb⟩
        have HB3 := Lib.hid (HB1.out.trans (hb.mono HB1.out.size))
        clear hb
        go_wp2_with fail
        refine (HNX.out HS.out _).mono ?_
        rw [HNK.out HS.out]
        rintro e w2 ⟨rfl, rfl⟩
        go_wp2_with fail
        refine (HA.out _).mono ?_
        rintro e w2 ⟨rfl, rfl⟩
        go_wp2
        go_ret
        exact ⟨by simp, HB3.out⟩
    | true =>
      rintro e w2 ⟨rfl, rfl⟩
      go_wp2_with fail
      refine (HH.out _).mono ?_
      rw [HSK.out hab hA]
      rintro e w2 ⟨rfl, rfl⟩
      go_wp2_with fail
      refine (HN.out _).mono ?_
      by_cases hi : a = 2147483647
      · subst hi
        rw [show notP 2147483647 = (0, 4) by decide +kernel]
        rintro e w2 ⟨rfl, rfl⟩
        go_wp2_with fail
        refine HLV.out.mono ?_
        rintro e w3 ⟨rfl, hb⟩
        have HB3 := Lib.hid (HB1.out.trans (hb.mono HB1.out.size))
        clear hb
        go_wp2
        go_ret
        exact ⟨rfl, HB3.out⟩
      · have hs := fin_some HR.out hi
        have HS := Lib.hid hs
        rw [not_fin hs]
        rintro e w2 ⟨rfl, rfl⟩
        have t1 : (a == 2147483647) = false := by simp [hi]
        clear hs hi
        go_wp2_with fail
        refine HLV.out.mono ?_
        rintro e w3 ⟨rfl, hb⟩
        have HB3 := Lib.hid (HB1.out.trans (hb.mono HB1.out.size))
        clear hb
        go_wp2_with fail
        refine (HNX.out HS.out _).mono ?_
        rw [HNK.out HS.out]
        rintro e w2 ⟨rfl, rfl⟩
        go_wp2_with fail
        refine (HA.out _).mono ?_
        rintro e w2 ⟨rfl, rfl⟩
        go_wp2
        go_ret
        exact ⟨by simp, HB3.out⟩
  · clear HSK
    go_wp2_with fail
    refine (HN.out _).mono ?_
    by_cases hi : a = 2147483647
    · subst hi
      rw [show notP 2147483647 = (0, 4) by decide +kernel]
      rintro e w2 ⟨rfl, rfl⟩
      go_wp2_with fail
      refine HLV.out.mono ?_
      rintro e w3 ⟨rfl, hb⟩
      have HB3 := Lib.hid (HB1.out.trans (hb.mono HB1.out.size))
      clear hb
      go_wp2
      go_ret
      exact ⟨rfl, HB3.out⟩
    · have hs := fin_some HR.out hi
      have HS := Lib.hid hs
      rw [not_fin hs]
      rintro e w2 ⟨rfl, rfl⟩
      have t1 : (a == 2147483647) = false := by simp [hi]
      clear hs hi
      go_wp2_with fail
      refine HLV.out.mono ?_
      rintro e w3 ⟨rfl, hb⟩
      have HB3 := Lib.hid (HB1.out.trans (hb.mono HB1.out.size))
      clear hb
      go_wp2_with fail
      refine (HNX.out HS.out _).mono ?_
      rw [HNK.out HS.out]
      rintro e w2 ⟨rfl, rfl⟩
      go_wp2_with fail
      refine (HA.out _).mono ?_
      rintro e w2 ⟨rfl, rfl⟩
      go_wp2
      go_ret
      exact ⟨by simp, HB3.out⟩

end Go.Proofs.YtdeblempnmklfaaDoor
