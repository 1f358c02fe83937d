/- Texts of ours, laid together: Wa, Wb, Wc, Wd. -/
import Derived.Test.YtmgdhlcgbgpgpaaDoorMg8
/- Differences of right fractions, as the document makes them. -/
namespace Go.Proofs.YtmgdhlcgbgpgpaaDoor
open Go Go.RowKit
set_option linter.unusedVariables false
set_option linter.unusedSimpArgs false

set_option maxRecDepth 100000 in
set_option maxHeartbeats 16000000 in
theorem dlessr_any (x1 x2 y1 y2 : Int) (hx1 : I64 x1) (hx2 : I64 x2) (hy1 : I64 y1) (hy2 : I64 y2) (px : 0 < x2) (py : 0 < y2) (w : World) :
    Calls Tryd.prog 61 #[.agg #[.int .i64 x1, .int .i64 x2], .agg #[.int .i64 y1, .int .i64 y2]] w fun e w' => e = .returned (.tuple #[rtV (dlessP (x1, x2) (y1, y2)).1, .int .i64 (dlessP (x1, x2) (y1, y2)).2]) ∧ Below w.heap.size w w' := by
  have a1 := abs64 hx1
  have a2 := abs64 hx2
  have a3 := abs64 hy1
  have a4 := abs64 hy2
  have HS1 := Lib.hid (fun W => dsize_any x1 hx1.1 hx1.2 W)
  have HS2 := Lib.hid (fun W => dsize_any y1 hy1.1 hy1.2 W)
  have hwx : IntKind.u64.wrap x2 = (x2.natAbs : Int) := by rw [IntKind.wrap_u64]; obtain ⟨_, _⟩ := hx2; omega
  have hwy : IntKind.u64.wrap y2 = (y2.natAbs : Int) := by rw [IntKind.wrap_u64]; obtain ⟨_, _⟩ := hy2; omega
  have HM1 : Hid (∀ W, Calls Tryd.prog 62 #[.int .u64 (x1.natAbs : Int), .int .u64 (y2.natAbs : Int)] W fun e w' => e = .returned (.agg #[.int .u64 (hiN (x1.natAbs * y2.natAbs)), .int .u64 (loN (x1.natAbs * y2.natAbs))]) ∧ Below W.heap.size W w') := Lib.hid (fun W => dmul_any x1.natAbs y2.natAbs (by omega) (by omega) W)
  have HM2 : Hid (∀ W, Calls Tryd.prog 62 #[.int .u64 (y1.natAbs : Int), .int .u64 (x2.natAbs : Int)] W fun e w' => e = .returned (.agg #[.int .u64 (hiN (y1.natAbs * x2.natAbs)), .int .u64 (loN (y1.natAbs * x2.natAbs))]) ∧ Below W.heap.size W w') := Lib.hid (fun W => dmul_any y1.natAbs x2.natAbs (by omega) (by omega) W)
  obtain ⟨X, hX⟩ : ∃ X, X = x1.natAbs * y2.natAbs := ⟨_, rfl⟩
  obtain ⟨Y, hY⟩ : ∃ Y, Y = y1.natAbs * x2.natAbs := ⟨_, rfl⟩
  rw [← hX] at HM1
  rw [← hY] at HM2
  have hden : x2.natAbs * y2.natAbs ≤ 85070591730234615865843651857942052864 := by have h := Nat.mul_le_mul a2 a4; omega
  have hXb : X ≤ 85070591730234615865843651857942052864 := by rw [hX]; have h := Nat.mul_le_mul a1 a4; omega
  have hYb : Y ≤ 85070591730234615865843651857942052864 := by rw [hY]; have h := Nat.mul_le_mul a3 a2; omega
  have HM3 : Hid (∀ W, Calls Tryd.prog 62 #[.int .u64 (x2.natAbs : Int), .int .u64 (y2.natAbs : Int)] W fun e w' => e = .returned (.agg #[.int .u64 (hiN (x2.natAbs * y2.natAbs)), .int .u64 (loN (x2.natAbs * y2.natAbs))]) ∧ Below W.heap.size W w') := Lib.hid (fun W => dmul_any x2.natAbs y2.natAbs (by omega) (by omega) W)
  have HAP0 := Lib.hid (show dlessP (x1, x2) (y1, y2) = dsumS (decide (x1 < 0)) (!decide (y1 < 0)) X Y (x2.natAbs * y2.natAbs) by rw [hX, hY]; rfl)
  obtain ⟨D, hD⟩ : ∃ D, D = x2.natAbs * y2.natAbs := ⟨_, rfl⟩
  rw [← hD] at HM3 HAP0 hden
  obtain ⟨AP, hAP⟩ : ∃ AP, AP = dlessP (x1, x2) (y1, y2) := ⟨_, rfl⟩
  rw [← hAP] at HAP0 ⊢
  obtain ⟨sa, hsa⟩ : ∃ sa, decide (x1 < 0) = sa := ⟨_, rfl⟩
  obtain ⟨sb, hsb⟩ : ∃ sb, decide (y1 < 0) = sb := ⟨_, rfl⟩
  rw [hsa, hsb] at HAP0
  have hge : decide (0 ≤ x1) = !sa := by rw [← hsa]; by_cases h : x1 < 0
                                         · rw [decide_eq_true h, decide_eq_false (by omega)]; rfl
                                         · rw [decide_eq_false h, decide_eq_true (by omega)]; rfl
  have HBD := Lib.hid (And.intro hXb (And.intro hYb hden))
  clear hD hAP hXb hYb hden
  have HXE := Lib.hid hX
  have HYE := Lib.hid hY
  clear hX hY a1 a2 a3 a4
  have HW2 := Lib.hid (Rb.made w x1 x2 y1 y2)
  go_enter Tryd.func61, Tryd.ntmps61
  go_upto_region 1 with fail
  generalize ((w.alloc (.cells #[.int .i64 x1, .int .i64 x2] 23)).alloc (.cells #[.int .i64 y1, .int .i64 y2] 23)).alloc (.cells #[.int .i64 0, .int .i64 0] 23) = w2 at *
  go_cut [6] (fun s6 wx => ∃ g : Nat, s6 = .pointer (some ⟨g, 0, none⟩) ∧ Hid (Blk 59 g X wx ∧ w.heap.size + 1 + 1 < g) ∧ Hid (Rb w x1 x2 y1 y2 wx))
  case first =>
    have kb := HW2.out.drew
    go_region_held3 (fun wr => wr.cell? ⟨w.heap.size, 0, none⟩ = some (.int .i64 x1) ∧ wr.cell? ⟨w.heap.size, 1, none⟩ = some (.int .i64 x2) ∧ wr.cell? ⟨w.heap.size + 1, 0, none⟩ = some (.int .i64 y1) ∧ wr.cell? ⟨w.heap.size + 1, 1, none⟩ = some (.int .i64 y2))
      (first | exact kb.four | exact (kb.step (below_one v7 _)).four | exact (kb.put hlt _ _).four | exact (HW2.out.step (below_one w2 _)).drew.four | exact (kb.step (below_one _ _)).four | go_keep)
      (first | (go_at_call 49; refine (HS1.out _).mono ?_; rintro e v6 ⟨rfl, rfl⟩) | (go_at_call 62; refine (HM1.out _).mono ?_; rintro e v7 ⟨rfl, hb⟩; have kb := kb.step hb; clear hb) | (go_at_call 62; refine (HM1.out _).mono ?_; rintro e v7 ⟨rfl, hb⟩; have hlt := heap_lt2 HW2.out.h0; have hz := heap_keep (w := (w2.alloc _).drew) (heap_alloc_new w2 _) hb; have kb := (HW2.out.step (below_one w2 _)).drew.step hb; obtain ⟨z1, z2, z3, z4⟩ := cell_two hz; clear hb))
    all_goals
      first
        | (have HX := (cell_set (cell_set hz (.int .u64 (hiN X))).1 (.int .u64 (loN X))).2
           have HY := Lib.hid (kb.put hlt (.int .u64 (hiN X)) (.int .u64 (loN X)))
           go_wp2_with fail
           go_meet
           exact ⟨_, rfl, ⟨HX, hlt⟩, HY⟩)
        | (have HX := heap_alloc_new v7 (.cells #[.int .u64 (hiN X), .int .u64 (loN X)] 59)
           have HY := Lib.hid (kb.step (below_one v7 (.cells #[.int .u64 (hiN X), .int .u64 (loN X)] 59)))
           have HL := heap_lt2 kb.h0
           go_wp2_with fail
           go_meet
           exact ⟨_, rfl, ⟨HX, HL⟩, HY⟩)
  case rest =>
    obtain ⟨g6, rfl, hx6, HW3⟩ := hcut
    have H6 := Lib.hid hx6.out.1
    have n6 := hx6.out.2
    clear hx6 HW2
    go_upto_region 2 with fail
    go_cut [7] (fun s7 wx => ∃ g : Nat, s7 = .pointer (some ⟨g, 0, none⟩) ∧ Hid (Blk 59 g Y wx ∧ w.heap.size + 1 + 1 < g) ∧ Hid (Rb w x1 x2 y1 y2 wx) ∧ Hid (Blk 59 g6 X wx))
    case first =>
      have kb := HW3.out.drew
      have kH6 : Blk 59 g6 X wc.drew := H6.out
      go_region_held3 (fun wr => wr.cell? ⟨w.heap.size, 0, none⟩ = some (.int .i64 x1) ∧ wr.cell? ⟨w.heap.size, 1, none⟩ = some (.int .i64 x2) ∧ wr.cell? ⟨w.heap.size + 1, 0, none⟩ = some (.int .i64 y1) ∧ wr.cell? ⟨w.heap.size + 1, 1, none⟩ = some (.int .i64 y2))
        (first | exact kb.four | exact (kb.step (below_one v7 _)).four | exact (kb.put hlt _ _).four | exact (HW3.out.step (below_one wc _)).drew.four | exact (kb.step (below_one _ _)).four | go_keep)
        (first | (go_at_call 49; refine (HS2.out _).mono ?_; rintro e v6 ⟨rfl, rfl⟩) | (go_at_call 62; refine (HM2.out _).mono ?_; rintro e v7 ⟨rfl, hb⟩; have kb := kb.step hb; have kH6 := Blk.below kH6 hb; clear hb) | (go_at_call 62; refine (HM2.out _).mono ?_; rintro e v7 ⟨rfl, hb⟩; have hlt := heap_lt2 HW3.out.h0; have hz := heap_keep (w := (wc.alloc _).drew) (heap_alloc_new wc _) hb; have kb := (HW3.out.step (below_one wc _)).drew.step hb; have kH6 := Blk.below (Blk.drew (Blk.below H6.out (below_one wc _))) hb; obtain ⟨z1, z2, z3, z4⟩ := cell_two hz; clear hb))
      all_goals
        first
          | (have HX := (cell_set (cell_set hz (.int .u64 (hiN Y))).1 (.int .u64 (loN Y))).2
             have HY := Lib.hid (kb.put hlt (.int .u64 (hiN Y)) (.int .u64 (loN Y)))
             have jH6 : Hid (Blk 59 g6 X ((v7.setCell ⟨wc.heap.size, 0, none⟩ (.int .u64 (hiN Y))).setCell ⟨wc.heap.size, 1, none⟩ (.int .u64 (loN Y)))) := Lib.hid (heap_other _ (heap_other _ kH6 (by have := Blk.lt H6.out; omega)) (by have := Blk.lt H6.out; omega))
             go_wp2_with fail
             go_meet
             exact ⟨_, rfl, ⟨HX, hlt⟩, HY, jH6⟩)
          | (have HX := heap_alloc_new v7 (.cells #[.int .u64 (hiN Y), .int .u64 (loN Y)] 59)
             have HY := Lib.hid (kb.step (below_one v7 (.cells #[.int .u64 (hiN Y), .int .u64 (loN Y)] 59)))
             have HL := heap_lt2 kb.h0
             have jH6 := Lib.hid (Blk.below kH6 (below_one v7 (.cells #[.int .u64 (hiN Y), .int .u64 (loN Y)] 59)))
             go_wp2_with fail
             go_meet
             exact ⟨_, rfl, ⟨HX, HL⟩, HY, jH6⟩)
    case rest =>
      clear H6 HW3
      obtain ⟨g7, rfl, hx7, HW4, H6⟩ := hcut
      have H7 := Lib.hid hx7.out.1
      have n7 := hx7.out.2
      clear hx7
      obtain ⟨w4, hw4⟩ : ∃ w4, w4 = wc := ⟨_, rfl⟩
      rw [← hw4] at HW4 H6 H7 ⊢
      clear hw4
      obtain ⟨k1, k2, k3, k4⟩ := HW4.out.four
      go_wp2_with fail
      refine (HM3.out _).mono ?_
      rintro e w5 ⟨rfl, hb⟩
      have HW5 := Lib.hid (HW4.out.step hb)
      have H65 := Lib.hid (H6.out.below hb)
      have H75 := Lib.hid (H7.out.below hb)
      clear hb k1 k2 k3 k4 HW4 H6 H7
      go_upto_region 4 with fail
      have HW6 := Lib.hid (HW5.out.step (below_one w5 (.cells #[.int .u64 (hiN D), .int .u64 (loN D)] 59)))
      have H66 := Lib.hid (H65.out.below (below_one w5 (.cells #[.int .u64 (hiN D), .int .u64 (loN D)] 59)))
      have H76 := Lib.hid (H75.out.below (below_one w5 (.cells #[.int .u64 (hiN D), .int .u64 (loN D)] 59)))
      have H86 := Lib.hid (show Blk 59 w5.heap.size D _ from heap_alloc_new w5 (.cells #[.int .u64 (hiN D), .int .u64 (loN D)] 59))
      have n8 : w.heap.size + 1 + 1 < w5.heap.size := heap_lt2 HW5.out.h0
      generalize w5.alloc (.cells #[.int .u64 (hiN D), .int .u64 (loN D)] 59) = w6 at *
      obtain ⟨g8, hg8⟩ : ∃ g, g = w5.heap.size := ⟨_, rfl⟩
      rw [← hg8] at H86 n8 ⊢
      clear hg8 HW5 H65 H75
      obtain ⟨k1, k2, k3, k4⟩ := HW6.out.four
      cases sa with
      | false =>
        have hge2 : decide (0 ≤ x1) = true := hge
        clear hge
        cases sb with
        | false =>
          obtain ⟨j1, j2, _, _⟩ := cell_two H66.out
          obtain ⟨j3, j4, _, _⟩ := cell_two H76.out
          go_wp2_with fail
          refine (dbelow_any X Y _).mono ?_
          rintro e w7 ⟨rfl, hb⟩
          have HW7 := Lib.hid (HW6.out.step hb)
          have H67 := Lib.hid (H66.out.below hb)
          have H77 := Lib.hid (H76.out.below hb)
          have H87 := Lib.hid (H86.out.below hb)
          clear hb j1 j2 j3 j4 k1 k2 k3 k4 HW6 H66 H76 H86
          obtain ⟨k1, k2, k3, k4⟩ := HW7.out.four
          by_cases hlt : X < Y
          · rw [decide_eq_true hlt]
            have HE := Lib.hid (show AP = heldP true (Y - X) D by rw [HAP0.out]; unfold dsumS; rw [if_neg (by decide), if_pos hlt]; rfl)
            have HCV : Hid (∀ W, Calls Tryd.prog 80 #[.agg #[.int .u64 (hiN Y), .int .u64 (loN Y)], .agg #[.int .u64 (hiN X), .int .u64 (loN X)]] W fun e w' => e = .returned (.agg #[.int .u64 (hiN (Y - X)), .int .u64 (loN (Y - X))]) ∧ Below W.heap.size W w') := Lib.hid (fun W => dminus_any Y X (by omega) (by have h := HBD.out; omega) W)
            obtain ⟨M, hM⟩ : ∃ M, M = heldP true (Y - X) D := ⟨_, rfl⟩
            have HHD : Hid (∀ W, Calls Tryd.prog 48 #[.bool true, .agg #[.int .u64 (hiN (Y - X)), .int .u64 (loN (Y - X))], .agg #[.int .u64 (hiN D), .int .u64 (loN D)]] W fun e w' => e = .returned (.tuple #[.agg #[.int .i64 M.1.1, .int .i64 M.1.2], .int .i64 M.2]) ∧ Below W.heap.size W w') := Lib.hid (fun W => by rw [hM]; exact held_any true (Y - X) D W (by have h := HBD.out; omega) (by have h := HBD.out; omega))
            rw [← hM] at HE
            obtain ⟨V, hV⟩ : ∃ V, V = Y - X := ⟨_, rfl⟩
            rw [← hV] at HCV HHD
            clear hM hV
            go_upto_region 7 with fail
            have kb := HW7.out.drew
            have k6 := (H67.out).drew
            have k7 := (H77.out).drew
            have k8 := (H87.out).drew
            try clear k1 k2 k3 k4
            go_region_held3 (fun wr => wr.cell? ⟨w.heap.size, 0, none⟩ = some (.int .i64 x1) ∧ wr.cell? ⟨w.heap.size, 1, none⟩ = some (.int .i64 x2) ∧ wr.cell? ⟨w.heap.size + 1, 0, none⟩ = some (.int .i64 y1) ∧ wr.cell? ⟨w.heap.size + 1, 1, none⟩ = some (.int .i64 y2) ∧ wr.cell? ⟨g6, 0, none⟩ = some (.int .u64 (hiN X)) ∧ wr.cell? ⟨g6, 1, none⟩ = some (.int .u64 (loN X)) ∧ wr.cell? ⟨g7, 0, none⟩ = some (.int .u64 (hiN Y)) ∧ wr.cell? ⟨g7, 1, none⟩ = some (.int .u64 (loN Y)) ∧ wr.cell? ⟨g8, 0, none⟩ = some (.int .u64 (hiN D)) ∧ wr.cell? ⟨g8, 1, none⟩ = some (.int .u64 (loN D)))
              (first | exact ⟨kb.four.1, kb.four.2.1, kb.four.2.2.1, kb.four.2.2.2, (cell_two k6).1, (cell_two k6).2.1, (cell_two k7).1, (cell_two k7).2.1, (cell_two k8).1, (cell_two k8).2.1⟩ | exact ⟨(kb.fourT _ _).1, (kb.fourT _ _).2.1, (kb.fourT _ _).2.2.1, (kb.fourT _ _).2.2.2, (cell_two (k6.put n6 _ _)).1, (cell_two (k6.put n6 _ _)).2.1, (cell_two (k7.put n7 _ _)).1, (cell_two (k7.put n7 _ _)).2.1, (cell_two (k8.put n8 _ _)).1, (cell_two (k8.put n8 _ _)).2.1⟩ | go_keep)
              (first | (go_at_call 80; refine (HCV.out _).mono ?_; rintro e v1 ⟨rfl, hb⟩; have kb := kb.step hb; have k6 := k6.below hb; have k7 := k7.below hb; have k8 := k8.below hb; clear hb) | (go_at_call 48; refine (HHD.out _).mono ?_; rintro e v2 ⟨rfl, hb⟩; have kb := kb.step hb; have k6 := k6.below hb; have k7 := k7.below hb; have k8 := k8.below hb; clear hb; obtain ⟨z7, z8, z9, z10⟩ := kb.zero))
            obtain ⟨t1, t2⟩ := kb.told (.int .i64 M.1.1) (.int .i64 M.1.2)
            have T1 := Lib.hid t1
            have T2 := Lib.hid t2
            clear t1 t2 z7 z8 z9 z10
            go_wp2
            refine bodyPost_ret (results_row_tmp (fn := Tryd.f61) rfl _ _ (w.heap.size + 1 + 1) _ _ _ _ rfl T1.out Tryd.underlying23 rfl (by kernel_rfl)) rfl ?_
            exact ⟨by rw [HE.out]; rfl, T2.out⟩
          · rw [decide_eq_false hlt]
            have HE := Lib.hid (show AP = heldP false (X - Y) D by rw [HAP0.out]; unfold dsumS; rw [if_neg (by decide), if_neg hlt])
            have HCV : Hid (∀ W, Calls Tryd.prog 80 #[.agg #[.int .u64 (hiN X), .int .u64 (loN X)], .agg #[.int .u64 (hiN Y), .int .u64 (loN Y)]] W fun e w' => e = .returned (.agg #[.int .u64 (hiN (X - Y)), .int .u64 (loN (X - Y))]) ∧ Below W.heap.size W w') := Lib.hid (fun W => dminus_any X Y (by omega) (by have h := HBD.out; omega) W)
            obtain ⟨M, hM⟩ : ∃ M, M = heldP false (X - Y) D := ⟨_, rfl⟩
            have HHD : Hid (∀ W, Calls Tryd.prog 48 #[.bool false, .agg #[.int .u64 (hiN (X - Y)), .int .u64 (loN (X - Y))], .agg #[.int .u64 (hiN D), .int .u64 (loN D)]] W fun e w' => e = .returned (.tuple #[.agg #[.int .i64 M.1.1, .int .i64 M.1.2], .int .i64 M.2]) ∧ Below W.heap.size W w') := Lib.hid (fun W => by rw [hM]; exact held_any false (X - Y) D W (by have h := HBD.out; omega) (by have h := HBD.out; omega))
            rw [← hM] at HE
            obtain ⟨V, hV⟩ : ∃ V, V = X - Y := ⟨_, rfl⟩
            rw [← hV] at HCV HHD
            clear hM hV
            go_upto_region 8 with fail
            have kb := HW7.out.drew
            have k6 := (H67.out).drew
            have k7 := (H77.out).drew
            have k8 := (H87.out).drew
            try clear k1 k2 k3 k4
            go_region_held3 (fun wr => wr.cell? ⟨w.heap.size, 0, none⟩ = some (.int .i64 x1) ∧ wr.cell? ⟨w.heap.size, 1, none⟩ = some (.int .i64 x2) ∧ wr.cell? ⟨w.heap.size + 1, 0, none⟩ = some (.int .i64 y1) ∧ wr.cell? ⟨w.heap.size + 1, 1, none⟩ = some (.int .i64 y2) ∧ wr.cell? ⟨g6, 0, none⟩ = some (.int .u64 (hiN X)) ∧ wr.cell? ⟨g6, 1, none⟩ = some (.int .u64 (loN X)) ∧ wr.cell? ⟨g7, 0, none⟩ = some (.int .u64 (hiN Y)) ∧ wr.cell? ⟨g7, 1, none⟩ = some (.int .u64 (loN Y)) ∧ wr.cell? ⟨g8, 0, none⟩ = some (.int .u64 (hiN D)) ∧ wr.cell? ⟨g8, 1, none⟩ = some (.int .u64 (loN D)))
              (first | exact ⟨kb.four.1, kb.four.2.1, kb.four.2.2.1, kb.four.2.2.2, (cell_two k6).1, (cell_two k6).2.1, (cell_two k7).1, (cell_two k7).2.1, (cell_two k8).1, (cell_two k8).2.1⟩ | exact ⟨(kb.fourT _ _).1, (kb.fourT _ _).2.1, (kb.fourT _ _).2.2.1, (kb.fourT _ _).2.2.2, (cell_two (k6.put n6 _ _)).1, (cell_two (k6.put n6 _ _)).2.1, (cell_two (k7.put n7 _ _)).1, (cell_two (k7.put n7 _ _)).2.1, (cell_two (k8.put n8 _ _)).1, (cell_two (k8.put n8 _ _)).2.1⟩ | go_keep)
              (first | (go_at_call 80; refine (HCV.out _).mono ?_; rintro e v1 ⟨rfl, hb⟩; have kb := kb.step hb; have k6 := k6.below hb; have k7 := k7.below hb; have k8 := k8.below hb; clear hb) | (go_at_call 48; refine (HHD.out _).mono ?_; rintro e v2 ⟨rfl, hb⟩; have kb := kb.step hb; have k6 := k6.below hb; have k7 := k7.below hb; have k8 := k8.below hb; clear hb; obtain ⟨z7, z8, z9, z10⟩ := kb.zero))
            obtain ⟨t1, t2⟩ := kb.told (.int .i64 M.1.1) (.int .i64 M.1.2)
            have T1 := Lib.hid t1
            have T2 := Lib.hid t2
            clear t1 t2 z7 z8 z9 z10
            go_wp2
            refine bodyPost_ret (results_row_tmp (fn := Tryd.f61) rfl _ _ (w.heap.size + 1 + 1) _ _ _ _ rfl T1.out Tryd.underlying23 rfl (by kernel_rfl)) rfl ?_
            exact ⟨by rw [HE.out]; rfl, T2.out⟩
        | true =>
          have HE := Lib.hid (show AP = heldP false (X + Y) D by rw [HAP0.out]; unfold dsumS; rw [if_pos (by decide)])
          have HCV : Hid (∀ W, Calls Tryd.prog 79 #[.agg #[.int .u64 (hiN X), .int .u64 (loN X)], .agg #[.int .u64 (hiN Y), .int .u64 (loN Y)]] W fun e w' => e = .returned (.agg #[.int .u64 (hiN (X + Y)), .int .u64 (loN (X + Y))]) ∧ Below W.heap.size W w') := Lib.hid (fun W => dplus_any X Y (by have h := HBD.out; omega) W)
          obtain ⟨M, hM⟩ : ∃ M, M = heldP false (X + Y) D := ⟨_, rfl⟩
          have HHD : Hid (∀ W, Calls Tryd.prog 48 #[.bool false, .agg #[.int .u64 (hiN (X + Y)), .int .u64 (loN (X + Y))], .agg #[.int .u64 (hiN D), .int .u64 (loN D)]] W fun e w' => e = .returned (.tuple #[.agg #[.int .i64 M.1.1, .int .i64 M.1.2], .int .i64 M.2]) ∧ Below W.heap.size W w') := Lib.hid (fun W => by rw [hM]; exact held_any false (X + Y) D W (by have h := HBD.out; omega) (by have h := HBD.out; omega))
          rw [← hM] at HE
          obtain ⟨V, hV⟩ : ∃ V, V = X + Y := ⟨_, rfl⟩
          rw [← hV] at HCV HHD
          clear hM hV
          go_upto_region 5 with fail
          have kb := HW6.out.drew
          have k6 := (H66.out).drew
          have k7 := (H76.out).drew
          have k8 := (H86.out).drew
          try clear k1 k2 k3 k4
          go_region_held3 (fun wr => wr.cell? ⟨w.heap.size, 0, none⟩ = some (.int .i64 x1) ∧ wr.cell? ⟨w.heap.size, 1, none⟩ = some (.int .i64 x2) ∧ wr.cell? ⟨w.heap.size + 1, 0, none⟩ = some (.int .i64 y1) ∧ wr.cell? ⟨w.heap.size + 1, 1, none⟩ = some (.int .i64 y2) ∧ wr.cell? ⟨g6, 0, none⟩ = some (.int .u64 (hiN X)) ∧ wr.cell? ⟨g6, 1, none⟩ = some (.int .u64 (loN X)) ∧ wr.cell? ⟨g7, 0, none⟩ = some (.int .u64 (hiN Y)) ∧ wr.cell? ⟨g7, 1, none⟩ = some (.int .u64 (loN Y)) ∧ wr.cell? ⟨g8, 0, none⟩ = some (.int .u64 (hiN D)) ∧ wr.cell? ⟨g8, 1, none⟩ = some (.int .u64 (loN D)))
            (first | exact ⟨kb.four.1, kb.four.2.1, kb.four.2.2.1, kb.four.2.2.2, (cell_two k6).1, (cell_two k6).2.1, (cell_two k7).1, (cell_two k7).2.1, (cell_two k8).1, (cell_two k8).2.1⟩ | exact ⟨(kb.fourT _ _).1, (kb.fourT _ _).2.1, (kb.fourT _ _).2.2.1, (kb.fourT _ _).2.2.2, (cell_two (k6.put n6 _ _)).1, (cell_two (k6.put n6 _ _)).2.1, (cell_two (k7.put n7 _ _)).1, (cell_two (k7.put n7 _ _)).2.1, (cell_two (k8.put n8 _ _)).1, (cell_two (k8.put n8 _ _)).2.1⟩ | go_keep)
            (first | (go_at_call 79; refine (HCV.out _).mono ?_; rintro e v1 ⟨rfl, hb⟩; have kb := kb.step hb; have k6 := k6.below hb; have k7 := k7.below hb; have k8 := k8.below hb; clear hb) | (go_at_call 48; refine (HHD.out _).mono ?_; rintro e v2 ⟨rfl, hb⟩; have kb := kb.step hb; have k6 := k6.below hb; have k7 := k7.below hb; have k8 := k8.below hb; clear hb; obtain ⟨z7, z8, z9, z10⟩ := kb.zero))
          obtain ⟨t1, t2⟩ := kb.told (.int .i64 M.1.1) (.int .i64 M.1.2)
          have T1 := Lib.hid t1
          have T2 := Lib.hid t2
          clear t1 t2 z7 z8 z9 z10
          go_wp2
          refine bodyPost_ret (results_row_tmp (fn := Tryd.f61) rfl _ _ (w.heap.size + 1 + 1) _ _ _ _ rfl T1.out Tryd.underlying23 rfl (by kernel_rfl)) rfl ?_
          exact ⟨by rw [HE.out]; rfl, T2.out⟩
      | true =>
        have hge2 : decide (0 ≤ x1) = false := hge
        clear hge
        cases sb with
        | false =>
          have HE := Lib.hid (show AP = heldP true (X + Y) D by rw [HAP0.out]; unfold dsumS; rw [if_pos (by decide)])
          have HCV : Hid (∀ W, Calls Tryd.prog 79 #[.agg #[.int .u64 (hiN X), .int .u64 (loN X)], .agg #[.int .u64 (hiN Y), .int .u64 (loN Y)]] W fun e w' => e = .returned (.agg #[.int .u64 (hiN (X + Y)), .int .u64 (loN (X + Y))]) ∧ Below W.heap.size W w') := Lib.hid (fun W => dplus_any X Y (by have h := HBD.out; omega) W)
          obtain ⟨M, hM⟩ : ∃ M, M = heldP true (X + Y) D := ⟨_, rfl⟩
          have HHD : Hid (∀ W, Calls Tryd.prog 48 #[.bool true, .agg #[.int .u64 (hiN (X + Y)), .int .u64 (loN (X + Y))], .agg #[.int .u64 (hiN D), .int .u64 (loN D)]] W fun e w' => e = .returned (.tuple #[.agg #[.int .i64 M.1.1, .int .i64 M.1.2], .int .i64 M.2]) ∧ Below W.heap.size W w') := Lib.hid (fun W => by rw [hM]; exact held_any true (X + Y) D W (by have h := HBD.out; omega) (by have h := HBD.out; omega))
          rw [← hM] at HE
          obtain ⟨V, hV⟩ : ∃ V, V = X + Y := ⟨_, rfl⟩
          rw [← hV] at HCV HHD
          clear hM hV
          go_upto_region 5 with fail
          have kb := HW6.out.drew
          have k6 := (H66.out).drew
          have k7 := (H76.out).drew
          have k8 := (H86.out).drew
          try clear k1 k2 k3 k4
          go_region_held3 (fun wr => wr.cell? ⟨w.heap.size, 0, none⟩ = some (.int .i64 x1) ∧ wr.cell? ⟨w.heap.size, 1, none⟩ = some (.int .i64 x2) ∧ wr.cell? ⟨w.heap.size + 1, 0, none⟩ = some (.int .i64 y1) ∧ wr.cell? ⟨w.heap.size + 1, 1, none⟩ = some (.int .i64 y2) ∧ wr.cell? ⟨g6, 0, none⟩ = some (.int .u64 (hiN X)) ∧ wr.cell? ⟨g6, 1, none⟩ = some (.int .u64 (loN X)) ∧ wr.cell? ⟨g7, 0, none⟩ = some (.int .u64 (hiN Y)) ∧ wr.cell? ⟨g7, 1, none⟩ = some (.int .u64 (loN Y)) ∧ wr.cell? ⟨g8, 0, none⟩ = some (.int .u64 (hiN D)) ∧ wr.cell? ⟨g8, 1, none⟩ = some (.int .u64 (loN D)))
            (first | exact ⟨kb.four.1, kb.four.2.1, kb.four.2.2.1, kb.four.2.2.2, (cell_two k6).1, (cell_two k6).2.1, (cell_two k7).1, (cell_two k7).2.1, (cell_two k8).1, (cell_two k8).2.1⟩ | exact ⟨(kb.fourT _ _).1, (kb.fourT _ _).2.1, (kb.fourT _ _).2.2.1, (kb.fourT _ _).2.2.2, (cell_two (k6.put n6 _ _)).1, (cell_two (k6.put n6 _ _)).2.1, (cell_two (k7.put n7 _ _)).1, (cell_two (k7.put n7 _ _)).2.1, (cell_two (k8.put n8 _ _)).1, (cell_two (k8.put n8 _ _)).2.1⟩ | go_keep)
            (first | (go_at_call 79; refine (HCV.out _).mono ?_; rintro e v1 ⟨rfl, hb⟩; have kb := kb.step hb; have k6 := k6.below hb; have k7 := k7.below hb; have k8 := k8.below hb; clear hb) | (go_at_call 48; refine (HHD.out _).mono ?_; rintro e v2 ⟨rfl, hb⟩; have kb := kb.step hb; have k6 := k6.below hb; have k7 := k7.below hb; have k8 := k8.below hb; clear hb; obtain ⟨z7, z8, z9, z10⟩ := kb.zero))
          obtain ⟨t1, t2⟩ := kb.told (.int .i64 M.1.1) (.int .i64 M.1.2)
          have T1 := Lib.hid t1
          have T2 := Lib.hid t2
          clear t1 t2 z7 z8 z9 z10
          go_wp2
          refine bodyPost_ret (results_row_tmp (fn := Tryd.f61) rfl _ _ (w.heap.size + 1 + 1) _ _ _ _ rfl T1.out Tryd.underlying23 rfl (by kernel_rfl)) rfl ?_
          exact ⟨by rw [HE.out]; rfl, T2.out⟩
        | true =>
          obtain ⟨j1, j2, _, _⟩ := cell_two H66.out
          obtain ⟨j3, j4, _, _⟩ := cell_two H76.out
          go_wp2_with fail
          refine (dbelow_any X Y _).mono ?_
          rintro e w7 ⟨rfl, hb⟩
          have HW7 := Lib.hid (HW6.out.step hb)
          have H67 := Lib.hid (H66.out.below hb)
          have H77 := Lib.hid (H76.out.below hb)
          have H87 := Lib.hid (H86.out.below hb)
          clear hb j1 j2 j3 j4 k1 k2 k3 k4 HW6 H66 H76 H86
          obtain ⟨k1, k2, k3, k4⟩ := HW7.out.four
          by_cases hlt : X < Y
          · rw [decide_eq_true hlt]
            have HE := Lib.hid (show AP = heldP false (Y - X) D by rw [HAP0.out]; unfold dsumS; rw [if_neg (by decide), if_pos hlt]; rfl)
            have HCV : Hid (∀ W, Calls Tryd.prog 80 #[.agg #[.int .u64 (hiN Y), .int .u64 (loN Y)], .agg #[.int .u64 (hiN X), .int .u64 (loN X)]] W fun e w' => e = .returned (.agg #[.int .u64 (hiN (Y - X)), .int .u64 (loN (Y - X))]) ∧ Below W.heap.size W w') := Lib.hid (fun W => dminus_any Y X (by omega) (by have h := HBD.out; omega) W)
            obtain ⟨M, hM⟩ : ∃ M, M = heldP false (Y - X) D := ⟨_, rfl⟩
            have HHD : Hid (∀ W, Calls Tryd.prog 48 #[.bool false, .agg #[.int .u64 (hiN (Y - X)), .int .u64 (loN (Y - X))], .agg #[.int .u64 (hiN D), .int .u64 (loN D)]] W fun e w' => e = .returned (.tuple #[.agg #[.int .i64 M.1.1, .int .i64 M.1.2], .int .i64 M.2]) ∧ Below W.heap.size W w') := Lib.hid (fun W => by rw [hM]; exact held_any false (Y - X) D W (by have h := HBD.out; omega) (by have h := HBD.out; omega))
            rw [← hM] at HE
            obtain ⟨V, hV⟩ : ∃ V, V = Y - X := ⟨_, rfl⟩
            rw [← hV] at HCV HHD
            clear hM hV
            go_upto_region 7 with fail
            have kb := HW7.out.drew
            have k6 := (H67.out).drew
            have k7 := (H77.out).drew
            have k8 := (H87.out).drew
            try clear k1 k2 k3 k4
            go_region_held3 (fun wr => wr.cell? ⟨w.heap.size, 0, none⟩ = some (.int .i64 x1) ∧ wr.cell? ⟨w.heap.size, 1, none⟩ = some (.int .i64 x2) ∧ wr.cell? ⟨w.heap.size + 1, 0, none⟩ = some (.int .i64 y1) ∧ wr.cell? ⟨w.heap.size + 1, 1, none⟩ = some (.int .i64 y2) ∧ wr.cell? ⟨g6, 0, none⟩ = some (.int .u64 (hiN X)) ∧ wr.cell? ⟨g6, 1, none⟩ = some (.int .u64 (loN X)) ∧ wr.cell? ⟨g7, 0, none⟩ = some (.int .u64 (hiN Y)) ∧ wr.cell? ⟨g7, 1, none⟩ = some (.int .u64 (loN Y)) ∧ wr.cell? ⟨g8, 0, none⟩ = some (.int .u64 (hiN D)) ∧ wr.cell? ⟨g8, 1, none⟩ = some (.int .u64 (loN D)))
              (first | exact ⟨kb.four.1, kb.four.2.1, kb.four.2.2.1, kb.four.2.2.2, (cell_two k6).1, (cell_two k6).2.1, (cell_two k7).1, (cell_two k7).2.1, (cell_two k8).1, (cell_two k8).2.1⟩ | exact ⟨(kb.fourT _ _).1, (kb.fourT _ _).2.1, (kb.fourT _ _).2.2.1, (kb.fourT _ _).2.2.2, (cell_two (k6.put n6 _ _)).1, (cell_two (k6.put n6 _ _)).2.1, (cell_two (k7.put n7 _ _)).1, (cell_two (k7.put n7 _ _)).2.1, (cell_two (k8.put n8 _ _)).1, (cell_two (k8.put n8 _ _)).2.1⟩ | go_keep)
              (first | (go_at_call 80; refine (HCV.out _).mono ?_; rintro e v1 ⟨rfl, hb⟩; have kb := kb.step hb; have k6 := k6.below hb; have k7 := k7.below hb; have k8 := k8.below hb; clear hb) | (go_at_call 48; refine (HHD.out _).mono ?_; rintro e v2 ⟨rfl, hb⟩; have kb := kb.step hb; have k6 := k6.below hb; have k7 := k7.below hb; have k8 := k8.below hb; clear hb; obtain ⟨z7, z8, z9, z10⟩ := kb.zero))
            obtain ⟨t1, t2⟩ := kb.told (.int .i64 M.1.1) (.int .i64 M.1.2)
            have T1 := Lib.hid t1
            have T2 := Lib.hid t2
            clear t1 t2 z7 z8 z9 z10
            go_wp2
            refine bodyPost_ret (results_row_tmp (fn := Tryd.f61) rfl _ _ (w.heap.size + 1 + 1) _ _ _ _ rfl T1.out Tryd.underlying23 rfl (by kernel_rfl)) rfl ?_
            exact ⟨by rw [HE.out]; rfl, T2.out⟩
          · rw [decide_eq_false hlt]
            have HE := Lib.hid (show AP = heldP true (X - Y) D by rw [HAP0.out]; unfold dsumS; rw [if_neg (by decide), if_neg hlt])
            have HCV : Hid (∀ W, Calls Tryd.prog 80 #[.agg #[.int .u64 (hiN X), .int .u64 (loN X)], .agg #[.int .u64 (hiN Y), .int .u64 (loN Y)]] W fun e w' => e = .returned (.agg #[.int .u64 (hiN (X - Y)), .int .u64 (loN (X - Y))]) ∧ Below W.heap.size W w') := Lib.hid (fun W => dminus_any X Y (by omega) (by have h := HBD.out; omega) W)
            obtain ⟨M, hM⟩ : ∃ M, M = heldP true (X - Y) D := ⟨_, rfl⟩
            have HHD : Hid (∀ W, Calls Tryd.prog 48 #[.bool true, .agg #[.int .u64 (hiN (X - Y)), .int .u64 (loN (X - Y))], .agg #[.int .u64 (hiN D), .int .u64 (loN D)]] W fun e w' => e = .returned (.tuple #[.agg #[.int .i64 M.1.1, .int .i64 M.1.2], .int .i64 M.2]) ∧ Below W.heap.size W w') := Lib.hid (fun W => by rw [hM]; exact held_any true (X - Y) D W (by have h := HBD.out; omega) (by have h := HBD.out; omega))
            rw [← hM] at HE
            obtain ⟨V, hV⟩ : ∃ V, V = X - Y := ⟨_, rfl⟩
            rw [← hV] at HCV HHD
            clear hM hV
            go_upto_region 8 with fail
            have kb := HW7.out.drew
            have k6 := (H67.out).drew
            have k7 := (H77.out).drew
            have k8 := (H87.out).drew
            try clear k1 k2 k3 k4
            go_region_held3 (fun wr => wr.cell? ⟨w.heap.size, 0, none⟩ = some (.int .i64 x1) ∧ wr.cell? ⟨w.heap.size, 1, none⟩ = some (.int .i64 x2) ∧ wr.cell? ⟨w.heap.size + 1, 0, none⟩ = some (.int .i64 y1) ∧ wr.cell? ⟨w.heap.size + 1, 1, none⟩ = some (.int .i64 y2) ∧ wr.cell? ⟨g6, 0, none⟩ = some (.int .u64 (hiN X)) ∧ wr.cell? ⟨g6, 1, none⟩ = some (.int .u64 (loN X)) ∧ wr.cell? ⟨g7, 0, none⟩ = some (.int .u64 (hiN Y)) ∧ wr.cell? ⟨g7, 1, none⟩ = some (.int .u64 (loN Y)) ∧ wr.cell? ⟨g8, 0, none⟩ = some (.int .u64 (hiN D)) ∧ wr.cell? ⟨g8, 1, none⟩ = some (.int .u64 (loN D)))
              (first | exact ⟨kb.four.1, kb.four.2.1, kb.four.2.2.1, kb.four.2.2.2, (cell_two k6).1, (cell_two k6).2.1, (cell_two k7).1, (cell_two k7).2.1, (cell_two k8).1, (cell_two k8).2.1⟩ | exact ⟨(kb.fourT _ _).1, (kb.fourT _ _).2.1, (kb.fourT _ _).2.2.1, (kb.fourT _ _).2.2.2, (cell_two (k6.put n6 _ _)).1, (cell_two (k6.put n6 _ _)).2.1, (cell_two (k7.put n7 _ _)).1, (cell_two (k7.put n7 _ _)).2.1, (cell_two (k8.put n8 _ _)).1, (cell_two (k8.put n8 _ _)).2.1⟩ | go_keep)
              (first | (go_at_call 80; refine (HCV.out _).mono ?_; rintro e v1 ⟨rfl, hb⟩; have kb := kb.step hb; have k6 := k6.below hb; have k7 := k7.below hb; have k8 := k8.below hb; clear hb) | (go_at_call 48; refine (HHD.out _).mono ?_; rintro e v2 ⟨rfl, hb⟩; have kb := kb.step hb; have k6 := k6.below hb; have k7 := k7.below hb; have k8 := k8.below hb; clear hb; obtain ⟨z7, z8, z9, z10⟩ := kb.zero))
            obtain ⟨t1, t2⟩ := kb.told (.int .i64 M.1.1) (.int .i64 M.1.2)
            have T1 := Lib.hid t1
            have T2 := Lib.hid t2
            clear t1 t2 z7 z8 z9 z10
            go_wp2
            refine bodyPost_ret (results_row_tmp (fn := Tryd.f61) rfl _ _ (w.heap.size + 1 + 1) _ _ _ _ rfl T1.out Tryd.underlying23 rfl (by kernel_rfl)) rfl ?_
            exact ⟨by rw [HE.out]; rfl, T2.out⟩

end Go.Proofs.YtmgdhlcgbgpgpaaDoor

/- Sums and differences, as the document makes them. -/
namespace Go.Proofs.YtmgdhlcgbgpgpaaDoor
open Go Go.RowKit
set_option linter.unusedVariables false
set_option linter.unusedSimpArgs false

set_option maxRecDepth 100000 in
set_option maxHeartbeats 4000000 in
theorem dadd_any (x1 x2 y1 y2 : Int) (hx1 : I64 x1) (hx2 : I64 x2) (hy1 : I64 y1) (hy2 : I64 y2) (w : World) :
    Calls Tryd.prog 27 #[.agg #[.int .i64 x1, .int .i64 x2], .agg #[.int .i64 y1, .int .i64 y2]] w fun e w' => e = .returned (.tuple #[rtV (addP (x1, x2) (y1, y2)).1, .int .i64 (addP (x1, x2) (y1, y2)).2]) ∧ Below w.heap.size w w' := by
  have HR1 := Lib.hid (fun W => dright_any x1 x2 hx1 hx2 W)
  have HR2 := Lib.hid (fun W => dright_any y1 y2 hy1 hy2 W)
  have HA1 := Lib.hid (fun (h1 : rightR (x1, x2) = true) (h2 : rightR (y1, y2) = true) => show addP (x1, x2) (y1, y2) = dsumP (x1, x2) (y1, y2) by
    rw [dsum_is (x1, x2) (y1, y2) (right_pos h1) (right_pos h2)]; unfold addP; rw [if_pos (by rw [h1, h2]; rfl)])
  have HA0 := Lib.hid (fun (h : (rightR (x1, x2) && rightR (y1, y2)) = false) => show addP (x1, x2) (y1, y2) = ((0, 0), 7) by unfold addP; rw [if_neg (by rw [h]; decide)])
  have HSU := Lib.hid (fun W (h1 : rightR (x1, x2) = true) (h2 : rightR (y1, y2) = true) => dsum_any x1 x2 y1 y2 hx1 hx2 hy1 hy2 (right_pos h1) (right_pos h2) W)
  obtain ⟨AP, hAP⟩ : ∃ AP, AP = addP (x1, x2) (y1, y2) := ⟨_, rfl⟩
  obtain ⟨ra, hra⟩ : ∃ ra, ra = rightR (x1, x2) := ⟨_, rfl⟩
  obtain ⟨rb, hrb⟩ : ∃ rb, rb = rightR (y1, y2) := ⟨_, rfl⟩
  rw [← hAP] at HA1 HA0 ⊢
  rw [← hra] at HR1 HA1 HA0 HSU
  rw [← hrb] at HR2 HA1 HA0 HSU
  obtain ⟨M, hM⟩ : ∃ M, M = dsumP (x1, x2) (y1, y2) := ⟨_, rfl⟩
  rw [← hM] at HA1 HSU
  have HSU : Hid (∀ W, ra = true → rb = true → Calls Tryd.prog 56 #[.agg #[.int .i64 x1, .int .i64 x2], .agg #[.int .i64 y1, .int .i64 y2]] W fun e w' => e = .returned (.tuple #[.agg #[.int .i64 M.1.1, .int .i64 M.1.2], .int .i64 M.2]) ∧ Below W.heap.size W w') := HSU
  have HW := Lib.hid (Rb.made w x1 x2 y1 y2)
  clear hM hAP hra hrb hx1 hx2 hy1 hy2
  go_enter Tryd.func27, Tryd.ntmps27
  go_upto_region 1 with fail
  generalize ((w.alloc (.cells #[.int .i64 x1, .int .i64 x2] 23)).alloc (.cells #[.int .i64 y1, .int .i64 y2] 23)).alloc (.cells #[.int .i64 0, .int .i64 0] 23) = w1 at *
  obtain ⟨k1, k2, k3, k4⟩ := HW.out.four
  go_wp2_with fail
  refine (HR1.out _).mono ?_
  rintro e w2 ⟨rfl, hb⟩
  have HW2 := Lib.hid (HW.out.step hb)
  clear hb HW k1 k2 k3 k4
  cases ra with
  | false =>
    have HE := Lib.hid (HA0.out (by simp))
    obtain ⟨z7, z8, z9, z10⟩ := HW2.out.zero
    obtain ⟨t1, t2⟩ := HW2.out.told (.int .i64 0) (.int .i64 0)
    have T1 := Lib.hid t1
    have T2 := Lib.hid t2
    clear t1 t2 HA0 HA1
    go_wp2
    refine bodyPost_ret (results_row_tmp (fn := Tryd.f27) rfl _ _ (w.heap.size + 1 + 1) _ _ _ _ rfl T1.out Tryd.underlying23 rfl (by kernel_rfl)) rfl ?_
    exact ⟨by rw [HE.out]; rfl, T2.out⟩
  | true =>
    obtain ⟨k1, k2, k3, k4⟩ := HW2.out.four
    go_wp2_with fail
    refine (HR2.out _).mono ?_
    rintro e w3 ⟨rfl, hb⟩
    have HW3 := Lib.hid (HW2.out.step hb)
    clear hb HW2 k1 k2 k3 k4
    cases rb with
    | false =>
      have HE := Lib.hid (HA0.out (by simp))
      obtain ⟨z7, z8, z9, z10⟩ := HW3.out.zero
      obtain ⟨t1, t2⟩ := HW3.out.told (.int .i64 0) (.int .i64 0)
      have T1 := Lib.hid t1
      have T2 := Lib.hid t2
      clear t1 t2 HA0 HA1
      go_wp2
      refine bodyPost_ret (results_row_tmp (fn := Tryd.f27) rfl _ _ (w.heap.size + 1 + 1) _ _ _ _ rfl T1.out Tryd.underlying23 rfl (by kernel_rfl)) rfl ?_
      exact ⟨by rw [HE.out]; rfl, T2.out⟩
    | true =>
      have HE := Lib.hid (HA1.out (by simp) (by simp))
      obtain ⟨k1, k2, k3, k4⟩ := HW3.out.four
      clear HA0 HA1
      go_wp2_with fail
      refine (HSU.out _ (by simp) (by simp)).mono ?_
      rintro e w4 ⟨rfl, hb⟩
      have HW4 := Lib.hid (HW3.out.step hb)
      clear hb HW3 k1 k2 k3 k4
      obtain ⟨z7, z8, z9, z10⟩ := HW4.out.zero
      obtain ⟨t1, t2⟩ := HW4.out.told (.int .i64 M.1.1) (.int .i64 M.1.2)
      have T1 := Lib.hid t1
      have T2 := Lib.hid t2
      clear t1 t2
      go_wp2
      refine bodyPost_ret (results_row_tmp (fn := Tryd.f27) rfl _ _ (w.heap.size + 1 + 1) _ _ _ _ rfl T1.out Tryd.underlying23 rfl (by kernel_rfl)) rfl ?_
      exact ⟨by rw [HE.out]; rfl, T2.out⟩

set_option maxRecDepth 100000 in
set_option maxHeartbeats 4000000 in
theorem dsub_any (x1 x2 y1 y2 : Int) (hx1 : I64 x1) (hx2 : I64 x2) (hy1 : I64 y1) (hy2 : I64 y2) (w : World) :
    Calls Tryd.prog 28 #[.agg #[.int .i64 x1, .int .i64 x2], .agg #[.int .i64 y1, .int .i64 y2]] w fun e w' => e = .returned (.tuple #[rtV (subP (x1, x2) (y1, y2)).1, .int .i64 (subP (x1, x2) (y1, y2)).2]) ∧ Below w.heap.size w w' := by
  have HR1 := Lib.hid (fun W => dright_any x1 x2 hx1 hx2 W)
  have HR2 := Lib.hid (fun W => dright_any y1 y2 hy1 hy2 W)
  have HA1 := Lib.hid (fun (h1 : rightR (x1, x2) = true) (h2 : rightR (y1, y2) = true) => show subP (x1, x2) (y1, y2) = dlessP (x1, x2) (y1, y2) by
    rw [dless_is (x1, x2) (y1, y2) (right_pos h1) (right_pos h2)]; unfold subP; rw [if_pos (by rw [h1, h2]; rfl)])
  have HA0 := Lib.hid (fun (h : (rightR (x1, x2) && rightR (y1, y2)) = false) => show subP (x1, x2) (y1, y2) = ((0, 0), 7) by unfold subP; rw [if_neg (by rw [h]; decide)])
  have HSU := Lib.hid (fun W (h1 : rightR (x1, x2) = true) (h2 : rightR (y1, y2) = true) => dlessr_any x1 x2 y1 y2 hx1 hx2 hy1 hy2 (right_pos h1) (right_pos h2) W)
  obtain ⟨AP, hAP⟩ : ∃ AP, AP = subP (x1, x2) (y1, y2) := ⟨_, rfl⟩
  obtain ⟨ra, hra⟩ : ∃ ra, ra = rightR (x1, x2) := ⟨_, rfl⟩
  obtain ⟨rb, hrb⟩ : ∃ rb, rb = rightR (y1, y2) := ⟨_, rfl⟩
  rw [← hAP] at HA1 HA0 ⊢
  rw [← hra] at HR1 HA1 HA0 HSU
  rw [← hrb] at HR2 HA1 HA0 HSU
  obtain ⟨M, hM⟩ : ∃ M, M = dlessP (x1, x2) (y1, y2) := ⟨_, rfl⟩
  rw [← hM] at HA1 HSU
  have HSU : Hid (∀ W, ra = true → rb = true → Calls Tryd.prog 61 #[.agg #[.int .i64 x1, .int .i64 x2], .agg #[.int .i64 y1, .int .i64 y2]] W fun e w' => e = .returned (.tuple #[.agg #[.int .i64 M.1.1, .int .i64 M.1.2], .int .i64 M.2]) ∧ Below W.heap.size W w') := HSU
  have HW := Lib.hid (Rb.made w x1 x2 y1 y2)
  clear hM hAP hra hrb hx1 hx2 hy1 hy2
  go_enter Tryd.func28, Tryd.ntmps28
  go_upto_region 1 with fail
  generalize ((w.alloc (.cells #[.int .i64 x1, .int .i64 x2] 23)).alloc (.cells #[.int .i64 y1, .int .i64 y2] 23)).alloc (.cells #[.int .i64 0, .int .i64 0] 23) = w1 at *
  obtain ⟨k1, k2, k3, k4⟩ := HW.out.four
  go_wp2_with fail
  refine (HR1.out _).mono ?_
  rintro e w2 ⟨rfl, hb⟩
  have HW2 := Lib.hid (HW.out.step hb)
  clear hb HW k1 k2 k3 k4
  cases ra with
  | false =>
    have HE := Lib.hid (HA0.out (by simp))
    obtain ⟨z7, z8, z9, z10⟩ := HW2.out.zero
    obtain ⟨t1, t2⟩ := HW2.out.told (.int .i64 0) (.int .i64 0)
    have T1 := Lib.hid t1
    have T2 := Lib.hid t2
    clear t1 t2 HA0 HA1
    go_wp2
    refine bodyPost_ret (results_row_tmp (fn := Tryd.f28) rfl _ _ (w.heap.size + 1 + 1) _ _ _ _ rfl T1.out Tryd.underlying23 rfl (by kernel_rfl)) rfl ?_
    exact ⟨by rw [HE.out]; rfl, T2.out⟩
  | true =>
    obtain ⟨k1, k2, k3, k4⟩ := HW2.out.four
    go_wp2_with fail
    refine (HR2.out _).mono ?_
    rintro e w3 ⟨rfl, hb⟩
    have HW3 := Lib.hid (HW2.out.step hb)
    clear hb HW2 k1 k2 k3 k4
    cases rb with
    | false =>
      have HE := Lib.hid (HA0.out (by simp))
      obtain ⟨z7, z8, z9, z10⟩ := HW3.out.zero
      obtain ⟨t1, t2⟩ := HW3.out.told (.int .i64 0) (.int .i64 0)
      have T1 := Lib.hid t1
      have T2 := Lib.hid t2
      clear t1 t2 HA0 HA1
      go_wp2
      refine bodyPost_ret (results_row_tmp (fn := Tryd.f28) rfl _ _ (w.heap.size + 1 + 1) _ _ _ _ rfl T1.out Tryd.underlying23 rfl (by kernel_rfl)) rfl ?_
      exact ⟨by rw [HE.out]; rfl, T2.out⟩
    | true =>
      have HE := Lib.hid (HA1.out (by simp) (by simp))
      obtain ⟨k1, k2, k3, k4⟩ := HW3.out.four
      clear HA0 HA1
      go_wp2_with fail
      refine (HSU.out _ (by simp) (by simp)).mono ?_
      rintro e w4 ⟨rfl, hb⟩
      have HW4 := Lib.hid (HW3.out.step hb)
      clear hb HW3 k1 k2 k3 k4
      obtain ⟨z7, z8, z9, z10⟩ := HW4.out.zero
      obtain ⟨t1, t2⟩ := HW4.out.told (.int .i64 M.1.1) (.int .i64 M.1.2)
      have T1 := Lib.hid t1
      have T2 := Lib.hid t2
      clear t1 t2
      go_wp2
      refine bodyPost_ret (results_row_tmp (fn := Tryd.f28) rfl _ _ (w.heap.size + 1 + 1) _ _ _ _ rfl T1.out Tryd.underlying23 rfl (by kernel_rfl)) rfl ?_
      exact ⟨by rw [HE.out]; rfl, T2.out⟩

end Go.Proofs.YtmgdhlcgbgpgpaaDoor

/- Products and quotients, as the document makes them. -/
namespace Go.Proofs.YtmgdhlcgbgpgpaaDoor
open Go Go.RowKit
set_option linter.unusedVariables false
set_option linter.unusedSimpArgs false

set_option maxRecDepth 100000 in
set_option maxHeartbeats 4000000 in
theorem dmulr_any (x1 x2 y1 y2 : Int) (hx1 : I64 x1) (hx2 : I64 x2) (hy1 : I64 y1) (hy2 : I64 y2) (w : World) :
    Calls Tryd.prog 30 #[.agg #[.int .i64 x1, .int .i64 x2], .agg #[.int .i64 y1, .int .i64 y2]] w fun e w' => e = .returned (.tuple #[rtV (mulP (x1, x2) (y1, y2)).1, .int .i64 (mulP (x1, x2) (y1, y2)).2]) ∧ Below w.heap.size w w' := by
  have HR1 := Lib.hid (fun W => dright_any x1 x2 hx1 hx2 W)
  have HR2 := Lib.hid (fun W => dright_any y1 y2 hy1 hy2 W)
  have HA1 := Lib.hid (fun (h1 : rightR (x1, x2) = true) (h2 : rightR (y1, y2) = true) => show mulP (x1, x2) (y1, y2) = dmulP (x1, x2) (y1, y2) by
    rw [dmul_is (x1, x2) (y1, y2) (right_pos h1) (right_pos h2)]; unfold mulP; rw [if_pos (by rw [h1, h2]; rfl)])
  have HA0 := Lib.hid (fun (h : (rightR (x1, x2) && rightR (y1, y2)) = false) => show mulP (x1, x2) (y1, y2) = ((0, 0), 7) by unfold mulP; rw [if_neg (by rw [h]; decide)])
  have a1 := abs64 hx1
  have a2 := abs64 hx2
  have a3 := abs64 hy1
  have a4 := abs64 hy2
  have HPX := Lib.hid (fun (h : rightR (x1, x2) = true) => right_pos h)
  have HPY := Lib.hid (fun (h : rightR (y1, y2) = true) => right_pos h)
  have HS1 := Lib.hid (fun W => dsize_any x1 hx1.1 hx1.2 W)
  have HS2 := Lib.hid (fun W => dsize_any y1 hy1.1 hy1.2 W)
  have hwx0 : 0 < x2 → IntKind.u64.wrap x2 = (x2.natAbs : Int) := fun h => by rw [IntKind.wrap_u64]; obtain ⟨_, _⟩ := hx2; omega
  have hwy0 : 0 < y2 → IntKind.u64.wrap y2 = (y2.natAbs : Int) := fun h => by rw [IntKind.wrap_u64]; obtain ⟨_, _⟩ := hy2; omega
  have HWX := Lib.hid hwx0
  have HWY := Lib.hid hwy0
  obtain ⟨m1, hm1⟩ : ∃ m, m = x1.natAbs := ⟨_, rfl⟩
  obtain ⟨m2, hm2⟩ : ∃ m, m = x2.natAbs := ⟨_, rfl⟩
  obtain ⟨m3, hm3⟩ : ∃ m, m = y1.natAbs := ⟨_, rfl⟩
  obtain ⟨m4, hm4⟩ : ∃ m, m = y2.natAbs := ⟨_, rfl⟩
  have HMD := Lib.hid (show dmulP (x1, x2) (y1, y2) = heldP (decide (x1 < 0) != decide (y1 < 0)) (m1 * m3) (m2 * m4) by rw [hm1, hm2, hm3, hm4]; rfl)
  rw [← hm1] at HS1 a1
  rw [← hm3] at HS2 a3
  rw [← hm2] at HWX a2
  rw [← hm4] at HWY a4
  have HM1 : Hid (∀ W, Calls Tryd.prog 62 #[.int .u64 (m1 : Int), .int .u64 (m3 : Int)] W fun e w' => e = .returned (.agg #[.int .u64 (hiN (m1 * m3)), .int .u64 (loN (m1 * m3))]) ∧ Below W.heap.size W w') := Lib.hid (fun W => dmul_any m1 m3 (by omega) (by omega) W)
  have HM2 : Hid (∀ W, Calls Tryd.prog 62 #[.int .u64 (m2 : Int), .int .u64 (m4 : Int)] W fun e w' => e = .returned (.agg #[.int .u64 (hiN (m2 * m4)), .int .u64 (loN (m2 * m4))]) ∧ Below W.heap.size W w') := Lib.hid (fun W => dmul_any m2 m4 (by omega) (by omega) W)
  have hb1 : m1 * m3 ≤ 85070591730234615865843651857942052864 := by have h := Nat.mul_le_mul a1 a3; omega
  have hb2 : m2 * m4 ≤ 85070591730234615865843651857942052864 := by have h := Nat.mul_le_mul a2 a4; omega
  obtain ⟨U, hU⟩ : ∃ U, U = m1 * m3 := ⟨_, rfl⟩
  obtain ⟨V, hV⟩ : ∃ V, V = m2 * m4 := ⟨_, rfl⟩
  rw [← hU] at HM1 HMD hb1
  rw [← hV] at HM2 HMD hb2
  obtain ⟨sx, hsx⟩ : ∃ sx, (!(decide (x1 < 0) == decide (y1 < 0))) = sx := ⟨_, rfl⟩
  rw [show (decide (x1 < 0) != decide (y1 < 0)) = sx from hsx] at HMD
  have HHD := Lib.hid (fun W => held_any sx U V W (by omega) (by omega))
  rw [← HMD.out] at HHD
  clear hU hV hb1 hb2 hm1 hm2 hm3 hm4 a1 a2 a3 a4 hwx0 hwy0 HMD
  obtain ⟨AP, hAP⟩ : ∃ AP, AP = mulP (x1, x2) (y1, y2) := ⟨_, rfl⟩
  obtain ⟨ra, hra⟩ : ∃ ra, ra = rightR (x1, x2) := ⟨_, rfl⟩
  obtain ⟨rb, hrb⟩ : ∃ rb, rb = rightR (y1, y2) := ⟨_, rfl⟩
  rw [← hAP] at HA1 HA0 ⊢
  rw [← hra] at HR1 HA1 HA0 HPX
  rw [← hrb] at HR2 HA1 HA0 HPY
  obtain ⟨M, hM⟩ : ∃ M, M = dmulP (x1, x2) (y1, y2) := ⟨_, rfl⟩
  rw [← hM] at HA1 HHD
  have HHD : Hid (∀ W, Calls Tryd.prog 48 #[.bool sx, .agg #[.int .u64 (hiN U), .int .u64 (loN U)], .agg #[.int .u64 (hiN V), .int .u64 (loN V)]] W fun e w' => e = .returned (.tuple #[.agg #[.int .i64 M.1.1, .int .i64 M.1.2], .int .i64 M.2]) ∧ Below W.heap.size W w') := HHD
  have HW := Lib.hid (Rb.made w x1 x2 y1 y2)
  clear hM hAP hra hrb hx1 hx2 hy1 hy2
  go_enter Tryd.func30, Tryd.ntmps30
  go_upto_region 1 with fail
  generalize ((w.alloc (.cells #[.int .i64 x1, .int .i64 x2] 23)).alloc (.cells #[.int .i64 y1, .int .i64 y2] 23)).alloc (.cells #[.int .i64 0, .int .i64 0] 23) = w1 at *
  obtain ⟨k1, k2, k3, k4⟩ := HW.out.four
  go_wp2_with fail
  refine (HR1.out _).mono ?_
  rintro e w2 ⟨rfl, hb⟩
  have HW2 := Lib.hid (HW.out.step hb)
  clear hb HW k1 k2 k3 k4
  cases ra with
  | false =>
    have HE := Lib.hid (HA0.out (by simp))
    obtain ⟨z7, z8, z9, z10⟩ := HW2.out.zero
    obtain ⟨t1, t2⟩ := HW2.out.told (.int .i64 0) (.int .i64 0)
    have T1 := Lib.hid t1
    have T2 := Lib.hid t2
    clear t1 t2 HA0 HA1
    go_wp2
    refine bodyPost_ret (results_row_tmp (fn := Tryd.f30) rfl _ _ (w.heap.size + 1 + 1) _ _ _ _ rfl T1.out Tryd.underlying23 rfl (by kernel_rfl)) rfl ?_
    exact ⟨by rw [HE.out]; rfl, T2.out⟩
  | true =>
    obtain ⟨k1, k2, k3, k4⟩ := HW2.out.four
    go_wp2_with fail
    refine (HR2.out _).mono ?_
    rintro e w3 ⟨rfl, hb⟩
    have HW3 := Lib.hid (HW2.out.step hb)
    clear hb HW2 k1 k2 k3 k4
    cases rb with
    | false =>
      have HE := Lib.hid (HA0.out (by simp))
      obtain ⟨z7, z8, z9, z10⟩ := HW3.out.zero
      obtain ⟨t1, t2⟩ := HW3.out.told (.int .i64 0) (.int .i64 0)
      have T1 := Lib.hid t1
      have T2 := Lib.hid t2
      clear t1 t2 HA0 HA1
      go_wp2
      refine bodyPost_ret (results_row_tmp (fn := Tryd.f30) rfl _ _ (w.heap.size + 1 + 1) _ _ _ _ rfl T1.out Tryd.underlying23 rfl (by kernel_rfl)) rfl ?_
      exact ⟨by rw [HE.out]; rfl, T2.out⟩
    | true =>
      have HE := Lib.hid (HA1.out (by simp) (by simp))
      have hwx := HWX.out (HPX.out (by simp))
      have hwy := HWY.out (HPY.out (by simp))
      clear HA0 HA1 HWX HWY HPX HPY
      go_upto_region 3 with fail
      have kb := HW3.out.drew
      go_region_held3 (fun wr => wr.cell? ⟨w.heap.size, 0, none⟩ = some (.int .i64 x1) ∧ wr.cell? ⟨w.heap.size, 1, none⟩ = some (.int .i64 x2) ∧ wr.cell? ⟨w.heap.size + 1, 0, none⟩ = some (.int .i64 y1) ∧ wr.cell? ⟨w.heap.size + 1, 1, none⟩ = some (.int .i64 y2))
        (first | exact kb.four | exact kb.fourT _ _ | go_keep)
        (first | (go_at_call_of 49 x1; refine (HS1.out _).mono ?_; rintro e v1 ⟨rfl, rfl⟩) | (go_at_call_of 49 y1; refine (HS2.out _).mono ?_; rintro e v2 ⟨rfl, rfl⟩) | (go_at_call_has 62 (m1); refine (HM1.out _).mono ?_; rintro e v3 ⟨rfl, hb⟩; have kb := kb.step hb; clear hb) | (go_at_call 62; refine (HM2.out _).mono ?_; rintro e v4 ⟨rfl, hb⟩; have kb := kb.step hb; clear hb) | (go_at_call 48; refine (HHD.out _).mono ?_; rintro e v5 ⟨rfl, hb⟩; have kb := kb.step hb; clear hb; have kc := kb.zero; obtain ⟨z7, z8, z9, z10⟩ := kc))
      obtain ⟨t1, t2⟩ := kb.told (.int .i64 M.1.1) (.int .i64 M.1.2)
      have T1 := Lib.hid t1
      have T2 := Lib.hid t2
      clear t1 t2 z7 z8 z9 z10
      go_wp2
      refine bodyPost_ret (results_row_tmp (fn := Tryd.f30) rfl _ _ (w.heap.size + 1 + 1) _ _ _ _ rfl T1.out Tryd.underlying23 rfl (by kernel_rfl)) rfl ?_
      exact ⟨by rw [HE.out]; rfl, T2.out⟩

set_option maxRecDepth 100000 in
set_option maxHeartbeats 4000000 in
theorem ddiv_any (x1 x2 y1 y2 : Int) (hx1 : I64 x1) (hx2 : I64 x2) (hy1 : I64 y1) (hy2 : I64 y2) (w : World) :
    Calls Tryd.prog 32 #[.agg #[.int .i64 x1, .int .i64 x2], .agg #[.int .i64 y1, .int .i64 y2]] w fun e w' => e = .returned (.tuple #[rtV (divP (x1, x2) (y1, y2)).1, .int .i64 (divP (x1, x2) (y1, y2)).2]) ∧ Below w.heap.size w w' := by
  have HR1 := Lib.hid (fun W => dright_any x1 x2 hx1 hx2 W)
  have HR2 := Lib.hid (fun W => dright_any y1 y2 hy1 hy2 W)
  have HA1 := Lib.hid (fun (h1 : rightR (x1, x2) = true) (h2 : rightR (y1, y2) = true) => show divP (x1, x2) (y1, y2) = ddivP (x1, x2) (y1, y2) by
    rw [ddiv_is (x1, x2) (y1, y2) (right_pos h1) (right_pos h2)]; unfold divP; rw [if_pos (by rw [h1, h2]; rfl)])
  have HA0 := Lib.hid (fun (h : (rightR (x1, x2) && rightR (y1, y2)) = false) => show divP (x1, x2) (y1, y2) = ((0, 0), 7) by unfold divP; rw [if_neg (by rw [h]; decide)])
  have a1 := abs64 hx1
  have a2 := abs64 hx2
  have a3 := abs64 hy1
  have a4 := abs64 hy2
  have HPX := Lib.hid (fun (h : rightR (x1, x2) = true) => right_pos h)
  have HPY := Lib.hid (fun (h : rightR (y1, y2) = true) => right_pos h)
  have HS1 := Lib.hid (fun W => dsize_any x1 hx1.1 hx1.2 W)
  have HS2 := Lib.hid (fun W => dsize_any y1 hy1.1 hy1.2 W)
  have hwx0 : 0 < x2 → IntKind.u64.wrap x2 = (x2.natAbs : Int) := fun h => by rw [IntKind.wrap_u64]; obtain ⟨_, _⟩ := hx2; omega
  have hwy0 : 0 < y2 → IntKind.u64.wrap y2 = (y2.natAbs : Int) := fun h => by rw [IntKind.wrap_u64]; obtain ⟨_, _⟩ := hy2; omega
  have HWX := Lib.hid hwx0
  have HWY := Lib.hid hwy0
  obtain ⟨m1, hm1⟩ : ∃ m, m = x1.natAbs := ⟨_, rfl⟩
  obtain ⟨m2, hm2⟩ : ∃ m, m = x2.natAbs := ⟨_, rfl⟩
  obtain ⟨m3, hm3⟩ : ∃ m, m = y1.natAbs := ⟨_, rfl⟩
  obtain ⟨m4, hm4⟩ : ∃ m, m = y2.natAbs := ⟨_, rfl⟩
  have HMD := Lib.hid (show ddivP (x1, x2) (y1, y2) = heldP (decide (x1 < 0) != decide (y1 < 0)) (m1 * m4) (m2 * m3) by rw [hm1, hm2, hm3, hm4]; rfl)
  rw [← hm1] at HS1 a1
  rw [← hm3] at HS2 a3
  rw [← hm2] at HWX a2
  rw [← hm4] at HWY a4
  have HM1 : Hid (∀ W, Calls Tryd.prog 62 #[.int .u64 (m1 : Int), .int .u64 (m4 : Int)] W fun e w' => e = .returned (.agg #[.int .u64 (hiN (m1 * m4)), .int .u64 (loN (m1 * m4))]) ∧ Below W.heap.size W w') := Lib.hid (fun W => dmul_any m1 m4 (by omega) (by omega) W)
  have HM2 : Hid (∀ W, Calls Tryd.prog 62 #[.int .u64 (m2 : Int), .int .u64 (m3 : Int)] W fun e w' => e = .returned (.agg #[.int .u64 (hiN (m2 * m3)), .int .u64 (loN (m2 * m3))]) ∧ Below W.heap.size W w') := Lib.hid (fun W => dmul_any m2 m3 (by omega) (by omega) W)
  have hb1 : m1 * m4 ≤ 85070591730234615865843651857942052864 := by have h := Nat.mul_le_mul a1 a4; omega
  have hb2 : m2 * m3 ≤ 85070591730234615865843651857942052864 := by have h := Nat.mul_le_mul a2 a3; omega
  obtain ⟨U, hU⟩ : ∃ U, U = m1 * m4 := ⟨_, rfl⟩
  obtain ⟨V, hV⟩ : ∃ V, V = m2 * m3 := ⟨_, rfl⟩
  rw [← hU] at HM1 HMD hb1
  rw [← hV] at HM2 HMD hb2
  obtain ⟨sx, hsx⟩ : ∃ sx, (!(decide (x1 < 0) == decide (y1 < 0))) = sx := ⟨_, rfl⟩
  rw [show (decide (x1 < 0) != decide (y1 < 0)) = sx from hsx] at HMD
  have HHD := Lib.hid (fun W => held_any sx U V W (by omega) (by omega))
  rw [← HMD.out] at HHD
  clear hU hV hb1 hb2 hm1 hm2 hm3 hm4 a1 a2 a3 a4 hwx0 hwy0 HMD
  obtain ⟨AP, hAP⟩ : ∃ AP, AP = divP (x1, x2) (y1, y2) := ⟨_, rfl⟩
  obtain ⟨ra, hra⟩ : ∃ ra, ra = rightR (x1, x2) := ⟨_, rfl⟩
  obtain ⟨rb, hrb⟩ : ∃ rb, rb = rightR (y1, y2) := ⟨_, rfl⟩
  rw [← hAP] at HA1 HA0 ⊢
  rw [← hra] at HR1 HA1 HA0 HPX
  rw [← hrb] at HR2 HA1 HA0 HPY
  obtain ⟨M, hM⟩ : ∃ M, M = ddivP (x1, x2) (y1, y2) := ⟨_, rfl⟩
  rw [← hM] at HA1 HHD
  have HHD : Hid (∀ W, Calls Tryd.prog 48 #[.bool sx, .agg #[.int .u64 (hiN U), .int .u64 (loN U)], .agg #[.int .u64 (hiN V), .int .u64 (loN V)]] W fun e w' => e = .returned (.tuple #[.agg #[.int .i64 M.1.1, .int .i64 M.1.2], .int .i64 M.2]) ∧ Below W.heap.size W w') := HHD
  have HW := Lib.hid (Rb.made w x1 x2 y1 y2)
  clear hM hAP hra hrb hx1 hx2 hy1 hy2
  go_enter Tryd.func32, Tryd.ntmps32
  go_upto_region 1 with fail
  generalize ((w.alloc (.cells #[.int .i64 x1, .int .i64 x2] 23)).alloc (.cells #[.int .i64 y1, .int .i64 y2] 23)).alloc (.cells #[.int .i64 0, .int .i64 0] 23) = w1 at *
  obtain ⟨k1, k2, k3, k4⟩ := HW.out.four
  go_wp2_with fail
  refine (HR1.out _).mono ?_
  rintro e w2 ⟨rfl, hb⟩
  have HW2 := Lib.hid (HW.out.step hb)
  clear hb HW k1 k2 k3 k4
  cases ra with
  | false =>
    have HE := Lib.hid (HA0.out (by simp))
    obtain ⟨z7, z8, z9, z10⟩ := HW2.out.zero
    obtain ⟨t1, t2⟩ := HW2.out.told (.int .i64 0) (.int .i64 0)
    have T1 := Lib.hid t1
    have T2 := Lib.hid t2
    clear t1 t2 HA0 HA1
    go_wp2
    refine bodyPost_ret (results_row_tmp (fn := Tryd.f32) rfl _ _ (w.heap.size + 1 + 1) _ _ _ _ rfl T1.out Tryd.underlying23 rfl (by kernel_rfl)) rfl ?_
    exact ⟨by rw [HE.out]; rfl, T2.out⟩
  | true =>
    obtain ⟨k1, k2, k3, k4⟩ := HW2.out.four
    go_wp2_with fail
    refine (HR2.out _).mono ?_
    rintro e w3 ⟨rfl, hb⟩
    have HW3 := Lib.hid (HW2.out.step hb)
    clear hb HW2 k1 k2 k3 k4
    cases rb with
    | false =>
      have HE := Lib.hid (HA0.out (by simp))
      obtain ⟨z7, z8, z9, z10⟩ := HW3.out.zero
      obtain ⟨t1, t2⟩ := HW3.out.told (.int .i64 0) (.int .i64 0)
      have T1 := Lib.hid t1
      have T2 := Lib.hid t2
      clear t1 t2 HA0 HA1
      go_wp2
      refine bodyPost_ret (results_row_tmp (fn := Tryd.f32) rfl _ _ (w.heap.size + 1 + 1) _ _ _ _ rfl T1.out Tryd.underlying23 rfl (by kernel_rfl)) rfl ?_
      exact ⟨by rw [HE.out]; rfl, T2.out⟩
    | true =>
      have HE := Lib.hid (HA1.out (by simp) (by simp))
      have hwx := HWX.out (HPX.out (by simp))
      have hwy := HWY.out (HPY.out (by simp))
      clear HA0 HA1 HWX HWY HPX HPY
      go_upto_region 3 with fail
      have kb := HW3.out.drew
      go_region_held3 (fun wr => wr.cell? ⟨w.heap.size, 0, none⟩ = some (.int .i64 x1) ∧ wr.cell? ⟨w.heap.size, 1, none⟩ = some (.int .i64 x2) ∧ wr.cell? ⟨w.heap.size + 1, 0, none⟩ = some (.int .i64 y1) ∧ wr.cell? ⟨w.heap.size + 1, 1, none⟩ = some (.int .i64 y2))
        (first | exact kb.four | exact kb.fourT _ _ | go_keep)
        (first | (go_at_call_of 49 x1; refine (HS1.out _).mono ?_; rintro e v1 ⟨rfl, rfl⟩) | (go_at_call_of 49 y1; refine (HS2.out _).mono ?_; rintro e v2 ⟨rfl, rfl⟩) | (go_at_call_has 62 (m1); refine (HM1.out _).mono ?_; rintro e v3 ⟨rfl, hb⟩; have kb := kb.step hb; clear hb) | (go_at_call 62; refine (HM2.out _).mono ?_; rintro e v4 ⟨rfl, hb⟩; have kb := kb.step hb; clear hb) | (go_at_call 48; refine (HHD.out _).mono ?_; rintro e v5 ⟨rfl, hb⟩; have kb := kb.step hb; clear hb; have kc := kb.zero; obtain ⟨z7, z8, z9, z10⟩ := kc))
      obtain ⟨t1, t2⟩ := kb.told (.int .i64 M.1.1) (.int .i64 M.1.2)
      have T1 := Lib.hid t1
      have T2 := Lib.hid t2
      clear t1 t2 z7 z8 z9 z10
      go_wp2
      refine bodyPost_ret (results_row_tmp (fn := Tryd.f32) rfl _ _ (w.heap.size + 1 + 1) _ _ _ _ rfl T1.out Tryd.underlying23 rfl (by kernel_rfl)) rfl ?_
      exact ⟨by rw [HE.out]; rfl, T2.out⟩

end Go.Proofs.YtmgdhlcgbgpgpaaDoor

/- Which of two fractions is greater, as the document holds them. -/
namespace Go.Proofs.YtmgdhlcgbgpgpaaDoor
open Go Go.RowKit
set_option linter.unusedVariables false
set_option linter.unusedSimpArgs false

theorem Blk.putO {T : TypeId} {g n k : Nat} {w : World} (h : Blk T g n w) (hg : g ≠ k) (u v : Value) : Blk T g n ((w.setCell ⟨k, 0, none⟩ u).setCell ⟨k, 1, none⟩ v) := heap_other _ (heap_other _ h hg) hg
theorem Rc2.put {w0 wr : World} {x1 x2 y1 y2 : Int} (h : Rc2 w0 x1 x2 y1 y2 wr) {g : Nat} (hg : w0.heap.size + 1 < g) (u v : Value) : Rc2 w0 x1 x2 y1 y2 ((wr.setCell ⟨g, 0, none⟩ u).setCell ⟨g, 1, none⟩ v) := by
  have hl : w0.heap.size ≤ g := by omega
  exact ⟨(h.below.setCell (p := ⟨g, 0, none⟩) hl _).setCell (p := ⟨g, 1, none⟩) hl _, heap_other _ (heap_other _ h.ha (by omega)) (by omega), heap_other _ (heap_other _ h.hb (by omega)) (by omega)⟩

set_option maxRecDepth 100000 in
set_option maxHeartbeats 16000000 in
theorem dcompare_any (x1 x2 y1 y2 : Int) (hx1 : I64 x1) (hx2 : I64 x2) (hy1 : I64 y1) (hy2 : I64 y2) (w : World) :
    Calls Tryd.prog 33 #[.agg #[.int .i64 x1, .int .i64 x2], .agg #[.int .i64 y1, .int .i64 y2]] w fun e w' => e = .returned (.int .i64 (cmpP (x1, x2) (y1, y2))) ∧ Below w.heap.size w w' := by
  have a1 := abs64 hx1
  have a2 := abs64 hx2
  have a3 := abs64 hy1
  have a4 := abs64 hy2
  have HR1 := Lib.hid (fun W => dright_any x1 x2 hx1 hx2 W)
  have HR2 := Lib.hid (fun W => dright_any y1 y2 hy1 hy2 W)
  have HPX := Lib.hid (fun (h : rightR (x1, x2) = true) => right_pos h)
  have HPY := Lib.hid (fun (h : rightR (y1, y2) = true) => right_pos h)
  have HS1 := Lib.hid (fun W => dsize_any x1 hx1.1 hx1.2 W)
  have HS2 := Lib.hid (fun W => dsize_any y1 hy1.1 hy1.2 W)
  have hwx0 : 0 < x2 → IntKind.u64.wrap x2 = (x2.natAbs : Int) := fun h => by rw [IntKind.wrap_u64]; obtain ⟨_, _⟩ := hx2; omega
  have hwy0 : 0 < y2 → IntKind.u64.wrap y2 = (y2.natAbs : Int) := fun h => by rw [IntKind.wrap_u64]; obtain ⟨_, _⟩ := hy2; omega
  have HWX := Lib.hid hwx0
  have HWY := Lib.hid hwy0
  have HM1 : Hid (∀ W, Calls Tryd.prog 62 #[.int .u64 (x1.natAbs : Int), .int .u64 (y2.natAbs : Int)] W fun e w' => e = .returned (.agg #[.int .u64 (hiN (x1.natAbs * y2.natAbs)), .int .u64 (loN (x1.natAbs * y2.natAbs))]) ∧ Below W.heap.size W w') := Lib.hid (fun W => dmul_any x1.natAbs y2.natAbs (by omega) (by omega) W)
  have HM2 : Hid (∀ W, Calls Tryd.prog 62 #[.int .u64 (y1.natAbs : Int), .int .u64 (x2.natAbs : Int)] W fun e w' => e = .returned (.agg #[.int .u64 (hiN (y1.natAbs * x2.natAbs)), .int .u64 (loN (y1.natAbs * x2.natAbs))]) ∧ Below W.heap.size W w') := Lib.hid (fun W => dmul_any y1.natAbs x2.natAbs (by omega) (by omega) W)
  obtain ⟨X, hX⟩ : ∃ X, X = x1.natAbs * y2.natAbs := ⟨_, rfl⟩
  obtain ⟨Y, hY⟩ : ∃ Y, Y = y1.natAbs * x2.natAbs := ⟨_, rfl⟩
  rw [← hX] at HM1
  rw [← hY] at HM2
  have HA1 := Lib.hid (fun (h1 : rightR (x1, x2) = true) (h2 : rightR (y1, y2) = true) => show cmpP (x1, x2) (y1, y2) = dcmpS (decide (x1 < 0)) (decide (y1 < 0)) X Y by
    have h := dcmp_is (x1, x2) (y1, y2) (right_pos h1) (right_pos h2)
    unfold cmpP
    rw [if_pos (by rw [h1, h2]; rfl), hX, hY]
    exact h.symm)
  have HA0 := Lib.hid (fun (h : (rightR (x1, x2) && rightR (y1, y2)) = false) => show cmpP (x1, x2) (y1, y2) = 0 by unfold cmpP; rw [if_neg (by rw [h]; decide)])
  obtain ⟨AP, hAP⟩ : ∃ AP, AP = cmpP (x1, x2) (y1, y2) := ⟨_, rfl⟩
  obtain ⟨ra, hra⟩ : ∃ ra, ra = rightR (x1, x2) := ⟨_, rfl⟩
  obtain ⟨rb, hrb⟩ : ∃ rb, rb = rightR (y1, y2) := ⟨_, rfl⟩
  rw [← hAP] at HA1 HA0 ⊢
  rw [← hra] at HR1 HA1 HA0 HPX
  rw [← hrb] at HR2 HA1 HA0 HPY
  obtain ⟨sa, hsa⟩ : ∃ sa, decide (x1 < 0) = sa := ⟨_, rfl⟩
  obtain ⟨sb, hsb⟩ : ∃ sb, decide (y1 < 0) = sb := ⟨_, rfl⟩
  rw [hsa, hsb] at HA1
  have hga : decide (0 ≤ x1) = !sa := by
    rw [← hsa]
    by_cases h : x1 < 0
    · rw [decide_eq_true h, decide_eq_false (by omega)]; rfl
    · rw [decide_eq_false h, decide_eq_true (by omega)]; rfl
  have hgb : decide (0 ≤ y1) = !sb := by
    rw [← hsb]
    by_cases h : y1 < 0
    · rw [decide_eq_true h, decide_eq_false (by omega)]; rfl
    · rw [decide_eq_false h, decide_eq_true (by omega)]; rfl
  have HW := Lib.hid (Rc2.made w x1 x2 y1 y2)
  clear hX hY hAP hra hrb hx1 hx2 hy1 hy2 a1 a2 a3 a4 hwx0 hwy0
  go_enter Tryd.func33, Tryd.ntmps33
  go_upto_region 1 with fail
  generalize (w.alloc (.cells #[.int .i64 x1, .int .i64 x2] 23)).alloc (.cells #[.int .i64 y1, .int .i64 y2] 23) = w1 at *
  obtain ⟨k1, k2, k3, k4⟩ := HW.out.four
  go_wp2_with fail
  refine (HR1.out _).mono ?_
  rintro e w2 ⟨rfl, hb⟩
  have HW2 := Lib.hid (HW.out.step hb)
  clear hb HW k1 k2 k3 k4
  cases ra with
  | false =>
    have HE := Lib.hid (HA0.out (by simp))
    clear HA0 HA1
    go_wp2
    go_ret
    exact ⟨by rw [HE.out]; rfl, HW2.out.below⟩
  | true =>
    obtain ⟨k1, k2, k3, k4⟩ := HW2.out.four
    go_wp2_with fail
    refine (HR2.out _).mono ?_
    rintro e w3 ⟨rfl, hb⟩
    have HW3 := Lib.hid (HW2.out.step hb)
    clear hb HW2 k1 k2 k3 k4
    cases rb with
    | false =>
      have HE := Lib.hid (HA0.out (by simp))
      clear HA0 HA1
      go_wp2
      go_ret
      exact ⟨by rw [HE.out]; rfl, HW3.out.below⟩
    | true =>
      have HE := Lib.hid (HA1.out (by simp) (by simp))
      have hwx := HWX.out (HPX.out (by simp))
      have hwy := HWY.out (HPY.out (by simp))
      clear HA0 HA1 HWX HWY HPX HPY
      go_upto_region 3 with fail
      go_cut [5] (fun s5 wx => ∃ g : Nat, s5 = .pointer (some ⟨g, 0, none⟩) ∧ Hid (Blk 59 g X wx ∧ w.heap.size + 1 < g) ∧ Hid (Rc2 w x1 x2 y1 y2 wx))
      case first =>
        have kb := HW3.out.drew
        go_region_held3 (fun wr => wr.cell? ⟨w.heap.size, 0, none⟩ = some (.int .i64 x1) ∧ wr.cell? ⟨w.heap.size, 1, none⟩ = some (.int .i64 x2) ∧ wr.cell? ⟨w.heap.size + 1, 0, none⟩ = some (.int .i64 y1) ∧ wr.cell? ⟨w.heap.size + 1, 1, none⟩ = some (.int .i64 y2))
          (first | exact kb.four | exact (kb.step (below_one v7 _)).four | exact (kb.put hlt _ _).four | exact (HW3.out.step (below_one w3 _)).drew.four | exact (kb.step (below_one _ _)).four | go_keep)
          (first | (go_at_call 49; refine (HS1.out _).mono ?_; rintro e v6 ⟨rfl, rfl⟩) | (go_at_call 62; refine (HM1.out _).mono ?_; rintro e v7 ⟨rfl, hb⟩; have kb := kb.step hb; clear hb) | (go_at_call 62; refine (HM1.out _).mono ?_; rintro e v7 ⟨rfl, hb⟩; have hlt := heap_lt2 HW3.out.hb; have hz := heap_keep (w := (w3.alloc _).drew) (heap_alloc_new w3 _) hb; have kb := (HW3.out.step (below_one w3 _)).drew.step hb; obtain ⟨z1, z2, z3, z4⟩ := cell_two hz; clear hb))
        all_goals
          first
            | (have HX := (cell_set (cell_set hz (.int .u64 (hiN X))).1 (.int .u64 (loN X))).2
               have HY := Lib.hid (kb.put hlt (.int .u64 (hiN X)) (.int .u64 (loN X)))
               go_wp2_with fail
               go_meet
               exact ⟨_, rfl, ⟨HX, hlt⟩, HY⟩)
            | (have HX := heap_alloc_new v7 (.cells #[.int .u64 (hiN X), .int .u64 (loN X)] 59)
               have HY := Lib.hid (kb.step (below_one v7 (.cells #[.int .u64 (hiN X), .int .u64 (loN X)] 59)))
               have HL := heap_lt2 kb.hb
               go_wp2_with fail
               go_meet
               exact ⟨_, rfl, ⟨HX, HL⟩, HY⟩)
      case rest =>
        obtain ⟨g6, rfl, hx6, HW4⟩ := hcut
        have H6 := Lib.hid hx6.out.1
        have n6 := hx6.out.2
        clear hx6 HW3
        go_upto_region 4 with fail
        go_cut [6] (fun s6 wx => ∃ g : Nat, s6 = .pointer (some ⟨g, 0, none⟩) ∧ Hid (Blk 59 g Y wx ∧ w.heap.size + 1 < g ∧ g6 ≠ g) ∧ Hid (Rc2 w x1 x2 y1 y2 wx) ∧ Hid (Blk 59 g6 X wx))
        case first =>
          have kb := HW4.out.drew
          have kH6 : Blk 59 g6 X wc.drew := H6.out
          go_region_held3 (fun wr => wr.cell? ⟨w.heap.size, 0, none⟩ = some (.int .i64 x1) ∧ wr.cell? ⟨w.heap.size, 1, none⟩ = some (.int .i64 x2) ∧ wr.cell? ⟨w.heap.size + 1, 0, none⟩ = some (.int .i64 y1) ∧ wr.cell? ⟨w.heap.size + 1, 1, none⟩ = some (.int .i64 y2))
            (first | exact kb.four | exact (kb.step (below_one v7 _)).four | exact (kb.put hlt _ _).four | exact (HW4.out.step (below_one wc _)).drew.four | exact (kb.step (below_one _ _)).four | go_keep)
            (first | (go_at_call 49; refine (HS2.out _).mono ?_; rintro e v6 ⟨rfl, rfl⟩) | (go_at_call 62; refine (HM2.out _).mono ?_; rintro e v7 ⟨rfl, hb⟩; have kb := kb.step hb; have kH6 := Blk.below kH6 hb; clear hb) | (go_at_call 62; refine (HM2.out _).mono ?_; rintro e v7 ⟨rfl, hb⟩; have hlt := heap_lt2 HW4.out.hb; have hz := heap_keep (w := (wc.alloc _).drew) (heap_alloc_new wc _) hb; have kb := (HW4.out.step (below_one wc _)).drew.step hb; have kH6 := Blk.below (Blk.drew (Blk.below H6.out (below_one wc _))) hb; obtain ⟨z1, z2, z3, z4⟩ := cell_two hz; clear hb))
          all_goals
            first
              | (have HX := (cell_set (cell_set hz (.int .u64 (hiN Y))).1 (.int .u64 (loN Y))).2
                 have HY := Lib.hid (kb.put hlt (.int .u64 (hiN Y)) (.int .u64 (loN Y)))
                 have jH6 : Hid (Blk 59 g6 X ((v7.setCell ⟨wc.heap.size, 0, none⟩ (.int .u64 (hiN Y))).setCell ⟨wc.heap.size, 1, none⟩ (.int .u64 (loN Y)))) := Lib.hid (heap_other _ (heap_other _ kH6 (by have := Blk.lt H6.out; omega)) (by have := Blk.lt H6.out; omega))
                 go_wp2_with fail
                 go_meet
                 exact ⟨_, rfl, ⟨HX, hlt, Nat.ne_of_lt (Blk.lt H6.out)⟩, HY, jH6⟩)
              | (have HX := heap_alloc_new v7 (.cells #[.int .u64 (hiN Y), .int .u64 (loN Y)] 59)
                 have HY := Lib.hid (kb.step (below_one v7 (.cells #[.int .u64 (hiN Y), .int .u64 (loN Y)] 59)))
                 have HL := heap_lt2 kb.hb
                 have jH6 := Lib.hid (Blk.below kH6 (below_one v7 (.cells #[.int .u64 (hiN Y), .int .u64 (loN Y)] 59)))
                 go_wp2_with fail
                 go_meet
                 exact ⟨_, rfl, ⟨HX, HL, Nat.ne_of_lt (Blk.lt kH6)⟩, HY, jH6⟩)
        case rest =>
          clear H6 HW4
          obtain ⟨g7, rfl, hx7, HW5, H6⟩ := hcut
          have H7 := Lib.hid hx7.out.1
          have n7 := hx7.out.2.1
          have n67 := hx7.out.2.2
          clear hx7
          cases sa with
          | false =>
            have hga2 : decide (0 ≤ x1) = true := hga
            clear hga
            cases sb with
            | false =>
              have hgb2 : decide (0 ≤ y1) = true := hgb
              clear hgb
              obtain ⟨k1, k2, k3, k4⟩ := HW5.out.four
              obtain ⟨j1, j2, _, _⟩ := cell_two (H6.out)
              obtain ⟨j3, j4, _, _⟩ := cell_two (H7.out)
              go_wp2_with fail
              refine (dbelow_any X Y _).mono ?_
              rintro e w7 ⟨rfl, hb⟩
              have HW7 := Lib.hid (HW5.out.step hb)
              have H67 := Lib.hid (H6.out.below hb)
              have H77 := Lib.hid (H7.out.below hb)
              clear hb j1 j2 j3 j4 k1 k2 k3 k4
              by_cases hlt : X < Y
              · rw [decide_eq_true hlt]
                have HE2 := Lib.hid (show AP = -1 by rw [HE.out]; unfold dcmpS; simp [hlt])
                clear HE
                go_wp2
                go_ret
                exact ⟨by rw [HE2.out]; rfl, HW7.out.below⟩
              · rw [decide_eq_false hlt]
                obtain ⟨k1, k2, k3, k4⟩ := HW7.out.four
                obtain ⟨j1, j2, _, _⟩ := cell_two H67.out
                obtain ⟨j3, j4, _, _⟩ := cell_two H77.out
                go_wp2_with fail
                refine (dbelow_any Y X _).mono ?_
                rintro e w8 ⟨rfl, hb⟩
                have HB8 := Lib.hid (HW7.out.step hb).below
                clear hb j1 j2 j3 j4 k1 k2 k3 k4
                by_cases hgt : Y < X
                · rw [decide_eq_true hgt]
                  have HE2 := Lib.hid (show AP = 1 by rw [HE.out]; unfold dcmpS; simp [hlt, hgt])
                  clear HE
                  go_wp2
                  go_ret
                  exact ⟨by rw [HE2.out]; rfl, HB8.out⟩
                · rw [decide_eq_false hgt]
                  have HE2 := Lib.hid (show AP = 0 by rw [HE.out]; unfold dcmpS; simp [hlt, hgt])
                  clear HE
                  go_wp2
                  go_ret
                  exact ⟨by rw [HE2.out]; rfl, HB8.out⟩
            | true =>
              have hgb2 : decide (0 ≤ y1) = false := hgb
              clear hgb
              obtain ⟨k1, k2, k3, k4⟩ := HW5.out.four
              have HE2 := Lib.hid (show AP = 1 by rw [HE.out]; unfold dcmpS; simp)
              clear HE
              go_wp2
              go_ret
              exact ⟨by rw [HE2.out]; rfl, HW5.out.below⟩
          | true =>
            have hga2 : decide (0 ≤ x1) = false := hga
            clear hga
            cases sb with
            | false =>
              have hgb2 : decide (0 ≤ y1) = true := hgb
              clear hgb
              obtain ⟨k1, k2, k3, k4⟩ := HW5.out.four
              have HE2 := Lib.hid (show AP = -1 by rw [HE.out]; unfold dcmpS; simp)
              clear HE
              go_wp2
              go_ret
              exact ⟨by rw [HE2.out]; rfl, HW5.out.below⟩
            | true =>
              have hgb2 : decide (0 ≤ y1) = false := hgb
              clear hgb
              obtain ⟨k1, k2, k3, k4⟩ := HW5.out.four
              obtain ⟨j1, j2, j5, j6⟩ := cell_two H6.out
              obtain ⟨j3, j4, j7, j8⟩ := cell_two H7.out
              have n67s := Ne.symm n67
              go_upto_region 7 with fail
              have HW6 := Lib.hid ((HW5.out.put n6 (.int .u64 (hiN Y)) (.int .u64 (loN Y))).put n7 (.int .u64 (hiN X)) (.int .u64 (loN X)))
              have H66 := Lib.hid (show Blk 59 g6 Y _ from Blk.putO (show Blk 59 g6 Y _ from (cell_set (cell_set H6.out (.int .u64 (hiN Y))).1 (.int .u64 (loN Y))).2) n67 (.int .u64 (hiN X)) (.int .u64 (loN X)))
              have H76 := Lib.hid (show Blk 59 g7 X _ from (cell_set (cell_set (Blk.putO H7.out n67s (.int .u64 (hiN Y)) (.int .u64 (loN Y))) (.int .u64 (hiN X))).1 (.int .u64 (loN X))).2)
              generalize ((((wc.setCell ⟨g6, 0, none⟩ (.int .u64 (hiN Y))).setCell ⟨g6, 1, none⟩ (.int .u64 (loN Y))).setCell ⟨g7, 0, none⟩ (.int .u64 (hiN X))).setCell ⟨g7, 1, none⟩ (.int .u64 (loN X))) = w6 at *
              clear j1 j2 j3 j4 j5 j6 j7 j8 k1 k2 k3 k4
              obtain ⟨k1, k2, k3, k4⟩ := HW6.out.four
              obtain ⟨j1, j2, _, _⟩ := cell_two (H66.out)
              obtain ⟨j3, j4, _, _⟩ := cell_two (H76.out)
              go_wp2_with fail
              refine (dbelow_any Y X _).mono ?_
              rintro e w7 ⟨rfl, hb⟩
              have HW7 := Lib.hid (HW6.out.step hb)
              have H67 := Lib.hid (H66.out.below hb)
              have H77 := Lib.hid (H76.out.below hb)
              clear hb j1 j2 j3 j4 k1 k2 k3 k4
              by_cases hlt : Y < X
              · rw [decide_eq_true hlt]
                have HE2 := Lib.hid (show AP = -1 by rw [HE.out]; unfold dcmpS; simp [hlt])
                clear HE
                go_wp2
                go_ret
                exact ⟨by rw [HE2.out]; rfl, HW7.out.below⟩
              · rw [decide_eq_false hlt]
                obtain ⟨k1, k2, k3, k4⟩ := HW7.out.four
                obtain ⟨j1, j2, _, _⟩ := cell_two H67.out
                obtain ⟨j3, j4, _, _⟩ := cell_two H77.out
                go_wp2_with fail
                refine (dbelow_any X Y _).mono ?_
                rintro e w8 ⟨rfl, hb⟩
                have HB8 := Lib.hid (HW7.out.step hb).below
                clear hb j1 j2 j3 j4 k1 k2 k3 k4
                by_cases hgt : X < Y
                · rw [decide_eq_true hgt]
                  have HE2 := Lib.hid (show AP = 1 by rw [HE.out]; unfold dcmpS; simp [hlt, hgt])
                  clear HE
                  go_wp2
                  go_ret
                  exact ⟨by rw [HE2.out]; rfl, HB8.out⟩
                · rw [decide_eq_false hgt]
                  have HE2 := Lib.hid (show AP = 0 by rw [HE.out]; unfold dcmpS; simp [hlt, hgt])
                  clear HE
                  go_wp2
                  go_ret
                  exact ⟨by rw [HE2.out]; rfl, HB8.out⟩

end Go.Proofs.YtmgdhlcgbgpgpaaDoor
