/- Texts of ours, laid together: Vq, Vr, Bag, Ya, Yb, Yc. -/
import Derived.Deep.Draws
import Derived.OrdersHeld
import Derived.Laws.Rows
import Derived.BigFrame
import Derived.BigCall
import Derived.Laws.CopyOwn
import Derived.Test.YtmgdhlcgbgpgpaaDoorMg3
/- Whole numbers below and above, and what is left, as rat reckons them. -/
namespace Go.Proofs.YtmgdhlcgbgpgpaaDoor
open Go Go.RowKit
set_option linter.unusedVariables false
set_option linter.unusedSimpArgs false

/-- Go's division and remainder by the floor's. -/
theorem tm_neg {x d : Int} (hd : 0 < d) (h : x.tmod d < 0) : x.tdiv d - 1 = x / d ∧ x.tmod d + d = x % d := (tdiv_floor x d hd).1 h
theorem tm_pos {x d : Int} (hd : 0 < d) (h : ¬ x.tmod d < 0) : x.tdiv d = x / d ∧ x.tmod d = x % d := (tdiv_floor x d hd).2 h
theorem div_range {x d : Int} (hx : I64 x) (hd : 0 < d) : I64 (x / d) ∧ 0 ≤ x % d ∧ x % d < d := by
  obtain ⟨h1, h2⟩ := hx
  have h3 := Int.emod_nonneg x (show d ≠ 0 by omega)
  have h4 := Int.emod_lt_of_pos x hd
  have h5 := Int.mul_ediv_add_emod x d
  refine ⟨⟨?_, ?_⟩, h3, h4⟩
  · rw [Int.le_ediv_iff_mul_le hd]
    have : -9223372036854775808 * d ≤ -9223372036854775808 * 1 := Int.mul_le_mul_of_nonpos_left (by omega) (by omega)
    omega
  · by_cases hx0 : 0 ≤ x
    · exact Int.le_trans (Int.ediv_le_self _ hx0) h2
    · have := Int.ediv_neg_of_neg_of_pos (show x < 0 by omega) hd
      omega
theorem tdiv_range {x d : Int} (hx : I64 x) (hd : 0 < d) : I64 (x.tdiv d) ∧ -d < x.tmod d ∧ x.tmod d < d := by
  have h6 : -d < x.tmod d := by
    have := Int.tmod_lt_of_pos (-x) hd
    rw [Int.neg_tmod] at this
    omega
  have h7 := Int.tmod_lt_of_pos x hd
  obtain ⟨⟨h1, h2⟩, h3, h4⟩ := div_range hx hd
  by_cases h : x.tmod d < 0
  · obtain ⟨e1, e2⟩ := tm_neg hd h
    have hx0 : x < 0 := by
      by_cases hc : 0 ≤ x
      · rw [Int.tmod_eq_emod_of_nonneg hc] at h; omega
      · omega
    have h8 := Int.ediv_neg_of_neg_of_pos hx0 hd
    exact ⟨⟨by omega, by omega⟩, h6, h7⟩
  · obtain ⟨e1, e2⟩ := tm_pos hd h
    exact ⟨⟨by omega, by omega⟩, h6, h7⟩

set_option maxRecDepth 100000 in
set_option maxHeartbeats 2000000 in
theorem floor_any (x y : Int) (hx : I64 x) (hy : I64 y) (w : World) : Calls Tryd.prog 25 #[.agg #[.int .i64 x, .int .i64 y]] w fun e w' => e = .returned (.int .i64 (floorP (x, y))) ∧ Below w.heap.size w w' := by
  have HR := Lib.hid (fun W => right_any x y hx hy W)
  have HA1 := Lib.hid (show rightR (x, y) = true → floorP (x, y) = x / y from fun h => by unfold floorP; rw [if_pos h])
  have HA0 := Lib.hid (show rightR (x, y) = false → floorP (x, y) = 0 from fun h => by unfold floorP; rw [if_neg (by rw [h]; decide)])
  have HPY := Lib.hid (fun (h : rightR (x, y) = true) => right_pos h)
  obtain ⟨AP, hAP⟩ : ∃ AP, AP = floorP (x, y) := ⟨_, rfl⟩
  obtain ⟨rb, hrb⟩ : ∃ rb, rb = rightR (x, y) := ⟨_, rfl⟩
  rw [← hAP] at HA1 HA0 ⊢
  rw [← hrb] at HA1 HA0 HR HPY
  have H1 := Lib.hid (heap_alloc_new w (.cells #[.int .i64 x, .int .i64 y] 23))
  have HB := Lib.hid (below_one w (.cells #[.int .i64 x, .int .i64 y] 23))
  clear hAP hrb
  go_enter Tryd.func25, Tryd.ntmps25
  go_upto_region 1 with fail
  generalize w.alloc (.cells #[.int .i64 x, .int .i64 y] 23) = w1 at *
  obtain ⟨k1, k2, _, _⟩ := cell_two H1.out
  go_wp2_with fail
  refine (HR.out _).mono ?_
  rintro e w2 ⟨rfl, hb⟩
  have H2 := Lib.hid (heap_keep H1.out hb)
  have HB2 := Lib.hid (HB.out.trans (hb.mono HB.out.size))
  clear hb H1 HB k1 k2
  obtain ⟨k1, k2, _, _⟩ := cell_two H2.out
  cases rb with
  | false =>
    have HE := Lib.hid (HA0.out (by simp))
    clear HA0 HA1
    go_wp2
    go_ret
    exact ⟨by rw [HE.out]; rfl, HB2.out⟩
  | true =>
    have py := HPY.out (by simp)
    have HE := Lib.hid (HA1.out (by simp))
    have hy0 : ¬ y = 0 := by omega
    have hy1 : (y == 0) = false := by simp [hy0]
    have hy2 : (y == -1) = false := by simp; omega
    obtain ⟨⟨r1, r2⟩, r3, r4⟩ := tdiv_range hx py
    obtain ⟨⟨s1, s2⟩, s3, s4⟩ := div_range hx py
    have g1 : IntKind.i64.wrap (x.tdiv y) = x.tdiv y := IntWalk.i64_in _ (by omega)
    have g2 : IntKind.i64.wrap (x.tmod y) = x.tmod y := IntWalk.i64_in _ (by obtain ⟨_, _⟩ := hy; omega)
    by_cases hm : x.tmod y < 0
    · obtain ⟨e1, e2⟩ := tm_neg py hm
      have d1 : decide (x.tmod y < 0) = true := decide_eq_true hm
      have g3 : IntKind.i64.wrap (x.tdiv y - 1) = x.tdiv y - 1 := IntWalk.i64_in _ (by omega)
      have HE2 := Lib.hid (show AP = x.tdiv y - 1 by rw [HE.out, e1])
      clear HE HA0 HA1 e1 e2 r1 r2 r3 r4 s1 s2 s3 s4
      go_wp2
      go_ret
      exact ⟨by rw [HE2.out]; rfl, HB2.out⟩
    · obtain ⟨e1, e2⟩ := tm_pos py hm
      have d1 : decide (x.tmod y < 0) = false := decide_eq_false hm
      have HE2 := Lib.hid (show AP = x.tdiv y by rw [HE.out, e1])
      clear HE HA0 HA1 e1 e2 r1 r2 r3 r4 s1 s2 s3 s4
      go_wp2
      go_ret
      exact ⟨by rw [HE2.out]; rfl, HB2.out⟩

theorem ceil_step {x d : Int} (hx : I64 x) (hd : 0 < d) (h : 0 < x.tmod d) : I64 (x.tdiv d + 1) := by
  obtain ⟨⟨h1, h2⟩, h3, h4⟩ := tdiv_range hx hd
  refine ⟨by omega, ?_⟩
  have h5 := Int.mul_tdiv_add_tmod x d
  obtain ⟨g1, g2⟩ := hx
  by_cases hq : x.tdiv d ≤ 0
  · omega
  · have : 2 * x.tdiv d ≤ d * x.tdiv d := Int.mul_le_mul_of_nonneg_right (by omega) (by omega)
    omega
set_option maxRecDepth 100000 in
set_option maxHeartbeats 2000000 in
theorem ceil_any (x y : Int) (hx : I64 x) (hy : I64 y) (w : World) : Calls Tryd.prog 26 #[.agg #[.int .i64 x, .int .i64 y]] w fun e w' => e = .returned (.int .i64 (ceilP (x, y))) ∧ Below w.heap.size w w' := by
  have HR := Lib.hid (fun W => right_any x y hx hy W)
  have HA1 := Lib.hid (show rightR (x, y) = true → ceilP (x, y) = (if x % y = 0 then x / y else x / y + 1) from fun h => by unfold ceilP; rw [if_pos h])
  have HA0 := Lib.hid (show rightR (x, y) = false → ceilP (x, y) = 0 from fun h => by unfold ceilP; rw [if_neg (by rw [h]; decide)])
  have HPY := Lib.hid (fun (h : rightR (x, y) = true) => right_pos h)
  obtain ⟨AP, hAP⟩ : ∃ AP, AP = ceilP (x, y) := ⟨_, rfl⟩
  obtain ⟨rb, hrb⟩ : ∃ rb, rb = rightR (x, y) := ⟨_, rfl⟩
  rw [← hAP] at HA1 HA0 ⊢
  rw [← hrb] at HA1 HA0 HR HPY
  have H1 := Lib.hid (heap_alloc_new w (.cells #[.int .i64 x, .int .i64 y] 23))
  have HB := Lib.hid (below_one w (.cells #[.int .i64 x, .int .i64 y] 23))
  clear hAP hrb
  go_enter Tryd.func26, Tryd.ntmps26
  go_upto_region 1 with fail
  generalize w.alloc (.cells #[.int .i64 x, .int .i64 y] 23) = w1 at *
  obtain ⟨k1, k2, _, _⟩ := cell_two H1.out
  go_wp2_with fail
  refine (HR.out _).mono ?_
  rintro e w2 ⟨rfl, hb⟩
  have H2 := Lib.hid (heap_keep H1.out hb)
  have HB2 := Lib.hid (HB.out.trans (hb.mono HB.out.size))
  clear hb H1 HB k1 k2
  obtain ⟨k1, k2, _, _⟩ := cell_two H2.out
  cases rb with
  | false =>
    have HE := Lib.hid (HA0.out (by simp))
    clear HA0 HA1
    go_wp2
    go_ret
    exact ⟨by rw [HE.out]; rfl, HB2.out⟩
  | true =>
    have py := HPY.out (by simp)
    have HE := Lib.hid (HA1.out (by simp))
    have hy0 : ¬ y = 0 := by omega
    have hy1 : (y == 0) = false := by simp [hy0]
    have hy2 : (y == -1) = false := by simp; omega
    obtain ⟨⟨r1, r2⟩, r3, r4⟩ := tdiv_range hx py
    obtain ⟨⟨s1, s2⟩, s3, s4⟩ := div_range hx py
    have g1 : IntKind.i64.wrap (x.tdiv y) = x.tdiv y := IntWalk.i64_in _ (by omega)
    have g2 : IntKind.i64.wrap (x.tmod y) = x.tmod y := IntWalk.i64_in _ (by obtain ⟨_, _⟩ := hy; omega)
    by_cases hm : 0 < x.tmod y
    · obtain ⟨e1, e2⟩ := tm_pos (x := x) py (by omega)
      have d1 : decide (0 < x.tmod y) = true := decide_eq_true hm
      have g3 : IntKind.i64.wrap (x.tdiv y + 1) = x.tdiv y + 1 := IntWalk.i64_in _ (by obtain ⟨_, _⟩ := ceil_step hx py hm; omega)
      have HE2 := Lib.hid (show AP = x.tdiv y + 1 by rw [HE.out, if_neg (by omega), e1])
      clear HE HA0 HA1 e1 e2 r1 r2 r3 r4 s1 s2 s3 s4
      go_wp2
      go_ret
      exact ⟨by rw [HE2.out]; rfl, HB2.out⟩
    · have d1 : decide (0 < x.tmod y) = false := decide_eq_false hm
      have HE2 := Lib.hid (show AP = x.tdiv y by
        by_cases h : x.tmod y < 0
        · obtain ⟨e1, e2⟩ := tm_neg py h
          rw [HE.out, if_neg (by omega)]; omega
        · obtain ⟨e1, e2⟩ := tm_pos py h
          rw [HE.out, if_pos (by omega), e1])
      clear HE HA0 HA1 r1 r2 r3 r4 s1 s2 s3 s4
      go_wp2
      go_ret
      exact ⟨by rw [HE2.out]; rfl, HB2.out⟩

set_option maxRecDepth 100000 in
set_option maxHeartbeats 1000000 in
theorem rof2_any (n : Int) (w : World) : Calls Tryd.prog 15 #[.int .i64 n] w fun e w' => e = .returned (.agg #[.int .i64 n, .int .i64 1]) ∧ Below w.heap.size w w' := by
  go_enter Tryd.func15, Tryd.ntmps15
  go_wp2
  simp [bodyPost, results, Tryd.results15, go_sem]
  first | exact below_one w _ | exact ⟨rfl, below_one w _⟩
theorem part_zero {x y : Int} (h : rightR (x, y) = true) (h0 : x % y = 0) : y = 1 := by
  obtain ⟨h1, h2⟩ := of_decide_eq_true h
  have hd : y ∣ x := Int.dvd_of_emod_eq_zero h0
  have h3 : y.natAbs ∣ x.natAbs := Int.natAbs_dvd_natAbs.2 hd
  have h4 : Nat.gcd x.natAbs y.natAbs = y.natAbs := Nat.gcd_eq_right h3
  have h2 : Nat.gcd x.natAbs y.natAbs = 1 := h2
  have h1 : 0 < y := h1
  omega

set_option maxRecDepth 100000 in
set_option maxHeartbeats 2000000 in
theorem frac_any (x y : Int) (hx : I64 x) (hy : I64 y) (w : World) : Calls Tryd.prog 23 #[.agg #[.int .i64 x, .int .i64 y]] w fun e w' => e = .returned (rtV (partP (x, y))) ∧ Below w.heap.size w w' := by
  have HR := Lib.hid (fun W => right_any x y hx hy W)
  have HA1 := Lib.hid (show rightR (x, y) = true → partP (x, y) = (x % y, y) from fun h => by unfold partP; rw [if_pos h])
  have HA0 := Lib.hid (show rightR (x, y) = false → partP (x, y) = (0, 0) from fun h => by unfold partP; rw [if_neg (by rw [h]; decide)])
  have HPY := Lib.hid (fun (h : rightR (x, y) = true) => right_pos h)
  have HP0 := Lib.hid (fun (h : rightR (x, y) = true) (h0 : x % y = 0) => part_zero h h0)
  obtain ⟨AP, hAP⟩ : ∃ AP, AP = partP (x, y) := ⟨_, rfl⟩
  obtain ⟨rb, hrb⟩ : ∃ rb, rb = rightR (x, y) := ⟨_, rfl⟩
  rw [← hAP] at HA1 HA0 ⊢
  rw [← hrb] at HA1 HA0 HR HPY HP0
  obtain ⟨q1, q2⟩ := two_fr w (.cells #[.int .i64 x, .int .i64 y] 23) (.cells #[.int .i64 0, .int .i64 0] 23)
  have H1 := Lib.hid q1
  have H0 := Lib.hid q2
  have HB := Lib.hid (below_two w (.cells #[.int .i64 x, .int .i64 y] 23) (.cells #[.int .i64 0, .int .i64 0] 23))
  have hle : w.heap.size ≤ w.heap.size + 1 := by omega
  clear hAP hrb q1 q2
  go_enter Tryd.func23, Tryd.ntmps23
  go_upto_region 1 with fail
  generalize (w.alloc (.cells #[.int .i64 x, .int .i64 y] 23)).alloc (.cells #[.int .i64 0, .int .i64 0] 23) = w1 at *
  obtain ⟨k1, k2, _, _⟩ := cell_two H1.out
  go_wp2_with fail
  refine (HR.out _).mono ?_
  rintro e w2 ⟨rfl, hb⟩
  have H2 := Lib.hid (heap_keep H1.out hb)
  have H02 := Lib.hid (heap_keep H0.out hb)
  have HB2 := Lib.hid (HB.out.trans (hb.mono HB.out.size))
  clear hb H1 H0 HB k1 k2
  obtain ⟨k1, k2, _, _⟩ := cell_two H2.out
  obtain ⟨k3, k4, k5, k6⟩ := cell_two H02.out
  cases rb with
  | false =>
    have HE := Lib.hid (HA0.out (by simp))
    have T1 := Lib.hid (rat_cells H02.out (.int .i64 0) (.int .i64 0))
    have T2 := Lib.hid ((HB2.out.setCell (p := ⟨w.heap.size + 1, 0, none⟩) hle (.int .i64 0)).setCell (p := ⟨w.heap.size + 1, 1, none⟩) hle (.int .i64 0))
    clear HA0 HA1
    go_wp2
    refine bodyPost_ret (results_cell_row (fn := Tryd.f23) rfl _ _ (w.heap.size + 1) _ _ _ _ rfl T1.out Tryd.underlying23 rfl (by kernel_rfl)) rfl ?_
    exact ⟨by rw [HE.out]; rfl, T2.out⟩
  | true =>
    have py := HPY.out (by simp)
    have HE := Lib.hid (HA1.out (by simp))
    have hy0 : ¬ y = 0 := by omega
    have hy1 : (y == 0) = false := by simp [hy0]
    have hy2 : (y == -1) = false := by simp; omega
    obtain ⟨r0, r3, r4⟩ := tdiv_range hx py
    obtain ⟨s0, s3, s4⟩ := div_range hx py
    have g2 : IntKind.i64.wrap (x.tmod y) = x.tmod y := IntWalk.i64_in _ (by obtain ⟨_, _⟩ := hy; omega)
    by_cases hm : x.tmod y < 0
    · obtain ⟨e1, e2⟩ := tm_neg py hm
      have d1 : decide (x.tmod y < 0) = true := decide_eq_true hm
      have g3 : IntKind.i64.wrap (x.tmod y + y) = x.tmod y + y := IntWalk.i64_in _ (by obtain ⟨_, _⟩ := hy; omega)
      have hz : (x.tmod y + y == 0) = false := by simp; omega
      have HE2 := Lib.hid (show AP = (x.tmod y + y, y) by rw [HE.out, e2])
      have T1 := Lib.hid (rat_cells H02.out (.int .i64 (x.tmod y + y)) (.int .i64 y))
      have T2 := Lib.hid ((HB2.out.setCell (p := ⟨w.heap.size + 1, 0, none⟩) hle (.int .i64 (x.tmod y + y))).setCell (p := ⟨w.heap.size + 1, 1, none⟩) hle (.int .i64 y))
      clear HE HA0 HA1 e1 e2 r0 r3 r4 s0 s3 s4
      go_wp2
      refine bodyPost_ret (results_cell_row (fn := Tryd.f23) rfl _ _ (w.heap.size + 1) _ _ _ _ rfl T1.out Tryd.underlying23 rfl (by kernel_rfl)) rfl ?_
      exact ⟨by rw [HE2.out]; rfl, T2.out⟩
    · obtain ⟨e1, e2⟩ := tm_pos py hm
      have d1 : decide (x.tmod y < 0) = false := decide_eq_false hm
      by_cases hz : x.tmod y = 0
      · have hz1 : (x.tmod y == 0) = true := by simp [hz]
        have y1 := HP0.out (by simp) (by omega)
        have HE2 := Lib.hid (show AP = (0, 1) by rw [HE.out, ← e2, hz, y1])
        clear HE HA0 HA1 e1 e2 r0 r3 r4 s0 s3 s4 y1 HP0
        go_wp2_with fail
        refine (rof2_any 0 _).mono ?_
        rintro e w3 ⟨rfl, hb⟩
        have H03 := Lib.hid (heap_keep H02.out hb)
        have HB3 := Lib.hid (HB2.out.trans (hb.mono HB2.out.size))
        have T1 := Lib.hid (rat_cells H03.out (.int .i64 0) (.int .i64 1))
        have T2 := Lib.hid ((HB3.out.setCell (p := ⟨w.heap.size + 1, 0, none⟩) hle (.int .i64 0)).setCell (p := ⟨w.heap.size + 1, 1, none⟩) hle (.int .i64 1))
        clear hb k1 k2 k3 k4 k5 k6
        obtain ⟨k3, k4, k5, k6⟩ := cell_two H03.out
        go_wp2
        refine bodyPost_ret (results_cell_row (fn := Tryd.f23) rfl _ _ (w.heap.size + 1) _ _ _ _ rfl T1.out Tryd.underlying23 rfl (by kernel_rfl)) rfl ?_
        exact ⟨by rw [HE2.out]; rfl, T2.out⟩
      · have hz1 : (x.tmod y == 0) = false := by simp [hz]
        have HE2 := Lib.hid (show AP = (x.tmod y, y) by rw [HE.out, e2])
        have T1 := Lib.hid (rat_cells H02.out (.int .i64 (x.tmod y)) (.int .i64 y))
        have T2 := Lib.hid ((HB2.out.setCell (p := ⟨w.heap.size + 1, 0, none⟩) hle (.int .i64 (x.tmod y))).setCell (p := ⟨w.heap.size + 1, 1, none⟩) hle (.int .i64 y))
        clear HE HA0 HA1 e1 e2 r0 r3 r4 s0 s3 s4
        go_wp2
        refine bodyPost_ret (results_cell_row (fn := Tryd.f23) rfl _ _ (w.heap.size + 1) _ _ _ _ rfl T1.out Tryd.underlying23 rfl (by kernel_rfl)) rfl ?_
        exact ⟨by rw [HE2.out]; rfl, T2.out⟩

end Go.Proofs.YtmgdhlcgbgpgpaaDoor

/- The small steps of rat's Between. -/
namespace Go.Proofs.YtmgdhlcgbgpgpaaDoor
open Go Go.RowKit
set_option linter.unusedVariables false
set_option linter.unusedSimpArgs false

set_option maxRecDepth 100000 in
set_option maxHeartbeats 1000000 in
theorem whole_any (n : Int) (w : World) : Calls Tryd.prog 75 #[.int .i64 n] w fun e w' => e = .returned (.agg #[.int .i64 n, .int .i64 1]) ∧ Below w.heap.size w w' := by
  go_enter Tryd.func75, Tryd.ntmps75
  go_wp2
  simp [bodyPost, results, Tryd.results75, go_sem]
  first | exact below_one w _ | exact ⟨rfl, below_one w _⟩
set_option maxRecDepth 100000 in
set_option maxHeartbeats 1000000 in
theorem turned_any (x y : Int) (w : World) : Calls Tryd.prog 78 #[.agg #[.int .i64 x, .int .i64 y]] w fun e w' => e = .returned (.agg #[.int .i64 y, .int .i64 x]) ∧ Below w.heap.size w w' := by
  go_enter Tryd.func78, Tryd.ntmps78
  go_wp2
  simp [bodyPost, results, Tryd.results78, go_sem]
  first | exact below_two w _ _ | exact ⟨rfl, below_two w _ _⟩

/-- Four numbers in a block, and four that are still 0. -/
structure Sp (w0 : World) (a b c d : Int) (wr : World) : Prop where
  below : Below w0.heap.size w0 wr
  ha : wr.heap[w0.heap.size]? = some (.cells #[.int .i64 a, .int .i64 b, .int .i64 c, .int .i64 d] 85)
  h0 : wr.heap[w0.heap.size + 1]? = some (.cells #[.int .i64 0, .int .i64 0, .int .i64 0, .int .i64 0] 85)
section
variable {w0 wr w' : World} {a b c d : Int}
theorem Sp.step (h : Sp w0 a b c d wr) (hb : Below wr.heap.size wr w') : Sp w0 a b c d w' := ⟨h.below.trans (hb.mono h.below.size), heap_keep h.ha hb, heap_keep h.h0 hb⟩
theorem Sp.drew (h : Sp w0 a b c d wr) : Sp w0 a b c d wr.drew := ⟨Below.drew h.below, h.ha, h.h0⟩
theorem cell_four {wr : World} {g : Nat} {a b c d : Value} {T : TypeId} (h : wr.heap[g]? = some (.cells #[a, b, c, d] T)) :
    wr.cell? ⟨g, 0, none⟩ = some a ∧ wr.cell? ⟨g, 1, none⟩ = some b ∧ wr.cell? ⟨g, 2, none⟩ = some c ∧ wr.cell? ⟨g, 3, none⟩ = some d := by
  refine ⟨?_, ?_, ?_, ?_⟩ <;> (unfold World.cell?; rw [h]; rfl)
theorem four_frozen {wr : World} {g : Nat} {a b c d : Value} {T : TypeId} (h : wr.heap[g]? = some (.cells #[a, b, c, d] T)) :
    wr.frozen? ⟨g, 0, none⟩ = false ∧ wr.frozen? ⟨g, 1, none⟩ = false ∧ wr.frozen? ⟨g, 2, none⟩ = false ∧ wr.frozen? ⟨g, 3, none⟩ = false := by
  refine ⟨?_, ?_, ?_, ?_⟩ <;> (unfold World.frozen?; rw [h]; rfl)
theorem four_set {wr : World} {g : Nat} {a b c d : Value} {T : TypeId} (h : wr.heap[g]? = some (.cells #[a, b, c, d] T)) (x y z u : Value) :
    ((((wr.setCell ⟨g, 0, none⟩ x).setCell ⟨g, 1, none⟩ y).setCell ⟨g, 2, none⟩ z).setCell ⟨g, 3, none⟩ u).heap[g]? = some (.cells #[x, y, z, u] T) := by
  simp only [World.setCell, Array.getElem?_modify, if_true, h, Option.map_some]; rfl
end
theorem Sp.made (w : World) (a b c d : Int) : Sp w a b c d ((w.alloc (.cells #[.int .i64 a, .int .i64 b, .int .i64 c, .int .i64 d] 85)).alloc (.cells #[.int .i64 0, .int .i64 0, .int .i64 0, .int .i64 0] 85)) := by
  obtain ⟨h1, h2⟩ := two_fr w (.cells #[.int .i64 a, .int .i64 b, .int .i64 c, .int .i64 d] 85) (.cells #[.int .i64 0, .int .i64 0, .int .i64 0, .int .i64 0] 85)
  exact ⟨below_two _ _ _, h1, h2⟩
def fitP (x : Int) : Int := if fitsI x = true then x else 0

set_option maxRecDepth 100000 in
set_option maxHeartbeats 8000000 in
theorem step_any (a b c d k : Int) (ha : I64 a) (hb : I64 b) (hc : I64 c) (hd : I64 d) (hk : I64 k) (w : World) :
    Calls Tryd.prog 76 #[.agg #[.int .i64 a, .int .i64 b, .int .i64 c, .int .i64 d], .int .i64 k] w fun e w' =>
      e = .returned (.tuple #[.agg #[.int .i64 (fitP (k * a + c)), .int .i64 (fitP (k * b + d)), .int .i64 a, .int .i64 b], .bool (fitsI (k * a + c) && fitsI (k * b + d))]) ∧ Below w.heap.size w w' := by
  have big : ∀ x y z : Int, I64 x → I64 y → I64 z → (x * y + z).natAbs < 340282366920938463463374607431768211456 := fun x y z hx hy hz => by
    have h1 := prod_abs hx hy
    have h2 := abs64 hz
    omega
  have small : ∀ z : Int, I64 z → z.natAbs ≤ 85070591730234615865843651857942052864 := fun z hz => by have := abs64 hz; omega
  have num : ∀ X : Int, X.natAbs < 340282366920938463463374607431768211456 → ∀ W, Calls Tryd.prog 73 #[wdV X] W fun e w' => e = .returned (.tuple #[.int .i64 (fitP X), .bool (fitsI X)]) ∧ Below W.heap.size W w' := fun X hX W => by
    have h := number_sg X.natAbs (decide (X < 0)) hX W
    rw [sgn_abs] at h
    exact h
  have HT1 := Lib.hid (fun W => times_any k a hk ha W)
  have HF1 := Lib.hid (fun W => of_any2 c hc W)
  have HT2 := Lib.hid (fun W => times_any k b hk hb W)
  have HF2 := Lib.hid (fun W => of_any2 d hd W)
  rw [← of_is hc] at HF1
  rw [← of_is hd] at HF2
  have HS1 := Lib.hid (fun W => sum_any (k * a) c W (prod_abs hk ha) (small c hc))
  have HS2 := Lib.hid (fun W => sum_any (k * b) d W (prod_abs hk hb) (small d hd))
  have HN1 := Lib.hid (num (k * a + c) (big k a c hk ha hc))
  have HN2 := Lib.hid (num (k * b + d) (big k b d hk hb hd))
  obtain ⟨x1, hx1⟩ : ∃ x, x = fitP (k * a + c) := ⟨_, rfl⟩
  obtain ⟨x2, hx2⟩ : ∃ x, x = fitP (k * b + d) := ⟨_, rfl⟩
  obtain ⟨f1, hf1⟩ : ∃ x, x = fitsI (k * a + c) := ⟨_, rfl⟩
  obtain ⟨f2, hf2⟩ : ∃ x, x = fitsI (k * b + d) := ⟨_, rfl⟩
  rw [← hx1, ← hf1] at HN1
  rw [← hx2, ← hf2] at HN2
  rw [← hx1, ← hx2, ← hf1, ← hf2]
  clear hx1 hx2 hf1 hf2 big small num ha hb hc hd hk
  have HW := Lib.hid (Sp.made w a b c d)
  go_enter Tryd.func76, Tryd.ntmps76
  go_upto_region 1 with fail
  generalize (w.alloc (.cells #[.int .i64 a, .int .i64 b, .int .i64 c, .int .i64 d] 85)).alloc (.cells #[.int .i64 0, .int .i64 0, .int .i64 0, .int .i64 0] 85) = w1 at *
  have kb := HW.out.drew
  go_region_held3 (fun wr => wr.cell? ⟨w.heap.size, 0, none⟩ = some (.int .i64 a) ∧ wr.cell? ⟨w.heap.size, 1, none⟩ = some (.int .i64 b) ∧ wr.cell? ⟨w.heap.size, 2, none⟩ = some (.int .i64 c) ∧ wr.cell? ⟨w.heap.size, 3, none⟩ = some (.int .i64 d))
    (first | exact cell_four kb.ha | go_keep)
    (first | (go_at_call 57; refine (HT1.out _).mono ?_; rintro e v1 ⟨rfl, hb⟩; have kb := kb.step hb; clear hb) | (go_at_call 47; refine (HF1.out _).mono ?_; rintro e v2 ⟨rfl, hb⟩; have kb := kb.step hb; clear hb) | (go_at_call 58; refine (HS1.out _).mono ?_; rintro e v3 ⟨rfl, hb⟩; have kb := kb.step hb; clear hb) | (go_at_call 73; refine (HN1.out _).mono ?_; rintro e v4 ⟨rfl, hb⟩; have kb := kb.step hb; clear hb))
  have HW2 := Lib.hid kb
  clear kb HW
  go_upto_region 2 with fail
  have kb := HW2.out.drew
  go_region_held3 (fun wr => wr.cell? ⟨w.heap.size, 0, none⟩ = some (.int .i64 a) ∧ wr.cell? ⟨w.heap.size, 1, none⟩ = some (.int .i64 b) ∧ wr.cell? ⟨w.heap.size, 2, none⟩ = some (.int .i64 c) ∧ wr.cell? ⟨w.heap.size, 3, none⟩ = some (.int .i64 d))
    (first | exact cell_four kb.ha | go_keep)
    (first | (go_at_call 57; refine (HT2.out _).mono ?_; rintro e v5 ⟨rfl, hb⟩; have kb := kb.step hb; clear hb) | (go_at_call 47; refine (HF2.out _).mono ?_; rintro e v6 ⟨rfl, hb⟩; have kb := kb.step hb; clear hb) | (go_at_call 58; refine (HS2.out _).mono ?_; rintro e v7 ⟨rfl, hb⟩; have kb := kb.step hb; clear hb) | (go_at_call 73; refine (HN2.out _).mono ?_; rintro e v8 ⟨rfl, hb⟩; have kb := kb.step hb; clear hb))
  obtain ⟨k1, k2, k3, k4⟩ := cell_four kb.ha
  obtain ⟨z1, z2, z3, z4⟩ := cell_four kb.h0
  obtain ⟨z5, z6, z7, z8⟩ := four_frozen kb.h0
  have T1 := Lib.hid (four_set kb.h0 (.int .i64 x1) (.int .i64 x2) (.int .i64 a) (.int .i64 b))
  have hle : w.heap.size ≤ w.heap.size + 1 := by omega
  have T2 := Lib.hid ((((kb.below.setCell (p := ⟨w.heap.size + 1, 0, none⟩) hle (.int .i64 x1)).setCell (p := ⟨w.heap.size + 1, 1, none⟩) hle (.int .i64 x2)).setCell (p := ⟨w.heap.size + 1, 2, none⟩) hle (.int .i64 a)).setCell (p := ⟨w.heap.size + 1, 3, none⟩) hle (.int .i64 b))
  cases f1 with
  | false =>
    go_wp2
    refine bodyPost_ret (results_row_tmp (fn := Tryd.f76) rfl _ _ (w.heap.size + 1) _ _ _ _ rfl T1.out Tryd.underlying85 rfl (by kernel_rfl)) rfl ?_
    exact ⟨rfl, T2.out⟩
  | true =>
    go_wp2
    refine bodyPost_ret (results_row_tmp (fn := Tryd.f76) rfl _ _ (w.heap.size + 1) _ _ _ _ rfl T1.out Tryd.underlying85 rfl (by kernel_rfl)) rfl ?_
    exact ⟨by simp, T2.out⟩

/-- A fraction in a block, and one that is still 0. -/
structure Lq (w0 : World) (x y : Int) (wr : World) : Prop where
  below : Below w0.heap.size w0 wr
  ha : wr.heap[w0.heap.size]? = some (.cells #[.int .i64 x, .int .i64 y] 23)
  h0 : wr.heap[w0.heap.size + 1]? = some (.cells #[.int .i64 0, .int .i64 0] 23)
section
variable {w0 wr w' : World} {x y : Int}
theorem Lq.step (h : Lq w0 x y wr) (hb : Below wr.heap.size wr w') : Lq w0 x y w' := ⟨h.below.trans (hb.mono h.below.size), heap_keep h.ha hb, heap_keep h.h0 hb⟩
theorem Lq.drew (h : Lq w0 x y wr) : Lq w0 x y wr.drew := ⟨Below.drew h.below, h.ha, h.h0⟩
theorem Lq.two (h : Lq w0 x y wr) : wr.cell? ⟨w0.heap.size, 0, none⟩ = some (.int .i64 x) ∧ wr.cell? ⟨w0.heap.size, 1, none⟩ = some (.int .i64 y) := by
  obtain ⟨a1, a2, _, _⟩ := cell_two h.ha
  exact ⟨a1, a2⟩
theorem Lq.put (h : Lq w0 x y wr) {g : Nat} (hg : w0.heap.size + 1 < g) (u v : Value) : Lq w0 x y ((wr.setCell ⟨g, 0, none⟩ u).setCell ⟨g, 1, none⟩ v) := by
  have hl : w0.heap.size ≤ g := by omega
  exact ⟨(h.below.setCell (p := ⟨g, 0, none⟩) hl _).setCell (p := ⟨g, 1, none⟩) hl _, heap_other _ (heap_other _ h.ha (by omega)) (by omega), heap_other _ (heap_other _ h.h0 (by omega)) (by omega)⟩
end
theorem Lq.made (w : World) (x y : Int) : Lq w x y ((w.alloc (.cells #[.int .i64 x, .int .i64 y] 23)).alloc (.cells #[.int .i64 0, .int .i64 0] 23)) := by
  obtain ⟨h1, h2⟩ := two_fr w (.cells #[.int .i64 x, .int .i64 y] 23) (.cells #[.int .i64 0, .int .i64 0] 23)
  exact ⟨below_two _ _ _, h1, h2⟩

set_option maxRecDepth 100000 in
set_option maxHeartbeats 8000000 in
theorem rless_any (x y n : Int) (hx : I64 x) (hy : I64 y) (hn : I64 n) (w : World) : Calls Tryd.prog 77 #[.agg #[.int .i64 x, .int .i64 y], .int .i64 n] w fun e w' => e = .returned (rtV (subP (x, y) (n, 1)).1) ∧ Below w.heap.size w w' := by
  have HH := Lib.hid (fun W => whole_any n W)
  have HS := Lib.hid (fun W => sub_any x y n 1 hx hy hn ⟨by decide, by decide⟩ W)
  obtain ⟨M, hM⟩ : ∃ M, M = subP (x, y) (n, 1) := ⟨_, rfl⟩
  rw [← hM] at HS ⊢
  have HS : Hid (∀ W, Calls Tryd.prog 22 #[.agg #[.int .i64 x, .int .i64 y], .agg #[.int .i64 n, .int .i64 1]] W fun e w' => e = .returned (.tuple #[.agg #[.int .i64 M.1.1, .int .i64 M.1.2], .int .i64 M.2]) ∧ Below W.heap.size W w') := HS
  have HW2 := Lib.hid (Lq.made w x y)
  clear hM hx hy hn
  go_enter Tryd.func77, Tryd.ntmps77
  go_upto_region 1 with fail
  generalize (w.alloc (.cells #[.int .i64 x, .int .i64 y] 23)).alloc (.cells #[.int .i64 0, .int .i64 0] 23) = w2 at *
  go_cut [5] (fun s5 wx => ∃ g : Nat, s5 = .pointer (some ⟨g, 0, none⟩) ∧ Hid (wx.heap[g]? = some (.cells #[.int .i64 M.1.1, .int .i64 M.1.2] 23)) ∧ Hid (Lq w x y wx))
  case first =>
    have kb := HW2.out.drew
    go_region_held3 (fun wr => wr.cell? ⟨w.heap.size, 0, none⟩ = some (.int .i64 x) ∧ wr.cell? ⟨w.heap.size, 1, none⟩ = some (.int .i64 y))
      (first | exact kb.two | exact (kb.step (below_one v7 _)).two | exact (kb.put hlt _ _).two | exact (kb.step (below_one _ _)).two | go_keep)
      (first | (go_at_call 75; refine (HH.out _).mono ?_; rintro e v1 ⟨rfl, hb⟩; have hz := heap_keep hz hb; have kb := kb.step hb; obtain ⟨z1, z2, z3, z4⟩ := cell_two hz; clear hb) | (go_at_call 75; refine (HH.out _).mono ?_; rintro e v1 ⟨rfl, hb⟩; have kb := kb.step hb; clear hb) | (go_at_call 75; refine (HH.out _).mono ?_; rintro e v1 ⟨rfl, hb⟩; have hlt := heap_lt2 HW2.out.h0; have hz := heap_keep (w := (w2.alloc _).drew) (heap_alloc_new w2 _) hb; have kb := (HW2.out.step (below_one w2 _)).drew.step hb; obtain ⟨z1, z2, z3, z4⟩ := cell_two hz; clear hb) | (go_at_call 75; refine (HH.out _).mono ?_; rintro e v1 ⟨rfl, hb⟩; have hlt := heap_lt2 kb.h0; have hz := heap_keep (heap_alloc_new _ _) hb; have kb := (kb.step (below_one _ _)).step hb; obtain ⟨z1, z2, z3, z4⟩ := cell_two hz; clear hb) | (go_at_call 22; refine (HS.out _).mono ?_; rintro e v7 ⟨rfl, hb⟩; have hz := heap_keep hz hb; have kb := kb.step hb; obtain ⟨z1, z2, z3, z4⟩ := cell_two hz; clear hb) | (go_at_call 22; refine (HS.out _).mono ?_; rintro e v7 ⟨rfl, hb⟩; have kb := kb.step hb; clear hb) | (go_at_call 22; refine (HS.out _).mono ?_; rintro e v7 ⟨rfl, hb⟩; have hlt := heap_lt2 kb.h0; have hz := heap_keep (heap_alloc_new _ _) hb; have kb := (kb.step (below_one _ _)).step hb; obtain ⟨z1, z2, z3, z4⟩ := cell_two hz; clear hb))
    all_goals
      first
        | (have HX := Lib.hid (rat_cells hz (.int .i64 M.1.1) (.int .i64 M.1.2))
           have HY := Lib.hid (kb.put hlt (.int .i64 M.1.1) (.int .i64 M.1.2))
           go_wp2_with fail
           go_meet
           exact ⟨_, rfl, HX, HY⟩)
        | (have HX := Lib.hid (heap_alloc_new v7 (.cells #[.int .i64 M.1.1, .int .i64 M.1.2] 23))
           have HY := Lib.hid (kb.step (below_one v7 (.cells #[.int .i64 M.1.1, .int .i64 M.1.2] 23)))
           go_wp2_with fail
           go_meet
           exact ⟨_, rfl, HX, HY⟩)
  case rest =>
    obtain ⟨g, rfl, H5, HL⟩ := hcut
    obtain ⟨c1, c2, _, _⟩ := cell_two H5.out
    obtain ⟨z1, z2, z3, z4⟩ := cell_two HL.out.h0
    have T1 := Lib.hid (rat_cells HL.out.h0 (.int .i64 M.1.1) (.int .i64 M.1.2))
    have hle : w.heap.size ≤ w.heap.size + 1 := by omega
    have T2 := Lib.hid ((HL.out.below.setCell (p := ⟨w.heap.size + 1, 0, none⟩) hle (.int .i64 M.1.1)).setCell (p := ⟨w.heap.size + 1, 1, none⟩) hle (.int .i64 M.1.2))
    go_wp2
    refine bodyPost_ret (results_cell_row (fn := Tryd.f77) rfl _ _ (w.heap.size + 1) _ _ _ _ rfl T1.out Tryd.underlying23 rfl (by kernel_rfl)) rfl ?_
    exact ⟨rfl, T2.out⟩

end Go.Proofs.YtmgdhlcgbgpgpaaDoor

/- A bag of facts of the memory, each of which stays where nothing old is written. -/
namespace Go.Proofs.YtmgdhlcgbgpgpaaDoor
open Go Go.RowKit
set_option linter.unusedVariables false

/-- It stays where nothing old is written. -/
def Stable (P : World → Prop) : Prop := ∀ w w', P w → Below w.heap.size w w' → P w'
structure Bag (w0 : World) (Ps : List (World → Prop)) (w : World) : Prop where
  below : Below w0.heap.size w0 w
  all : ∀ P, P ∈ Ps → P w ∧ Stable P
theorem Bag.start {w0 w : World} (h : Below w0.heap.size w0 w) : Bag w0 [] w := ⟨h, fun _ h => by cases h⟩
theorem Bag.step {w0 w w' : World} {Ps : List (World → Prop)} (h : Bag w0 Ps w) (hb : Below w.heap.size w w') : Bag w0 Ps w' :=
  ⟨h.below.trans (hb.mono h.below.size), fun P hP => ⟨(h.all P hP).2 w w' (h.all P hP).1 hb, (h.all P hP).2⟩⟩
theorem Bag.drewN {w0 w : World} {Ps : List (World → Prop)} (h : Bag w0 Ps w) (q : Nat) : Bag w0 Ps (w.drewN q) := h.step (belowN (Below.refl _ _) q)
theorem Bag.drew {w0 w : World} {Ps : List (World → Prop)} (h : Bag w0 Ps w) : Bag w0 Ps w.drew := h.step (Below.drew (Below.refl _ _))
theorem Bag.alloc {w0 w : World} {Ps : List (World → Prop)} (h : Bag w0 Ps w) (o : Obj) : Bag w0 Ps (w.alloc o) := h.step ((Below.refl _ _).alloc (Nat.le_refl _) o)
theorem Bag.add {w0 w : World} {Ps : List (World → Prop)} {P : World → Prop} (h : Bag w0 Ps w) (hP : P w) (hs : Stable P) : Bag w0 (P :: Ps) w :=
  ⟨h.below, fun Q hQ => by
    rcases List.mem_cons.1 hQ with rfl | hQ
    · exact ⟨hP, hs⟩
    · exact h.all Q hQ⟩
theorem Bag.at {w0 w : World} {Ps : List (World → Prop)} {P : World → Prop} (h : Bag w0 Ps w) (i : Nat) (e : Ps[i]? = some P) : P w :=
  (h.all P (List.mem_of_getElem? e)).1
theorem Bag.tail {w0 w : World} {Ps : List (World → Prop)} {P : World → Prop} (h : Bag w0 (P :: Ps) w) : Bag w0 Ps w := ⟨h.below, fun Q hQ => h.all Q (List.mem_cons_of_mem _ hQ)⟩
theorem stable_zone (T : TypeId) (v : Value) (z : Option (Nat × Mat)) : Stable fun w => ZoneV T w v z := fun _ _ h hb => h.below hb
theorem stable_ints (k : IntKind) (A : Option Addr) (xs : List Int) : Stable fun w => Ints w k A xs := fun _ _ h hb => h.below hb
theorem stable_own (b : Nat) (e : TypeId) (k : IntKind) (v : Value) (xs : List Int) : Stable fun w => OwnI w b e k v xs := fun _ _ h hb => h.later hb
theorem stable_lims (A : Option Addr) (l : List (Int × Int × Int)) : Stable fun w => Lims w A l := fun _ _ h hb => h.below hb

/-- A call that leaves the world alone, in a region that draws. -/
theorem quietL {P : Program} {f : FuncId} {args : Array Value} {w : World} {n : Nat} {v : Value} (h : ∀ W, Calls P f args W fun e w' => e = .returned v ∧ W = w') :
    Calls P f args (w.drewN n) fun e w'' => e = .returned v ∧ ∃ m, w'' = w.drewN m := (h _).mono fun _ _ ⟨he, hm⟩ => ⟨he, n, hm.symm⟩
/-- The same, behind a region that drew. -/
theorem quietA {P : Program} {f : FuncId} {args : Array Value} {w : World} {a n : Nat} {v : Value} (h : ∀ W, Calls P f args W fun e w' => e = .returned v ∧ W = w') :
    Calls P f args (w.drewN (a + n)) fun e w'' => e = .returned v ∧ ∃ m, w'' = w.drewN (a + m) := (h _).mono fun _ _ ⟨he, hm⟩ => ⟨he, n, hm.symm⟩
/-- A call that only draws, behind a region that drew. -/
theorem quietD {P : Program} {f : FuncId} {args : Array Value} {w : World} {a n : Nat} {v : Value} (h : Calls P f args (w.drewN (a + n)) fun e w' => e = .returned v ∧ ∃ q, w' = (w.drewN (a + n)).drewN q) :
    Calls P f args (w.drewN (a + n)) fun e w'' => e = .returned v ∧ ∃ m, w'' = w.drewN (a + m) := h.mono fun _ _ ⟨he, q, hq⟩ => ⟨he, n + q, by rw [hq, World.drewN_drewN, Nat.add_assoc]⟩
theorem backC {P : Program} {f : FuncId} {args : Array Value} {w : World} {e0 : Ending} (h : Calls P f args w fun e w' => e = e0 ∧ w = w') : Calls P f args w fun e w' => e = e0 ∧ w' = w :=
  h.mono fun _ _ ⟨a, b⟩ => ⟨a, b.symm⟩

end Go.Proofs.YtmgdhlcgbgpgpaaDoor

/- A region that draws its order, by ONE invariant that hangs on what has come up: each operation is run once. -/
namespace Go.Proofs.YtmgdhlcgbgpgpaaDoor
open Go Go.RowKit
set_option linter.unusedVariables false
set_option linter.unusedSimpArgs false

/-- The frame, these slots anew. -/
def overA (a0 : Act) : List Nat → (Nat → Value) → Act
  | [], _ => a0
  | d :: ds, vals => (overA a0 ds vals).put (some d) (vals d)

theorem overA_size (a0 : Act) (vals : Nat → Value) : ∀ ds, (overA a0 ds vals).tmps.size = a0.tmps.size
  | [] => rfl
  | d :: ds => by simp only [overA, Act.put, Array.size_setIfInBounds]; exact overA_size a0 vals ds
theorem overA_defers (a0 : Act) (vals : Nat → Value) : ∀ ds, (overA a0 ds vals).defers = a0.defers
  | [] => rfl
  | d :: ds => by simp only [overA, Act.put]; exact overA_defers a0 vals ds
theorem getD_put (xs : Array Value) (d k : Nat) (v u : Value) (hk : k < xs.size) : (xs.setIfInBounds d v).getD k u = if k = d then v else xs.getD k u := by
  by_cases h : k = d
  · subst h; rw [if_pos rfl]; simp [Array.getD, hk]
  · rw [if_neg h]
    simp only [Array.getD_eq_getD_getElem?]
    rw [Array.getElem?_setIfInBounds_ne (Ne.symm h)]
theorem overA_get (a0 : Act) (vals : Nat → Value) (k : Nat) (u : Value) (hk : k < a0.tmps.size) : ∀ ds : List Nat, (overA a0 ds vals).tmps.getD k u = if k ∈ ds then vals k else a0.tmps.getD k u
  | [] => by simp [overA]
  | d :: ds => by
    show ((overA a0 ds vals).tmps.setIfInBounds d (vals d)).getD k u = _
    rw [getD_put _ _ _ _ _ (by rw [overA_size]; exact hk)]
    by_cases h : k = d
    · subst h; simp
    · rw [if_neg h, overA_get a0 vals k u hk ds]
      by_cases h2 : k ∈ ds
      · rw [if_pos h2, if_pos (List.mem_cons_of_mem _ h2)]
      · rw [if_neg h2, if_neg (fun h3 => by rcases List.mem_cons.1 h3 with h4 | h4 <;> contradiction)]
theorem act_same {a b : Act} (hd : a.defers = b.defers) (hs : a.tmps.size = b.tmps.size) (h : ∀ k, k < a.tmps.size → a.tmps.getD k undef = b.tmps.getD k undef) : a = b := by
  cases a with
  | mk ta da =>
    cases b with
    | mk tb db =>
      simp only at hd hs h
      subst hd
      congr 1
      apply Array.ext hs
      intro k h1 h2
      have := h k h1
      simp only [Array.getD, h1, h2, dif_pos] at this
      exact this
theorem overA_put (a0 : Act) (vals : Nat → Value) (ds : List Nat) (d : Nat) (hd : d ∈ ds) (v : Value) :
    (overA a0 ds vals).put (some d) v = overA a0 ds (fun k => if k = d then v else vals k) := by
  have hs : ((overA a0 ds vals).put (some d) v).tmps.size = a0.tmps.size := by simp only [Act.put, Array.size_setIfInBounds]; exact overA_size _ _ _
  refine act_same ?_ ?_ (fun k hk => ?_)
  · simp only [Act.put]; rw [overA_defers, overA_defers]
  · rw [hs, overA_size]
  · rw [hs] at hk
    show ((overA a0 ds vals).tmps.setIfInBounds d v).getD k undef = _
    rw [getD_put _ _ _ _ _ (by rw [overA_size]; exact hk), overA_get _ _ _ _ hk, overA_get _ _ _ _ hk]
    by_cases h : k = d
    · subst h; rw [if_pos rfl, if_pos hd, if_pos rfl]
    · simp only [if_neg h]
theorem overA_start (a0 : Act) (ds : List Nat) : overA a0 ds (fun d => a0.tmps.getD d undef) = a0 := by
  refine act_same (overA_defers _ _ _) (overA_size _ _ _) (fun k hk => ?_)
  rw [overA_size] at hk
  rw [overA_get _ _ _ _ hk]
  split <;> rfl
theorem overA_eval (a0 : Act) (vals : Nat → Value) (ds : List Nat) (d : Nat) (hd : d ∈ ds) (hk : d < a0.tmps.size) : (overA a0 ds vals).eval (.tmp d) = vals d := by
  show (overA a0 ds vals).tmps.getD d undef = _
  rw [overA_get _ _ _ _ hk, if_pos hd]

/-- Which ones an operation waits for, one after another. -/
def needsOf (md : Region.Mode) (ops : Array Oper) (i : Nat) : List Nat :=
  match ops[i]? with
  | some o => (o.after.toList.filter (Region.binds md)).map (·.on)
  | none => []
def depsB (md : Region.Mode) (ops : Array Oper) (needs : List (List Nat)) : Bool :=
  (List.range ops.size).all fun i => ((needs.getD i []).all fun j => decide (j ∈ needsOf md ops i)) && (needsOf md ops i).all fun j => decide (j < i)

theorem filter_less {α : Type} {p q : α → Bool} : ∀ {l : List α}, (∀ x ∈ l, p x = true → q x = true) → (∃ x ∈ l, q x = true ∧ p x = false) → (l.filter p).length < (l.filter q).length
  | [], _, ⟨x, hx, _⟩ => by cases hx
  | y :: l, h, ⟨x, hx, hq, hp⟩ => by
    have hle : ∀ (l : List α), (∀ x ∈ l, p x = true → q x = true) → (l.filter p).length ≤ (l.filter q).length := fun l => by
      induction l with
      | nil => intro _; simp
      | cons z l ih =>
        intro hz
        have h1 := ih (fun x hx => hz x (List.mem_cons_of_mem _ hx))
        have h2 := hz z (List.mem_cons_self ..)
        cases hpz : p z with
        | true => rw [List.filter_cons_of_pos hpz, List.filter_cons_of_pos (h2 hpz)]; simp only [List.length_cons]; omega
        | false =>
          rw [List.filter_cons_of_neg (by simp [hpz])]
          cases hqz : q z with
          | true => rw [List.filter_cons_of_pos hqz]; simp only [List.length_cons]; omega
          | false => rw [List.filter_cons_of_neg (by simp [hqz])]; exact h1
    have hy := h y (List.mem_cons_self ..)
    rcases List.mem_cons.1 hx with rfl | hx'
    · rw [List.filter_cons_of_neg (by simp [hp]), List.filter_cons_of_pos hq]
      have := hle l (fun x hx => h x (List.mem_cons_of_mem _ hx))
      simp only [List.length_cons]; omega
    · have ih := filter_less (p := p) (q := q) (l := l) (fun x hx => h x (List.mem_cons_of_mem _ hx)) ⟨x, hx', hq, hp⟩
      cases hpy : p y with
      | true => rw [List.filter_cons_of_pos hpy, List.filter_cons_of_pos (hy hpy)]; simp only [List.length_cons]; omega
      | false =>
        rw [List.filter_cons_of_neg (by simp [hpy])]
        cases hqy : q y with
        | true => rw [List.filter_cons_of_pos hqy]; simp only [List.length_cons]; omega
        | false => rw [List.filter_cons_of_neg (by simp [hqy])]; exact ih

section
variable {P : Program} {ops : Array Oper} {Q : Exit → Act → World → Prop} {md : Region.Mode}

theorem getD_in_range {l : Array Bool} {i : Nat} (h : i < l.size) : l.getD i true = l.getD i false := by simp [Array.getD, h]

theorem all_up {needs : List (List Nat)} (hB : depsB md ops needs = true) {listed : Array Bool} (hs : listed.size = ops.size) (h : Region.ready md ops listed = []) : ∀ i, i < ops.size → listed.getD i false = true := by
  intro i
  induction i using Nat.strongRecOn with
  | _ i ih =>
    intro hi
    cases hl : listed.getD i false with
    | true => rfl
    | false =>
      exfalso
      have hb := (List.all_eq_true.1 hB) i (List.mem_range.2 hi)
      simp only [Bool.and_eq_true] at hb
      have hm : i ∈ Region.ready md ops listed := by
        refine mem_ready.2 ⟨by rw [getD_in_range (by rw [hs]; exact hi)]; exact hl, ops[i], by simp [hi], fun e he hbd => ?_⟩
        have hj : e.on ∈ needsOf md ops i := by
          unfold needsOf
          simp only [Array.getElem?_eq_getElem hi]
          exact List.mem_map.2 ⟨e, List.mem_filter.2 ⟨by simpa using he, hbd⟩, rfl⟩
        have hlt := of_decide_eq_true ((List.all_eq_true.1 hb.2) _ hj)
        exact ih _ hlt (by omega)
      rw [h] at hm
      cases hm

theorem wpAny_inv {needs : List (List Nat)} (hB : depsB md ops needs = true) {a0 : Act} {slots : List Nat} {J : (Nat → Bool) → (Nat → Value) → World → Prop}
    (hstep : ∀ i, i < ops.size → ∀ L vals w, J L vals w → L i = false → (∀ j ∈ needs.getD i [], L j = true) → ∀ K : Act → World → Prop,
      (∀ vals' w', J (fun k => k == i || L k) vals' w' → K (overA a0 slots vals') w') → wpOp P ops Q i K (overA a0 slots vals) w)
    (hend : ∀ L vals w, J L vals w → (∀ i, i < ops.size → L i = true) → Q .normal (overA a0 slots vals) w) :
    ∀ (fuel : Nat) (listed : Array Bool) (vals : Nat → Value) (w : World), listed.size = ops.size →
      ((List.range ops.size).filter fun i => !listed.getD i false).length ≤ fuel → J (fun k => listed.getD k false) vals w → wpAny P md ops Q fuel listed (overA a0 slots vals) w := by
  intro fuel
  induction fuel with
  | zero =>
    intro listed vals w hs hc hJ
    have hall : ∀ i, i < ops.size → listed.getD i false = true := fun i hi => by
      cases hl : listed.getD i false with
      | true => rfl
      | false =>
        have : i ∈ (List.range ops.size).filter fun i => !listed.getD i false := List.mem_filter.2 ⟨List.mem_range.2 hi, by simp [hl]⟩
        have := List.length_pos_of_mem this
        omega
    refine ⟨?_, hend _ _ _ hJ hall⟩
    refine List.eq_nil_iff_forall_not_mem.2 (fun i hi => ?_)
    obtain ⟨hu, o, ho, _⟩ := mem_ready.1 hi
    have hlt : i < ops.size := (Array.getElem?_eq_some_iff.1 ho).1
    rw [getD_in_range (by rw [hs]; exact hlt), hall i hlt] at hu
    cases hu
  | succ fuel ih =>
    intro listed vals w hs hc hJ
    refine ⟨fun h => hend _ _ _ hJ (all_up hB hs h), fun i hi => ?_⟩
    obtain ⟨hu, o, ho, hall⟩ := mem_ready.1 hi
    have hlt : i < ops.size := (Array.getElem?_eq_some_iff.1 ho).1
    have hls : i < listed.size := by rw [hs]; exact hlt
    rw [getD_in_range hls] at hu
    have hb := (List.all_eq_true.1 hB) i (List.mem_range.2 hlt)
    simp only [Bool.and_eq_true] at hb
    refine hstep i hlt _ vals w hJ hu (fun j hj => ?_) _ (fun vals' w' hJ' => ?_)
    · replace hj := of_decide_eq_true ((List.all_eq_true.1 hb.1) _ hj)
      unfold needsOf at hj
      rw [ho] at hj
      obtain ⟨e, he, rfl⟩ := List.mem_map.1 hj
      obtain ⟨he1, he2⟩ := List.mem_filter.1 he
      exact hall e (by simpa using he1) he2
    · refine ih _ vals' w' (by simp [hs]) ?_ ?_
      · have hlt2 := filter_less (p := fun k => !(listed.setIfInBounds i true).getD k false) (q := fun k => !listed.getD k false) (l := List.range ops.size) (fun x hx hp => by
            by_cases hxi : i = x
            · subst hxi; simp [Array.getD, hls] at hp
            · rw [getD_set_ne false hxi] at hp; exact hp)
          ⟨i, List.mem_range.2 hlt, by simp only [hu]; rfl, by simp [Array.getD, hls]⟩
        omega
      · have : (fun k => (listed.setIfInBounds i true).getD k false) = (fun k => k == i || listed.getD k false) := funext fun k => by
          by_cases hk : i = k
          · subst hk; simp [Array.getD, hls]
          · rw [getD_set_ne false hk]; simp [Ne.symm hk]
        rw [this]
        exact hJ'

theorem getD_all_false (n k : Nat) : (Array.replicate n false).getD k false = false := by
  simp only [Array.getD_eq_getD_getElem?, Array.getElem?_replicate]
  split <;> rfl

/-- THE RULE. -/
theorem wp_region_inv {id : Nat} {a0 : Act} {w0 : World} (hm : P.follows .mixedOrders = true) (slots : List Nat) (needs : List (List Nat)) (J : (Nat → Bool) → (Nat → Value) → World → Prop)
    (hB : depsB .any ops needs = true) (h0 : J (fun _ => false) (fun d => a0.tmps.getD d undef) w0.drew)
    (hstep : ∀ i, i < ops.size → ∀ L vals w, J L vals w → L i = false → (∀ j ∈ needs.getD i [], L j = true) → ∀ K : Act → World → Prop,
      (∀ vals' w', J (fun k => k == i || L k) vals' w' → K (overA a0 slots vals') w') → wpOp P ops Q i K (overA a0 slots vals) w)
    (hend : ∀ L vals w, J L vals w → (∀ i, i < ops.size → L i = true) → Q .normal (overA a0 slots vals) w) :
    (Code.region id ops true).wp P Q a0 w0 := by
  have h := wpAny_inv (P := P) (Q := Q) hB hstep hend ops.size (Array.replicate ops.size false) (fun d => a0.tmps.getD d undef) w0.drew (by simp)
    (Nat.le_trans (List.length_filter_le _ _) (by simp))
    (by
      have : (fun k => (Array.replicate ops.size false).getD k false) = (fun _ => false) := funext fun k => getD_all_false _ k
      rw [this]; exact h0)
  rw [overA_start] at h
  exact wp_region_any hm h

end

/-! ### The operations, one kind after another -/
section
variable {P : Program} {ops : Array Oper} {Q : Exit → Act → World → Prop}
theorem wpOp_plain {i : Nat} {o : Oper} {K : Act → World → Prop} {a : Act} {w : World} (ho : ops[i]? = some o) (hg : o.guard = none) (h : o.wp P a w K Q) : wpOp P ops Q i K a w := by
  unfold wpOp
  rw [ho]
  simp only [Region.wanted, hg, if_true]
  exact .inl h

/-- THE RULE, the frame behind a variable: a step puts a value into a listed slot, or none. -/
theorem wp_region_tab {id : Nat} {a0 : Act} {w0 : World} (hm : P.follows .mixedOrders = true) (slots : List Nat) (needs : List (List Nat)) (J : (Nat → Bool) → (Nat → Value) → World → Prop)
    (hB : depsB .any ops needs = true) (hsl : slots.all (fun d => decide (d < a0.tmps.size)) = true) (h0 : J (fun _ => false) (fun d => a0.tmps.getD d undef) w0.drew)
    (hstep : ∀ i, i < ops.size → ∀ (a : Act) L vals w, (∀ d, d ∈ slots → a.eval (.tmp d) = vals d) → J L vals w → L i = false → (∀ j ∈ needs.getD i [], L j = true) → ∀ K : Act → World → Prop,
      (∀ d x w', d ∈ slots → J (fun k => k == i || L k) (fun k => if k = d then x else vals k) w' → K (a.put (some d) x) w') → (∀ w', J (fun k => k == i || L k) vals w' → K a w') → wpOp P ops Q i K a w)
    (hend : ∀ L vals w, J L vals w → (∀ i, i < ops.size → L i = true) → Q .normal (overA a0 slots vals) w) :
    (Code.region id ops true).wp P Q a0 w0 := by
  refine wp_region_inv hm slots needs J hB h0 (fun i hi L vals w hJ hL hn K hK => ?_) hend
  refine hstep i hi (overA a0 slots vals) L vals w (fun d hd => overA_eval _ _ _ _ hd (of_decide_eq_true (List.all_eq_true.1 hsl d hd))) hJ hL hn K (fun d x w' hd hJ' => ?_) (fun w' hJ' => hK _ _ hJ')
  rw [overA_put _ _ _ _ hd]
  exact hK _ _ hJ'

theorem op_move {i : Nat} {o : Oper} {K : Act → World → Prop} {a : Act} {w : World} {d : Nat} {s : Operand} (ho : ops[i]? = some o) (hg : o.guard = none) (hop : o.op = .move s) (hd : o.dst = some d)
    {v : Value} (hx : a.eval s = v) (h : K (a.put (some d) v) w) : wpOp P ops Q i K a w :=
  wpOp_plain ho hg (BigFrame.wp_move _ hop (by rw [hx, hd]; exact h))

theorem op_load {i : Nat} {o : Oper} {K : Act → World → Prop} {a : Act} {w : World} {d g : Nat} {x : Operand} {ty t : TypeId} {cs : Array Value} {td : TypeDesc} (ho : ops[i]? = some o) (hg : o.guard = none) (hop : o.op = .load ty x) (hd : o.dst = some d)
    (hu : P.underlying ty = some td) (hdd : (match td with | .struct _ | .array _ _ => true | _ => false) = true) (hi : (P.info? ty).map (·.size) = some cs.size)
    (hx : a.eval x = .pointer (some ⟨g, 0, none⟩)) (hw : w.heap[g]? = some (.cells cs t)) (h : K (a.put (some d) (.agg cs)) w) : wpOp P ops Q i K a w :=
  wpOp_plain ho hg (wp_load_row ty x hop g hx t cs (0, 0) td hw hu hdd hi (by rw [hd]; exact h))

theorem op_store {i : Nat} {o : Oper} {K : Act → World → Prop} {a : Act} {w : World} {g : Nat} {x y : Operand} {ty t : TypeId} {old cs : Array Value} (ho : ops[i]? = some o) (hg : o.guard = none) (hop : o.op = .store ty x y) (hd : o.dst = none)
    (hi : (P.info? ty).map (·.size) = some cs.size) (hold : old.size = cs.size) (h1 : cs.all (·.oneCell') = true)
    (hx : a.eval x = .pointer (some ⟨g, 0, none⟩)) (hy : a.eval y = .agg cs) (hw : w.heap[g]? = some (.cells old t)) (h : K a (w.setRow g cs)) : wpOp P ops Q i K a w :=
  wpOp_plain ho hg (wp_store_row ty x y hop g cs hx hy t old hw hi hold h1 (by rw [hd]; exact h))

theorem op_call {i : Nat} {o : Oper} {K : Act → World → Prop} {a : Act} {w : World} {d : Nat} {f : FuncId} {args : Array Value} {v : Value} (ho : ops[i]? = some o) (hg : o.guard = none)
    (hd : o.dst = some d) (hx : (execOp a.eval o).run P w = .ok (.enter f args) w)
    {R : World → Prop} (hc : Calls P f args w fun e w' => e = .returned v ∧ R w') (h : ∀ w', R w' → K (a.put (some d) v) w') : wpOp P ops Q i K a w := by
  refine wpOp_plain ho hg ?_
  unfold Oper.wp
  rw [hx, Oper.upon_enter]
  refine hc.mono ?_
  rintro e w' ⟨rfl, hr⟩
  rw [hd]
  exact h w' hr

/-- Whatever puts a value into its slot: the run of the operation is shown beside. -/
theorem op_value {i : Nat} {o : Oper} {K : Act → World → Prop} {a : Act} {w w' : World} {d : Nat} {v : Value} (ho : ops[i]? = some o) (hg : o.guard = none)
    (hd : o.dst = some d) (hx : (execOp a.eval o).run P w = .ok (.value v) w') (h : K (a.put (some d) v) w') : wpOp P ops Q i K a w := by
  refine wpOp_plain ho hg ?_
  unfold Oper.wp
  rw [hx, Oper.upon_value, hd]
  exact h

theorem enter_run {f : FuncId} {fn : Func} {c : Code} (hf : P.funcs[f]? = some fn) (hname : (fn.name == "runtime.NumGoroutine") = false) (hb : fn.body = some c) (args : Array Value) (w : World) :
    (callFunc f args).run P w = .ok (.enter f args) w := by
  have h1 : fn.name ≠ "runtime.NumGoroutine" := by simpa using hname
  simp [callFunc, hf, h1, hb]
theorem op_go {i : Nat} {o : Oper} {K : Act → World → Prop} {a : Act} {w : World} {d : Nat} {f : FuncId} {xs : Array Operand} {ats : Array TypeId} {args : Array Value} {fn : Func} {c : Code} {v : Value} (ho : ops[i]? = some o) (hg : o.guard = none)
    (hop : o.op = .call { callee := .value (.func f), args := xs, argTypes := ats }) (hd : o.dst = some d) (hf : P.funcs[f]? = some fn) (hn : (fn.name == "runtime.NumGoroutine") = false) (hb : fn.body = some c)
    (hx : xs.map a.eval = args) {R : World → Prop} (hc : Calls P f args w fun e w' => e = .returned v ∧ R w') (h : ∀ w', R w' → K (a.put (some d) v) w') : wpOp P ops Q i K a w := by
  refine op_call ho hg hd ?_ hc h
  have e : execOp a.eval o = callFunc f (#[] ++ xs.map a.eval ++ #[]) := by
    obtain ⟨dst, op, ty, pos, after, guard⟩ := o
    simp only at hop
    subst hop
    rfl
  rw [e, hx, show #[] ++ args ++ #[] = args by simp]
  exact enter_run hf hn hb args w
end

theorem blk_keep {w w' : World} {g : Nat} {o : Obj} (h : w.heap[g]? = some o) (hb : Below w.heap.size w w') : w'.heap[g]? = some o := (hb.block _ (Array.getElem?_eq_some_iff.1 h).1).trans h

/-! ### What is kept of a region's slots and of its own blocks -/
/-- The slots: those of the operations that have come up (number, slot, value), and those that are only read. -/
structure TabR (tbl : List (Nat × Nat × Value)) (base : List (Nat × Value)) (L : Nat → Bool) (vals : Nat → Value) : Prop where
  t : ∀ t ∈ tbl, L t.1 = true → vals t.2.1 = t.2.2
  b : ∀ b ∈ base, vals b.1 = b.2
section
variable {tbl : List (Nat × Nat × Value)} {base : List (Nat × Value)} {L : Nat → Bool} {vals : Nat → Value}
theorem TabR.start (h : ∀ b ∈ base, vals b.1 = b.2) : TabR tbl base (fun _ => false) vals := ⟨fun t _ h => Bool.noConfusion h, h⟩
theorem TabR.val (h : TabR tbl base L vals) (j : Nat) {t : Nat × Nat × Value} (ht : tbl[j]? = some t) (hL : L t.1 = true) : vals t.2.1 = t.2.2 := h.t t (List.mem_of_getElem? ht) hL
theorem TabR.rd (h : TabR tbl base L vals) (j : Nat) {b : Nat × Value} (hb : base[j]? = some b) : vals b.1 = b.2 := h.b b (List.mem_of_getElem? hb)
theorem TabR.put (h : TabR tbl base L vals) {i d : Nat} {x : Value} (h1 : ∀ t ∈ tbl, (t.1 = i ∨ t.2.1 = d) → t = (i, d, x)) (h2 : ∀ b ∈ base, b.1 ≠ d) : TabR tbl base (fun k => k == i || L k) (fun k => if k = d then x else vals k) := by
  refine ⟨fun t ht hL => ?_, fun b hb => ?_⟩
  · by_cases hd : t.1 = i ∨ t.2.1 = d
    · obtain rfl := h1 t ht hd
      simp
    · have h3 : t.1 ≠ i := fun e => hd (.inl e)
      have h4 : t.2.1 ≠ d := fun e => hd (.inr e)
      show (if t.2.1 = d then x else vals t.2.1) = t.2.2
      rw [if_neg h4]
      exact h.t t ht (by simpa [h3] using hL)
  · show (if b.1 = d then x else vals b.1) = b.2
    rw [if_neg (h2 b hb)]
    exact h.b b hb
theorem TabR.skip (h : TabR tbl base L vals) {i : Nat} (h1 : ∀ t ∈ tbl, t.1 ≠ i) : TabR tbl base (fun k => k == i || L k) vals :=
  ⟨fun t ht hL => h.t t ht (by simpa [h1 t ht] using hL), h.b⟩
end
/-- A block that the region makes: the operation that makes it, its slot, the operation that fills it, what it holds ahead and behind. -/
structure BlkR where
  i : Nat
  d : Nat
  s : Nat
  old : Array Value
  new : Array Value
  T : TypeId
structure BlksR (blks : List BlkR) (B : Nat) (L : Nat → Bool) (vals : Nat → Value) (w : World) : Prop where
  le : B ≤ w.heap.size
  m : ∀ b ∈ blks, L b.i = true → ∃ g, vals b.d = .pointer (some ⟨g, 0, none⟩) ∧ B ≤ g ∧ w.heap[g]? = some (.cells (if L b.s = true then b.new else b.old) b.T)
  ne : ∀ b ∈ blks, ∀ c ∈ blks, b.i ≠ c.i → L b.i = true → L c.i = true → vals b.d ≠ vals c.d
  so : ∀ b ∈ blks, L b.s = true → L b.i = true
section
variable {blks : List BlkR} {B : Nat} {L : Nat → Bool} {vals : Nat → Value} {w w' : World}
theorem BlksR.start (vals : Nat → Value) (hB : B ≤ w.heap.size) : BlksR blks B (fun _ => false) vals w := ⟨hB, fun _ _ h => Bool.noConfusion h, fun _ _ _ _ _ h => Bool.noConfusion h, fun _ _ h => Bool.noConfusion h⟩
theorem BlksR.keep (h : BlksR blks B L vals w) (hb : Below w.heap.size w w') {i d : Nat} {x : Value} (h1 : ∀ b ∈ blks, b.i ≠ i ∧ b.s ≠ i ∧ b.d ≠ d) : BlksR blks B (fun k => k == i || L k) (fun k => if k = d then x else vals k) w' := by
  suffices hg : ∀ (L' : Nat → Bool) (vals' : Nat → Value), (∀ k, L' k = (k == i || L k)) → (∀ k, vals' k = if k = d then x else vals k) → BlksR blks B L' vals' w' from hg _ _ (fun _ => rfl) (fun _ => rfl)
  intro L' vals' eL eV
  have e : ∀ b ∈ blks, L' b.i = L b.i ∧ L' b.s = L b.s ∧ vals' b.d = vals b.d := fun b hb => by
    obtain ⟨h2, h3, h4⟩ := h1 b hb
    rw [eL, eL, eV]
    simp [h2, h3, h4]
  refine ⟨Nat.le_trans h.le hb.size, fun b hbm hL => ?_, fun b hbm c hcm hne hL hL2 => ?_, fun b hbm hL => ?_⟩
  · obtain ⟨e1, e2, e3⟩ := e b hbm
    rw [e1] at hL
    obtain ⟨g, g1, g2, g3⟩ := h.m b hbm hL
    exact ⟨g, by rw [e3]; exact g1, g2, by rw [e2]; exact blk_keep g3 hb⟩
  · rw [(e b hbm).1] at hL
    rw [(e c hcm).1] at hL2
    rw [(e b hbm).2.2, (e c hcm).2.2]
    exact h.ne b hbm c hcm hne hL hL2
  · rw [(e b hbm).2.1] at hL
    rw [(e b hbm).1]
    exact h.so b hbm hL
/-- An operation without a slot that leaves the region's blocks alone. -/
theorem BlksR.skip (h : BlksR blks B L vals w) (hs : B ≤ w'.heap.size) (hk : ∀ g o, B ≤ g → w.heap[g]? = some o → w'.heap[g]? = some o) {i : Nat} (h1 : ∀ b ∈ blks, b.i ≠ i ∧ b.s ≠ i) : BlksR blks B (fun k => k == i || L k) vals w' := by
  suffices hg : ∀ (L' : Nat → Bool), (∀ k, L' k = (k == i || L k)) → BlksR blks B L' vals w' from hg _ (fun _ => rfl)
  intro L' eL
  have e : ∀ b ∈ blks, L' b.i = L b.i ∧ L' b.s = L b.s := fun b hb => by
    obtain ⟨h2, h3⟩ := h1 b hb
    rw [eL, eL]
    simp [h2, h3]
  refine ⟨hs, fun b hbm hL => ?_, fun b hbm c hcm hne hL hL2 => ?_, fun b hbm hL => ?_⟩
  · obtain ⟨e1, e2⟩ := e b hbm
    rw [e1] at hL
    obtain ⟨g, g1, g2, g3⟩ := h.m b hbm hL
    exact ⟨g, g1, g2, by rw [e2]; exact hk g _ g2 g3⟩
  · rw [(e b hbm).1] at hL
    rw [(e c hcm).1] at hL2
    exact h.ne b hbm c hcm hne hL hL2
  · rw [(e b hbm).2] at hL
    rw [(e b hbm).1]
    exact h.so b hbm hL
theorem BlksR.make (h : BlksR blks B L vals w) {b : BlkR} (hbm : b ∈ blks) (hL0 : L b.i = false) (h1 : ∀ c ∈ blks, (c.i = b.i ∨ c.d = b.d) → c = b) (h2 : ∀ c ∈ blks, c.s ≠ b.i) :
    BlksR blks B (fun k => k == b.i || L k) (fun k => if k = b.d then .pointer (some ⟨w.heap.size, 0, none⟩) else vals k) (w.alloc (.cells b.old b.T)) := by
  suffices hg : ∀ (L' : Nat → Bool) (vals' : Nat → Value), (∀ k, L' k = (k == b.i || L k)) → (∀ k, vals' k = if k = b.d then .pointer (some ⟨w.heap.size, 0, none⟩) else vals k) → BlksR blks B L' vals' (w.alloc (.cells b.old b.T)) from hg _ _ (fun _ => rfl) (fun _ => rfl)
  intro L' vals' eL eV
  have hb0 : Below w.heap.size w (w.alloc (.cells b.old b.T)) := (Below.refl _ _).alloc (Nat.le_refl _) _
  have es : ∀ c ∈ blks, L' c.s = L c.s := fun c hc => by rw [eL]; simp [h2 c hc]
  have eo : ∀ c ∈ blks, c ≠ b → L' c.i = L c.i ∧ vals' c.d = vals c.d := fun c hc hne => by
    have h3 : c.i ≠ b.i := fun e => hne (h1 c hc (.inl e))
    have h4 : c.d ≠ b.d := fun e => hne (h1 c hc (.inr e))
    rw [eL, eV]
    simp [h3, h4]
  have ed : vals' b.d = .pointer (some ⟨w.heap.size, 0, none⟩) := by rw [eV, if_pos rfl]
  have far : ∀ c ∈ blks, L c.i = true → vals c.d ≠ .pointer (some ⟨w.heap.size, 0, none⟩) := fun c hc hL he => by
    obtain ⟨g, g1, _, g3⟩ := h.m c hc hL
    rw [g1] at he
    simp only [Value.pointer.injEq, Option.some.injEq, Addr.mk.injEq, and_true] at he
    subst he
    have := (Array.getElem?_eq_some_iff.1 g3).1
    omega
  refine ⟨Nat.le_trans h.le hb0.size, fun c hc hL => ?_, fun c hc c' hc' hne hL hL2 => ?_, fun c hc hL => ?_⟩
  · rw [es c hc]
    by_cases hcb : c = b
    · subst hcb
      refine ⟨w.heap.size, ed, h.le, ?_⟩
      have hs0 : L c.s ≠ true := fun e => by rw [h.so c hc e] at hL0; cases hL0
      rw [if_neg hs0]
      exact heap_alloc_new _ _
    · obtain ⟨e1, e2⟩ := eo c hc hcb
      rw [e1] at hL
      obtain ⟨g, g1, g2, g3⟩ := h.m c hc hL
      exact ⟨g, by rw [e2]; exact g1, g2, blk_keep g3 hb0⟩
  · by_cases hcb : c = b
    · subst hcb
      have hcb' : c' ≠ c := fun e => hne (by rw [e])
      rw [ed, (eo c' hc' hcb').2]
      rw [(eo c' hc' hcb').1] at hL2
      exact fun e => far c' hc' hL2 e.symm
    · rw [(eo c hc hcb).1] at hL
      rw [(eo c hc hcb).2]
      by_cases hcb' : c' = b
      · subst hcb'
        rw [ed]
        exact far c hc hL
      · rw [(eo c' hc' hcb').1] at hL2
        rw [(eo c' hc' hcb').2]
        exact h.ne c hc c' hc' hne hL hL2
  · rw [es c hc] at hL
    rw [eL, h.so c hc hL]
    simp
theorem BlksR.fill (h : BlksR blks B L vals w) {b : BlkR} (hbm : b ∈ blks) (hLi : L b.i = true) (h1 : ∀ c ∈ blks, c.s = b.s → c = b) (h2 : ∀ c ∈ blks, c.i ≠ b.s) (h3 : ∀ c ∈ blks, c.i = b.i → c = b) {g : Nat} (hg : vals b.d = .pointer (some ⟨g, 0, none⟩)) :
    BlksR blks B (fun k => k == b.s || L k) vals (w.setRow g b.new) := by
  suffices hw : ∀ (L' : Nat → Bool), (∀ k, L' k = (k == b.s || L k)) → BlksR blks B L' vals (w.setRow g b.new) from hw _ (fun _ => rfl)
  intro L' eL
  have ei : ∀ c ∈ blks, L' c.i = L c.i := fun c hc => by rw [eL]; simp [h2 c hc]
  have eo : ∀ c ∈ blks, c ≠ b → L' c.s = L c.s := fun c hc hne => by
    have : c.s ≠ b.s := fun e => hne (h1 c hc e)
    rw [eL]; simp [this]
  refine ⟨by simpa [World.setRow] using h.le, fun c hc hL => ?_, fun c hc c' hc' hne hL hL2 => ?_, fun c hc hL => ?_⟩
  · rw [ei c hc] at hL
    obtain ⟨g', g1, g2, g3⟩ := h.m c hc hL
    by_cases hcb : c = b
    · subst hcb
      rw [hg] at g1
      simp only [Value.pointer.injEq, Option.some.injEq, Addr.mk.injEq, and_true] at g1
      subst g1
      refine ⟨g, hg, g2, ?_⟩
      rw [if_pos (by rw [eL]; simp)]
      exact setRow_heap _ _ _ _ _ _ g3
    · refine ⟨g', g1, g2, ?_⟩
      rw [eo c hc hcb]
      have hn : g' ≠ g := fun e => by
        subst e
        exact h.ne c hc b hbm (fun e => hcb (h3 c hc e)) hL hLi (by rw [g1, hg])
      rw [setRow_other _ _ _ _ hn]
      exact g3
  · rw [ei c hc] at hL
    rw [ei c' hc'] at hL2
    exact h.ne c hc c' hc' hne hL hL2
  · rw [ei c hc]
    by_cases hcb : c = b
    · subst hcb; exact hLi
    · rw [eo c hc hcb] at hL
      exact h.so c hc hL
theorem BlksR.blk (h : BlksR blks B L vals w) (j : Nat) {b : BlkR} (hb : blks[j]? = some b) (hL : L b.i = true) : ∃ g, vals b.d = .pointer (some ⟨g, 0, none⟩) ∧ B ≤ g ∧ w.heap[g]? = some (.cells (if L b.s = true then b.new else b.old) b.T) := h.m b (List.mem_of_getElem? hb) hL
theorem BlksR.new (h : BlksR blks B L vals w) (j : Nat) {b : BlkR} (hb : blks[j]? = some b) (hL0 : L b.i = false) (h1 : ∀ c ∈ blks, (c.i = b.i ∨ c.d = b.d) → c = b) (h2 : ∀ c ∈ blks, c.s ≠ b.i) :
    BlksR blks B (fun k => k == b.i || L k) (fun k => if k = b.d then .pointer (some ⟨w.heap.size, 0, none⟩) else vals k) (w.alloc (.cells b.old b.T)) := h.make (List.mem_of_getElem? hb) hL0 h1 h2
theorem BlksR.st (h : BlksR blks B L vals w) (j : Nat) {b : BlkR} (hb : blks[j]? = some b) (hLi : L b.i = true) (h1 : ∀ c ∈ blks, c.s = b.s → c = b) (h2 : ∀ c ∈ blks, c.i ≠ b.s) (h3 : ∀ c ∈ blks, c.i = b.i → c = b) {g : Nat} (hg : vals b.d = .pointer (some ⟨g, 0, none⟩)) :
    BlksR blks B (fun k => k == b.s || L k) vals (w.setRow g b.new) := h.fill (List.mem_of_getElem? hb) hLi h1 h2 h3 hg
end

end Go.Proofs.YtmgdhlcgbgpgpaaDoor

/- The simplest fraction between two, by the steps that rat's inner goes: in plain numbers. -/
namespace Go.Proofs.YtmgdhlcgbgpgpaaDoor
open Go Go.RowKit
set_option linter.unusedVariables false
set_option linter.unusedSimpArgs false

/-- What inner tells from a row of steps, what is left above lo and (if it is open) below hi; -1: the steps do not suffice. -/
def innerP : Nat → Int → Int → Int → Int → Int × Int → Int × Int → Bool → (Int × Int) × Int
  | 0, _, _, _, _, _, _, _ => ((0, 0), -1)
  | g + 1, p, q, pp, qq, lo, hi, op =>
    if floorP lo = 9223372036854775807 then ((0, 0), 4)
    else if (op && decide (0 ≤ cmpP (floorP lo + 1, 1) hi)) = true then
      (if (fitsI (floorP lo * p + pp) && fitsI (floorP lo * q + qq)) = true then
        innerP g (floorP lo * p + pp) (floorP lo * q + qq) p q ((subP hi (floorP lo, 1)).1.2, (subP hi (floorP lo, 1)).1.1) (if (partP lo).1 = 0 then hi else ((partP lo).2, (partP lo).1)) (!decide ((partP lo).1 = 0))
      else ((0, 0), 4))
    else if (fitsI ((floorP lo + 1) * p + pp) && fitsI ((floorP lo + 1) * q + qq)) = true then (((floorP lo + 1) * p + pp, (floorP lo + 1) * q + qq), 0)
    else ((0, 0), 4)

theorem inner_none {g : Nat} {p q pp qq n : Int} {lo hi : Int × Int} {op : Bool} (hn : n = floorP lo) (h : n = 9223372036854775807) : innerP (g + 1) p q pp qq lo hi op = ((0, 0), 4) := by
  unfold innerP; rw [← hn, if_pos h]
theorem inner_last {g : Nat} {p q pp qq n : Int} {lo hi : Int × Int} {op : Bool} (hn : n = floorP lo) (h : ¬ n = 9223372036854775807) (h2 : op = false ∨ cmpP (n + 1, 1) hi < 0) :
    innerP (g + 1) p q pp qq lo hi op = if (fitsI ((n + 1) * p + pp) && fitsI ((n + 1) * q + qq)) = true then (((n + 1) * p + pp, (n + 1) * q + qq), 0) else ((0, 0), 4) := by
  unfold innerP
  rw [← hn, if_neg h, if_neg]
  rcases h2 with rfl | h2
  · simp
  · rw [show decide (0 ≤ cmpP (n + 1, 1) hi) = false from decide_eq_false (by omega), Bool.and_false]; decide
theorem inner_on {g : Nat} {p q pp qq n : Int} {lo hi : Int × Int} (hn : n = floorP lo) (h : ¬ n = 9223372036854775807) (h2 : 0 ≤ cmpP (n + 1, 1) hi) :
    innerP (g + 1) p q pp qq lo hi true = if (fitsI (n * p + pp) && fitsI (n * q + qq)) = true then
        innerP g (n * p + pp) (n * q + qq) p q ((subP hi (n, 1)).1.2, (subP hi (n, 1)).1.1) (if (partP lo).1 = 0 then hi else ((partP lo).2, (partP lo).1)) (!decide ((partP lo).1 = 0))
      else ((0, 0), 4) := by
  rw [innerP, ← hn, if_neg h, if_pos (by rw [decide_eq_true h2]; rfl)]

/-! ### ranges -/
theorem zero64 : I64 0 := ⟨by decide, by decide⟩
theorem fits64 {x : Int} (h : fitsI x = true) : I64 x := of_decide_eq_true (p := -9223372036854775808 ≤ x ∧ x ≤ 9223372036854775807) h
theorem floor64 {r : Int × Int} (h : I64 r.1) : I64 (floorP r) := by
  unfold floorP
  by_cases hr : rightR r = true
  · rw [if_pos hr]; exact (div_range h (right_pos (a := r.1) (b := r.2) hr)).1
  · rw [if_neg hr]; exact zero64
theorem part64 {r : Int × Int} (h : I64 r.1) (h2 : I64 r.2) : I64 (partP r).1 ∧ I64 (partP r).2 := by
  unfold partP
  by_cases hr : rightR r = true
  · rw [if_pos hr]
    obtain ⟨_, h3, h4⟩ := div_range h (right_pos (a := r.1) (b := r.2) hr)
    exact ⟨⟨by show _ ≤ r.1 % r.2; omega, by show r.1 % r.2 ≤ _; obtain ⟨_, _⟩ := h2; omega⟩, h2⟩
  · rw [if_neg hr]; exact ⟨zero64, zero64⟩
theorem frac64 (X D : Int) : I64 (fracP X D).1.1 ∧ I64 (fracP X D).1.2 := by
  unfold fracP
  by_cases hc : fitsI (sgnI (decide (X < 0) != decide (D < 0)) (X.natAbs / Nat.gcd X.natAbs D.natAbs)) = true ∧ D.natAbs / Nat.gcd X.natAbs D.natAbs ≤ 9223372036854775807
  · rw [if_pos hc]; exact ⟨fits64 hc.1, ⟨by show _ ≤ ((D.natAbs / Nat.gcd X.natAbs D.natAbs : Nat) : Int); have := Int.natCast_nonneg (D.natAbs / Nat.gcd X.natAbs D.natAbs); omega, by show ((D.natAbs / Nat.gcd X.natAbs D.natAbs : Nat) : Int) ≤ _; omega⟩⟩
  · rw [if_neg hc]; exact ⟨zero64, zero64⟩
theorem subP64 (a b : Int × Int) : I64 (subP a b).1.1 ∧ I64 (subP a b).1.2 := by
  unfold subP
  split
  · exact frac64 _ _
  · exact ⟨zero64, zero64⟩
theorem cmp_three (a b : Int × Int) : cmpP a b = -1 ∨ cmpP a b = 0 ∨ cmpP a b = 1 := by
  unfold cmpP cmpI
  repeat' split
  all_goals omega
/-- All that a row of steps holds are numbers of 64 bits. -/
def In64 (p q pp qq : Int) (lo hi : Int × Int) : Prop := I64 p ∧ I64 q ∧ I64 pp ∧ I64 qq ∧ I64 lo.1 ∧ I64 lo.2 ∧ I64 hi.1 ∧ I64 hi.2
theorem In64.next {p q pp qq n : Int} {lo hi : Int × Int} (h : In64 p q pp qq lo hi) (hf : (fitsI (n * p + pp) && fitsI (n * q + qq)) = true) :
    In64 (n * p + pp) (n * q + qq) p q ((subP hi (n, 1)).1.2, (subP hi (n, 1)).1.1) (if (partP lo).1 = 0 then hi else ((partP lo).2, (partP lo).1)) := by
  obtain ⟨h1, h2, h3, h4, h5, h6, h7, h8⟩ := h
  obtain ⟨f1, f2⟩ := Bool.and_eq_true_iff.1 hf
  obtain ⟨s1, s2⟩ := subP64 hi (n, 1)
  obtain ⟨p1, p2⟩ := part64 h5 h6
  refine ⟨fits64 f1, fits64 f2, h1, h2, s2, s1, ?_, ?_⟩
  · split
    · exact h7
    · exact p2
  · split
    · exact h8
    · exact p1
theorem inner_third_is : innerP 3 1 0 0 1 (1, 3) (1, 2) true = ((2, 5), 0) := by decide +kernel

end Go.Proofs.YtmgdhlcgbgpgpaaDoor

/- What rat's inner goes through: its blocks. -/
namespace Go.Proofs.YtmgdhlcgbgpgpaaDoor
open Go Go.RowKit
set_option linter.unusedVariables false
set_option linter.unusedSimpArgs false

/-- The blocks of inner while it goes on. -/
structure InR (w0 : World) (g4 g6 g7 g8 : Nat) (row : Int × Int × Int × Int) (lo hi : Int × Int) (wr : World) : Prop where
  below : Below w0.heap.size w0 wr
  ne : w0.heap.size ≤ g4 ∧ g4 < g6 ∧ g6 < g7 ∧ g6 < g8 ∧ g7 ≠ g8
  h4 : wr.heap[g4]? = some (.cells #[.int .i64 0, .int .i64 0] 23)
  h6 : wr.heap[g6]? = some (.cells #[.int .i64 row.1, .int .i64 row.2.1, .int .i64 row.2.2.1, .int .i64 row.2.2.2] 85)
  h7 : wr.heap[g7]? = some (.cells #[.int .i64 lo.1, .int .i64 lo.2] 23)
  h8 : wr.heap[g8]? = some (.cells #[.int .i64 hi.1, .int .i64 hi.2] 23)
section
variable {w0 wr w' : World} {g4 g6 g7 g8 : Nat} {row : Int × Int × Int × Int} {lo hi : Int × Int}
theorem InR.step (h : InR w0 g4 g6 g7 g8 row lo hi wr) (hb : Below wr.heap.size wr w') : InR w0 g4 g6 g7 g8 row lo hi w' :=
  ⟨h.below.trans (hb.mono h.below.size), h.ne, heap_keep h.h4 hb, heap_keep h.h6 hb, heap_keep h.h7 hb, heap_keep h.h8 hb⟩
theorem InR.drew (h : InR w0 g4 g6 g7 g8 row lo hi wr) : InR w0 g4 g6 g7 g8 row lo hi wr.drew := ⟨Below.drew h.below, h.ne, h.h4, h.h6, h.h7, h.h8⟩
end

theorem heap_set4 {wr : World} {k g : Nat} {o : Obj} (x y z u : Value) (h : wr.heap[k]? = some o) (hg : k ≠ g) : ((((wr.setCell ⟨g, 0, none⟩ x).setCell ⟨g, 1, none⟩ y).setCell ⟨g, 2, none⟩ z).setCell ⟨g, 3, none⟩ u).heap[k]? = some o := heap_other _ (heap_other _ (heap_other _ (heap_other _ h hg) hg) hg) hg
theorem InR.set6 {w0 wr : World} {g4 g6 g7 g8 : Nat} {row : Int × Int × Int × Int} {lo hi : Int × Int} (h : InR w0 g4 g6 g7 g8 row lo hi wr) (a b c d : Int) : InR w0 g4 g6 g7 g8 (a, b, c, d) lo hi ((((wr.setCell ⟨g6, 0, none⟩ (.int .i64 a)).setCell ⟨g6, 1, none⟩ (.int .i64 b)).setCell ⟨g6, 2, none⟩ (.int .i64 c)).setCell ⟨g6, 3, none⟩ (.int .i64 d)) := by
  have hn := h.ne
  have hl : w0.heap.size ≤ g6 := by omega
  exact ⟨(((h.below.setCell (p := ⟨g6, 0, none⟩) hl _).setCell (p := ⟨g6, 1, none⟩) hl _).setCell (p := ⟨g6, 2, none⟩) hl _).setCell (p := ⟨g6, 3, none⟩) hl _, hn, heap_set4 _ _ _ _ h.h4 (by omega), four_set h.h6 _ _ _ _, heap_set4 _ _ _ _ h.h7 (by omega), heap_set4 _ _ _ _ h.h8 (by omega)⟩
theorem InR.set7 {w0 wr : World} {g4 g6 g7 g8 : Nat} {row : Int × Int × Int × Int} {lo hi : Int × Int} (h : InR w0 g4 g6 g7 g8 row lo hi wr) (u : Int × Int) : InR w0 g4 g6 g7 g8 row u hi (wr.setRow g7 #[.int .i64 u.1, .int .i64 u.2]) := by
  have hn := h.ne
  exact ⟨below_setRow h.below (by omega) _, hn, (setRow_other _ _ _ _ (by omega)).trans h.h4, (setRow_other _ _ _ _ (by omega)).trans h.h6, setRow_heap _ _ _ _ _ _ h.h7, (setRow_other _ _ _ _ (by omega)).trans h.h8⟩
theorem InR.set8 {w0 wr : World} {g4 g6 g7 g8 : Nat} {row : Int × Int × Int × Int} {lo hi : Int × Int} (h : InR w0 g4 g6 g7 g8 row lo hi wr) (x y : Int) : InR w0 g4 g6 g7 g8 row lo (x, y) ((wr.setCell ⟨g8, 0, none⟩ (.int .i64 x)).setCell ⟨g8, 1, none⟩ (.int .i64 y)) := by
  have hn := h.ne
  have hl : w0.heap.size ≤ g8 := by omega
  exact ⟨(h.below.setCell (p := ⟨g8, 0, none⟩) hl _).setCell (p := ⟨g8, 1, none⟩) hl _, hn, heap_other _ (heap_other _ h.h4 (by omega)) (by omega), heap_other _ (heap_other _ h.h6 (by omega)) (by omega), heap_other _ (heap_other _ h.h7 (by omega)) (by omega), rat_cells h.h8 _ _⟩
theorem InR.stR {w0 wr : World} {g4 g6 g7 g8 g : Nat} {row : Int × Int × Int × Int} {lo hi : Int × Int} (h : InR w0 g4 g6 g7 g8 row lo hi wr) (hg : g7 < g ∧ g8 < g) (cs : Array Value) : InR w0 g4 g6 g7 g8 row lo hi (wr.setRow g cs) := by
  have hn := h.ne
  exact ⟨below_setRow h.below (by omega) _, hn, (setRow_other _ _ _ _ (by omega)).trans h.h4, (setRow_other _ _ _ _ (by omega)).trans h.h6, (setRow_other _ _ _ _ (by omega)).trans h.h7, (setRow_other _ _ _ _ (by omega)).trans h.h8⟩
theorem InR.told {w0 wr : World} {g4 g6 g7 g8 : Nat} {row : Int × Int × Int × Int} {lo hi : Int × Int} (h : InR w0 g4 g6 g7 g8 row lo hi wr) (x y : Value) : ((wr.setCell ⟨g4, 0, none⟩ x).setCell ⟨g4, 1, none⟩ y).heap[g4]? = some (.cells #[x, y] 23) ∧ Below w0.heap.size w0 ((wr.setCell ⟨g4, 0, none⟩ x).setCell ⟨g4, 1, none⟩ y) := by
  have hn := h.ne
  have hl : w0.heap.size ≤ g4 := by omega
  exact ⟨rat_cells h.h4 _ _, (h.below.setCell (p := ⟨g4, 0, none⟩) hl _).setCell (p := ⟨g4, 1, none⟩) hl _⟩
/-- The same beside two blocks of the round's own. -/
structure In12 (w0 : World) (g4 g6 g7 g8 : Nat) (row : Int × Int × Int × Int) (lo hi : Int × Int) (ga gb : Nat) (u v : Int × Int) (wr : World) : Prop where
  r : InR w0 g4 g6 g7 g8 row lo hi wr
  lt : g7 < ga ∧ g8 < ga ∧ g7 < gb ∧ g8 < gb
  ha : wr.heap[ga]? = some (.cells #[.int .i64 u.1, .int .i64 u.2] 23)
  hb : wr.heap[gb]? = some (.cells #[.int .i64 v.1, .int .i64 v.2] 23)
section
variable {w0 wr w' : World} {g4 g6 g7 g8 ga gb : Nat} {row : Int × Int × Int × Int} {lo hi u v : Int × Int}
theorem In12.step (h : In12 w0 g4 g6 g7 g8 row lo hi ga gb u v wr) (hb : Below wr.heap.size wr w') : In12 w0 g4 g6 g7 g8 row lo hi ga gb u v w' := ⟨h.r.step hb, h.lt, heap_keep h.ha hb, heap_keep h.hb hb⟩
theorem In12.drew (h : In12 w0 g4 g6 g7 g8 row lo hi ga gb u v wr) : In12 w0 g4 g6 g7 g8 row lo hi ga gb u v wr.drew := ⟨h.r.drew, h.lt, h.ha, h.hb⟩
theorem In12.set7 (h : In12 w0 g4 g6 g7 g8 row lo hi ga gb u v wr) (x : Int × Int) : In12 w0 g4 g6 g7 g8 row x hi ga gb u v (wr.setRow g7 #[.int .i64 x.1, .int .i64 x.2]) := by
  have hn := h.lt
  exact ⟨h.r.set7 x, hn, (setRow_other _ _ _ _ (by omega)).trans h.ha, (setRow_other _ _ _ _ (by omega)).trans h.hb⟩
end
theorem in_start (w : World) (l1 l2 h1 h2 : Int) : InR w (w.heap.size + 1 + 1) (w.heap.size + 1 + 1 + 1) (w.heap.size + 1 + 1 + 1 + 1) (w.heap.size + 1 + 1 + 1 + 1 + 1) (1, 0, 0, 1) (l1, l2) (h1, h2) ((((((w.alloc (.cells #[.int .i64 l1, .int .i64 l2] 23)).alloc (.cells #[.int .i64 h1, .int .i64 h2] 23)).alloc (.cells #[.int .i64 0, .int .i64 0] 23)).alloc (.cells #[.int .i64 1, .int .i64 0, .int .i64 0, .int .i64 1] 85)).alloc (.cells #[.int .i64 l1, .int .i64 l2] 23)).alloc (.cells #[.int .i64 h1, .int .i64 h2] 23)).drew ∧
    InR w (w.heap.size + 1 + 1) (w.heap.size + 1 + 1 + 1) (w.heap.size + 1 + 1 + 1 + 1 + 1) (w.heap.size + 1 + 1 + 1 + 1) (1, 0, 0, 1) (l1, l2) (h1, h2) ((((((w.alloc (.cells #[.int .i64 l1, .int .i64 l2] 23)).alloc (.cells #[.int .i64 h1, .int .i64 h2] 23)).alloc (.cells #[.int .i64 0, .int .i64 0] 23)).alloc (.cells #[.int .i64 1, .int .i64 0, .int .i64 0, .int .i64 1] 85)).alloc (.cells #[.int .i64 h1, .int .i64 h2] 23)).alloc (.cells #[.int .i64 l1, .int .i64 l2] 23)).drew := by
  have hz3 : ∀ (w : World) (o : Obj), (w.alloc o).heap.size = w.heap.size + 1 := fun w o => by simp
  obtain ⟨q1, q2⟩ := two_fr w (.cells #[.int .i64 l1, .int .i64 l2] 23) (.cells #[.int .i64 h1, .int .i64 h2] 23)
  obtain ⟨q3, q4⟩ := two_fr ((w.alloc (.cells #[.int .i64 l1, .int .i64 l2] 23)).alloc (.cells #[.int .i64 h1, .int .i64 h2] 23)) (.cells #[.int .i64 0, .int .i64 0] 23) (.cells #[.int .i64 1, .int .i64 0, .int .i64 0, .int .i64 1] 85)
  have hb4 := (below_two w (.cells #[.int .i64 l1, .int .i64 l2] 23) (.cells #[.int .i64 h1, .int .i64 h2] 23)).trans ((below_two ((w.alloc (.cells #[.int .i64 l1, .int .i64 l2] 23)).alloc (.cells #[.int .i64 h1, .int .i64 h2] 23)) (.cells #[.int .i64 0, .int .i64 0] 23) (.cells #[.int .i64 1, .int .i64 0, .int .i64 0, .int .i64 1] 85)).mono (by simp only [hz3]; omega))
  simp only [hz3] at q3 q4
  obtain ⟨a1, a2⟩ := two_fr ((((w.alloc (.cells #[.int .i64 l1, .int .i64 l2] 23)).alloc (.cells #[.int .i64 h1, .int .i64 h2] 23)).alloc (.cells #[.int .i64 0, .int .i64 0] 23)).alloc (.cells #[.int .i64 1, .int .i64 0, .int .i64 0, .int .i64 1] 85)) (.cells #[.int .i64 l1, .int .i64 l2] 23) (.cells #[.int .i64 h1, .int .i64 h2] 23)
  obtain ⟨b1, b2⟩ := two_fr ((((w.alloc (.cells #[.int .i64 l1, .int .i64 l2] 23)).alloc (.cells #[.int .i64 h1, .int .i64 h2] 23)).alloc (.cells #[.int .i64 0, .int .i64 0] 23)).alloc (.cells #[.int .i64 1, .int .i64 0, .int .i64 0, .int .i64 1] 85)) (.cells #[.int .i64 h1, .int .i64 h2] 23) (.cells #[.int .i64 l1, .int .i64 l2] 23)
  have c1 := hb4.trans ((below_two ((((w.alloc (.cells #[.int .i64 l1, .int .i64 l2] 23)).alloc (.cells #[.int .i64 h1, .int .i64 h2] 23)).alloc (.cells #[.int .i64 0, .int .i64 0] 23)).alloc (.cells #[.int .i64 1, .int .i64 0, .int .i64 0, .int .i64 1] 85)) (.cells #[.int .i64 l1, .int .i64 l2] 23) (.cells #[.int .i64 h1, .int .i64 h2] 23)).mono hb4.size)
  have c2 := hb4.trans ((below_two ((((w.alloc (.cells #[.int .i64 l1, .int .i64 l2] 23)).alloc (.cells #[.int .i64 h1, .int .i64 h2] 23)).alloc (.cells #[.int .i64 0, .int .i64 0] 23)).alloc (.cells #[.int .i64 1, .int .i64 0, .int .i64 0, .int .i64 1] 85)) (.cells #[.int .i64 h1, .int .i64 h2] 23) (.cells #[.int .i64 l1, .int .i64 l2] 23)).mono hb4.size)
  have d1 := heap_keep q3 (below_two ((((w.alloc (.cells #[.int .i64 l1, .int .i64 l2] 23)).alloc (.cells #[.int .i64 h1, .int .i64 h2] 23)).alloc (.cells #[.int .i64 0, .int .i64 0] 23)).alloc (.cells #[.int .i64 1, .int .i64 0, .int .i64 0, .int .i64 1] 85)) (.cells #[.int .i64 l1, .int .i64 l2] 23) (.cells #[.int .i64 h1, .int .i64 h2] 23))
  have d2 := heap_keep q3 (below_two ((((w.alloc (.cells #[.int .i64 l1, .int .i64 l2] 23)).alloc (.cells #[.int .i64 h1, .int .i64 h2] 23)).alloc (.cells #[.int .i64 0, .int .i64 0] 23)).alloc (.cells #[.int .i64 1, .int .i64 0, .int .i64 0, .int .i64 1] 85)) (.cells #[.int .i64 h1, .int .i64 h2] 23) (.cells #[.int .i64 l1, .int .i64 l2] 23))
  have e1 := heap_keep q4 (below_two ((((w.alloc (.cells #[.int .i64 l1, .int .i64 l2] 23)).alloc (.cells #[.int .i64 h1, .int .i64 h2] 23)).alloc (.cells #[.int .i64 0, .int .i64 0] 23)).alloc (.cells #[.int .i64 1, .int .i64 0, .int .i64 0, .int .i64 1] 85)) (.cells #[.int .i64 l1, .int .i64 l2] 23) (.cells #[.int .i64 h1, .int .i64 h2] 23))
  have e2 := heap_keep q4 (below_two ((((w.alloc (.cells #[.int .i64 l1, .int .i64 l2] 23)).alloc (.cells #[.int .i64 h1, .int .i64 h2] 23)).alloc (.cells #[.int .i64 0, .int .i64 0] 23)).alloc (.cells #[.int .i64 1, .int .i64 0, .int .i64 0, .int .i64 1] 85)) (.cells #[.int .i64 h1, .int .i64 h2] 23) (.cells #[.int .i64 l1, .int .i64 l2] 23))
  simp only [hz3] at a1 a2 b1 b2
  exact ⟨InR.drew ⟨c1, ⟨by omega, by omega, by omega, by omega, by omega⟩, d1, e1, a1, a2⟩, InR.drew ⟨c2, ⟨by omega, by omega, by omega, by omega, by omega⟩, d2, e2, b2, b1⟩⟩


end Go.Proofs.YtmgdhlcgbgpgpaaDoor
