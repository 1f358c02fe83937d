/- Texts of ours, laid together: Te, Vx, Vy, Vz, Wa, Wb, Wc, Wd. -/
import Derived.Deep.DeepCutAuto
import Derived.Test.YtmelblnflalanaaGreatMg7
/- Whole numbers below, and what is left, as the document reckons them. -/
namespace Go.Proofs.YtmelblnflalanaaGreat
open Go Go.RowKit
set_option linter.unusedVariables false
set_option linter.unusedSimpArgs false

set_option maxRecDepth 100000 in
set_option maxHeartbeats 2000000 in
theorem dfloor_any (x y : Int) (hx : I64 x) (hy : I64 y) (w : World) : Calls Tryz.prog 67 #[.agg #[.int .i64 x, .int .i64 y]] w fun e w' => e = .returned (.int .i64 (floorP (x, y))) ∧ Below w.heap.size w w' := by
  have HR := Lib.hid (fun W => dright_any x y hx hy W)
  have HA1 := Lib.hid (show rightR (x, y) = true → floorP (x, y) = x / y from fun h => by unfold floorP; rw [if_pos h])
  have HA0 := Lib.hid (show rightR (x, y) = false → floorP (x, y) = 0 from fun h => by unfold floorP; rw [if_neg (by rw [h]; decide)])
  have HPY := Lib.hid (fun (h : rightR (x, y) = true) => right_pos h)
  obtain ⟨AP, hAP⟩ : ∃ AP, AP = floorP (x, y) := ⟨_, rfl⟩
  obtain ⟨rb, hrb⟩ : ∃ rb, rb = rightR (x, y) := ⟨_, rfl⟩
  rw [← hAP] at HA1 HA0 ⊢
  rw [← hrb] at HA1 HA0 HR HPY
  have H1 := Lib.hid (heap_alloc_new w (.cells #[.int .i64 x, .int .i64 y] 24))
  have HB := Lib.hid (below_one w (.cells #[.int .i64 x, .int .i64 y] 24))
  clear hAP hrb
  go_enter Tryz.func67, Tryz.ntmps67
  go_upto_region 1 with fail
  generalize w.alloc (.cells #[.int .i64 x, .int .i64 y] 24) = w1 at *
  obtain ⟨k1, k2, _, _⟩ := cell_two H1.out
  go_wp2_with fail
  refine (HR.out _).mono ?_
  rintro e w2 ⟨rfl, hb⟩
  have H2 := Lib.hid (heap_keep H1.out hb)
  have HB2 := Lib.hid (HB.out.trans (hb.mono HB.out.size))
  clear hb H1 HB k1 k2
  obtain ⟨k1, k2, _, _⟩ := cell_two H2.out
  cases rb with
  | false =>
    have HE := Lib.hid (HA0.out (by simp))
    clear HA0 HA1
    go_wp2
    go_ret
    exact ⟨by rw [HE.out]; rfl, HB2.out⟩
  | true =>
    have py := HPY.out (by simp)
    have HE := Lib.hid (HA1.out (by simp))
    have hy0 : ¬ y = 0 := by omega
    have hy1 : (y == 0) = false := by simp [hy0]
    have hy2 : (y == -1) = false := by simp; omega
    obtain ⟨⟨r1, r2⟩, r3, r4⟩ := tdiv_range hx py
    obtain ⟨⟨s1, s2⟩, s3, s4⟩ := div_range hx py
    have g1 : IntKind.i64.wrap (x.tdiv y) = x.tdiv y := IntWalk.i64_in _ (by omega)
    have g2 : IntKind.i64.wrap (x.tmod y) = x.tmod y := IntWalk.i64_in _ (by obtain ⟨_, _⟩ := hy; omega)
    by_cases hm : x.tmod y < 0
    · obtain ⟨e1, e2⟩ := tm_neg py hm
      have d1 : decide (x.tmod y < 0) = true := decide_eq_true hm
      have g3 : IntKind.i64.wrap (x.tdiv y - 1) = x.tdiv y - 1 := IntWalk.i64_in _ (by omega)
      have HE2 := Lib.hid (show AP = x.tdiv y - 1 by rw [HE.out, e1])
      clear HE HA0 HA1 e1 e2 r1 r2 r3 r4 s1 s2 s3 s4
      go_wp2
      go_ret
      exact ⟨by rw [HE2.out]; rfl, HB2.out⟩
    · obtain ⟨e1, e2⟩ := tm_pos py hm
      have d1 : decide (x.tmod y < 0) = false := decide_eq_false hm
      have HE2 := Lib.hid (show AP = x.tdiv y by rw [HE.out, e1])
      clear HE HA0 HA1 e1 e2 r1 r2 r3 r4 s1 s2 s3 s4
      go_wp2
      go_ret
      exact ⟨by rw [HE2.out]; rfl, HB2.out⟩


set_option maxRecDepth 100000 in
set_option maxHeartbeats 2000000 in
theorem dfrac_any (x y : Int) (hx : I64 x) (hy : I64 y) (w : World) : Calls Tryz.prog 69 #[.agg #[.int .i64 x, .int .i64 y]] w fun e w' => e = .returned (rtV (partP (x, y))) ∧ Below w.heap.size w w' := by
  have HR := Lib.hid (fun W => dright_any x y hx hy W)
  have HA1 := Lib.hid (show rightR (x, y) = true → partP (x, y) = (x % y, y) from fun h => by unfold partP; rw [if_pos h])
  have HA0 := Lib.hid (show rightR (x, y) = false → partP (x, y) = (0, 0) from fun h => by unfold partP; rw [if_neg (by rw [h]; decide)])
  have HPY := Lib.hid (fun (h : rightR (x, y) = true) => right_pos h)
  obtain ⟨AP, hAP⟩ : ∃ AP, AP = partP (x, y) := ⟨_, rfl⟩
  obtain ⟨rb, hrb⟩ : ∃ rb, rb = rightR (x, y) := ⟨_, rfl⟩
  rw [← hAP] at HA1 HA0 ⊢
  rw [← hrb] at HA1 HA0 HR HPY
  obtain ⟨q1, q2⟩ := two_fr w (.cells #[.int .i64 x, .int .i64 y] 24) (.cells #[.int .i64 0, .int .i64 0] 24)
  have H1 := Lib.hid q1
  have H0 := Lib.hid q2
  have HB := Lib.hid (below_two w (.cells #[.int .i64 x, .int .i64 y] 24) (.cells #[.int .i64 0, .int .i64 0] 24))
  have hle : w.heap.size ≤ w.heap.size + 1 := by omega
  clear hAP hrb q1 q2
  go_enter Tryz.func69, Tryz.ntmps69
  go_upto_region 1 with fail
  generalize (w.alloc (.cells #[.int .i64 x, .int .i64 y] 24)).alloc (.cells #[.int .i64 0, .int .i64 0] 24) = w1 at *
  obtain ⟨k1, k2, _, _⟩ := cell_two H1.out
  go_wp2_with fail
  refine (HR.out _).mono ?_
  rintro e w2 ⟨rfl, hb⟩
  have H2 := Lib.hid (heap_keep H1.out hb)
  have H02 := Lib.hid (heap_keep H0.out hb)
  have HB2 := Lib.hid (HB.out.trans (hb.mono HB.out.size))
  clear hb H1 H0 HB k1 k2
  obtain ⟨k1, k2, _, _⟩ := cell_two H2.out
  obtain ⟨k3, k4, k5, k6⟩ := cell_two H02.out
  cases rb with
  | false =>
    have HE := Lib.hid (HA0.out (by simp))
    have T1 := Lib.hid (rat_cells H02.out (.int .i64 0) (.int .i64 0))
    have T2 := Lib.hid ((HB2.out.setCell (p := ⟨w.heap.size + 1, 0, none⟩) hle (.int .i64 0)).setCell (p := ⟨w.heap.size + 1, 1, none⟩) hle (.int .i64 0))
    clear HA0 HA1
    go_wp2
    refine bodyPost_ret (results_cell_row (fn := Tryz.f69) rfl _ _ (w.heap.size + 1) _ _ _ _ rfl T1.out Tryz.underlying24 rfl (by kernel_rfl)) rfl ?_
    exact ⟨by rw [HE.out]; rfl, T2.out⟩
  | true =>
    have py := HPY.out (by simp)
    have HE := Lib.hid (HA1.out (by simp))
    have hy0 : ¬ y = 0 := by omega
    have hy1 : (y == 0) = false := by simp [hy0]
    have hy2 : (y == -1) = false := by simp; omega
    obtain ⟨r0, r3, r4⟩ := tdiv_range hx py
    obtain ⟨s0, s3, s4⟩ := div_range hx py
    have g2 : IntKind.i64.wrap (x.tmod y) = x.tmod y := IntWalk.i64_in _ (by obtain ⟨_, _⟩ := hy; omega)
    by_cases hm : x.tmod y < 0
    · obtain ⟨e1, e2⟩ := tm_neg py hm
      have d1 : decide (x.tmod y < 0) = true := decide_eq_true hm
      have g3 : IntKind.i64.wrap (x.tmod y + y) = x.tmod y + y := IntWalk.i64_in _ (by obtain ⟨_, _⟩ := hy; omega)
      have HE2 := Lib.hid (show AP = (x.tmod y + y, y) by rw [HE.out, e2])
      have T1 := Lib.hid (rat_cells H02.out (.int .i64 (x.tmod y + y)) (.int .i64 y))
      have T2 := Lib.hid ((HB2.out.setCell (p := ⟨w.heap.size + 1, 0, none⟩) hle (.int .i64 (x.tmod y + y))).setCell (p := ⟨w.heap.size + 1, 1, none⟩) hle (.int .i64 y))
      clear HE HA0 HA1 e1 e2 r0 r3 r4 s0 s3 s4
      go_wp2
      refine bodyPost_ret (results_cell_row (fn := Tryz.f69) rfl _ _ (w.heap.size + 1) _ _ _ _ rfl T1.out Tryz.underlying24 rfl (by kernel_rfl)) rfl ?_
      exact ⟨by rw [HE2.out]; rfl, T2.out⟩
    · obtain ⟨e1, e2⟩ := tm_pos py hm
      have d1 : decide (x.tmod y < 0) = false := decide_eq_false hm
      have HE2 := Lib.hid (show AP = (x.tmod y, y) by rw [HE.out, e2])
      have T1 := Lib.hid (rat_cells H02.out (.int .i64 (x.tmod y)) (.int .i64 y))
      have T2 := Lib.hid ((HB2.out.setCell (p := ⟨w.heap.size + 1, 0, none⟩) hle (.int .i64 (x.tmod y))).setCell (p := ⟨w.heap.size + 1, 1, none⟩) hle (.int .i64 y))
      clear HE HA0 HA1 e1 e2 r0 r3 r4 s0 s3 s4
      go_wp2
      refine bodyPost_ret (results_cell_row (fn := Tryz.f69) rfl _ _ (w.heap.size + 1) _ _ _ _ rfl T1.out Tryz.underlying24 rfl (by kernel_rfl)) rfl ?_
      exact ⟨by rw [HE2.out]; rfl, T2.out⟩


end Go.Proofs.YtmelblnflalanaaGreat

/- The fraction of a sign and two sizes, as the document makes it. -/
namespace Go.Proofs.YtmelblnflalanaaGreat
open Go Go.RowKit
set_option linter.unusedVariables false
set_option linter.unusedSimpArgs false

set_option maxRecDepth 100000 in
set_option maxHeartbeats 16000000 in
theorem held_any (neg : Bool) (a b : Nat) (w : World) (ha : a ≤ 170141183460469231731687303715884105728) (hb : b ≤ 170141183460469231731687303715884105728) :
    Calls Tryz.prog 96 #[.bool neg, szV a, szV b] w fun e w' => e = .returned (.tuple #[rtV (heldP neg a b).1, .int .i64 (heldP neg a b).2]) ∧ Below w.heap.size w w' := by
  have hz3 : ∀ (w : World) (o : Obj), (w.alloc o).heap.size = w.heap.size + 1 := fun w o => by simp
  obtain ⟨q1, q2⟩ := two_fr w (.cells #[.int .u64 (hiN a), .int .u64 (loN a)] 96) (.cells #[.int .u64 (hiN b), .int .u64 (loN b)] 96)
  have q3 := heap_alloc_new ((w.alloc (.cells #[.int .u64 (hiN a), .int .u64 (loN a)] 96)).alloc (.cells #[.int .u64 (hiN b), .int .u64 (loN b)] 96)) (.cells #[.int .i64 0, .int .i64 0] 24)
  simp only [hz3] at q3
  have H4 := Lib.hid ((heap_alloc_old _ (.cells #[.int .i64 0, .int .i64 0] 24) (heap_lt2 q1)).trans q1)
  have H5 := Lib.hid ((heap_alloc_old _ (.cells #[.int .i64 0, .int .i64 0] 24) (heap_lt2 q2)).trans q2)
  have H6 := Lib.hid q3
  have HB := Lib.hid (below_three w (.cells #[.int .u64 (hiN a), .int .u64 (loN a)] 96) (.cells #[.int .u64 (hiN b), .int .u64 (loN b)] 96) (.cells #[.int .i64 0, .int .i64 0] 24))
  clear q1 q2 q3 hz3
  by_cases hb0 : b = 0
  · have HA := Lib.hid (show heldP neg a b = ((0, 0), 21) by unfold heldP; rw [if_pos hb0])
    have e1 : (hiN b == 0) = true := by rw [hb0]; rfl
    have e2 : (loN b == 0) = true := by rw [hb0]; rfl
    rw [HA.out]
    clear hb0 HA
    unfold szV
    go_enter Tryz.func96, Tryz.ntmps96
    go_upto_region 1 with fail
    generalize ((w.alloc (.cells #[.int .u64 (hiN a), .int .u64 (loN a)] 96)).alloc (.cells #[.int .u64 (hiN b), .int .u64 (loN b)] 96)).alloc (.cells #[.int .i64 0, .int .i64 0] 24) = w1 at *
    obtain ⟨k1, k2, _, _⟩ := cell_two H5.out
    obtain ⟨k3, k4, k5, k6⟩ := cell_two H6.out
    have hle : w.heap.size ≤ w.heap.size + 1 + 1 := by omega
    have T1 := Lib.hid (rat_cells H6.out (.int .i64 0) (.int .i64 0))
    have T2 := Lib.hid ((HB.out.setCell (p := ⟨w.heap.size + 1 + 1, 0, none⟩) hle (.int .i64 0)).setCell (p := ⟨w.heap.size + 1 + 1, 1, none⟩) hle (.int .i64 0))
    go_wp2
    refine bodyPost_ret (results_row_tmp (fn := Tryz.f96) rfl _ _ (w.heap.size + 1 + 1) _ _ _ _ rfl T1.out Tryz.underlying24 rfl (by kernel_rfl)) rfl ?_
    exact ⟨rfl, T2.out⟩
  · have e0 : ((hiN b == 0) && (loN b == 0)) = false := by
      rw [Bool.eq_false_iff]; intro h
      rw [Bool.and_eq_true] at h
      exact hb0 (hilo_zero.1 ⟨by simpa using h.1, by simpa using h.2⟩)
    have HA := Lib.hid (show heldP neg a b = fracS neg a b by unfold heldP; rw [if_neg hb0])
    have hg : 0 < Nat.gcd a b := Nat.gcd_pos_of_pos_right _ (by omega)
    have hgb : Nat.gcd a b ≤ b := Nat.le_of_dvd (by omega) (Nat.gcd_dvd_right _ _)
    have HC : Hid (∀ W, Calls Tryz.prog 59 #[.agg #[.int .u64 (hiN a), .int .u64 (loN a)], .agg #[.int .u64 (hiN b), .int .u64 (loN b)]] W fun e w' => e = .returned (.agg #[.int .u64 (hiN (Nat.gcd a b)), .int .u64 (loN (Nat.gcd a b))]) ∧ Below W.heap.size W w') := Lib.hid (fun W => dcommon_any a b ha hb W)
    have HF := Lib.hid (show fracS neg a b = if fitsI (sgnI neg (a / Nat.gcd a b)) = true ∧ b / Nat.gcd a b ≤ 9223372036854775807 then ((sgnI neg (a / Nat.gcd a b), ((b / Nat.gcd a b : Nat) : Int)), 0) else ((0, 0), 20) from rfl)
    obtain ⟨G, hG⟩ : ∃ G, G = Nat.gcd a b := ⟨_, rfl⟩
    rw [← hG] at hg hgb HC HF
    clear hG
    have HO1 : Hid (∀ W, Calls Tryz.prog 94 #[.agg #[.int .u64 (hiN a), .int .u64 (loN a)], .agg #[.int .u64 (hiN G), .int .u64 (loN G)]] W fun e w' => e = .returned (.tuple #[.agg #[.int .u64 (hiN (a / G)), .int .u64 (loN (a / G))], .agg #[.int .u64 (hiN (a % G)), .int .u64 (loN (a % G))]]) ∧ Below W.heap.size W w') := Lib.hid (fun W => divide_any a G (by omega) hg (by omega) W)
    have HO2 : Hid (∀ W, Calls Tryz.prog 94 #[.agg #[.int .u64 (hiN b), .int .u64 (loN b)], .agg #[.int .u64 (hiN G), .int .u64 (loN G)]] W fun e w' => e = .returned (.tuple #[.agg #[.int .u64 (hiN (b / G)), .int .u64 (loN (b / G))], .agg #[.int .u64 (hiN (b % G)), .int .u64 (loN (b % G))]]) ∧ Below W.heap.size W w') := Lib.hid (fun W => divide_any b G (by omega) hg (by omega) W)
    obtain ⟨n, hn⟩ : ∃ n, n = a / G := ⟨_, rfl⟩
    obtain ⟨d, hd⟩ : ∃ d, d = b / G := ⟨_, rfl⟩
    obtain ⟨m1, hm1⟩ : ∃ m, m = a % G := ⟨_, rfl⟩
    obtain ⟨m2, hm2⟩ : ∃ m, m = b % G := ⟨_, rfl⟩
    rw [← hn] at HO1 HF
    rw [← hd] at HO2 HF
    rw [← hm1] at HO1
    rw [← hm2] at HO2
    have hn1 : n < 340282366920938463463374607431768211456 := by rw [hn]; exact Nat.lt_of_le_of_lt (Nat.div_le_self _ _) (by omega)
    have hd1 : d < 340282366920938463463374607431768211456 := by rw [hd]; exact Nat.lt_of_le_of_lt (Nat.div_le_self _ _) (by omega)
    obtain ⟨AP, hAP⟩ : ∃ AP, AP = heldP neg a b := ⟨_, rfl⟩
    rw [← hAP] at HA ⊢
    have HAF := Lib.hid (HA.out.trans HF.out)
    have HN1 := Lib.hid hn1
    have HD1 := Lib.hid hd1
    clear hn hd hm1 hm2 hAP HA HF hn1 hd1 hg hgb ha hb hb0
    unfold szV
    go_enter Tryz.func96, Tryz.ntmps96
    go_upto_region 1 with fail
    generalize ((w.alloc (.cells #[.int .u64 (hiN a), .int .u64 (loN a)] 96)).alloc (.cells #[.int .u64 (hiN b), .int .u64 (loN b)] 96)).alloc (.cells #[.int .i64 0, .int .i64 0] 24) = w1 at *
    obtain ⟨g6, hg6⟩ : ∃ g, g = w.heap.size + 1 + 1 := ⟨_, rfl⟩
    rw [← hg6] at H6 ⊢
    obtain ⟨g5, hg5⟩ : ∃ g, g = w.heap.size + 1 := ⟨_, rfl⟩
    rw [← hg5] at H5 ⊢
    have hle : w.heap.size ≤ g6 := by omega
    clear hg6 hg5
    go_cut [17] (fun s17 wx => s17 = .bool false ∧ Hid (wx = w1))
    case first =>
      obtain ⟨k1, k2, _, _⟩ := cell_two H5.out
      cases e1 : (hiN b == 0) with
      | true =>
        have e2 : (loN b == 0) = false := by rw [e1, Bool.true_and] at e0; exact e0
        clear e0
        go_wp2_with fail
        go_meet
        exact ⟨rfl, rfl⟩
      | false =>
        clear e0
        go_wp2_with fail
        go_meet
        exact ⟨rfl, rfl⟩
    case rest =>
      obtain ⟨rfl, hcw⟩ := hcut
      have hcw := hcw.out
      subst hcw
      clear e0
      obtain ⟨k40, k41, k42, k43⟩ := cell_two H4.out
      obtain ⟨k50, k51, k52, k53⟩ := cell_two H5.out
      go_wp2_with fail
      refine (HC.out _).mono ?_
      rintro e w2 ⟨rfl, hb⟩
      clear k40 k41 k42 k43 k50 k51 k52 k53
      have H4' := Lib.hid (heap_keep H4.out hb)
      have H5' := Lib.hid (heap_keep H5.out hb)
      have H6' := Lib.hid (heap_keep H6.out hb)
      have HB' := Lib.hid (HB.out.trans (hb.mono HB.out.size))
      clear HB H4 H5 H6
      have H4 := H4'
      have H5 := H5'
      have H6 := H6'
      have HB := HB'
      clear HB' H4' H5' H6'
      clear hb
      go_upto_region 4 with fail
      have hb := below_one w2 (.cells #[.int .u64 (hiN G), .int .u64 (loN G)] 96)
      have q := heap_alloc_new w2 (.cells #[.int .u64 (hiN G), .int .u64 (loN G)] 96)
      have H8 := Lib.hid q
      have H4' := Lib.hid (heap_keep H4.out hb)
      have H5' := Lib.hid (heap_keep H5.out hb)
      have H6' := Lib.hid (heap_keep H6.out hb)
      have HB' := Lib.hid (HB.out.trans (hb.mono HB.out.size))
      clear HB H4 H5 H6
      have H4 := H4'
      have H5 := H5'
      have H6 := H6'
      have HB := HB'
      clear HB' H4' H5' H6'
      generalize w2.alloc (.cells #[.int .u64 (hiN G), .int .u64 (loN G)] 96) = w3 at *
      obtain ⟨g8, hg8⟩ : ∃ g, g = w2.heap.size := ⟨_, rfl⟩
      rw [← hg8] at H8 ⊢
      clear hb q hg8
      obtain ⟨k40, k41, k42, k43⟩ := cell_two H4.out
      obtain ⟨k80, k81, k82, k83⟩ := cell_two H8.out
      go_wp2_with fail
      refine (HO1.out _).mono ?_
      rintro e w4 ⟨rfl, hb⟩
      clear k40 k41 k42 k43 k80 k81 k82 k83
      have H4' := Lib.hid (heap_keep H4.out hb)
      have H5' := Lib.hid (heap_keep H5.out hb)
      have H6' := Lib.hid (heap_keep H6.out hb)
      have H8' := Lib.hid (heap_keep H8.out hb)
      have HB' := Lib.hid (HB.out.trans (hb.mono HB.out.size))
      clear HB H4 H5 H6 H8
      have H4 := H4'
      have H5 := H5'
      have H6 := H6'
      have H8 := H8'
      have HB := HB'
      clear HB' H4' H5' H6' H8'
      clear hb
      have HF := Lib.hid (two_fr w4 (.cells #[.int .u64 0, .int .u64 0] 96) (.cells #[.int .u64 0, .int .u64 0] 96))
      go_upto_region 5 with (first | (refine wpList_store_row rfl 96 _ _ rfl w4.heap.size _ rfl rfl 96 _ HF.out.1 (by kernel_rfl) rfl (by kernel_rfl) ?_) | (refine wpList_store_row rfl 96 _ _ rfl (w4.heap.size + 1) _ rfl rfl 96 _ (second_fr _ HF.out.2) (by kernel_rfl) rfl (by kernel_rfl) ?_))
      obtain ⟨hb, q, _⟩ := pair_st w4 96 96 #[.int .u64 0, .int .u64 0] #[.int .u64 0, .int .u64 0] #[.int .u64 (hiN n), .int .u64 (loN n)] #[.int .u64 (hiN m1), .int .u64 (loN m1)]
      have H9 := Lib.hid q
      have H4' := Lib.hid (heap_keep H4.out hb)
      have H5' := Lib.hid (heap_keep H5.out hb)
      have H6' := Lib.hid (heap_keep H6.out hb)
      have H8' := Lib.hid (heap_keep H8.out hb)
      have HB' := Lib.hid (HB.out.trans (hb.mono HB.out.size))
      clear HB H4 H5 H6 H8
      have H4 := H4'
      have H5 := H5'
      have H6 := H6'
      have H8 := H8'
      have HB := HB'
      clear HB' H4' H5' H6' H8'
      generalize (((w4.alloc (.cells #[.int .u64 0, .int .u64 0] 96)).alloc (.cells #[.int .u64 0, .int .u64 0] 96)).setRow w4.heap.size #[.int .u64 (hiN n), .int .u64 (loN n)]).setRow (w4.heap.size + 1) #[.int .u64 (hiN m1), .int .u64 (loN m1)] = w5 at *
      obtain ⟨g9, hg9⟩ : ∃ g, g = w4.heap.size := ⟨_, rfl⟩
      rw [← hg9] at H9 ⊢
      clear hb q hg9 HF
      obtain ⟨k50, k51, k52, k53⟩ := cell_two H5.out
      obtain ⟨k80, k81, k82, k83⟩ := cell_two H8.out
      go_wp2_with fail
      refine (HO2.out _).mono ?_
      rintro e w6 ⟨rfl, hb⟩
      clear k50 k51 k52 k53 k80 k81 k82 k83
      have H4' := Lib.hid (heap_keep H4.out hb)
      have H5' := Lib.hid (heap_keep H5.out hb)
      have H6' := Lib.hid (heap_keep H6.out hb)
      have H8' := Lib.hid (heap_keep H8.out hb)
      have H9' := Lib.hid (heap_keep H9.out hb)
      have HB' := Lib.hid (HB.out.trans (hb.mono HB.out.size))
      clear HB H4 H5 H6 H8 H9
      have H4 := H4'
      have H5 := H5'
      have H6 := H6'
      have H8 := H8'
      have H9 := H9'
      have HB := HB'
      clear HB' H4' H5' H6' H8' H9'
      clear hb
      have HF := Lib.hid (two_fr w6 (.cells #[.int .u64 0, .int .u64 0] 96) (.cells #[.int .u64 0, .int .u64 0] 96))
      go_upto_region 6 with (first | (refine wpList_store_row rfl 96 _ _ rfl w6.heap.size _ rfl rfl 96 _ HF.out.1 (by kernel_rfl) rfl (by kernel_rfl) ?_) | (refine wpList_store_row rfl 96 _ _ rfl (w6.heap.size + 1) _ rfl rfl 96 _ (second_fr _ HF.out.2) (by kernel_rfl) rfl (by kernel_rfl) ?_))
      obtain ⟨hb, q, _⟩ := pair_st w6 96 96 #[.int .u64 0, .int .u64 0] #[.int .u64 0, .int .u64 0] #[.int .u64 (hiN d), .int .u64 (loN d)] #[.int .u64 (hiN m2), .int .u64 (loN m2)]
      have H11 := Lib.hid q
      have H4' := Lib.hid (heap_keep H4.out hb)
      have H5' := Lib.hid (heap_keep H5.out hb)
      have H6' := Lib.hid (heap_keep H6.out hb)
      have H8' := Lib.hid (heap_keep H8.out hb)
      have H9' := Lib.hid (heap_keep H9.out hb)
      have HB' := Lib.hid (HB.out.trans (hb.mono HB.out.size))
      clear HB H4 H5 H6 H8 H9
      have H4 := H4'
      have H5 := H5'
      have H6 := H6'
      have H8 := H8'
      have H9 := H9'
      have HB := HB'
      clear HB' H4' H5' H6' H8' H9'
      generalize (((w6.alloc (.cells #[.int .u64 0, .int .u64 0] 96)).alloc (.cells #[.int .u64 0, .int .u64 0] 96)).setRow w6.heap.size #[.int .u64 (hiN d), .int .u64 (loN d)]).setRow (w6.heap.size + 1) #[.int .u64 (hiN m2), .int .u64 (loN m2)] = w7 at *
      obtain ⟨g11, hg11⟩ : ∃ g, g = w6.heap.size := ⟨_, rfl⟩
      rw [← hg11] at H11 ⊢
      clear hb q hg11 HF
      cases neg with
      | false =>
        have hfit : fitsI (sgnI false n) = true ↔ n ≤ 9223372036854775807 := by
          unfold fitsI
          rw [decide_eq_true_iff]
          show (-9223372036854775808 ≤ (n : Int) ∧ (n : Int) ≤ 9223372036854775807) ↔ _
          omega
        by_cases c1 : n < 18446744073709551616
        · rw [small_hi c1, small_lo c1] at H9
          by_cases c2 : n ≤ 9223372036854775807
          · have d2 : decide ((9223372036854775807 : Int) < (n : Int)) = false := decide_eq_false (by omega)
            by_cases c3 : d < 18446744073709551616
            · rw [small_hi c3, small_lo c3] at H11
              by_cases c4 : d ≤ 9223372036854775807
              · have d4 : decide ((9223372036854775807 : Int) < (d : Int)) = false := decide_eq_false (by omega)
                have HE := Lib.hid (show AP = ((sgnI false n, (d : Int)), 0) by rw [HAF.out, if_pos ⟨hfit.2 c2, c4⟩])
                obtain ⟨k90, k91, _, _⟩ := cell_two H9.out
                obtain ⟨k110, k111, _, _⟩ := cell_two H11.out
                have gd : IntKind.i64.wrap (d : Int) = (d : Int) := IntWalk.i64_in _ (by omega)
                have gn : IntKind.i64.wrap (n : Int) = (n : Int) := IntWalk.i64_in _ (by omega)
                clear HAF HN1 HD1 hfit c1 c2 c3 c4
                go_upto_region 12 with fail
                have HB2 := Lib.hid (HB.out.alloc HB.out.size (.cells #[.int .i64 (n : Int), .int .i64 (d : Int)] 24))
                have H62 := Lib.hid (heap_keep H6.out (below_one w7 (.cells #[.int .i64 (n : Int), .int .i64 (d : Int)] 24)))
                have H92 := Lib.hid (heap_keep H9.out (below_one w7 (.cells #[.int .i64 (n : Int), .int .i64 (d : Int)] 24)))
                have H14 := Lib.hid (heap_alloc_new w7 (.cells #[.int .i64 (n : Int), .int .i64 (d : Int)] 24))
                have hlt : g6 < w7.heap.size := heap_lt2 H6.out
                have hlw : w.heap.size ≤ w7.heap.size := by omega
                generalize w7.alloc (.cells #[.int .i64 (n : Int), .int .i64 (d : Int)] 24) = v1 at *
                obtain ⟨g14, hg14⟩ : ∃ g, g = w7.heap.size := ⟨_, rfl⟩
                rw [← hg14] at H14 hlt hlw ⊢
                clear hg14 k90 k91 k110 k111
                have H15 := H14
                have H63 := H62
                have HB3 := HB2
                obtain ⟨k60, k61, k62, k63⟩ := cell_two H63.out
                obtain ⟨k150, k151, _, _⟩ := cell_two H15.out
                have T1 := Lib.hid (rat_cells H63.out (.int .i64 (n : Int)) (.int .i64 (d : Int)))
                have T2 := Lib.hid ((HB3.out.setCell (p := ⟨g6, 0, none⟩) hle (.int .i64 (n : Int))).setCell (p := ⟨g6, 1, none⟩) hle (.int .i64 (d : Int)))
                go_wp2
                refine bodyPost_ret (results_row_tmp (fn := Tryz.f96) rfl _ _ g6 _ _ _ _ rfl T1.out Tryz.underlying24 rfl (by kernel_rfl)) rfl ?_
                exact ⟨by rw [HE.out]; rfl, T2.out⟩
              · have d4 : decide ((9223372036854775807 : Int) < (d : Int)) = true := decide_eq_true (by omega)
                have d5 : (9223372036854775807 : Int) < (d : Int) := by omega
                have HE := Lib.hid (show AP = ((0, 0), 20) by rw [HAF.out, if_neg (by intro h; exact c4 h.2)])
                obtain ⟨k90, k91, _, _⟩ := cell_two H9.out
                obtain ⟨k110, k111, _, _⟩ := cell_two H11.out
                obtain ⟨k60, k61, k62, k63⟩ := cell_two H6.out
                have T1 := Lib.hid (rat_cells H6.out (.int .i64 0) (.int .i64 0))
                have T2 := Lib.hid ((HB.out.setCell (p := ⟨g6, 0, none⟩) hle (.int .i64 0)).setCell (p := ⟨g6, 1, none⟩) hle (.int .i64 0))
                clear HAF HN1 HD1
                go_wp2
                refine bodyPost_ret (results_row_tmp (fn := Tryz.f96) rfl _ _ g6 _ _ _ _ rfl T1.out Tryz.underlying24 rfl (by kernel_rfl)) rfl ?_
                exact ⟨by rw [HE.out]; rfl, T2.out⟩
            · have d3 : (hiN d != 0) = true := by have h := HD1.out; unfold hiN; simp; omega
              have d5 : (hiN d == 0) = false := by have h := HD1.out; unfold hiN; simp; omega
              have HE := Lib.hid (show AP = ((0, 0), 20) by rw [HAF.out, if_neg (by intro h; have := h.2; omega)])
              obtain ⟨k90, k91, _, _⟩ := cell_two H9.out
              obtain ⟨k110, k111, _, _⟩ := cell_two H11.out
              obtain ⟨k60, k61, k62, k63⟩ := cell_two H6.out
              have T1 := Lib.hid (rat_cells H6.out (.int .i64 0) (.int .i64 0))
              have T2 := Lib.hid ((HB.out.setCell (p := ⟨g6, 0, none⟩) hle (.int .i64 0)).setCell (p := ⟨g6, 1, none⟩) hle (.int .i64 0))
              clear HAF HN1 HD1
              go_wp2
              refine bodyPost_ret (results_row_tmp (fn := Tryz.f96) rfl _ _ g6 _ _ _ _ rfl T1.out Tryz.underlying24 rfl (by kernel_rfl)) rfl ?_
              exact ⟨by rw [HE.out]; rfl, T2.out⟩
          · have d2 : decide ((9223372036854775807 : Int) < (n : Int)) = true := decide_eq_true (by omega)
            have d5 : (9223372036854775807 : Int) < (n : Int) := by omega
            have HE := Lib.hid (show AP = ((0, 0), 20) by rw [HAF.out, if_neg (by intro h; exact c2 (hfit.1 h.1))])
            obtain ⟨k90, k91, _, _⟩ := cell_two H9.out
            obtain ⟨k110, k111, _, _⟩ := cell_two H11.out
            obtain ⟨k60, k61, k62, k63⟩ := cell_two H6.out
            have T1 := Lib.hid (rat_cells H6.out (.int .i64 0) (.int .i64 0))
            have T2 := Lib.hid ((HB.out.setCell (p := ⟨g6, 0, none⟩) hle (.int .i64 0)).setCell (p := ⟨g6, 1, none⟩) hle (.int .i64 0))
            clear HAF HN1 HD1
            go_wp2
            refine bodyPost_ret (results_row_tmp (fn := Tryz.f96) rfl _ _ g6 _ _ _ _ rfl T1.out Tryz.underlying24 rfl (by kernel_rfl)) rfl ?_
            exact ⟨by rw [HE.out]; rfl, T2.out⟩
        · have d3 : (hiN n != 0) = true := by have h := HN1.out; unfold hiN; simp; omega
          have d5 : (hiN n == 0) = false := by have h := HN1.out; unfold hiN; simp; omega
          have HE := Lib.hid (show AP = ((0, 0), 20) by rw [HAF.out, if_neg (by intro h; have := hfit.1 h.1; omega)])
          obtain ⟨k90, k91, _, _⟩ := cell_two H9.out
          obtain ⟨k110, k111, _, _⟩ := cell_two H11.out
          obtain ⟨k60, k61, k62, k63⟩ := cell_two H6.out
          have T1 := Lib.hid (rat_cells H6.out (.int .i64 0) (.int .i64 0))
          have T2 := Lib.hid ((HB.out.setCell (p := ⟨g6, 0, none⟩) hle (.int .i64 0)).setCell (p := ⟨g6, 1, none⟩) hle (.int .i64 0))
          clear HAF HN1 HD1
          go_wp2
          refine bodyPost_ret (results_row_tmp (fn := Tryz.f96) rfl _ _ g6 _ _ _ _ rfl T1.out Tryz.underlying24 rfl (by kernel_rfl)) rfl ?_
          exact ⟨by rw [HE.out]; rfl, T2.out⟩
      | true =>
        have hfit : fitsI (sgnI true n) = true ↔ n ≤ 9223372036854775808 := by
          unfold fitsI
          rw [decide_eq_true_iff]
          show (-9223372036854775808 ≤ -(n : Int) ∧ -(n : Int) ≤ 9223372036854775807) ↔ _
          omega
        by_cases c1 : n < 18446744073709551616
        · rw [small_hi c1, small_lo c1] at H9
          by_cases c2 : n ≤ 9223372036854775808
          · have d2 : decide ((9223372036854775808 : Int) < (n : Int)) = false := decide_eq_false (by omega)
            by_cases c3 : d < 18446744073709551616
            · rw [small_hi c3, small_lo c3] at H11
              by_cases c4 : d ≤ 9223372036854775807
              · have d4 : decide ((9223372036854775807 : Int) < (d : Int)) = false := decide_eq_false (by omega)
                have HE := Lib.hid (show AP = ((sgnI true n, (d : Int)), 0) by rw [HAF.out, if_pos ⟨hfit.2 c2, c4⟩])
                obtain ⟨k90, k91, _, _⟩ := cell_two H9.out
                obtain ⟨k110, k111, _, _⟩ := cell_two H11.out
                have gd : IntKind.i64.wrap (d : Int) = (d : Int) := IntWalk.i64_in _ (by omega)
                have gn2 : IntKind.i64.wrap (IntKind.u64.wrap (-(n : Int))) = -(n : Int) := by rw [IntKind.wrap_u64, IntKind.wrap_i64]; omega
                obtain ⟨zz, gn⟩ : ∃ zz, IntKind.i64.wrap (n : Int) = zz := ⟨_, rfl⟩
                clear HAF HN1 HD1 hfit c1 c2 c3 c4
                go_upto_region 12 with fail
                have HB2 := Lib.hid (HB.out.alloc HB.out.size (.cells #[.int .i64 zz, .int .i64 (d : Int)] 24))
                have H62 := Lib.hid (heap_keep H6.out (below_one w7 (.cells #[.int .i64 zz, .int .i64 (d : Int)] 24)))
                have H92 := Lib.hid (heap_keep H9.out (below_one w7 (.cells #[.int .i64 zz, .int .i64 (d : Int)] 24)))
                have H14 := Lib.hid (heap_alloc_new w7 (.cells #[.int .i64 zz, .int .i64 (d : Int)] 24))
                have hlt : g6 < w7.heap.size := heap_lt2 H6.out
                have hlw : w.heap.size ≤ w7.heap.size := by omega
                generalize w7.alloc (.cells #[.int .i64 zz, .int .i64 (d : Int)] 24) = v1 at *
                obtain ⟨g14, hg14⟩ : ∃ g, g = w7.heap.size := ⟨_, rfl⟩
                rw [← hg14] at H14 hlt hlw ⊢
                clear hg14 k90 k91 k110 k111
                obtain ⟨k90, k91, _, _⟩ := cell_two H92.out
                obtain ⟨k140, k141, k142, k143⟩ := cell_two H14.out
                go_upto_region 14 with fail
                have H15 := Lib.hid ((cell_set H14.out (.int .i64 (-(n : Int)))).1)
                have H63 := Lib.hid (heap_other (c := 0) (.int .i64 (-(n : Int))) H62.out (show g6 ≠ g14 by omega))
                have HB3 := Lib.hid (HB2.out.setCell (p := ⟨g14, 0, none⟩) hlw (.int .i64 (-(n : Int))))
                generalize v1.setCell ⟨g14, 0, none⟩ (.int .i64 (-(n : Int))) = v2 at *
                clear k90 k91 k140 k141 k142 k143 H62 HB2 H92 H14
                obtain ⟨k60, k61, k62, k63⟩ := cell_two H63.out
                obtain ⟨k150, k151, _, _⟩ := cell_two H15.out
                have T1 := Lib.hid (rat_cells H63.out (.int .i64 (-(n : Int))) (.int .i64 (d : Int)))
                have T2 := Lib.hid ((HB3.out.setCell (p := ⟨g6, 0, none⟩) hle (.int .i64 (-(n : Int)))).setCell (p := ⟨g6, 1, none⟩) hle (.int .i64 (d : Int)))
                go_wp2
                refine bodyPost_ret (results_row_tmp (fn := Tryz.f96) rfl _ _ g6 _ _ _ _ rfl T1.out Tryz.underlying24 rfl (by kernel_rfl)) rfl ?_
                exact ⟨by rw [HE.out]; rfl, T2.out⟩
              · have d4 : decide ((9223372036854775807 : Int) < (d : Int)) = true := decide_eq_true (by omega)
                have d5 : (9223372036854775807 : Int) < (d : Int) := by omega
                have HE := Lib.hid (show AP = ((0, 0), 20) by rw [HAF.out, if_neg (by intro h; exact c4 h.2)])
                obtain ⟨k90, k91, _, _⟩ := cell_two H9.out
                obtain ⟨k110, k111, _, _⟩ := cell_two H11.out
                obtain ⟨k60, k61, k62, k63⟩ := cell_two H6.out
                have T1 := Lib.hid (rat_cells H6.out (.int .i64 0) (.int .i64 0))
                have T2 := Lib.hid ((HB.out.setCell (p := ⟨g6, 0, none⟩) hle (.int .i64 0)).setCell (p := ⟨g6, 1, none⟩) hle (.int .i64 0))
                clear HAF HN1 HD1
                go_wp2
                refine bodyPost_ret (results_row_tmp (fn := Tryz.f96) rfl _ _ g6 _ _ _ _ rfl T1.out Tryz.underlying24 rfl (by kernel_rfl)) rfl ?_
                exact ⟨by rw [HE.out]; rfl, T2.out⟩
            · have d3 : (hiN d != 0) = true := by have h := HD1.out; unfold hiN; simp; omega
              have d5 : (hiN d == 0) = false := by have h := HD1.out; unfold hiN; simp; omega
              have HE := Lib.hid (show AP = ((0, 0), 20) by rw [HAF.out, if_neg (by intro h; have := h.2; omega)])
              obtain ⟨k90, k91, _, _⟩ := cell_two H9.out
              obtain ⟨k110, k111, _, _⟩ := cell_two H11.out
              obtain ⟨k60, k61, k62, k63⟩ := cell_two H6.out
              have T1 := Lib.hid (rat_cells H6.out (.int .i64 0) (.int .i64 0))
              have T2 := Lib.hid ((HB.out.setCell (p := ⟨g6, 0, none⟩) hle (.int .i64 0)).setCell (p := ⟨g6, 1, none⟩) hle (.int .i64 0))
              clear HAF HN1 HD1
              go_wp2
              refine bodyPost_ret (results_row_tmp (fn := Tryz.f96) rfl _ _ g6 _ _ _ _ rfl T1.out Tryz.underlying24 rfl (by kernel_rfl)) rfl ?_
              exact ⟨by rw [HE.out]; rfl, T2.out⟩
          · have d2 : decide ((9223372036854775808 : Int) < (n : Int)) = true := decide_eq_true (by omega)
            have d5 : (9223372036854775808 : Int) < (n : Int) := by omega
            have HE := Lib.hid (show AP = ((0, 0), 20) by rw [HAF.out, if_neg (by intro h; exact c2 (hfit.1 h.1))])
            obtain ⟨k90, k91, _, _⟩ := cell_two H9.out
            obtain ⟨k110, k111, _, _⟩ := cell_two H11.out
            obtain ⟨k60, k61, k62, k63⟩ := cell_two H6.out
            have T1 := Lib.hid (rat_cells H6.out (.int .i64 0) (.int .i64 0))
            have T2 := Lib.hid ((HB.out.setCell (p := ⟨g6, 0, none⟩) hle (.int .i64 0)).setCell (p := ⟨g6, 1, none⟩) hle (.int .i64 0))
            clear HAF HN1 HD1
            go_wp2
            refine bodyPost_ret (results_row_tmp (fn := Tryz.f96) rfl _ _ g6 _ _ _ _ rfl T1.out Tryz.underlying24 rfl (by kernel_rfl)) rfl ?_
            exact ⟨by rw [HE.out]; rfl, T2.out⟩
        · have d3 : (hiN n != 0) = true := by have h := HN1.out; unfold hiN; simp; omega
          have d5 : (hiN n == 0) = false := by have h := HN1.out; unfold hiN; simp; omega
          have HE := Lib.hid (show AP = ((0, 0), 20) by rw [HAF.out, if_neg (by intro h; have := hfit.1 h.1; omega)])
          obtain ⟨k90, k91, _, _⟩ := cell_two H9.out
          obtain ⟨k110, k111, _, _⟩ := cell_two H11.out
          obtain ⟨k60, k61, k62, k63⟩ := cell_two H6.out
          have T1 := Lib.hid (rat_cells H6.out (.int .i64 0) (.int .i64 0))
          have T2 := Lib.hid ((HB.out.setCell (p := ⟨g6, 0, none⟩) hle (.int .i64 0)).setCell (p := ⟨g6, 1, none⟩) hle (.int .i64 0))
          clear HAF HN1 HD1
          go_wp2
          refine bodyPost_ret (results_row_tmp (fn := Tryz.f96) rfl _ _ g6 _ _ _ _ rfl T1.out Tryz.underlying24 rfl (by kernel_rfl)) rfl ?_
          exact ⟨by rw [HE.out]; rfl, T2.out⟩

end Go.Proofs.YtmelblnflalanaaGreat

/- New and Of, as the document makes them. -/
namespace Go.Proofs.YtmelblnflalanaaGreat
open Go Go.RowKit
set_option linter.unusedVariables false
set_option linter.unusedSimpArgs false

set_option maxRecDepth 100000 in
set_option maxHeartbeats 2000000 in
theorem dof_any (n : Int) (w : World) : Calls Tryz.prog 26 #[.int .i64 n] w fun e w' => e = .returned (.agg #[.int .i64 n, .int .i64 1]) ∧ Below w.heap.size w w' := by
  go_enter Tryz.func26, Tryz.ntmps26
  go_wp2
  simp [bodyPost, results, Tryz.results26, go_sem]
  first | exact below_one w _ | exact ⟨rfl, below_one w _⟩
end Go.Proofs.YtmelblnflalanaaGreat

/- Sums and differences of right fractions, as the document makes them. -/
namespace Go.Proofs.YtmelblnflalanaaGreat
open Go Go.RowKit
set_option linter.unusedVariables false
set_option linter.unusedSimpArgs false

theorem Blk.drew {T : TypeId} {g n : Nat} {w : World} (h : Blk T g n w) : Blk T g n w.drew := h
theorem Blk.put {T : TypeId} {g n k : Nat} {w : World} (h : Blk T g n w) (hg : k < g) (u v : Value) : Blk T g n ((w.setCell ⟨k, 0, none⟩ u).setCell ⟨k, 1, none⟩ v) := heap_other _ (heap_other _ h (by omega)) (by omega)
theorem Rb.put {w0 wr : World} {x1 x2 y1 y2 : Int} (h : Rb w0 x1 x2 y1 y2 wr) {g : Nat} (hg : w0.heap.size + 1 + 1 < g) (u v : Value) : Rb w0 x1 x2 y1 y2 ((wr.setCell ⟨g, 0, none⟩ u).setCell ⟨g, 1, none⟩ v) := by
  have hl : w0.heap.size ≤ g := by omega
  exact ⟨(h.below.setCell (p := ⟨g, 0, none⟩) hl _).setCell (p := ⟨g, 1, none⟩) hl _, heap_other _ (heap_other _ h.ha (by omega)) (by omega), heap_other _ (heap_other _ h.hb (by omega)) (by omega), heap_other _ (heap_other _ h.h0 (by omega)) (by omega)⟩

set_option maxRecDepth 100000 in
set_option maxHeartbeats 16000000 in
theorem dsum02_any (x1 x2 y1 y2 : Int) (hx1 : I64 x1) (hx2 : I64 x2) (hy1 : I64 y1) (hy2 : I64 y2) (px : 0 < x2) (py : 0 < y2) (w : World) :
    Calls Tryz.prog 61 #[.agg #[.int .i64 x1, .int .i64 x2], .agg #[.int .i64 y1, .int .i64 y2]] w fun e w' => e = .returned (.tuple #[rtV (dsumP (x1, x2) (y1, y2)).1, .int .i64 (dsumP (x1, x2) (y1, y2)).2]) ∧ Below w.heap.size w w' := by
  have a1 := abs64 hx1
  have a2 := abs64 hx2
  have a3 := abs64 hy1
  have a4 := abs64 hy2
  have HS1 := Lib.hid (fun W => dsize_any x1 hx1.1 hx1.2 W)
  have HS2 := Lib.hid (fun W => dsize_any y1 hy1.1 hy1.2 W)
  have hwx : IntKind.u64.wrap x2 = (x2.natAbs : Int) := by rw [IntKind.wrap_u64]; obtain ⟨_, _⟩ := hx2; omega
  have hwy : IntKind.u64.wrap y2 = (y2.natAbs : Int) := by rw [IntKind.wrap_u64]; obtain ⟨_, _⟩ := hy2; omega
  have HM1 : Hid (∀ W, Calls Tryz.prog 95 #[.int .u64 (x1.natAbs : Int), .int .u64 (y2.natAbs : Int)] W fun e w' => e = .returned (.agg #[.int .u64 (hiN (x1.natAbs * y2.natAbs)), .int .u64 (loN (x1.natAbs * y2.natAbs))]) ∧ Below W.heap.size W w') := Lib.hid (fun W => dmul_any x1.natAbs y2.natAbs (by omega) (by omega) W)
  have HM2 : Hid (∀ W, Calls Tryz.prog 95 #[.int .u64 (y1.natAbs : Int), .int .u64 (x2.natAbs : Int)] W fun e w' => e = .returned (.agg #[.int .u64 (hiN (y1.natAbs * x2.natAbs)), .int .u64 (loN (y1.natAbs * x2.natAbs))]) ∧ Below W.heap.size W w') := Lib.hid (fun W => dmul_any y1.natAbs x2.natAbs (by omega) (by omega) W)
  obtain ⟨X, hX⟩ : ∃ X, X = x1.natAbs * y2.natAbs := ⟨_, rfl⟩
  obtain ⟨Y, hY⟩ : ∃ Y, Y = y1.natAbs * x2.natAbs := ⟨_, rfl⟩
  rw [← hX] at HM1
  rw [← hY] at HM2
  have hden : x2.natAbs * y2.natAbs ≤ 85070591730234615865843651857942052864 := by have h := Nat.mul_le_mul a2 a4; omega
  have hXb : X ≤ 85070591730234615865843651857942052864 := by rw [hX]; have h := Nat.mul_le_mul a1 a4; omega
  have hYb : Y ≤ 85070591730234615865843651857942052864 := by rw [hY]; have h := Nat.mul_le_mul a3 a2; omega
  have HM3 : Hid (∀ W, Calls Tryz.prog 95 #[.int .u64 (x2.natAbs : Int), .int .u64 (y2.natAbs : Int)] W fun e w' => e = .returned (.agg #[.int .u64 (hiN (x2.natAbs * y2.natAbs)), .int .u64 (loN (x2.natAbs * y2.natAbs))]) ∧ Below W.heap.size W w') := Lib.hid (fun W => dmul_any x2.natAbs y2.natAbs (by omega) (by omega) W)
  have HAP0 := Lib.hid (show dsumP (x1, x2) (y1, y2) = dsumS (decide (x1 < 0)) (decide (y1 < 0)) X Y (x2.natAbs * y2.natAbs) by rw [hX, hY]; rfl)
  obtain ⟨D, hD⟩ : ∃ D, D = x2.natAbs * y2.natAbs := ⟨_, rfl⟩
  rw [← hD] at HM3 HAP0 hden
  obtain ⟨AP, hAP⟩ : ∃ AP, AP = dsumP (x1, x2) (y1, y2) := ⟨_, rfl⟩
  rw [← hAP] at HAP0 ⊢
  obtain ⟨sa, hsa⟩ : ∃ sa, decide (x1 < 0) = sa := ⟨_, rfl⟩
  obtain ⟨sb, hsb⟩ : ∃ sb, decide (y1 < 0) = sb := ⟨_, rfl⟩
  rw [hsa, hsb] at HAP0
  have HBD := Lib.hid (And.intro hXb (And.intro hYb hden))
  clear hD hAP hXb hYb hden
  have HXE := Lib.hid hX
  have HYE := Lib.hid hY
  clear hX hY a1 a2 a3 a4
  have HW2 := Lib.hid (Rb.made w x1 x2 y1 y2)
  go_enter Tryz.func61, Tryz.ntmps61
  go_upto_region 1 with fail
  generalize ((w.alloc (.cells #[.int .i64 x1, .int .i64 x2] 24)).alloc (.cells #[.int .i64 y1, .int .i64 y2] 24)).alloc (.cells #[.int .i64 0, .int .i64 0] 24) = w2 at *
  go_cut [6] (fun s6 wx => ∃ g : Nat, s6 = .pointer (some ⟨g, 0, none⟩) ∧ Hid (Blk 96 g X wx ∧ w.heap.size + 1 + 1 < g) ∧ Hid (Rb w x1 x2 y1 y2 wx))
  case first =>
    have kb := HW2.out.drew
    go_region_held3 (fun wr => wr.cell? ⟨w.heap.size, 0, none⟩ = some (.int .i64 x1) ∧ wr.cell? ⟨w.heap.size, 1, none⟩ = some (.int .i64 x2) ∧ wr.cell? ⟨w.heap.size + 1, 0, none⟩ = some (.int .i64 y1) ∧ wr.cell? ⟨w.heap.size + 1, 1, none⟩ = some (.int .i64 y2))
      (first | exact kb.four | exact (kb.step (below_one v7 _)).four | exact (kb.put hlt _ _).four | exact (HW2.out.step (below_one w2 _)).drew.four | exact (kb.step (below_one _ _)).four | go_keep)
      (first | (go_at_call 60; refine (HS1.out _).mono ?_; rintro e v6 ⟨rfl, rfl⟩) | (go_at_call 95; refine (HM1.out _).mono ?_; rintro e v7 ⟨rfl, hb⟩; have kb := kb.step hb; clear hb) | (go_at_call 95; refine (HM1.out _).mono ?_; rintro e v7 ⟨rfl, hb⟩; have hlt := heap_lt2 HW2.out.h0; have hz := heap_keep (w := (w2.alloc _).drew) (heap_alloc_new w2 _) hb; have kb := (HW2.out.step (below_one w2 _)).drew.step hb; obtain ⟨z1, z2, z3, z4⟩ := cell_two hz; clear hb))
    all_goals
      first
        | (have HX := (cell_set (cell_set hz (.int .u64 (hiN X))).1 (.int .u64 (loN X))).2
           have HY := Lib.hid (kb.put hlt (.int .u64 (hiN X)) (.int .u64 (loN X)))
           go_wp2_with fail
           go_meet
           exact ⟨_, rfl, ⟨HX, hlt⟩, HY⟩)
        | (have HX := heap_alloc_new v7 (.cells #[.int .u64 (hiN X), .int .u64 (loN X)] 96)
           have HY := Lib.hid (kb.step (below_one v7 (.cells #[.int .u64 (hiN X), .int .u64 (loN X)] 96)))
           have HL := heap_lt2 kb.h0
           go_wp2_with fail
           go_meet
           exact ⟨_, rfl, ⟨HX, HL⟩, HY⟩)
  case rest =>
    obtain ⟨g6, rfl, hx6, HW3⟩ := hcut
    have H6 := Lib.hid hx6.out.1
    have n6 := hx6.out.2
    clear hx6 HW2
    go_upto_region 2 with fail
    go_cut [7] (fun s7 wx => ∃ g : Nat, s7 = .pointer (some ⟨g, 0, none⟩) ∧ Hid (Blk 96 g Y wx ∧ w.heap.size + 1 + 1 < g) ∧ Hid (Rb w x1 x2 y1 y2 wx) ∧ Hid (Blk 96 g6 X wx))
    case first =>
      have kb := HW3.out.drew
      have kH6 : Blk 96 g6 X wc.drew := H6.out
      go_region_held3 (fun wr => wr.cell? ⟨w.heap.size, 0, none⟩ = some (.int .i64 x1) ∧ wr.cell? ⟨w.heap.size, 1, none⟩ = some (.int .i64 x2) ∧ wr.cell? ⟨w.heap.size + 1, 0, none⟩ = some (.int .i64 y1) ∧ wr.cell? ⟨w.heap.size + 1, 1, none⟩ = some (.int .i64 y2))
        (first | exact kb.four | exact (kb.step (below_one v7 _)).four | exact (kb.put hlt _ _).four | exact (HW3.out.step (below_one wc _)).drew.four | exact (kb.step (below_one _ _)).four | go_keep)
        (first | (go_at_call 60; refine (HS2.out _).mono ?_; rintro e v6 ⟨rfl, rfl⟩) | (go_at_call 95; refine (HM2.out _).mono ?_; rintro e v7 ⟨rfl, hb⟩; have kb := kb.step hb; have kH6 := Blk.below kH6 hb; clear hb) | (go_at_call 95; refine (HM2.out _).mono ?_; rintro e v7 ⟨rfl, hb⟩; have hlt := heap_lt2 HW3.out.h0; have hz := heap_keep (w := (wc.alloc _).drew) (heap_alloc_new wc _) hb; have kb := (HW3.out.step (below_one wc _)).drew.step hb; have kH6 := Blk.below (Blk.drew (Blk.below H6.out (below_one wc _))) hb; obtain ⟨z1, z2, z3, z4⟩ := cell_two hz; clear hb))
      all_goals
        first
          | (have HX := (cell_set (cell_set hz (.int .u64 (hiN Y))).1 (.int .u64 (loN Y))).2
             have HY := Lib.hid (kb.put hlt (.int .u64 (hiN Y)) (.int .u64 (loN Y)))
             have jH6 : Hid (Blk 96 g6 X ((v7.setCell ⟨wc.heap.size, 0, none⟩ (.int .u64 (hiN Y))).setCell ⟨wc.heap.size, 1, none⟩ (.int .u64 (loN Y)))) := Lib.hid (heap_other _ (heap_other _ kH6 (by have := Blk.lt H6.out; omega)) (by have := Blk.lt H6.out; omega))
             go_wp2_with fail
             go_meet
             exact ⟨_, rfl, ⟨HX, hlt⟩, HY, jH6⟩)
          | (have HX := heap_alloc_new v7 (.cells #[.int .u64 (hiN Y), .int .u64 (loN Y)] 96)
             have HY := Lib.hid (kb.step (below_one v7 (.cells #[.int .u64 (hiN Y), .int .u64 (loN Y)] 96)))
             have HL := heap_lt2 kb.h0
             have jH6 := Lib.hid (Blk.below kH6 (below_one v7 (.cells #[.int .u64 (hiN Y), .int .u64 (loN Y)] 96)))
             go_wp2_with fail
             go_meet
             exact ⟨_, rfl, ⟨HX, HL⟩, HY, jH6⟩)
    case rest =>
      clear H6 HW3
      obtain ⟨g7, rfl, hx7, HW4, H6⟩ := hcut
      have H7 := Lib.hid hx7.out.1
      have n7 := hx7.out.2
      clear hx7
      obtain ⟨w4, hw4⟩ : ∃ w4, w4 = wc := ⟨_, rfl⟩
      rw [← hw4] at HW4 H6 H7 ⊢
      clear hw4
      obtain ⟨k1, k2, k3, k4⟩ := HW4.out.four
      go_wp2_with fail
      refine (HM3.out _).mono ?_
      rintro e w5 ⟨rfl, hb⟩
      have HW5 := Lib.hid (HW4.out.step hb)
      have H65 := Lib.hid (H6.out.below hb)
      have H75 := Lib.hid (H7.out.below hb)
      clear hb k1 k2 k3 k4 HW4 H6 H7
      go_upto_region 4 with fail
      have HW6 := Lib.hid (HW5.out.step (below_one w5 (.cells #[.int .u64 (hiN D), .int .u64 (loN D)] 96)))
      have H66 := Lib.hid (H65.out.below (below_one w5 (.cells #[.int .u64 (hiN D), .int .u64 (loN D)] 96)))
      have H76 := Lib.hid (H75.out.below (below_one w5 (.cells #[.int .u64 (hiN D), .int .u64 (loN D)] 96)))
      have H86 := Lib.hid (show Blk 96 w5.heap.size D _ from heap_alloc_new w5 (.cells #[.int .u64 (hiN D), .int .u64 (loN D)] 96))
      have n8 : w.heap.size + 1 + 1 < w5.heap.size := heap_lt2 HW5.out.h0
      generalize w5.alloc (.cells #[.int .u64 (hiN D), .int .u64 (loN D)] 96) = w6 at *
      obtain ⟨g8, hg8⟩ : ∃ g, g = w5.heap.size := ⟨_, rfl⟩
      rw [← hg8] at H86 n8 ⊢
      clear hg8 HW5 H65 H75
      obtain ⟨k1, k2, k3, k4⟩ := HW6.out.four
      cases sa with
      | false =>
        cases sb with
        | false =>
          have HE := Lib.hid (show AP = heldP false (X + Y) D by rw [HAP0.out]; unfold dsumS; rw [if_pos rfl])
          have HCV : Hid (∀ W, Calls Tryz.prog 97 #[.agg #[.int .u64 (hiN X), .int .u64 (loN X)], .agg #[.int .u64 (hiN Y), .int .u64 (loN Y)]] W fun e w' => e = .returned (.agg #[.int .u64 (hiN (X + Y)), .int .u64 (loN (X + Y))]) ∧ Below W.heap.size W w') := Lib.hid (fun W => dplus_any X Y (by have h := HBD.out; omega) W)
          obtain ⟨M, hM⟩ : ∃ M, M = heldP false (X + Y) D := ⟨_, rfl⟩
          have HHD : Hid (∀ W, Calls Tryz.prog 96 #[.bool false, .agg #[.int .u64 (hiN (X + Y)), .int .u64 (loN (X + Y))], .agg #[.int .u64 (hiN D), .int .u64 (loN D)]] W fun e w' => e = .returned (.tuple #[.agg #[.int .i64 M.1.1, .int .i64 M.1.2], .int .i64 M.2]) ∧ Below W.heap.size W w') := Lib.hid (fun W => by rw [hM]; exact held_any false (X + Y) D W (by have h := HBD.out; omega) (by have h := HBD.out; omega))
          rw [← hM] at HE
          obtain ⟨V, hV⟩ : ∃ V, V = X + Y := ⟨_, rfl⟩
          rw [← hV] at HCV HHD
          clear hM hV
          go_upto_region 5 with fail
          have kb := HW6.out.drew
          have k6 := (H66.out).drew
          have k7 := (H76.out).drew
          have k8 := (H86.out).drew
          try clear k1 k2 k3 k4
          go_region_held3 (fun wr => wr.cell? ⟨w.heap.size, 0, none⟩ = some (.int .i64 x1) ∧ wr.cell? ⟨w.heap.size, 1, none⟩ = some (.int .i64 x2) ∧ wr.cell? ⟨w.heap.size + 1, 0, none⟩ = some (.int .i64 y1) ∧ wr.cell? ⟨w.heap.size + 1, 1, none⟩ = some (.int .i64 y2) ∧ wr.cell? ⟨g6, 0, none⟩ = some (.int .u64 (hiN X)) ∧ wr.cell? ⟨g6, 1, none⟩ = some (.int .u64 (loN X)) ∧ wr.cell? ⟨g7, 0, none⟩ = some (.int .u64 (hiN Y)) ∧ wr.cell? ⟨g7, 1, none⟩ = some (.int .u64 (loN Y)) ∧ wr.cell? ⟨g8, 0, none⟩ = some (.int .u64 (hiN D)) ∧ wr.cell? ⟨g8, 1, none⟩ = some (.int .u64 (loN D)))
            (first | exact ⟨kb.four.1, kb.four.2.1, kb.four.2.2.1, kb.four.2.2.2, (cell_two k6).1, (cell_two k6).2.1, (cell_two k7).1, (cell_two k7).2.1, (cell_two k8).1, (cell_two k8).2.1⟩ | exact ⟨(kb.fourT _ _).1, (kb.fourT _ _).2.1, (kb.fourT _ _).2.2.1, (kb.fourT _ _).2.2.2, (cell_two (k6.put n6 _ _)).1, (cell_two (k6.put n6 _ _)).2.1, (cell_two (k7.put n7 _ _)).1, (cell_two (k7.put n7 _ _)).2.1, (cell_two (k8.put n8 _ _)).1, (cell_two (k8.put n8 _ _)).2.1⟩ | go_keep)
            (first | (go_at_call 97; refine (HCV.out _).mono ?_; rintro e v1 ⟨rfl, hb⟩; have kb := kb.step hb; have k6 := k6.below hb; have k7 := k7.below hb; have k8 := k8.below hb; clear hb) | (go_at_call 96; refine (HHD.out _).mono ?_; rintro e v2 ⟨rfl, hb⟩; have kb := kb.step hb; have k6 := k6.below hb; have k7 := k7.below hb; have k8 := k8.below hb; clear hb; obtain ⟨z7, z8, z9, z10⟩ := kb.zero))
          obtain ⟨t1, t2⟩ := kb.told (.int .i64 M.1.1) (.int .i64 M.1.2)
          have T1 := Lib.hid t1
          have T2 := Lib.hid t2
          clear t1 t2 z7 z8 z9 z10
          go_wp2
          refine bodyPost_ret (results_row_tmp (fn := Tryz.f61) rfl _ _ (w.heap.size + 1 + 1) _ _ _ _ rfl T1.out Tryz.underlying24 rfl (by kernel_rfl)) rfl ?_
          exact ⟨by rw [HE.out]; rfl, T2.out⟩
        | true =>
          obtain ⟨j1, j2, _, _⟩ := cell_two H66.out
          obtain ⟨j3, j4, _, _⟩ := cell_two H76.out
          go_wp2_with fail
          refine (dbelow_any X Y _).mono ?_
          rintro e w7 ⟨rfl, hb⟩
          have HW7 := Lib.hid (HW6.out.step hb)
          have H67 := Lib.hid (H66.out.below hb)
          have H77 := Lib.hid (H76.out.below hb)
          have H87 := Lib.hid (H86.out.below hb)
          clear hb j1 j2 j3 j4 k1 k2 k3 k4 HW6 H66 H76 H86
          obtain ⟨k1, k2, k3, k4⟩ := HW7.out.four
          by_cases hlt : X < Y
          · rw [decide_eq_true hlt]
            have HE := Lib.hid (show AP = heldP true (Y - X) D by rw [HAP0.out]; unfold dsumS; rw [if_neg (by decide), if_pos hlt])
            have HCV : Hid (∀ W, Calls Tryz.prog 99 #[.agg #[.int .u64 (hiN Y), .int .u64 (loN Y)], .agg #[.int .u64 (hiN X), .int .u64 (loN X)]] W fun e w' => e = .returned (.agg #[.int .u64 (hiN (Y - X)), .int .u64 (loN (Y - X))]) ∧ Below W.heap.size W w') := Lib.hid (fun W => dminus_any Y X (by omega) (by have h := HBD.out; omega) W)
            obtain ⟨M, hM⟩ : ∃ M, M = heldP true (Y - X) D := ⟨_, rfl⟩
            have HHD : Hid (∀ W, Calls Tryz.prog 96 #[.bool true, .agg #[.int .u64 (hiN (Y - X)), .int .u64 (loN (Y - X))], .agg #[.int .u64 (hiN D), .int .u64 (loN D)]] W fun e w' => e = .returned (.tuple #[.agg #[.int .i64 M.1.1, .int .i64 M.1.2], .int .i64 M.2]) ∧ Below W.heap.size W w') := Lib.hid (fun W => by rw [hM]; exact held_any true (Y - X) D W (by have h := HBD.out; omega) (by have h := HBD.out; omega))
            rw [← hM] at HE
            obtain ⟨V, hV⟩ : ∃ V, V = Y - X := ⟨_, rfl⟩
            rw [← hV] at HCV HHD
            clear hM hV
            go_upto_region 7 with fail
            have kb := HW7.out.drew
            have k6 := (H67.out).drew
            have k7 := (H77.out).drew
            have k8 := (H87.out).drew
            try clear k1 k2 k3 k4
            go_region_held3 (fun wr => wr.cell? ⟨w.heap.size, 0, none⟩ = some (.int .i64 x1) ∧ wr.cell? ⟨w.heap.size, 1, none⟩ = some (.int .i64 x2) ∧ wr.cell? ⟨w.heap.size + 1, 0, none⟩ = some (.int .i64 y1) ∧ wr.cell? ⟨w.heap.size + 1, 1, none⟩ = some (.int .i64 y2) ∧ wr.cell? ⟨g6, 0, none⟩ = some (.int .u64 (hiN X)) ∧ wr.cell? ⟨g6, 1, none⟩ = some (.int .u64 (loN X)) ∧ wr.cell? ⟨g7, 0, none⟩ = some (.int .u64 (hiN Y)) ∧ wr.cell? ⟨g7, 1, none⟩ = some (.int .u64 (loN Y)) ∧ wr.cell? ⟨g8, 0, none⟩ = some (.int .u64 (hiN D)) ∧ wr.cell? ⟨g8, 1, none⟩ = some (.int .u64 (loN D)))
              (first | exact ⟨kb.four.1, kb.four.2.1, kb.four.2.2.1, kb.four.2.2.2, (cell_two k6).1, (cell_two k6).2.1, (cell_two k7).1, (cell_two k7).2.1, (cell_two k8).1, (cell_two k8).2.1⟩ | exact ⟨(kb.fourT _ _).1, (kb.fourT _ _).2.1, (kb.fourT _ _).2.2.1, (kb.fourT _ _).2.2.2, (cell_two (k6.put n6 _ _)).1, (cell_two (k6.put n6 _ _)).2.1, (cell_two (k7.put n7 _ _)).1, (cell_two (k7.put n7 _ _)).2.1, (cell_two (k8.put n8 _ _)).1, (cell_two (k8.put n8 _ _)).2.1⟩ | go_keep)
              (first | (go_at_call 99; refine (HCV.out _).mono ?_; rintro e v1 ⟨rfl, hb⟩; have kb := kb.step hb; have k6 := k6.below hb; have k7 := k7.below hb; have k8 := k8.below hb; clear hb) | (go_at_call 96; refine (HHD.out _).mono ?_; rintro e v2 ⟨rfl, hb⟩; have kb := kb.step hb; have k6 := k6.below hb; have k7 := k7.below hb; have k8 := k8.below hb; clear hb; obtain ⟨z7, z8, z9, z10⟩ := kb.zero))
            obtain ⟨t1, t2⟩ := kb.told (.int .i64 M.1.1) (.int .i64 M.1.2)
            have T1 := Lib.hid t1
            have T2 := Lib.hid t2
            clear t1 t2 z7 z8 z9 z10
            go_wp2
            refine bodyPost_ret (results_row_tmp (fn := Tryz.f61) rfl _ _ (w.heap.size + 1 + 1) _ _ _ _ rfl T1.out Tryz.underlying24 rfl (by kernel_rfl)) rfl ?_
            exact ⟨by rw [HE.out]; rfl, T2.out⟩
          · rw [decide_eq_false hlt]
            have HE := Lib.hid (show AP = heldP false (X - Y) D by rw [HAP0.out]; unfold dsumS; rw [if_neg (by decide), if_neg hlt])
            have HCV : Hid (∀ W, Calls Tryz.prog 99 #[.agg #[.int .u64 (hiN X), .int .u64 (loN X)], .agg #[.int .u64 (hiN Y), .int .u64 (loN Y)]] W fun e w' => e = .returned (.agg #[.int .u64 (hiN (X - Y)), .int .u64 (loN (X - Y))]) ∧ Below W.heap.size W w') := Lib.hid (fun W => dminus_any X Y (by omega) (by have h := HBD.out; omega) W)
            obtain ⟨M, hM⟩ : ∃ M, M = heldP false (X - Y) D := ⟨_, rfl⟩
            have HHD : Hid (∀ W, Calls Tryz.prog 96 #[.bool false, .agg #[.int .u64 (hiN (X - Y)), .int .u64 (loN (X - Y))], .agg #[.int .u64 (hiN D), .int .u64 (loN D)]] W fun e w' => e = .returned (.tuple #[.agg #[.int .i64 M.1.1, .int .i64 M.1.2], .int .i64 M.2]) ∧ Below W.heap.size W w') := Lib.hid (fun W => by rw [hM]; exact held_any false (X - Y) D W (by have h := HBD.out; omega) (by have h := HBD.out; omega))
            rw [← hM] at HE
            obtain ⟨V, hV⟩ : ∃ V, V = X - Y := ⟨_, rfl⟩
            rw [← hV] at HCV HHD
            clear hM hV
            go_upto_region 8 with fail
            have kb := HW7.out.drew
            have k6 := (H67.out).drew
            have k7 := (H77.out).drew
            have k8 := (H87.out).drew
            try clear k1 k2 k3 k4
            go_region_held3 (fun wr => wr.cell? ⟨w.heap.size, 0, none⟩ = some (.int .i64 x1) ∧ wr.cell? ⟨w.heap.size, 1, none⟩ = some (.int .i64 x2) ∧ wr.cell? ⟨w.heap.size + 1, 0, none⟩ = some (.int .i64 y1) ∧ wr.cell? ⟨w.heap.size + 1, 1, none⟩ = some (.int .i64 y2) ∧ wr.cell? ⟨g6, 0, none⟩ = some (.int .u64 (hiN X)) ∧ wr.cell? ⟨g6, 1, none⟩ = some (.int .u64 (loN X)) ∧ wr.cell? ⟨g7, 0, none⟩ = some (.int .u64 (hiN Y)) ∧ wr.cell? ⟨g7, 1, none⟩ = some (.int .u64 (loN Y)) ∧ wr.cell? ⟨g8, 0, none⟩ = some (.int .u64 (hiN D)) ∧ wr.cell? ⟨g8, 1, none⟩ = some (.int .u64 (loN D)))
              (first | exact ⟨kb.four.1, kb.four.2.1, kb.four.2.2.1, kb.four.2.2.2, (cell_two k6).1, (cell_two k6).2.1, (cell_two k7).1, (cell_two k7).2.1, (cell_two k8).1, (cell_two k8).2.1⟩ | exact ⟨(kb.fourT _ _).1, (kb.fourT _ _).2.1, (kb.fourT _ _).2.2.1, (kb.fourT _ _).2.2.2, (cell_two (k6.put n6 _ _)).1, (cell_two (k6.put n6 _ _)).2.1, (cell_two (k7.put n7 _ _)).1, (cell_two (k7.put n7 _ _)).2.1, (cell_two (k8.put n8 _ _)).1, (cell_two (k8.put n8 _ _)).2.1⟩ | go_keep)
              (first | (go_at_call 99; refine (HCV.out _).mono ?_; rintro e v1 ⟨rfl, hb⟩; have kb := kb.step hb; have k6 := k6.below hb; have k7 := k7.below hb; have k8 := k8.below hb; clear hb) | (go_at_call 96; refine (HHD.out _).mono ?_; rintro e v2 ⟨rfl, hb⟩; have kb := kb.step hb; have k6 := k6.below hb; have k7 := k7.below hb; have k8 := k8.below hb; clear hb; obtain ⟨z7, z8, z9, z10⟩ := kb.zero))
            obtain ⟨t1, t2⟩ := kb.told (.int .i64 M.1.1) (.int .i64 M.1.2)
            have T1 := Lib.hid t1
            have T2 := Lib.hid t2
            clear t1 t2 z7 z8 z9 z10
            go_wp2
            refine bodyPost_ret (results_row_tmp (fn := Tryz.f61) rfl _ _ (w.heap.size + 1 + 1) _ _ _ _ rfl T1.out Tryz.underlying24 rfl (by kernel_rfl)) rfl ?_
            exact ⟨by rw [HE.out]; rfl, T2.out⟩
      | true =>
        cases sb with
        | false =>
          obtain ⟨j1, j2, _, _⟩ := cell_two H66.out
          obtain ⟨j3, j4, _, _⟩ := cell_two H76.out
          go_wp2_with fail
          refine (dbelow_any X Y _).mono ?_
          rintro e w7 ⟨rfl, hb⟩
          have HW7 := Lib.hid (HW6.out.step hb)
          have H67 := Lib.hid (H66.out.below hb)
          have H77 := Lib.hid (H76.out.below hb)
          have H87 := Lib.hid (H86.out.below hb)
          clear hb j1 j2 j3 j4 k1 k2 k3 k4 HW6 H66 H76 H86
          obtain ⟨k1, k2, k3, k4⟩ := HW7.out.four
          by_cases hlt : X < Y
          · rw [decide_eq_true hlt]
            have HE := Lib.hid (show AP = heldP false (Y - X) D by rw [HAP0.out]; unfold dsumS; rw [if_neg (by decide), if_pos hlt])
            have HCV : Hid (∀ W, Calls Tryz.prog 99 #[.agg #[.int .u64 (hiN Y), .int .u64 (loN Y)], .agg #[.int .u64 (hiN X), .int .u64 (loN X)]] W fun e w' => e = .returned (.agg #[.int .u64 (hiN (Y - X)), .int .u64 (loN (Y - X))]) ∧ Below W.heap.size W w') := Lib.hid (fun W => dminus_any Y X (by omega) (by have h := HBD.out; omega) W)
            obtain ⟨M, hM⟩ : ∃ M, M = heldP false (Y - X) D := ⟨_, rfl⟩
            have HHD : Hid (∀ W, Calls Tryz.prog 96 #[.bool false, .agg #[.int .u64 (hiN (Y - X)), .int .u64 (loN (Y - X))], .agg #[.int .u64 (hiN D), .int .u64 (loN D)]] W fun e w' => e = .returned (.tuple #[.agg #[.int .i64 M.1.1, .int .i64 M.1.2], .int .i64 M.2]) ∧ Below W.heap.size W w') := Lib.hid (fun W => by rw [hM]; exact held_any false (Y - X) D W (by have h := HBD.out; omega) (by have h := HBD.out; omega))
            rw [← hM] at HE
            obtain ⟨V, hV⟩ : ∃ V, V = Y - X := ⟨_, rfl⟩
            rw [← hV] at HCV HHD
            clear hM hV
            go_upto_region 7 with fail
            have kb := HW7.out.drew
            have k6 := (H67.out).drew
            have k7 := (H77.out).drew
            have k8 := (H87.out).drew
            try clear k1 k2 k3 k4
            go_region_held3 (fun wr => wr.cell? ⟨w.heap.size, 0, none⟩ = some (.int .i64 x1) ∧ wr.cell? ⟨w.heap.size, 1, none⟩ = some (.int .i64 x2) ∧ wr.cell? ⟨w.heap.size + 1, 0, none⟩ = some (.int .i64 y1) ∧ wr.cell? ⟨w.heap.size + 1, 1, none⟩ = some (.int .i64 y2) ∧ wr.cell? ⟨g6, 0, none⟩ = some (.int .u64 (hiN X)) ∧ wr.cell? ⟨g6, 1, none⟩ = some (.int .u64 (loN X)) ∧ wr.cell? ⟨g7, 0, none⟩ = some (.int .u64 (hiN Y)) ∧ wr.cell? ⟨g7, 1, none⟩ = some (.int .u64 (loN Y)) ∧ wr.cell? ⟨g8, 0, none⟩ = some (.int .u64 (hiN D)) ∧ wr.cell? ⟨g8, 1, none⟩ = some (.int .u64 (loN D)))
              (first | exact ⟨kb.four.1, kb.four.2.1, kb.four.2.2.1, kb.four.2.2.2, (cell_two k6).1, (cell_two k6).2.1, (cell_two k7).1, (cell_two k7).2.1, (cell_two k8).1, (cell_two k8).2.1⟩ | exact ⟨(kb.fourT _ _).1, (kb.fourT _ _).2.1, (kb.fourT _ _).2.2.1, (kb.fourT _ _).2.2.2, (cell_two (k6.put n6 _ _)).1, (cell_two (k6.put n6 _ _)).2.1, (cell_two (k7.put n7 _ _)).1, (cell_two (k7.put n7 _ _)).2.1, (cell_two (k8.put n8 _ _)).1, (cell_two (k8.put n8 _ _)).2.1⟩ | go_keep)
              (first | (go_at_call 99; refine (HCV.out _).mono ?_; rintro e v1 ⟨rfl, hb⟩; have kb := kb.step hb; have k6 := k6.below hb; have k7 := k7.below hb; have k8 := k8.below hb; clear hb) | (go_at_call 96; refine (HHD.out _).mono ?_; rintro e v2 ⟨rfl, hb⟩; have kb := kb.step hb; have k6 := k6.below hb; have k7 := k7.below hb; have k8 := k8.below hb; clear hb; obtain ⟨z7, z8, z9, z10⟩ := kb.zero))
            obtain ⟨t1, t2⟩ := kb.told (.int .i64 M.1.1) (.int .i64 M.1.2)
            have T1 := Lib.hid t1
            have T2 := Lib.hid t2
            clear t1 t2 z7 z8 z9 z10
            go_wp2
            refine bodyPost_ret (results_row_tmp (fn := Tryz.f61) rfl _ _ (w.heap.size + 1 + 1) _ _ _ _ rfl T1.out Tryz.underlying24 rfl (by kernel_rfl)) rfl ?_
            exact ⟨by rw [HE.out]; rfl, T2.out⟩
          · rw [decide_eq_false hlt]
            have HE := Lib.hid (show AP = heldP true (X - Y) D by rw [HAP0.out]; unfold dsumS; rw [if_neg (by decide), if_neg hlt])
            have HCV : Hid (∀ W, Calls Tryz.prog 99 #[.agg #[.int .u64 (hiN X), .int .u64 (loN X)], .agg #[.int .u64 (hiN Y), .int .u64 (loN Y)]] W fun e w' => e = .returned (.agg #[.int .u64 (hiN (X - Y)), .int .u64 (loN (X - Y))]) ∧ Below W.heap.size W w') := Lib.hid (fun W => dminus_any X Y (by omega) (by have h := HBD.out; omega) W)
            obtain ⟨M, hM⟩ : ∃ M, M = heldP true (X - Y) D := ⟨_, rfl⟩
            have HHD : Hid (∀ W, Calls Tryz.prog 96 #[.bool true, .agg #[.int .u64 (hiN (X - Y)), .int .u64 (loN (X - Y))], .agg #[.int .u64 (hiN D), .int .u64 (loN D)]] W fun e w' => e = .returned (.tuple #[.agg #[.int .i64 M.1.1, .int .i64 M.1.2], .int .i64 M.2]) ∧ Below W.heap.size W w') := Lib.hid (fun W => by rw [hM]; exact held_any true (X - Y) D W (by have h := HBD.out; omega) (by have h := HBD.out; omega))
            rw [← hM] at HE
            obtain ⟨V, hV⟩ : ∃ V, V = X - Y := ⟨_, rfl⟩
            rw [← hV] at HCV HHD
            clear hM hV
            go_upto_region 8 with fail
            have kb := HW7.out.drew
            have k6 := (H67.out).drew
            have k7 := (H77.out).drew
            have k8 := (H87.out).drew
            try clear k1 k2 k3 k4
            go_region_held3 (fun wr => wr.cell? ⟨w.heap.size, 0, none⟩ = some (.int .i64 x1) ∧ wr.cell? ⟨w.heap.size, 1, none⟩ = some (.int .i64 x2) ∧ wr.cell? ⟨w.heap.size + 1, 0, none⟩ = some (.int .i64 y1) ∧ wr.cell? ⟨w.heap.size + 1, 1, none⟩ = some (.int .i64 y2) ∧ wr.cell? ⟨g6, 0, none⟩ = some (.int .u64 (hiN X)) ∧ wr.cell? ⟨g6, 1, none⟩ = some (.int .u64 (loN X)) ∧ wr.cell? ⟨g7, 0, none⟩ = some (.int .u64 (hiN Y)) ∧ wr.cell? ⟨g7, 1, none⟩ = some (.int .u64 (loN Y)) ∧ wr.cell? ⟨g8, 0, none⟩ = some (.int .u64 (hiN D)) ∧ wr.cell? ⟨g8, 1, none⟩ = some (.int .u64 (loN D)))
              (first | exact ⟨kb.four.1, kb.four.2.1, kb.four.2.2.1, kb.four.2.2.2, (cell_two k6).1, (cell_two k6).2.1, (cell_two k7).1, (cell_two k7).2.1, (cell_two k8).1, (cell_two k8).2.1⟩ | exact ⟨(kb.fourT _ _).1, (kb.fourT _ _).2.1, (kb.fourT _ _).2.2.1, (kb.fourT _ _).2.2.2, (cell_two (k6.put n6 _ _)).1, (cell_two (k6.put n6 _ _)).2.1, (cell_two (k7.put n7 _ _)).1, (cell_two (k7.put n7 _ _)).2.1, (cell_two (k8.put n8 _ _)).1, (cell_two (k8.put n8 _ _)).2.1⟩ | go_keep)
              (first | (go_at_call 99; refine (HCV.out _).mono ?_; rintro e v1 ⟨rfl, hb⟩; have kb := kb.step hb; have k6 := k6.below hb; have k7 := k7.below hb; have k8 := k8.below hb; clear hb) | (go_at_call 96; refine (HHD.out _).mono ?_; rintro e v2 ⟨rfl, hb⟩; have kb := kb.step hb; have k6 := k6.below hb; have k7 := k7.below hb; have k8 := k8.below hb; clear hb; obtain ⟨z7, z8, z9, z10⟩ := kb.zero))
            obtain ⟨t1, t2⟩ := kb.told (.int .i64 M.1.1) (.int .i64 M.1.2)
            have T1 := Lib.hid t1
            have T2 := Lib.hid t2
            clear t1 t2 z7 z8 z9 z10
            go_wp2
            refine bodyPost_ret (results_row_tmp (fn := Tryz.f61) rfl _ _ (w.heap.size + 1 + 1) _ _ _ _ rfl T1.out Tryz.underlying24 rfl (by kernel_rfl)) rfl ?_
            exact ⟨by rw [HE.out]; rfl, T2.out⟩
        | true =>
          have HE := Lib.hid (show AP = heldP true (X + Y) D by rw [HAP0.out]; unfold dsumS; rw [if_pos rfl])
          have HCV : Hid (∀ W, Calls Tryz.prog 97 #[.agg #[.int .u64 (hiN X), .int .u64 (loN X)], .agg #[.int .u64 (hiN Y), .int .u64 (loN Y)]] W fun e w' => e = .returned (.agg #[.int .u64 (hiN (X + Y)), .int .u64 (loN (X + Y))]) ∧ Below W.heap.size W w') := Lib.hid (fun W => dplus_any X Y (by have h := HBD.out; omega) W)
          obtain ⟨M, hM⟩ : ∃ M, M = heldP true (X + Y) D := ⟨_, rfl⟩
          have HHD : Hid (∀ W, Calls Tryz.prog 96 #[.bool true, .agg #[.int .u64 (hiN (X + Y)), .int .u64 (loN (X + Y))], .agg #[.int .u64 (hiN D), .int .u64 (loN D)]] W fun e w' => e = .returned (.tuple #[.agg #[.int .i64 M.1.1, .int .i64 M.1.2], .int .i64 M.2]) ∧ Below W.heap.size W w') := Lib.hid (fun W => by rw [hM]; exact held_any true (X + Y) D W (by have h := HBD.out; omega) (by have h := HBD.out; omega))
          rw [← hM] at HE
          obtain ⟨V, hV⟩ : ∃ V, V = X + Y := ⟨_, rfl⟩
          rw [← hV] at HCV HHD
          clear hM hV
          go_upto_region 5 with fail
          have kb := HW6.out.drew
          have k6 := (H66.out).drew
          have k7 := (H76.out).drew
          have k8 := (H86.out).drew
          try clear k1 k2 k3 k4
          go_region_held3 (fun wr => wr.cell? ⟨w.heap.size, 0, none⟩ = some (.int .i64 x1) ∧ wr.cell? ⟨w.heap.size, 1, none⟩ = some (.int .i64 x2) ∧ wr.cell? ⟨w.heap.size + 1, 0, none⟩ = some (.int .i64 y1) ∧ wr.cell? ⟨w.heap.size + 1, 1, none⟩ = some (.int .i64 y2) ∧ wr.cell? ⟨g6, 0, none⟩ = some (.int .u64 (hiN X)) ∧ wr.cell? ⟨g6, 1, none⟩ = some (.int .u64 (loN X)) ∧ wr.cell? ⟨g7, 0, none⟩ = some (.int .u64 (hiN Y)) ∧ wr.cell? ⟨g7, 1, none⟩ = some (.int .u64 (loN Y)) ∧ wr.cell? ⟨g8, 0, none⟩ = some (.int .u64 (hiN D)) ∧ wr.cell? ⟨g8, 1, none⟩ = some (.int .u64 (loN D)))
            (first | exact ⟨kb.four.1, kb.four.2.1, kb.four.2.2.1, kb.four.2.2.2, (cell_two k6).1, (cell_two k6).2.1, (cell_two k7).1, (cell_two k7).2.1, (cell_two k8).1, (cell_two k8).2.1⟩ | exact ⟨(kb.fourT _ _).1, (kb.fourT _ _).2.1, (kb.fourT _ _).2.2.1, (kb.fourT _ _).2.2.2, (cell_two (k6.put n6 _ _)).1, (cell_two (k6.put n6 _ _)).2.1, (cell_two (k7.put n7 _ _)).1, (cell_two (k7.put n7 _ _)).2.1, (cell_two (k8.put n8 _ _)).1, (cell_two (k8.put n8 _ _)).2.1⟩ | go_keep)
            (first | (go_at_call 97; refine (HCV.out _).mono ?_; rintro e v1 ⟨rfl, hb⟩; have kb := kb.step hb; have k6 := k6.below hb; have k7 := k7.below hb; have k8 := k8.below hb; clear hb) | (go_at_call 96; refine (HHD.out _).mono ?_; rintro e v2 ⟨rfl, hb⟩; have kb := kb.step hb; have k6 := k6.below hb; have k7 := k7.below hb; have k8 := k8.below hb; clear hb; obtain ⟨z7, z8, z9, z10⟩ := kb.zero))
          obtain ⟨t1, t2⟩ := kb.told (.int .i64 M.1.1) (.int .i64 M.1.2)
          have T1 := Lib.hid t1
          have T2 := Lib.hid t2
          clear t1 t2 z7 z8 z9 z10
          go_wp2
          refine bodyPost_ret (results_row_tmp (fn := Tryz.f61) rfl _ _ (w.heap.size + 1 + 1) _ _ _ _ rfl T1.out Tryz.underlying24 rfl (by kernel_rfl)) rfl ?_
          exact ⟨by rw [HE.out]; rfl, T2.out⟩

end Go.Proofs.YtmelblnflalanaaGreat

/- Differences of right fractions, as the document makes them. -/
namespace Go.Proofs.YtmelblnflalanaaGreat
open Go Go.RowKit
set_option linter.unusedVariables false
set_option linter.unusedSimpArgs false

end Go.Proofs.YtmelblnflalanaaGreat

/- Sums and differences, as the document makes them. -/
namespace Go.Proofs.YtmelblnflalanaaGreat
open Go Go.RowKit
set_option linter.unusedVariables false
set_option linter.unusedSimpArgs false

set_option maxRecDepth 100000 in
set_option maxHeartbeats 4000000 in
theorem dadd_any (x1 x2 y1 y2 : Int) (hx1 : I64 x1) (hx2 : I64 x2) (hy1 : I64 y1) (hy2 : I64 y2) (w : World) :
    Calls Tryz.prog 23 #[.agg #[.int .i64 x1, .int .i64 x2], .agg #[.int .i64 y1, .int .i64 y2]] w fun e w' => e = .returned (.tuple #[rtV (addP (x1, x2) (y1, y2)).1, .int .i64 (addP (x1, x2) (y1, y2)).2]) ∧ Below w.heap.size w w' := by
  have HR1 := Lib.hid (fun W => dright_any x1 x2 hx1 hx2 W)
  have HR2 := Lib.hid (fun W => dright_any y1 y2 hy1 hy2 W)
  have HA1 := Lib.hid (fun (h1 : rightR (x1, x2) = true) (h2 : rightR (y1, y2) = true) => show addP (x1, x2) (y1, y2) = dsumP (x1, x2) (y1, y2) by
    rw [dsum_is (x1, x2) (y1, y2) (right_pos h1) (right_pos h2)]; unfold addP; rw [if_pos (by rw [h1, h2]; rfl)])
  have HA0 := Lib.hid (fun (h : (rightR (x1, x2) && rightR (y1, y2)) = false) => show addP (x1, x2) (y1, y2) = ((0, 0), 7) by unfold addP; rw [if_neg (by rw [h]; decide)])
  have HSU := Lib.hid (fun W (h1 : rightR (x1, x2) = true) (h2 : rightR (y1, y2) = true) => dsum02_any x1 x2 y1 y2 hx1 hx2 hy1 hy2 (right_pos h1) (right_pos h2) W)
  obtain ⟨AP, hAP⟩ : ∃ AP, AP = addP (x1, x2) (y1, y2) := ⟨_, rfl⟩
  obtain ⟨ra, hra⟩ : ∃ ra, ra = rightR (x1, x2) := ⟨_, rfl⟩
  obtain ⟨rb, hrb⟩ : ∃ rb, rb = rightR (y1, y2) := ⟨_, rfl⟩
  rw [← hAP] at HA1 HA0 ⊢
  rw [← hra] at HR1 HA1 HA0 HSU
  rw [← hrb] at HR2 HA1 HA0 HSU
  obtain ⟨M, hM⟩ : ∃ M, M = dsumP (x1, x2) (y1, y2) := ⟨_, rfl⟩
  rw [← hM] at HA1 HSU
  have HSU : Hid (∀ W, ra = true → rb = true → Calls Tryz.prog 61 #[.agg #[.int .i64 x1, .int .i64 x2], .agg #[.int .i64 y1, .int .i64 y2]] W fun e w' => e = .returned (.tuple #[.agg #[.int .i64 M.1.1, .int .i64 M.1.2], .int .i64 M.2]) ∧ Below W.heap.size W w') := HSU
  have HW := Lib.hid (Rb.made w x1 x2 y1 y2)
  clear hM hAP hra hrb hx1 hx2 hy1 hy2
  go_enter Tryz.func23, Tryz.ntmps23
  go_upto_region 1 with fail
  generalize ((w.alloc (.cells #[.int .i64 x1, .int .i64 x2] 24)).alloc (.cells #[.int .i64 y1, .int .i64 y2] 24)).alloc (.cells #[.int .i64 0, .int .i64 0] 24) = w1 at *
  obtain ⟨k1, k2, k3, k4⟩ := HW.out.four
  go_wp2_with fail
  refine (HR1.out _).mono ?_
  rintro e w2 ⟨rfl, hb⟩
  have HW2 := Lib.hid (HW.out.step hb)
  clear hb HW k1 k2 k3 k4
  cases ra with
  | false =>
    have HE := Lib.hid (HA0.out (by simp))
    obtain ⟨z7, z8, z9, z10⟩ := HW2.out.zero
    obtain ⟨t1, t2⟩ := HW2.out.told (.int .i64 0) (.int .i64 0)
    have T1 := Lib.hid t1
    have T2 := Lib.hid t2
    clear t1 t2 HA0 HA1
    go_wp2
    refine bodyPost_ret (results_row_tmp (fn := Tryz.f23) rfl _ _ (w.heap.size + 1 + 1) _ _ _ _ rfl T1.out Tryz.underlying24 rfl (by kernel_rfl)) rfl ?_
    exact ⟨by rw [HE.out]; rfl, T2.out⟩
  | true =>
    obtain ⟨k1, k2, k3, k4⟩ := HW2.out.four
    go_wp2_with fail
    refine (HR2.out _).mono ?_
    rintro e w3 ⟨rfl, hb⟩
    have HW3 := Lib.hid (HW2.out.step hb)
    clear hb HW2 k1 k2 k3 k4
    cases rb with
    | false =>
      have HE := Lib.hid (HA0.out (by simp))
      obtain ⟨z7, z8, z9, z10⟩ := HW3.out.zero
      obtain ⟨t1, t2⟩ := HW3.out.told (.int .i64 0) (.int .i64 0)
      have T1 := Lib.hid t1
      have T2 := Lib.hid t2
      clear t1 t2 HA0 HA1
      go_wp2
      refine bodyPost_ret (results_row_tmp (fn := Tryz.f23) rfl _ _ (w.heap.size + 1 + 1) _ _ _ _ rfl T1.out Tryz.underlying24 rfl (by kernel_rfl)) rfl ?_
      exact ⟨by rw [HE.out]; rfl, T2.out⟩
    | true =>
      have HE := Lib.hid (HA1.out (by simp) (by simp))
      obtain ⟨k1, k2, k3, k4⟩ := HW3.out.four
      clear HA0 HA1
      go_wp2_with fail
      refine (HSU.out _ (by simp) (by simp)).mono ?_
      rintro e w4 ⟨rfl, hb⟩
      have HW4 := Lib.hid (HW3.out.step hb)
      clear hb HW3 k1 k2 k3 k4
      obtain ⟨z7, z8, z9, z10⟩ := HW4.out.zero
      obtain ⟨t1, t2⟩ := HW4.out.told (.int .i64 M.1.1) (.int .i64 M.1.2)
      have T1 := Lib.hid t1
      have T2 := Lib.hid t2
      clear t1 t2
      go_wp2
      refine bodyPost_ret (results_row_tmp (fn := Tryz.f23) rfl _ _ (w.heap.size + 1 + 1) _ _ _ _ rfl T1.out Tryz.underlying24 rfl (by kernel_rfl)) rfl ?_
      exact ⟨by rw [HE.out]; rfl, T2.out⟩

end Go.Proofs.YtmelblnflalanaaGreat

/- Products and quotients, as the document makes them. -/
namespace Go.Proofs.YtmelblnflalanaaGreat
open Go Go.RowKit
set_option linter.unusedVariables false
set_option linter.unusedSimpArgs false

end Go.Proofs.YtmelblnflalanaaGreat

/- Which of two fractions is greater, as the document holds them. -/
namespace Go.Proofs.YtmelblnflalanaaGreat
open Go Go.RowKit
set_option linter.unusedVariables false
set_option linter.unusedSimpArgs false

theorem Blk.putO {T : TypeId} {g n k : Nat} {w : World} (h : Blk T g n w) (hg : g ≠ k) (u v : Value) : Blk T g n ((w.setCell ⟨k, 0, none⟩ u).setCell ⟨k, 1, none⟩ v) := heap_other _ (heap_other _ h hg) hg
theorem Rc2.put {w0 wr : World} {x1 x2 y1 y2 : Int} (h : Rc2 w0 x1 x2 y1 y2 wr) {g : Nat} (hg : w0.heap.size + 1 < g) (u v : Value) : Rc2 w0 x1 x2 y1 y2 ((wr.setCell ⟨g, 0, none⟩ u).setCell ⟨g, 1, none⟩ v) := by
  have hl : w0.heap.size ≤ g := by omega
  exact ⟨(h.below.setCell (p := ⟨g, 0, none⟩) hl _).setCell (p := ⟨g, 1, none⟩) hl _, heap_other _ (heap_other _ h.ha (by omega)) (by omega), heap_other _ (heap_other _ h.hb (by omega)) (by omega)⟩

set_option maxRecDepth 100000 in
set_option maxHeartbeats 16000000 in
theorem dcompare_any (x1 x2 y1 y2 : Int) (hx1 : I64 x1) (hx2 : I64 x2) (hy1 : I64 y1) (hy2 : I64 y2) (w : World) :
    Calls Tryz.prog 68 #[.agg #[.int .i64 x1, .int .i64 x2], .agg #[.int .i64 y1, .int .i64 y2]] w fun e w' => e = .returned (.int .i64 (cmpP (x1, x2) (y1, y2))) ∧ Below w.heap.size w w' := by
  have a1 := abs64 hx1
  have a2 := abs64 hx2
  have a3 := abs64 hy1
  have a4 := abs64 hy2
  have HR1 := Lib.hid (fun W => dright_any x1 x2 hx1 hx2 W)
  have HR2 := Lib.hid (fun W => dright_any y1 y2 hy1 hy2 W)
  have HPX := Lib.hid (fun (h : rightR (x1, x2) = true) => right_pos h)
  have HPY := Lib.hid (fun (h : rightR (y1, y2) = true) => right_pos h)
  have HS1 := Lib.hid (fun W => dsize_any x1 hx1.1 hx1.2 W)
  have HS2 := Lib.hid (fun W => dsize_any y1 hy1.1 hy1.2 W)
  have hwx0 : 0 < x2 → IntKind.u64.wrap x2 = (x2.natAbs : Int) := fun h => by rw [IntKind.wrap_u64]; obtain ⟨_, _⟩ := hx2; omega
  have hwy0 : 0 < y2 → IntKind.u64.wrap y2 = (y2.natAbs : Int) := fun h => by rw [IntKind.wrap_u64]; obtain ⟨_, _⟩ := hy2; omega
  have HWX := Lib.hid hwx0
  have HWY := Lib.hid hwy0
  have HM1 : Hid (∀ W, Calls Tryz.prog 95 #[.int .u64 (x1.natAbs : Int), .int .u64 (y2.natAbs : Int)] W fun e w' => e = .returned (.agg #[.int .u64 (hiN (x1.natAbs * y2.natAbs)), .int .u64 (loN (x1.natAbs * y2.natAbs))]) ∧ Below W.heap.size W w') := Lib.hid (fun W => dmul_any x1.natAbs y2.natAbs (by omega) (by omega) W)
  have HM2 : Hid (∀ W, Calls Tryz.prog 95 #[.int .u64 (y1.natAbs : Int), .int .u64 (x2.natAbs : Int)] W fun e w' => e = .returned (.agg #[.int .u64 (hiN (y1.natAbs * x2.natAbs)), .int .u64 (loN (y1.natAbs * x2.natAbs))]) ∧ Below W.heap.size W w') := Lib.hid (fun W => dmul_any y1.natAbs x2.natAbs (by omega) (by omega) W)
  obtain ⟨X, hX⟩ : ∃ X, X = x1.natAbs * y2.natAbs := ⟨_, rfl⟩
  obtain ⟨Y, hY⟩ : ∃ Y, Y = y1.natAbs * x2.natAbs := ⟨_, rfl⟩
  rw [← hX] at HM1
  rw [← hY] at HM2
  have HA1 := Lib.hid (fun (h1 : rightR (x1, x2) = true) (h2 : rightR (y1, y2) = true) => show cmpP (x1, x2) (y1, y2) = dcmpS (decide (x1 < 0)) (decide (y1 < 0)) X Y by
    have h := dcmp_is (x1, x2) (y1, y2) (right_pos h1) (right_pos h2)
    unfold cmpP
    rw [if_pos (by rw [h1, h2]; rfl), hX, hY]
    exact h.symm)
  have HA0 := Lib.hid (fun (h : (rightR (x1, x2) && rightR (y1, y2)) = false) => show cmpP (x1, x2) (y1, y2) = 0 by unfold cmpP; rw [if_neg (by rw [h]; decide)])
  obtain ⟨AP, hAP⟩ : ∃ AP, AP = cmpP (x1, x2) (y1, y2) := ⟨_, rfl⟩
  obtain ⟨ra, hra⟩ : ∃ ra, ra = rightR (x1, x2) := ⟨_, rfl⟩
  obtain ⟨rb, hrb⟩ : ∃ rb, rb = rightR (y1, y2) := ⟨_, rfl⟩
  rw [← hAP] at HA1 HA0 ⊢
  rw [← hra] at HR1 HA1 HA0 HPX
  rw [← hrb] at HR2 HA1 HA0 HPY
  obtain ⟨sa, hsa⟩ : ∃ sa, decide (x1 < 0) = sa := ⟨_, rfl⟩
  obtain ⟨sb, hsb⟩ : ∃ sb, decide (y1 < 0) = sb := ⟨_, rfl⟩
  rw [hsa, hsb] at HA1
  have hga : decide (0 ≤ x1) = !sa := by
    rw [← hsa]
    by_cases h : x1 < 0
    · rw [decide_eq_true h, decide_eq_false (by omega)]; rfl
    · rw [decide_eq_false h, decide_eq_true (by omega)]; rfl
  have hgb : decide (0 ≤ y1) = !sb := by
    rw [← hsb]
    by_cases h : y1 < 0
    · rw [decide_eq_true h, decide_eq_false (by omega)]; rfl
    · rw [decide_eq_false h, decide_eq_true (by omega)]; rfl
  have HW := Lib.hid (Rc2.made w x1 x2 y1 y2)
  clear hX hY hAP hra hrb hx1 hx2 hy1 hy2 a1 a2 a3 a4 hwx0 hwy0
  go_enter Tryz.func68, Tryz.ntmps68
  go_upto_region 1 with fail
  generalize (w.alloc (.cells #[.int .i64 x1, .int .i64 x2] 24)).alloc (.cells #[.int .i64 y1, .int .i64 y2] 24) = w1 at *
  obtain ⟨k1, k2, k3, k4⟩ := HW.out.four
  go_wp2_with fail
  refine (HR1.out _).mono ?_
  rintro e w2 ⟨rfl, hb⟩
  have HW2 := Lib.hid (HW.out.step hb)
  clear hb HW k1 k2 k3 k4
  cases ra with
  | false =>
    have HE := Lib.hid (HA0.out (by simp))
    clear HA0 HA1
    go_wp2
    go_ret
    exact ⟨by rw [HE.out]; rfl, HW2.out.below⟩
  | true =>
    obtain ⟨k1, k2, k3, k4⟩ := HW2.out.four
    go_wp2_with fail
    refine (HR2.out _).mono ?_
    rintro e w3 ⟨rfl, hb⟩
    have HW3 := Lib.hid (HW2.out.step hb)
    clear hb HW2 k1 k2 k3 k4
    cases rb with
    | false =>
      have HE := Lib.hid (HA0.out (by simp))
      clear HA0 HA1
      go_wp2
      go_ret
      exact ⟨by rw [HE.out]; rfl, HW3.out.below⟩
    | true =>
      have HE := Lib.hid (HA1.out (by simp) (by simp))
      have hwx := HWX.out (HPX.out (by simp))
      have hwy := HWY.out (HPY.out (by simp))
      clear HA0 HA1 HWX HWY HPX HPY
      go_upto_region 3 with fail
      go_cut [5] (fun s5 wx => ∃ g : Nat, s5 = .pointer (some ⟨g, 0, none⟩) ∧ Hid (Blk 96 g X wx ∧ w.heap.size + 1 < g) ∧ Hid (Rc2 w x1 x2 y1 y2 wx))
      case first =>
        have kb := HW3.out.drew
        go_region_held3 (fun wr => wr.cell? ⟨w.heap.size, 0, none⟩ = some (.int .i64 x1) ∧ wr.cell? ⟨w.heap.size, 1, none⟩ = some (.int .i64 x2) ∧ wr.cell? ⟨w.heap.size + 1, 0, none⟩ = some (.int .i64 y1) ∧ wr.cell? ⟨w.heap.size + 1, 1, none⟩ = some (.int .i64 y2))
          (first | exact kb.four | exact (kb.step (below_one v7 _)).four | exact (kb.put hlt _ _).four | exact (HW3.out.step (below_one w3 _)).drew.four | exact (kb.step (below_one _ _)).four | go_keep)
          (first | (go_at_call 60; refine (HS1.out _).mono ?_; rintro e v6 ⟨rfl, rfl⟩) | (go_at_call 95; refine (HM1.out _).mono ?_; rintro e v7 ⟨rfl, hb⟩; have kb := kb.step hb; clear hb) | (go_at_call 95; refine (HM1.out _).mono ?_; rintro e v7 ⟨rfl, hb⟩; have hlt := heap_lt2 HW3.out.hb; have hz := heap_keep (w := (w3.alloc _).drew) (heap_alloc_new w3 _) hb; have kb := (HW3.out.step (below_one w3 _)).drew.step hb; obtain ⟨z1, z2, z3, z4⟩ := cell_two hz; clear hb))
        all_goals
          first
            | (have HX := (cell_set (cell_set hz (.int .u64 (hiN X))).1 (.int .u64 (loN X))).2
               have HY := Lib.hid (kb.put hlt (.int .u64 (hiN X)) (.int .u64 (loN X)))
               go_wp2_with fail
               go_meet
               exact ⟨_, rfl, ⟨HX, hlt⟩, HY⟩)
            | (have HX := heap_alloc_new v7 (.cells #[.int .u64 (hiN X), .int .u64 (loN X)] 96)
               have HY := Lib.hid (kb.step (below_one v7 (.cells #[.int .u64 (hiN X), .int .u64 (loN X)] 96)))
               have HL := heap_lt2 kb.hb
               go_wp2_with fail
               go_meet
               exact ⟨_, rfl, ⟨HX, HL⟩, HY⟩)
      case rest =>
        obtain ⟨g6, rfl, hx6, HW4⟩ := hcut
        have H6 := Lib.hid hx6.out.1
        have n6 := hx6.out.2
        clear hx6 HW3
        go_upto_region 4 with fail
        go_cut [6] (fun s6 wx => ∃ g : Nat, s6 = .pointer (some ⟨g, 0, none⟩) ∧ Hid (Blk 96 g Y wx ∧ w.heap.size + 1 < g ∧ g6 ≠ g) ∧ Hid (Rc2 w x1 x2 y1 y2 wx) ∧ Hid (Blk 96 g6 X wx))
        case first =>
          have kb := HW4.out.drew
          have kH6 : Blk 96 g6 X wc.drew := H6.out
          go_region_held3 (fun wr => wr.cell? ⟨w.heap.size, 0, none⟩ = some (.int .i64 x1) ∧ wr.cell? ⟨w.heap.size, 1, none⟩ = some (.int .i64 x2) ∧ wr.cell? ⟨w.heap.size + 1, 0, none⟩ = some (.int .i64 y1) ∧ wr.cell? ⟨w.heap.size + 1, 1, none⟩ = some (.int .i64 y2))
            (first | exact kb.four | exact (kb.step (below_one v7 _)).four | exact (kb.put hlt _ _).four | exact (HW4.out.step (below_one wc _)).drew.four | exact (kb.step (below_one _ _)).four | go_keep)
            (first | (go_at_call 60; refine (HS2.out _).mono ?_; rintro e v6 ⟨rfl, rfl⟩) | (go_at_call 95; refine (HM2.out _).mono ?_; rintro e v7 ⟨rfl, hb⟩; have kb := kb.step hb; have kH6 := Blk.below kH6 hb; clear hb) | (go_at_call 95; refine (HM2.out _).mono ?_; rintro e v7 ⟨rfl, hb⟩; have hlt := heap_lt2 HW4.out.hb; have hz := heap_keep (w := (wc.alloc _).drew) (heap_alloc_new wc _) hb; have kb := (HW4.out.step (below_one wc _)).drew.step hb; have kH6 := Blk.below (Blk.drew (Blk.below H6.out (below_one wc _))) hb; obtain ⟨z1, z2, z3, z4⟩ := cell_two hz; clear hb))
          all_goals
            first
              | (have HX := (cell_set (cell_set hz (.int .u64 (hiN Y))).1 (.int .u64 (loN Y))).2
                 have HY := Lib.hid (kb.put hlt (.int .u64 (hiN Y)) (.int .u64 (loN Y)))
                 have jH6 : Hid (Blk 96 g6 X ((v7.setCell ⟨wc.heap.size, 0, none⟩ (.int .u64 (hiN Y))).setCell ⟨wc.heap.size, 1, none⟩ (.int .u64 (loN Y)))) := Lib.hid (heap_other _ (heap_other _ kH6 (by have := Blk.lt H6.out; omega)) (by have := Blk.lt H6.out; omega))
                 go_wp2_with fail
                 go_meet
                 exact ⟨_, rfl, ⟨HX, hlt, Nat.ne_of_lt (Blk.lt H6.out)⟩, HY, jH6⟩)
              | (have HX := heap_alloc_new v7 (.cells #[.int .u64 (hiN Y), .int .u64 (loN Y)] 96)
                 have HY := Lib.hid (kb.step (below_one v7 (.cells #[.int .u64 (hiN Y), .int .u64 (loN Y)] 96)))
                 have HL := heap_lt2 kb.hb
                 have jH6 := Lib.hid (Blk.below kH6 (below_one v7 (.cells #[.int .u64 (hiN Y), .int .u64 (loN Y)] 96)))
                 go_wp2_with fail
                 go_meet
                 exact ⟨_, rfl, ⟨HX, HL, Nat.ne_of_lt (Blk.lt kH6)⟩, HY, jH6⟩)
        case rest =>
          clear H6 HW4
          obtain ⟨g7, rfl, hx7, HW5, H6⟩ := hcut
          have H7 := Lib.hid hx7.out.1
          have n7 := hx7.out.2.1
          have n67 := hx7.out.2.2
          clear hx7
          cases sa with
          | false =>
            have hga2 : decide (0 ≤ x1) = true := hga
            clear hga
            cases sb with
            | false =>
              have hgb2 : decide (0 ≤ y1) = true := hgb
              clear hgb
              obtain ⟨k1, k2, k3, k4⟩ := HW5.out.four
              obtain ⟨j1, j2, _, _⟩ := cell_two (H6.out)
              obtain ⟨j3, j4, _, _⟩ := cell_two (H7.out)
              go_wp2_with fail
              refine (dbelow_any X Y _).mono ?_
              rintro e w7 ⟨rfl, hb⟩
              have HW7 := Lib.hid (HW5.out.step hb)
              have H67 := Lib.hid (H6.out.below hb)
              have H77 := Lib.hid (H7.out.below hb)
              clear hb j1 j2 j3 j4 k1 k2 k3 k4
              by_cases hlt : X < Y
              · rw [decide_eq_true hlt]
                have HE2 := Lib.hid (show AP = -1 by rw [HE.out]; unfold dcmpS; simp [hlt])
                clear HE
                go_wp2
                go_ret
                exact ⟨by rw [HE2.out]; rfl, HW7.out.below⟩
              · rw [decide_eq_false hlt]
                obtain ⟨k1, k2, k3, k4⟩ := HW7.out.four
                obtain ⟨j1, j2, _, _⟩ := cell_two H67.out
                obtain ⟨j3, j4, _, _⟩ := cell_two H77.out
                go_wp2_with fail
                refine (dbelow_any Y X _).mono ?_
                rintro e w8 ⟨rfl, hb⟩
                have HB8 := Lib.hid (HW7.out.step hb).below
                clear hb j1 j2 j3 j4 k1 k2 k3 k4
                by_cases hgt : Y < X
                · rw [decide_eq_true hgt]
                  have HE2 := Lib.hid (show AP = 1 by rw [HE.out]; unfold dcmpS; simp [hlt, hgt])
                  clear HE
                  go_wp2
                  go_ret
                  exact ⟨by rw [HE2.out]; rfl, HB8.out⟩
                · rw [decide_eq_false hgt]
                  have HE2 := Lib.hid (show AP = 0 by rw [HE.out]; unfold dcmpS; simp [hlt, hgt])
                  clear HE
                  go_wp2
                  go_ret
                  exact ⟨by rw [HE2.out]; rfl, HB8.out⟩
            | true =>
              have hgb2 : decide (0 ≤ y1) = false := hgb
              clear hgb
              obtain ⟨k1, k2, k3, k4⟩ := HW5.out.four
              have HE2 := Lib.hid (show AP = 1 by rw [HE.out]; unfold dcmpS; simp)
              clear HE
              go_wp2
              go_ret
              exact ⟨by rw [HE2.out]; rfl, HW5.out.below⟩
          | true =>
            have hga2 : decide (0 ≤ x1) = false := hga
            clear hga
            cases sb with
            | false =>
              have hgb2 : decide (0 ≤ y1) = true := hgb
              clear hgb
              obtain ⟨k1, k2, k3, k4⟩ := HW5.out.four
              have HE2 := Lib.hid (show AP = -1 by rw [HE.out]; unfold dcmpS; simp)
              clear HE
              go_wp2
              go_ret
              exact ⟨by rw [HE2.out]; rfl, HW5.out.below⟩
            | true =>
              have hgb2 : decide (0 ≤ y1) = false := hgb
              clear hgb
              obtain ⟨k1, k2, k3, k4⟩ := HW5.out.four
              obtain ⟨j1, j2, j5, j6⟩ := cell_two H6.out
              obtain ⟨j3, j4, j7, j8⟩ := cell_two H7.out
              have n67s := Ne.symm n67
              go_upto_region 7 with fail
              have HW6 := Lib.hid ((HW5.out.put n6 (.int .u64 (hiN Y)) (.int .u64 (loN Y))).put n7 (.int .u64 (hiN X)) (.int .u64 (loN X)))
              have H66 := Lib.hid (show Blk 96 g6 Y _ from Blk.putO (show Blk 96 g6 Y _ from (cell_set (cell_set H6.out (.int .u64 (hiN Y))).1 (.int .u64 (loN Y))).2) n67 (.int .u64 (hiN X)) (.int .u64 (loN X)))
              have H76 := Lib.hid (show Blk 96 g7 X _ from (cell_set (cell_set (Blk.putO H7.out n67s (.int .u64 (hiN Y)) (.int .u64 (loN Y))) (.int .u64 (hiN X))).1 (.int .u64 (loN X))).2)
              generalize ((((wc.setCell ⟨g6, 0, none⟩ (.int .u64 (hiN Y))).setCell ⟨g6, 1, none⟩ (.int .u64 (loN Y))).setCell ⟨g7, 0, none⟩ (.int .u64 (hiN X))).setCell ⟨g7, 1, none⟩ (.int .u64 (loN X))) = w6 at *
              clear j1 j2 j3 j4 j5 j6 j7 j8 k1 k2 k3 k4
              obtain ⟨k1, k2, k3, k4⟩ := HW6.out.four
              obtain ⟨j1, j2, _, _⟩ := cell_two (H66.out)
              obtain ⟨j3, j4, _, _⟩ := cell_two (H76.out)
              go_wp2_with fail
              refine (dbelow_any Y X _).mono ?_
              rintro e w7 ⟨rfl, hb⟩
              have HW7 := Lib.hid (HW6.out.step hb)
              have H67 := Lib.hid (H66.out.below hb)
              have H77 := Lib.hid (H76.out.below hb)
              clear hb j1 j2 j3 j4 k1 k2 k3 k4
              by_cases hlt : Y < X
              · rw [decide_eq_true hlt]
                have HE2 := Lib.hid (show AP = -1 by rw [HE.out]; unfold dcmpS; simp [hlt])
                clear HE
                go_wp2
                go_ret
                exact ⟨by rw [HE2.out]; rfl, HW7.out.below⟩
              · rw [decide_eq_false hlt]
                obtain ⟨k1, k2, k3, k4⟩ := HW7.out.four
                obtain ⟨j1, j2, _, _⟩ := cell_two H67.out
                obtain ⟨j3, j4, _, _⟩ := cell_two H77.out
                go_wp2_with fail
                refine (dbelow_any X Y _).mono ?_
                rintro e w8 ⟨rfl, hb⟩
                have HB8 := Lib.hid (HW7.out.step hb).below
                clear hb j1 j2 j3 j4 k1 k2 k3 k4
                by_cases hgt : X < Y
                · rw [decide_eq_true hgt]
                  have HE2 := Lib.hid (show AP = 1 by rw [HE.out]; unfold dcmpS; simp [hlt, hgt])
                  clear HE
                  go_wp2
                  go_ret
                  exact ⟨by rw [HE2.out]; rfl, HB8.out⟩
                · rw [decide_eq_false hgt]
                  have HE2 := Lib.hid (show AP = 0 by rw [HE.out]; unfold dcmpS; simp [hlt, hgt])
                  clear HE
                  go_wp2
                  go_ret
                  exact ⟨by rw [HE2.out]; rfl, HB8.out⟩

end Go.Proofs.YtmelblnflalanaaGreat
