/- Texts of ours, laid together: Vx, Vy, Vz, Wa, Wb, Wc, Wd, Js, Row, Row4, Row11. -/
import Derived.Deep.DeepCutAuto
import Derived.Test.YtfegongaflekiaaRows
import Derived.WalkKit
import Derived.ProofKit
import Derived.OpenShut
import Derived.Carry
import Derived.Deep.Slices
import Derived.Deep.Fields
import Derived.SizedLaws
import Derived.Test.YtfegongaflekiaaMg10
/- The fraction of a sign and two sizes, as the document makes it. -/
namespace Go.Proofs.Ytfegongaflekiaa
open Go Go.RowKit
set_option linter.unusedVariables false
set_option linter.unusedSimpArgs false

set_option maxRecDepth 100000 in
set_option maxHeartbeats 16000000 in
theorem held_any (neg : Bool) (a b : Nat) (w : World) (ha : a ≤ 170141183460469231731687303715884105728) (hb : b ≤ 170141183460469231731687303715884105728) :
    Calls Try.prog 103 #[.bool neg, szV a, szV b] w fun e w' => e = .returned (.tuple #[rtV (heldP neg a b).1, .int .i64 (heldP neg a b).2]) ∧ Below w.heap.size w w' := by
  have hz3 : ∀ (w : World) (o : Obj), (w.alloc o).heap.size = w.heap.size + 1 := fun w o => by simp
  obtain ⟨q1, q2⟩ := two_fr w (.cells #[.int .u64 (hiN a), .int .u64 (loN a)] 128) (.cells #[.int .u64 (hiN b), .int .u64 (loN b)] 128)
  have q3 := heap_alloc_new ((w.alloc (.cells #[.int .u64 (hiN a), .int .u64 (loN a)] 128)).alloc (.cells #[.int .u64 (hiN b), .int .u64 (loN b)] 128)) (.cells #[.int .i64 0, .int .i64 0] 59)
  simp only [hz3] at q3
  have H4 := Lib.hid ((heap_alloc_old _ (.cells #[.int .i64 0, .int .i64 0] 59) (heap_lt2 q1)).trans q1)
  have H5 := Lib.hid ((heap_alloc_old _ (.cells #[.int .i64 0, .int .i64 0] 59) (heap_lt2 q2)).trans q2)
  have H6 := Lib.hid q3
  have HB := Lib.hid (below_three w (.cells #[.int .u64 (hiN a), .int .u64 (loN a)] 128) (.cells #[.int .u64 (hiN b), .int .u64 (loN b)] 128) (.cells #[.int .i64 0, .int .i64 0] 59))
  clear q1 q2 q3 hz3
  by_cases hb0 : b = 0
  · have HA := Lib.hid (show heldP neg a b = ((0, 0), 21) by unfold heldP; rw [if_pos hb0])
    have e1 : (hiN b == 0) = true := by rw [hb0]; rfl
    have e2 : (loN b == 0) = true := by rw [hb0]; rfl
    rw [HA.out]
    clear hb0 HA
    unfold szV
    go_enter Try.func103, Try.ntmps103
    go_upto_region 1 with fail
    generalize ((w.alloc (.cells #[.int .u64 (hiN a), .int .u64 (loN a)] 128)).alloc (.cells #[.int .u64 (hiN b), .int .u64 (loN b)] 128)).alloc (.cells #[.int .i64 0, .int .i64 0] 59) = w1 at *
    obtain ⟨k1, k2, _, _⟩ := cell_two H5.out
    obtain ⟨k3, k4, k5, k6⟩ := cell_two H6.out
    have hle : w.heap.size ≤ w.heap.size + 1 + 1 := by omega
    have T1 := Lib.hid (rat_cells H6.out (.int .i64 0) (.int .i64 0))
    have T2 := Lib.hid ((HB.out.setCell (p := ⟨w.heap.size + 1 + 1, 0, none⟩) hle (.int .i64 0)).setCell (p := ⟨w.heap.size + 1 + 1, 1, none⟩) hle (.int .i64 0))
    go_wp2
    refine bodyPost_ret (results_row_tmp (fn := Try.f103) rfl _ _ (w.heap.size + 1 + 1) _ _ _ _ rfl T1.out Try.underlying59 rfl (by kernel_rfl)) rfl ?_
    exact ⟨rfl, T2.out⟩
  · have e0 : ((hiN b == 0) && (loN b == 0)) = false := by
      rw [Bool.eq_false_iff]; intro h
      rw [Bool.and_eq_true] at h
      exact hb0 (hilo_zero.1 ⟨by simpa using h.1, by simpa using h.2⟩)
    have HA := Lib.hid (show heldP neg a b = fracS neg a b by unfold heldP; rw [if_neg hb0])
    have hg : 0 < Nat.gcd a b := Nat.gcd_pos_of_pos_right _ (by omega)
    have hgb : Nat.gcd a b ≤ b := Nat.le_of_dvd (by omega) (Nat.gcd_dvd_right _ _)
    have HC : Hid (∀ W, Calls Try.prog 116 #[.agg #[.int .u64 (hiN a), .int .u64 (loN a)], .agg #[.int .u64 (hiN b), .int .u64 (loN b)]] W fun e w' => e = .returned (.agg #[.int .u64 (hiN (Nat.gcd a b)), .int .u64 (loN (Nat.gcd a b))]) ∧ Below W.heap.size W w') := Lib.hid (fun W => dcommon_any a b ha hb W)
    have HF := Lib.hid (show fracS neg a b = if fitsI (sgnI neg (a / Nat.gcd a b)) = true ∧ b / Nat.gcd a b ≤ 9223372036854775807 then ((sgnI neg (a / Nat.gcd a b), ((b / Nat.gcd a b : Nat) : Int)), 0) else ((0, 0), 20) from rfl)
    obtain ⟨G, hG⟩ : ∃ G, G = Nat.gcd a b := ⟨_, rfl⟩
    rw [← hG] at hg hgb HC HF
    clear hG
    have HO1 : Hid (∀ W, Calls Try.prog 123 #[.agg #[.int .u64 (hiN a), .int .u64 (loN a)], .agg #[.int .u64 (hiN G), .int .u64 (loN G)]] W fun e w' => e = .returned (.tuple #[.agg #[.int .u64 (hiN (a / G)), .int .u64 (loN (a / G))], .agg #[.int .u64 (hiN (a % G)), .int .u64 (loN (a % G))]]) ∧ Below W.heap.size W w') := Lib.hid (fun W => divide_any a G (by omega) hg (by omega) W)
    have HO2 : Hid (∀ W, Calls Try.prog 123 #[.agg #[.int .u64 (hiN b), .int .u64 (loN b)], .agg #[.int .u64 (hiN G), .int .u64 (loN G)]] W fun e w' => e = .returned (.tuple #[.agg #[.int .u64 (hiN (b / G)), .int .u64 (loN (b / G))], .agg #[.int .u64 (hiN (b % G)), .int .u64 (loN (b % G))]]) ∧ Below W.heap.size W w') := Lib.hid (fun W => divide_any b G (by omega) hg (by omega) W)
    obtain ⟨n, hn⟩ : ∃ n, n = a / G := ⟨_, rfl⟩
    obtain ⟨d, hd⟩ : ∃ d, d = b / G := ⟨_, rfl⟩
    obtain ⟨m1, hm1⟩ : ∃ m, m = a % G := ⟨_, rfl⟩
    obtain ⟨m2, hm2⟩ : ∃ m, m = b % G := ⟨_, rfl⟩
    rw [← hn] at HO1 HF
    rw [← hd] at HO2 HF
    rw [← hm1] at HO1
    rw [← hm2] at HO2
    have hn1 : n < 340282366920938463463374607431768211456 := by rw [hn]; exact Nat.lt_of_le_of_lt (Nat.div_le_self _ _) (by omega)
    have hd1 : d < 340282366920938463463374607431768211456 := by rw [hd]; exact Nat.lt_of_le_of_lt (Nat.div_le_self _ _) (by omega)
    obtain ⟨AP, hAP⟩ : ∃ AP, AP = heldP neg a b := ⟨_, rfl⟩
    rw [← hAP] at HA ⊢
    have HAF := Lib.hid (HA.out.trans HF.out)
    have HN1 := Lib.hid hn1
    have HD1 := Lib.hid hd1
    clear hn hd hm1 hm2 hAP HA HF hn1 hd1 hg hgb ha hb hb0
    unfold szV
    go_enter Try.func103, Try.ntmps103
    go_upto_region 1 with fail
    generalize ((w.alloc (.cells #[.int .u64 (hiN a), .int .u64 (loN a)] 128)).alloc (.cells #[.int .u64 (hiN b), .int .u64 (loN b)] 128)).alloc (.cells #[.int .i64 0, .int .i64 0] 59) = w1 at *
    obtain ⟨g6, hg6⟩ : ∃ g, g = w.heap.size + 1 + 1 := ⟨_, rfl⟩
    rw [← hg6] at H6 ⊢
    obtain ⟨g5, hg5⟩ : ∃ g, g = w.heap.size + 1 := ⟨_, rfl⟩
    rw [← hg5] at H5 ⊢
    have hle : w.heap.size ≤ g6 := by omega
    clear hg6 hg5
    go_cut [17] (fun s17 wx => s17 = .bool false ∧ Hid (wx = w1))
    case first =>
      obtain ⟨k1, k2, _, _⟩ := cell_two H5.out
      cases e1 : (hiN b == 0) with
      | true =>
        have e2 : (loN b == 0) = false := by rw [e1, Bool.true_and] at e0; exact e0
        clear e0
        go_wp2_with fail
        go_meet
        exact ⟨rfl, rfl⟩
      | false =>
        clear e0
        go_wp2_with fail
        go_meet
        exact ⟨rfl, rfl⟩
    case rest =>
      obtain ⟨rfl, hcw⟩ := hcut
      have hcw := hcw.out
      subst hcw
      clear e0
      obtain ⟨k40, k41, k42, k43⟩ := cell_two H4.out
      obtain ⟨k50, k51, k52, k53⟩ := cell_two H5.out
      go_wp2_with fail
      refine (HC.out _).mono ?_
      rintro e w2 ⟨rfl, hb⟩
      clear k40 k41 k42 k43 k50 k51 k52 k53
      have H4' := Lib.hid (heap_keep H4.out hb)
      have H5' := Lib.hid (heap_keep H5.out hb)
      have H6' := Lib.hid (heap_keep H6.out hb)
      have HB' := Lib.hid (HB.out.trans (hb.mono HB.out.size))
      clear HB H4 H5 H6
      have H4 := H4'
      have H5 := H5'
      have H6 := H6'
      have HB := HB'
      clear HB' H4' H5' H6'
      clear hb
      go_upto_region 4 with fail
      have hb := below_one w2 (.cells #[.int .u64 (hiN G), .int .u64 (loN G)] 128)
      have q := heap_alloc_new w2 (.cells #[.int .u64 (hiN G), .int .u64 (loN G)] 128)
      have H8 := Lib.hid q
      have H4' := Lib.hid (heap_keep H4.out hb)
      have H5' := Lib.hid (heap_keep H5.out hb)
      have H6' := Lib.hid (heap_keep H6.out hb)
      have HB' := Lib.hid (HB.out.trans (hb.mono HB.out.size))
      clear HB H4 H5 H6
      have H4 := H4'
      have H5 := H5'
      have H6 := H6'
      have HB := HB'
      clear HB' H4' H5' H6'
      generalize w2.alloc (.cells #[.int .u64 (hiN G), .int .u64 (loN G)] 128) = w3 at *
      obtain ⟨g8, hg8⟩ : ∃ g, g = w2.heap.size := ⟨_, rfl⟩
      rw [← hg8] at H8 ⊢
      clear hb q hg8
      obtain ⟨k40, k41, k42, k43⟩ := cell_two H4.out
      obtain ⟨k80, k81, k82, k83⟩ := cell_two H8.out
      go_wp2_with fail
      refine (HO1.out _).mono ?_
      rintro e w4 ⟨rfl, hb⟩
      clear k40 k41 k42 k43 k80 k81 k82 k83
      have H4' := Lib.hid (heap_keep H4.out hb)
      have H5' := Lib.hid (heap_keep H5.out hb)
      have H6' := Lib.hid (heap_keep H6.out hb)
      have H8' := Lib.hid (heap_keep H8.out hb)
      have HB' := Lib.hid (HB.out.trans (hb.mono HB.out.size))
      clear HB H4 H5 H6 H8
      have H4 := H4'
      have H5 := H5'
      have H6 := H6'
      have H8 := H8'
      have HB := HB'
      clear HB' H4' H5' H6' H8'
      clear hb
      have HF := Lib.hid (two_fr w4 (.cells #[.int .u64 0, .int .u64 0] 128) (.cells #[.int .u64 0, .int .u64 0] 128))
      go_upto_region 5 with (first | (refine wpList_store_row rfl 128 _ _ rfl w4.heap.size _ rfl rfl 128 _ HF.out.1 (by kernel_rfl) rfl (by kernel_rfl) ?_) | (refine wpList_store_row rfl 128 _ _ rfl (w4.heap.size + 1) _ rfl rfl 128 _ (second_fr _ HF.out.2) (by kernel_rfl) rfl (by kernel_rfl) ?_))
      obtain ⟨hb, q, _⟩ := pair_st w4 128 128 #[.int .u64 0, .int .u64 0] #[.int .u64 0, .int .u64 0] #[.int .u64 (hiN n), .int .u64 (loN n)] #[.int .u64 (hiN m1), .int .u64 (loN m1)]
      have H9 := Lib.hid q
      have H4' := Lib.hid (heap_keep H4.out hb)
      have H5' := Lib.hid (heap_keep H5.out hb)
      have H6' := Lib.hid (heap_keep H6.out hb)
      have H8' := Lib.hid (heap_keep H8.out hb)
      have HB' := Lib.hid (HB.out.trans (hb.mono HB.out.size))
      clear HB H4 H5 H6 H8
      have H4 := H4'
      have H5 := H5'
      have H6 := H6'
      have H8 := H8'
      have HB := HB'
      clear HB' H4' H5' H6' H8'
      generalize (((w4.alloc (.cells #[.int .u64 0, .int .u64 0] 128)).alloc (.cells #[.int .u64 0, .int .u64 0] 128)).setRow w4.heap.size #[.int .u64 (hiN n), .int .u64 (loN n)]).setRow (w4.heap.size + 1) #[.int .u64 (hiN m1), .int .u64 (loN m1)] = w5 at *
      obtain ⟨g9, hg9⟩ : ∃ g, g = w4.heap.size := ⟨_, rfl⟩
      rw [← hg9] at H9 ⊢
      clear hb q hg9 HF
      obtain ⟨k50, k51, k52, k53⟩ := cell_two H5.out
      obtain ⟨k80, k81, k82, k83⟩ := cell_two H8.out
      go_wp2_with fail
      refine (HO2.out _).mono ?_
      rintro e w6 ⟨rfl, hb⟩
      clear k50 k51 k52 k53 k80 k81 k82 k83
      have H4' := Lib.hid (heap_keep H4.out hb)
      have H5' := Lib.hid (heap_keep H5.out hb)
      have H6' := Lib.hid (heap_keep H6.out hb)
      have H8' := Lib.hid (heap_keep H8.out hb)
      have H9' := Lib.hid (heap_keep H9.out hb)
      have HB' := Lib.hid (HB.out.trans (hb.mono HB.out.size))
      clear HB H4 H5 H6 H8 H9
      have H4 := H4'
      have H5 := H5'
      have H6 := H6'
      have H8 := H8'
      have H9 := H9'
      have HB := HB'
      clear HB' H4' H5' H6' H8' H9'
      clear hb
      have HF := Lib.hid (two_fr w6 (.cells #[.int .u64 0, .int .u64 0] 128) (.cells #[.int .u64 0, .int .u64 0] 128))
      go_upto_region 6 with (first | (refine wpList_store_row rfl 128 _ _ rfl w6.heap.size _ rfl rfl 128 _ HF.out.1 (by kernel_rfl) rfl (by kernel_rfl) ?_) | (refine wpList_store_row rfl 128 _ _ rfl (w6.heap.size + 1) _ rfl rfl 128 _ (second_fr _ HF.out.2) (by kernel_rfl) rfl (by kernel_rfl) ?_))
      obtain ⟨hb, q, _⟩ := pair_st w6 128 128 #[.int .u64 0, .int .u64 0] #[.int .u64 0, .int .u64 0] #[.int .u64 (hiN d), .int .u64 (loN d)] #[.int .u64 (hiN m2), .int .u64 (loN m2)]
      have H11 := Lib.hid q
      have H4' := Lib.hid (heap_keep H4.out hb)
      have H5' := Lib.hid (heap_keep H5.out hb)
      have H6' := Lib.hid (heap_keep H6.out hb)
      have H8' := Lib.hid (heap_keep H8.out hb)
      have H9' := Lib.hid (heap_keep H9.out hb)
      have HB' := Lib.hid (HB.out.trans (hb.mono HB.out.size))
      clear HB H4 H5 H6 H8 H9
      have H4 := H4'
      have H5 := H5'
      have H6 := H6'
      have H8 := H8'
      have H9 := H9'
      have HB := HB'
      clear HB' H4' H5' H6' H8' H9'
      generalize (((w6.alloc (.cells #[.int .u64 0, .int .u64 0] 128)).alloc (.cells #[.int .u64 0, .int .u64 0] 128)).setRow w6.heap.size #[.int .u64 (hiN d), .int .u64 (loN d)]).setRow (w6.heap.size + 1) #[.int .u64 (hiN m2), .int .u64 (loN m2)] = w7 at *
      obtain ⟨g11, hg11⟩ : ∃ g, g = w6.heap.size := ⟨_, rfl⟩
      rw [← hg11] at H11 ⊢
      clear hb q hg11 HF
      cases neg with
      | false =>
        have hfit : fitsI (sgnI false n) = true ↔ n ≤ 9223372036854775807 := by
          unfold fitsI
          rw [decide_eq_true_iff]
          show (-9223372036854775808 ≤ (n : Int) ∧ (n : Int) ≤ 9223372036854775807) ↔ _
          omega
        by_cases c1 : n < 18446744073709551616
        · rw [small_hi c1, small_lo c1] at H9
          by_cases c2 : n ≤ 9223372036854775807
          · have d2 : decide ((9223372036854775807 : Int) < (n : Int)) = false := decide_eq_false (by omega)
            by_cases c3 : d < 18446744073709551616
            · rw [small_hi c3, small_lo c3] at H11
              by_cases c4 : d ≤ 9223372036854775807
              · have d4 : decide ((9223372036854775807 : Int) < (d : Int)) = false := decide_eq_false (by omega)
                have HE := Lib.hid (show AP = ((sgnI false n, (d : Int)), 0) by rw [HAF.out, if_pos ⟨hfit.2 c2, c4⟩])
                obtain ⟨k90, k91, _, _⟩ := cell_two H9.out
                obtain ⟨k110, k111, _, _⟩ := cell_two H11.out
                have gd : IntKind.i64.wrap (d : Int) = (d : Int) := IntWalk.i64_in _ (by omega)
                have gn : IntKind.i64.wrap (n : Int) = (n : Int) := IntWalk.i64_in _ (by omega)
                clear HAF HN1 HD1 hfit c1 c2 c3 c4
                go_upto_region 12 with fail
                have HB2 := Lib.hid (HB.out.alloc HB.out.size (.cells #[.int .i64 (n : Int), .int .i64 (d : Int)] 59))
                have H62 := Lib.hid (heap_keep H6.out (below_one w7 (.cells #[.int .i64 (n : Int), .int .i64 (d : Int)] 59)))
                have H92 := Lib.hid (heap_keep H9.out (below_one w7 (.cells #[.int .i64 (n : Int), .int .i64 (d : Int)] 59)))
                have H14 := Lib.hid (heap_alloc_new w7 (.cells #[.int .i64 (n : Int), .int .i64 (d : Int)] 59))
                have hlt : g6 < w7.heap.size := heap_lt2 H6.out
                have hlw : w.heap.size ≤ w7.heap.size := by omega
                generalize w7.alloc (.cells #[.int .i64 (n : Int), .int .i64 (d : Int)] 59) = v1 at *
                obtain ⟨g14, hg14⟩ : ∃ g, g = w7.heap.size := ⟨_, rfl⟩
                rw [← hg14] at H14 hlt hlw ⊢
                clear hg14 k90 k91 k110 k111
                have H15 := H14
                have H63 := H62
                have HB3 := HB2
                obtain ⟨k60, k61, k62, k63⟩ := cell_two H63.out
                obtain ⟨k150, k151, _, _⟩ := cell_two H15.out
                have T1 := Lib.hid (rat_cells H63.out (.int .i64 (n : Int)) (.int .i64 (d : Int)))
                have T2 := Lib.hid ((HB3.out.setCell (p := ⟨g6, 0, none⟩) hle (.int .i64 (n : Int))).setCell (p := ⟨g6, 1, none⟩) hle (.int .i64 (d : Int)))
                go_wp2
                refine bodyPost_ret (results_row_tmp (fn := Try.f103) rfl _ _ g6 _ _ _ _ rfl T1.out Try.underlying59 rfl (by kernel_rfl)) rfl ?_
                exact ⟨by rw [HE.out]; rfl, T2.out⟩
              · have d4 : decide ((9223372036854775807 : Int) < (d : Int)) = true := decide_eq_true (by omega)
                have d5 : (9223372036854775807 : Int) < (d : Int) := by omega
                have HE := Lib.hid (show AP = ((0, 0), 20) by rw [HAF.out, if_neg (by intro h; exact c4 h.2)])
                obtain ⟨k90, k91, _, _⟩ := cell_two H9.out
                obtain ⟨k110, k111, _, _⟩ := cell_two H11.out
                obtain ⟨k60, k61, k62, k63⟩ := cell_two H6.out
                have T1 := Lib.hid (rat_cells H6.out (.int .i64 0) (.int .i64 0))
                have T2 := Lib.hid ((HB.out.setCell (p := ⟨g6, 0, none⟩) hle (.int .i64 0)).setCell (p := ⟨g6, 1, none⟩) hle (.int .i64 0))
                clear HAF HN1 HD1
                go_wp2
                refine bodyPost_ret (results_row_tmp (fn := Try.f103) rfl _ _ g6 _ _ _ _ rfl T1.out Try.underlying59 rfl (by kernel_rfl)) rfl ?_
                exact ⟨by rw [HE.out]; rfl, T2.out⟩
            · have d3 : (hiN d != 0) = true := by have h := HD1.out; unfold hiN; simp; omega
              have d5 : (hiN d == 0) = false := by have h := HD1.out; unfold hiN; simp; omega
              have HE := Lib.hid (show AP = ((0, 0), 20) by rw [HAF.out, if_neg (by intro h; have := h.2; omega)])
              obtain ⟨k90, k91, _, _⟩ := cell_two H9.out
              obtain ⟨k110, k111, _, _⟩ := cell_two H11.out
              obtain ⟨k60, k61, k62, k63⟩ := cell_two H6.out
              have T1 := Lib.hid (rat_cells H6.out (.int .i64 0) (.int .i64 0))
              have T2 := Lib.hid ((HB.out.setCell (p := ⟨g6, 0, none⟩) hle (.int .i64 0)).setCell (p := ⟨g6, 1, none⟩) hle (.int .i64 0))
              clear HAF HN1 HD1
              go_wp2
              refine bodyPost_ret (results_row_tmp (fn := Try.f103) rfl _ _ g6 _ _ _ _ rfl T1.out Try.underlying59 rfl (by kernel_rfl)) rfl ?_
              exact ⟨by rw [HE.out]; rfl, T2.out⟩
          · have d2 : decide ((9223372036854775807 : Int) < (n : Int)) = true := decide_eq_true (by omega)
            have d5 : (9223372036854775807 : Int) < (n : Int) := by omega
            have HE := Lib.hid (show AP = ((0, 0), 20) by rw [HAF.out, if_neg (by intro h; exact c2 (hfit.1 h.1))])
            obtain ⟨k90, k91, _, _⟩ := cell_two H9.out
            obtain ⟨k110, k111, _, _⟩ := cell_two H11.out
            obtain ⟨k60, k61, k62, k63⟩ := cell_two H6.out
            have T1 := Lib.hid (rat_cells H6.out (.int .i64 0) (.int .i64 0))
            have T2 := Lib.hid ((HB.out.setCell (p := ⟨g6, 0, none⟩) hle (.int .i64 0)).setCell (p := ⟨g6, 1, none⟩) hle (.int .i64 0))
            clear HAF HN1 HD1
            go_wp2
            refine bodyPost_ret (results_row_tmp (fn := Try.f103) rfl _ _ g6 _ _ _ _ rfl T1.out Try.underlying59 rfl (by kernel_rfl)) rfl ?_
            exact ⟨by rw [HE.out]; rfl, T2.out⟩
        · have d3 : (hiN n != 0) = true := by have h := HN1.out; unfold hiN; simp; omega
          have d5 : (hiN n == 0) = false := by have h := HN1.out; unfold hiN; simp; omega
          have HE := Lib.hid (show AP = ((0, 0), 20) by rw [HAF.out, if_neg (by intro h; have := hfit.1 h.1; omega)])
          obtain ⟨k90, k91, _, _⟩ := cell_two H9.out
          obtain ⟨k110, k111, _, _⟩ := cell_two H11.out
          obtain ⟨k60, k61, k62, k63⟩ := cell_two H6.out
          have T1 := Lib.hid (rat_cells H6.out (.int .i64 0) (.int .i64 0))
          have T2 := Lib.hid ((HB.out.setCell (p := ⟨g6, 0, none⟩) hle (.int .i64 0)).setCell (p := ⟨g6, 1, none⟩) hle (.int .i64 0))
          clear HAF HN1 HD1
          go_wp2
          refine bodyPost_ret (results_row_tmp (fn := Try.f103) rfl _ _ g6 _ _ _ _ rfl T1.out Try.underlying59 rfl (by kernel_rfl)) rfl ?_
          exact ⟨by rw [HE.out]; rfl, T2.out⟩
      | true =>
        have hfit : fitsI (sgnI true n) = true ↔ n ≤ 9223372036854775808 := by
          unfold fitsI
          rw [decide_eq_true_iff]
          show (-9223372036854775808 ≤ -(n : Int) ∧ -(n : Int) ≤ 9223372036854775807) ↔ _
          omega
        by_cases c1 : n < 18446744073709551616
        · rw [small_hi c1, small_lo c1] at H9
          by_cases c2 : n ≤ 9223372036854775808
          · have d2 : decide ((9223372036854775808 : Int) < (n : Int)) = false := decide_eq_false (by omega)
            by_cases c3 : d < 18446744073709551616
            · rw [small_hi c3, small_lo c3] at H11
              by_cases c4 : d ≤ 9223372036854775807
              · have d4 : decide ((9223372036854775807 : Int) < (d : Int)) = false := decide_eq_false (by omega)
                have HE := Lib.hid (show AP = ((sgnI true n, (d : Int)), 0) by rw [HAF.out, if_pos ⟨hfit.2 c2, c4⟩])
                obtain ⟨k90, k91, _, _⟩ := cell_two H9.out
                obtain ⟨k110, k111, _, _⟩ := cell_two H11.out
                have gd : IntKind.i64.wrap (d : Int) = (d : Int) := IntWalk.i64_in _ (by omega)
                have gn2 : IntKind.i64.wrap (IntKind.u64.wrap (-(n : Int))) = -(n : Int) := by rw [IntKind.wrap_u64, IntKind.wrap_i64]; omega
                obtain ⟨zz, gn⟩ : ∃ zz, IntKind.i64.wrap (n : Int) = zz := ⟨_, rfl⟩
                clear HAF HN1 HD1 hfit c1 c2 c3 c4
                go_upto_region 12 with fail
                have HB2 := Lib.hid (HB.out.alloc HB.out.size (.cells #[.int .i64 zz, .int .i64 (d : Int)] 59))
                have H62 := Lib.hid (heap_keep H6.out (below_one w7 (.cells #[.int .i64 zz, .int .i64 (d : Int)] 59)))
                have H92 := Lib.hid (heap_keep H9.out (below_one w7 (.cells #[.int .i64 zz, .int .i64 (d : Int)] 59)))
                have H14 := Lib.hid (heap_alloc_new w7 (.cells #[.int .i64 zz, .int .i64 (d : Int)] 59))
                have hlt : g6 < w7.heap.size := heap_lt2 H6.out
                have hlw : w.heap.size ≤ w7.heap.size := by omega
                generalize w7.alloc (.cells #[.int .i64 zz, .int .i64 (d : Int)] 59) = v1 at *
                obtain ⟨g14, hg14⟩ : ∃ g, g = w7.heap.size := ⟨_, rfl⟩
                rw [← hg14] at H14 hlt hlw ⊢
                clear hg14 k90 k91 k110 k111
                obtain ⟨k90, k91, _, _⟩ := cell_two H92.out
                obtain ⟨k140, k141, k142, k143⟩ := cell_two H14.out
                go_upto_region 14 with fail
                have H15 := Lib.hid ((cell_set H14.out (.int .i64 (-(n : Int)))).1)
                have H63 := Lib.hid (heap_other (c := 0) (.int .i64 (-(n : Int))) H62.out (show g6 ≠ g14 by omega))
                have HB3 := Lib.hid (HB2.out.setCell (p := ⟨g14, 0, none⟩) hlw (.int .i64 (-(n : Int))))
                generalize v1.setCell ⟨g14, 0, none⟩ (.int .i64 (-(n : Int))) = v2 at *
                clear k90 k91 k140 k141 k142 k143 H62 HB2 H92 H14
                obtain ⟨k60, k61, k62, k63⟩ := cell_two H63.out
                obtain ⟨k150, k151, _, _⟩ := cell_two H15.out
                have T1 := Lib.hid (rat_cells H63.out (.int .i64 (-(n : Int))) (.int .i64 (d : Int)))
                have T2 := Lib.hid ((HB3.out.setCell (p := ⟨g6, 0, none⟩) hle (.int .i64 (-(n : Int)))).setCell (p := ⟨g6, 1, none⟩) hle (.int .i64 (d : Int)))
                go_wp2
                refine bodyPost_ret (results_row_tmp (fn := Try.f103) rfl _ _ g6 _ _ _ _ rfl T1.out Try.underlying59 rfl (by kernel_rfl)) rfl ?_
                exact ⟨by rw [HE.out]; rfl, T2.out⟩
              · have d4 : decide ((9223372036854775807 : Int) < (d : Int)) = true := decide_eq_true (by omega)
                have d5 : (9223372036854775807 : Int) < (d : Int) := by omega
                have HE := Lib.hid (show AP = ((0, 0), 20) by rw [HAF.out, if_neg (by intro h; exact c4 h.2)])
                obtain ⟨k90, k91, _, _⟩ := cell_two H9.out
                obtain ⟨k110, k111, _, _⟩ := cell_two H11.out
                obtain ⟨k60, k61, k62, k63⟩ := cell_two H6.out
                have T1 := Lib.hid (rat_cells H6.out (.int .i64 0) (.int .i64 0))
                have T2 := Lib.hid ((HB.out.setCell (p := ⟨g6, 0, none⟩) hle (.int .i64 0)).setCell (p := ⟨g6, 1, none⟩) hle (.int .i64 0))
                clear HAF HN1 HD1
                go_wp2
                refine bodyPost_ret (results_row_tmp (fn := Try.f103) rfl _ _ g6 _ _ _ _ rfl T1.out Try.underlying59 rfl (by kernel_rfl)) rfl ?_
                exact ⟨by rw [HE.out]; rfl, T2.out⟩
            · have d3 : (hiN d != 0) = true := by have h := HD1.out; unfold hiN; simp; omega
              have d5 : (hiN d == 0) = false := by have h := HD1.out; unfold hiN; simp; omega
              have HE := Lib.hid (show AP = ((0, 0), 20) by rw [HAF.out, if_neg (by intro h; have := h.2; omega)])
              obtain ⟨k90, k91, _, _⟩ := cell_two H9.out
              obtain ⟨k110, k111, _, _⟩ := cell_two H11.out
              obtain ⟨k60, k61, k62, k63⟩ := cell_two H6.out
              have T1 := Lib.hid (rat_cells H6.out (.int .i64 0) (.int .i64 0))
              have T2 := Lib.hid ((HB.out.setCell (p := ⟨g6, 0, none⟩) hle (.int .i64 0)).setCell (p := ⟨g6, 1, none⟩) hle (.int .i64 0))
              clear HAF HN1 HD1
              go_wp2
              refine bodyPost_ret (results_row_tmp (fn := Try.f103) rfl _ _ g6 _ _ _ _ rfl T1.out Try.underlying59 rfl (by kernel_rfl)) rfl ?_
              exact ⟨by rw [HE.out]; rfl, T2.out⟩
          · have d2 : decide ((9223372036854775808 : Int) < (n : Int)) = true := decide_eq_true (by omega)
            have d5 : (9223372036854775808 : Int) < (n : Int) := by omega
            have HE := Lib.hid (show AP = ((0, 0), 20) by rw [HAF.out, if_neg (by intro h; exact c2 (hfit.1 h.1))])
            obtain ⟨k90, k91, _, _⟩ := cell_two H9.out
            obtain ⟨k110, k111, _, _⟩ := cell_two H11.out
            obtain ⟨k60, k61, k62, k63⟩ := cell_two H6.out
            have T1 := Lib.hid (rat_cells H6.out (.int .i64 0) (.int .i64 0))
            have T2 := Lib.hid ((HB.out.setCell (p := ⟨g6, 0, none⟩) hle (.int .i64 0)).setCell (p := ⟨g6, 1, none⟩) hle (.int .i64 0))
            clear HAF HN1 HD1
            go_wp2
            refine bodyPost_ret (results_row_tmp (fn := Try.f103) rfl _ _ g6 _ _ _ _ rfl T1.out Try.underlying59 rfl (by kernel_rfl)) rfl ?_
            exact ⟨by rw [HE.out]; rfl, T2.out⟩
        · have d3 : (hiN n != 0) = true := by have h := HN1.out; unfold hiN; simp; omega
          have d5 : (hiN n == 0) = false := by have h := HN1.out; unfold hiN; simp; omega
          have HE := Lib.hid (show AP = ((0, 0), 20) by rw [HAF.out, if_neg (by intro h; have := hfit.1 h.1; omega)])
          obtain ⟨k90, k91, _, _⟩ := cell_two H9.out
          obtain ⟨k110, k111, _, _⟩ := cell_two H11.out
          obtain ⟨k60, k61, k62, k63⟩ := cell_two H6.out
          have T1 := Lib.hid (rat_cells H6.out (.int .i64 0) (.int .i64 0))
          have T2 := Lib.hid ((HB.out.setCell (p := ⟨g6, 0, none⟩) hle (.int .i64 0)).setCell (p := ⟨g6, 1, none⟩) hle (.int .i64 0))
          clear HAF HN1 HD1
          go_wp2
          refine bodyPost_ret (results_row_tmp (fn := Try.f103) rfl _ _ g6 _ _ _ _ rfl T1.out Try.underlying59 rfl (by kernel_rfl)) rfl ?_
          exact ⟨by rw [HE.out]; rfl, T2.out⟩

end Go.Proofs.Ytfegongaflekiaa

/- New and Of, as the document makes them. -/
namespace Go.Proofs.Ytfegongaflekiaa
open Go Go.RowKit
set_option linter.unusedVariables false
set_option linter.unusedSimpArgs false

set_option maxRecDepth 100000 in
set_option maxHeartbeats 2000000 in
theorem dnew_any (n d : Int) (hn : I64 n) (hd : I64 d) (w : World) : Calls Try.prog 44 #[.int .i64 n, .int .i64 d] w fun e w' => e = .returned (.tuple #[rtV (newP n d).1, .int .i64 (newP n d).2]) ∧ Below w.heap.size w w' := by
  rw [← dnew_is]
  have an := abs64 hn
  have ad := abs64 hd
  have HS1 := Lib.hid (fun W => dsize_any n hn.1 hn.2 W)
  have HS2 := Lib.hid (fun W => dsize_any d hd.1 hd.2 W)
  obtain ⟨M, hM⟩ : ∃ M, M = dnewP n d := ⟨_, rfl⟩
  have HH : Hid (∀ W, Calls Try.prog 103 #[.bool (decide (n < 0) != decide (d < 0)), .agg #[.int .u64 (hiN n.natAbs), .int .u64 (loN n.natAbs)], .agg #[.int .u64 (hiN d.natAbs), .int .u64 (loN d.natAbs)]] W fun e w' => e = .returned (.tuple #[.agg #[.int .i64 M.1.1, .int .i64 M.1.2], .int .i64 M.2]) ∧ Below W.heap.size W w') := Lib.hid (fun W => by rw [hM]; exact held_any (decide (n < 0) != decide (d < 0)) n.natAbs d.natAbs W (by omega) (by omega))
  rw [small_hi (show n.natAbs < 18446744073709551616 by omega), small_lo (show n.natAbs < 18446744073709551616 by omega), small_hi (show d.natAbs < 18446744073709551616 by omega), small_lo (show d.natAbs < 18446744073709551616 by omega)] at HH
  rw [← hM]
  obtain ⟨sx, hsx⟩ : ∃ sx, (!(decide (n < 0) == decide (d < 0))) = sx := ⟨_, rfl⟩
  rw [show (decide (n < 0) != decide (d < 0)) = sx from hsx] at HH
  have H1 := Lib.hid (heap_alloc_new w (.cells #[.int .i64 0, .int .i64 0] 59))
  have HB := Lib.hid (below_one w (.cells #[.int .i64 0, .int .i64 0] 59))
  have hle : w.heap.size ≤ w.heap.size := Nat.le_refl _
  obtain ⟨mx, hmx⟩ : ∃ m, m = n.natAbs := ⟨_, rfl⟩
  obtain ⟨my, hmy⟩ : ∃ m, m = d.natAbs := ⟨_, rfl⟩
  rw [← hmx] at HS1 HH
  rw [← hmy] at HS2 HH
  clear hM hmx hmy an ad hn hd
  go_enter Try.func44, Try.ntmps44
  go_upto_region 1 with fail
  generalize w.alloc (.cells #[.int .i64 0, .int .i64 0] 59) = w1 at *
  go_wp2_with (first | (go_at_call_of 82 n; refine (HS1.out _).mono ?_; rintro e w2 ⟨rfl, rfl⟩) | (go_at_call_of 82 d; refine (HS2.out _).mono ?_; rintro e w2 ⟨rfl, rfl⟩))
  refine (HH.out _).mono ?_
  rintro e w4 ⟨rfl, hb⟩
  have H4 := Lib.hid (heap_keep H1.out hb)
  have HB4 := Lib.hid (HB.out.trans (hb.mono HB.out.size))
  clear hb H1 HB
  obtain ⟨k1, k2, k3, k4⟩ := cell_two H4.out
  have T1 := Lib.hid (rat_cells H4.out (.int .i64 M.1.1) (.int .i64 M.1.2))
  have T2 := Lib.hid ((HB4.out.setCell (p := ⟨w.heap.size, 0, none⟩) hle (.int .i64 M.1.1)).setCell (p := ⟨w.heap.size, 1, none⟩) hle (.int .i64 M.1.2))
  go_wp2
  refine bodyPost_ret (results_row_tmp (fn := Try.f44) rfl _ _ w.heap.size _ _ _ _ rfl T1.out Try.underlying59 rfl (by kernel_rfl)) rfl ?_
  exact ⟨rfl, T2.out⟩

end Go.Proofs.Ytfegongaflekiaa

/- Sums and differences of right fractions, as the document makes them. -/
namespace Go.Proofs.Ytfegongaflekiaa
open Go Go.RowKit
set_option linter.unusedVariables false
set_option linter.unusedSimpArgs false

theorem Blk.drew {T : TypeId} {g n : Nat} {w : World} (h : Blk T g n w) : Blk T g n w.drew := h
theorem Blk.put {T : TypeId} {g n k : Nat} {w : World} (h : Blk T g n w) (hg : k < g) (u v : Value) : Blk T g n ((w.setCell ⟨k, 0, none⟩ u).setCell ⟨k, 1, none⟩ v) := heap_other _ (heap_other _ h (by omega)) (by omega)
theorem Rb.put {w0 wr : World} {x1 x2 y1 y2 : Int} (h : Rb w0 x1 x2 y1 y2 wr) {g : Nat} (hg : w0.heap.size + 1 + 1 < g) (u v : Value) : Rb w0 x1 x2 y1 y2 ((wr.setCell ⟨g, 0, none⟩ u).setCell ⟨g, 1, none⟩ v) := by
  have hl : w0.heap.size ≤ g := by omega
  exact ⟨(h.below.setCell (p := ⟨g, 0, none⟩) hl _).setCell (p := ⟨g, 1, none⟩) hl _, heap_other _ (heap_other _ h.ha (by omega)) (by omega), heap_other _ (heap_other _ h.hb (by omega)) (by omega), heap_other _ (heap_other _ h.h0 (by omega)) (by omega)⟩

end Go.Proofs.Ytfegongaflekiaa

/- Differences of right fractions, as the document makes them. -/
namespace Go.Proofs.Ytfegongaflekiaa
open Go Go.RowKit
set_option linter.unusedVariables false
set_option linter.unusedSimpArgs false

end Go.Proofs.Ytfegongaflekiaa

/- Sums and differences, as the document makes them. -/
namespace Go.Proofs.Ytfegongaflekiaa
open Go Go.RowKit
set_option linter.unusedVariables false
set_option linter.unusedSimpArgs false

end Go.Proofs.Ytfegongaflekiaa

/- Products and quotients, as the document makes them. -/
namespace Go.Proofs.Ytfegongaflekiaa
open Go Go.RowKit
set_option linter.unusedVariables false
set_option linter.unusedSimpArgs false

end Go.Proofs.Ytfegongaflekiaa

/- Which of two fractions is greater, as the document holds them. -/
namespace Go.Proofs.Ytfegongaflekiaa
open Go Go.RowKit
set_option linter.unusedVariables false
set_option linter.unusedSimpArgs false

theorem Blk.putO {T : TypeId} {g n k : Nat} {w : World} (h : Blk T g n w) (hg : g ≠ k) (u v : Value) : Blk T g n ((w.setCell ⟨k, 0, none⟩ u).setCell ⟨k, 1, none⟩ v) := heap_other _ (heap_other _ h hg) hg
theorem Rc2.put {w0 wr : World} {x1 x2 y1 y2 : Int} (h : Rc2 w0 x1 x2 y1 y2 wr) {g : Nat} (hg : w0.heap.size + 1 < g) (u v : Value) : Rc2 w0 x1 x2 y1 y2 ((wr.setCell ⟨g, 0, none⟩ u).setCell ⟨g, 1, none⟩ v) := by
  have hl : w0.heap.size ≤ g := by omega
  exact ⟨(h.below.setCell (p := ⟨g, 0, none⟩) hl _).setCell (p := ⟨g, 1, none⟩) hl _, heap_other _ (heap_other _ h.ha (by omega)) (by omega), heap_other _ (heap_other _ h.hb (by omega)) (by omega)⟩

set_option maxRecDepth 100000 in
set_option maxHeartbeats 16000000 in
theorem dcompare_any (x1 x2 y1 y2 : Int) (hx1 : I64 x1) (hx2 : I64 x2) (hy1 : I64 y1) (hy2 : I64 y2) (w : World) :
    Calls Try.prog 24 #[.agg #[.int .i64 x1, .int .i64 x2], .agg #[.int .i64 y1, .int .i64 y2]] w fun e w' => e = .returned (.int .i64 (cmpP (x1, x2) (y1, y2))) ∧ Below w.heap.size w w' := by
  have a1 := abs64 hx1
  have a2 := abs64 hx2
  have a3 := abs64 hy1
  have a4 := abs64 hy2
  have HR1 := Lib.hid (fun W => dright_any x1 x2 hx1 hx2 W)
  have HR2 := Lib.hid (fun W => dright_any y1 y2 hy1 hy2 W)
  have HPX := Lib.hid (fun (h : rightR (x1, x2) = true) => right_pos h)
  have HPY := Lib.hid (fun (h : rightR (y1, y2) = true) => right_pos h)
  have HS1 := Lib.hid (fun W => dsize_any x1 hx1.1 hx1.2 W)
  have HS2 := Lib.hid (fun W => dsize_any y1 hy1.1 hy1.2 W)
  have hwx0 : 0 < x2 → IntKind.u64.wrap x2 = (x2.natAbs : Int) := fun h => by rw [IntKind.wrap_u64]; obtain ⟨_, _⟩ := hx2; omega
  have hwy0 : 0 < y2 → IntKind.u64.wrap y2 = (y2.natAbs : Int) := fun h => by rw [IntKind.wrap_u64]; obtain ⟨_, _⟩ := hy2; omega
  have HWX := Lib.hid hwx0
  have HWY := Lib.hid hwy0
  have HM1 : Hid (∀ W, Calls Try.prog 81 #[.int .u64 (x1.natAbs : Int), .int .u64 (y2.natAbs : Int)] W fun e w' => e = .returned (.agg #[.int .u64 (hiN (x1.natAbs * y2.natAbs)), .int .u64 (loN (x1.natAbs * y2.natAbs))]) ∧ Below W.heap.size W w') := Lib.hid (fun W => dmul_any x1.natAbs y2.natAbs (by omega) (by omega) W)
  have HM2 : Hid (∀ W, Calls Try.prog 81 #[.int .u64 (y1.natAbs : Int), .int .u64 (x2.natAbs : Int)] W fun e w' => e = .returned (.agg #[.int .u64 (hiN (y1.natAbs * x2.natAbs)), .int .u64 (loN (y1.natAbs * x2.natAbs))]) ∧ Below W.heap.size W w') := Lib.hid (fun W => dmul_any y1.natAbs x2.natAbs (by omega) (by omega) W)
  obtain ⟨X, hX⟩ : ∃ X, X = x1.natAbs * y2.natAbs := ⟨_, rfl⟩
  obtain ⟨Y, hY⟩ : ∃ Y, Y = y1.natAbs * x2.natAbs := ⟨_, rfl⟩
  rw [← hX] at HM1
  rw [← hY] at HM2
  have HA1 := Lib.hid (fun (h1 : rightR (x1, x2) = true) (h2 : rightR (y1, y2) = true) => show cmpP (x1, x2) (y1, y2) = dcmpS (decide (x1 < 0)) (decide (y1 < 0)) X Y by
    have h := dcmp_is (x1, x2) (y1, y2) (right_pos h1) (right_pos h2)
    unfold cmpP
    rw [if_pos (by rw [h1, h2]; rfl), hX, hY]
    exact h.symm)
  have HA0 := Lib.hid (fun (h : (rightR (x1, x2) && rightR (y1, y2)) = false) => show cmpP (x1, x2) (y1, y2) = 0 by unfold cmpP; rw [if_neg (by rw [h]; decide)])
  obtain ⟨AP, hAP⟩ : ∃ AP, AP = cmpP (x1, x2) (y1, y2) := ⟨_, rfl⟩
  obtain ⟨ra, hra⟩ : ∃ ra, ra = rightR (x1, x2) := ⟨_, rfl⟩
  obtain ⟨rb, hrb⟩ : ∃ rb, rb = rightR (y1, y2) := ⟨_, rfl⟩
  rw [← hAP] at HA1 HA0 ⊢
  rw [← hra] at HR1 HA1 HA0 HPX
  rw [← hrb] at HR2 HA1 HA0 HPY
  obtain ⟨sa, hsa⟩ : ∃ sa, decide (x1 < 0) = sa := ⟨_, rfl⟩
  obtain ⟨sb, hsb⟩ : ∃ sb, decide (y1 < 0) = sb := ⟨_, rfl⟩
  rw [hsa, hsb] at HA1
  have hga : decide (0 ≤ x1) = !sa := by
    rw [← hsa]
    by_cases h : x1 < 0
    · rw [decide_eq_true h, decide_eq_false (by omega)]; rfl
    · rw [decide_eq_false h, decide_eq_true (by omega)]; rfl
  have hgb : decide (0 ≤ y1) = !sb := by
    rw [← hsb]
    by_cases h : y1 < 0
    · rw [decide_eq_true h, decide_eq_false (by omega)]; rfl
    · rw [decide_eq_false h, decide_eq_true (by omega)]; rfl
  have HW := Lib.hid (Rc2.made w x1 x2 y1 y2)
  clear hX hY hAP hra hrb hx1 hx2 hy1 hy2 a1 a2 a3 a4 hwx0 hwy0
  go_enter Try.func24, Try.ntmps24
  go_upto_region 1 with fail
  generalize (w.alloc (.cells #[.int .i64 x1, .int .i64 x2] 59)).alloc (.cells #[.int .i64 y1, .int .i64 y2] 59) = w1 at *
  obtain ⟨k1, k2, k3, k4⟩ := HW.out.four
  go_wp2_with fail
  refine (HR1.out _).mono ?_
  rintro e w2 ⟨rfl, hb⟩
  have HW2 := Lib.hid (HW.out.step hb)
  clear hb HW k1 k2 k3 k4
  cases ra with
  | false =>
    have HE := Lib.hid (HA0.out (by simp))
    clear HA0 HA1
    go_wp2
    go_ret
    exact ⟨by rw [HE.out]; rfl, HW2.out.below⟩
  | true =>
    obtain ⟨k1, k2, k3, k4⟩ := HW2.out.four
    go_wp2_with fail
    refine (HR2.out _).mono ?_
    rintro e w3 ⟨rfl, hb⟩
    have HW3 := Lib.hid (HW2.out.step hb)
    clear hb HW2 k1 k2 k3 k4
    cases rb with
    | false =>
      have HE := Lib.hid (HA0.out (by simp))
      clear HA0 HA1
      go_wp2
      go_ret
      exact ⟨by rw [HE.out]; rfl, HW3.out.below⟩
    | true =>
      have HE := Lib.hid (HA1.out (by simp) (by simp))
      have hwx := HWX.out (HPX.out (by simp))
      have hwy := HWY.out (HPY.out (by simp))
      clear HA0 HA1 HWX HWY HPX HPY
      go_upto_region 3 with fail
      go_cut [5] (fun s5 wx => ∃ g : Nat, s5 = .pointer (some ⟨g, 0, none⟩) ∧ Hid (Blk 128 g X wx ∧ w.heap.size + 1 < g) ∧ Hid (Rc2 w x1 x2 y1 y2 wx))
      case first =>
        have kb := HW3.out.drew
        go_region_held3 (fun wr => wr.cell? ⟨w.heap.size, 0, none⟩ = some (.int .i64 x1) ∧ wr.cell? ⟨w.heap.size, 1, none⟩ = some (.int .i64 x2) ∧ wr.cell? ⟨w.heap.size + 1, 0, none⟩ = some (.int .i64 y1) ∧ wr.cell? ⟨w.heap.size + 1, 1, none⟩ = some (.int .i64 y2))
          (first | exact kb.four | exact (kb.step (below_one v7 _)).four | exact (kb.put hlt _ _).four | exact (HW3.out.step (below_one w3 _)).drew.four | exact (kb.step (below_one _ _)).four | go_keep)
          (first | (go_at_call 82; refine (HS1.out _).mono ?_; rintro e v6 ⟨rfl, rfl⟩) | (go_at_call 81; refine (HM1.out _).mono ?_; rintro e v7 ⟨rfl, hb⟩; have kb := kb.step hb; clear hb) | (go_at_call 81; refine (HM1.out _).mono ?_; rintro e v7 ⟨rfl, hb⟩; have hlt := heap_lt2 HW3.out.hb; have hz := heap_keep (w := (w3.alloc _).drew) (heap_alloc_new w3 _) hb; have kb := (HW3.out.step (below_one w3 _)).drew.step hb; obtain ⟨z1, z2, z3, z4⟩ := cell_two hz; clear hb))
        all_goals
          first
            | (have HX := (cell_set (cell_set hz (.int .u64 (hiN X))).1 (.int .u64 (loN X))).2
               have HY := Lib.hid (kb.put hlt (.int .u64 (hiN X)) (.int .u64 (loN X)))
               go_wp2_with fail
               go_meet
               exact ⟨_, rfl, ⟨HX, hlt⟩, HY⟩)
            | (have HX := heap_alloc_new v7 (.cells #[.int .u64 (hiN X), .int .u64 (loN X)] 128)
               have HY := Lib.hid (kb.step (below_one v7 (.cells #[.int .u64 (hiN X), .int .u64 (loN X)] 128)))
               have HL := heap_lt2 kb.hb
               go_wp2_with fail
               go_meet
               exact ⟨_, rfl, ⟨HX, HL⟩, HY⟩)
      case rest =>
        obtain ⟨g6, rfl, hx6, HW4⟩ := hcut
        have H6 := Lib.hid hx6.out.1
        have n6 := hx6.out.2
        clear hx6 HW3
        go_upto_region 4 with fail
        go_cut [6] (fun s6 wx => ∃ g : Nat, s6 = .pointer (some ⟨g, 0, none⟩) ∧ Hid (Blk 128 g Y wx ∧ w.heap.size + 1 < g ∧ g6 ≠ g) ∧ Hid (Rc2 w x1 x2 y1 y2 wx) ∧ Hid (Blk 128 g6 X wx))
        case first =>
          have kb := HW4.out.drew
          have kH6 : Blk 128 g6 X wc.drew := H6.out
          go_region_held3 (fun wr => wr.cell? ⟨w.heap.size, 0, none⟩ = some (.int .i64 x1) ∧ wr.cell? ⟨w.heap.size, 1, none⟩ = some (.int .i64 x2) ∧ wr.cell? ⟨w.heap.size + 1, 0, none⟩ = some (.int .i64 y1) ∧ wr.cell? ⟨w.heap.size + 1, 1, none⟩ = some (.int .i64 y2))
            (first | exact kb.four | exact (kb.step (below_one v7 _)).four | exact (kb.put hlt _ _).four | exact (HW4.out.step (below_one wc _)).drew.four | exact (kb.step (below_one _ _)).four | go_keep)
            (first | (go_at_call 82; refine (HS2.out _).mono ?_; rintro e v6 ⟨rfl, rfl⟩) | (go_at_call 81; refine (HM2.out _).mono ?_; rintro e v7 ⟨rfl, hb⟩; have kb := kb.step hb; have kH6 := Blk.below kH6 hb; clear hb) | (go_at_call 81; refine (HM2.out _).mono ?_; rintro e v7 ⟨rfl, hb⟩; have hlt := heap_lt2 HW4.out.hb; have hz := heap_keep (w := (wc.alloc _).drew) (heap_alloc_new wc _) hb; have kb := (HW4.out.step (below_one wc _)).drew.step hb; have kH6 := Blk.below (Blk.drew (Blk.below H6.out (below_one wc _))) hb; obtain ⟨z1, z2, z3, z4⟩ := cell_two hz; clear hb))
          all_goals
            first
              | (have HX := (cell_set (cell_set hz (.int .u64 (hiN Y))).1 (.int .u64 (loN Y))).2
                 have HY := Lib.hid (kb.put hlt (.int .u64 (hiN Y)) (.int .u64 (loN Y)))
                 have jH6 : Hid (Blk 128 g6 X ((v7.setCell ⟨wc.heap.size, 0, none⟩ (.int .u64 (hiN Y))).setCell ⟨wc.heap.size, 1, none⟩ (.int .u64 (loN Y)))) := Lib.hid (heap_other _ (heap_other _ kH6 (by have := Blk.lt H6.out; omega)) (by have := Blk.lt H6.out; omega))
                 go_wp2_with fail
                 go_meet
                 exact ⟨_, rfl, ⟨HX, hlt, Nat.ne_of_lt (Blk.lt H6.out)⟩, HY, jH6⟩)
              | (have HX := heap_alloc_new v7 (.cells #[.int .u64 (hiN Y), .int .u64 (loN Y)] 128)
                 have HY := Lib.hid (kb.step (below_one v7 (.cells #[.int .u64 (hiN Y), .int .u64 (loN Y)] 128)))
                 have HL := heap_lt2 kb.hb
                 have jH6 := Lib.hid (Blk.below kH6 (below_one v7 (.cells #[.int .u64 (hiN Y), .int .u64 (loN Y)] 128)))
                 go_wp2_with fail
                 go_meet
                 exact ⟨_, rfl, ⟨HX, HL, Nat.ne_of_lt (Blk.lt kH6)⟩, HY, jH6⟩)
        case rest =>
          clear H6 HW4
          obtain ⟨g7, rfl, hx7, HW5, H6⟩ := hcut
          have H7 := Lib.hid hx7.out.1
          have n7 := hx7.out.2.1
          have n67 := hx7.out.2.2
          clear hx7
          cases sa with
          | false =>
            have hga2 : decide (0 ≤ x1) = true := hga
            clear hga
            cases sb with
            | false =>
              have hgb2 : decide (0 ≤ y1) = true := hgb
              clear hgb
              obtain ⟨k1, k2, k3, k4⟩ := HW5.out.four
              obtain ⟨j1, j2, _, _⟩ := cell_two (H6.out)
              obtain ⟨j3, j4, _, _⟩ := cell_two (H7.out)
              go_wp2_with fail
              refine (dbelow_any X Y _).mono ?_
              rintro e w7 ⟨rfl, hb⟩
              have HW7 := Lib.hid (HW5.out.step hb)
              have H67 := Lib.hid (H6.out.below hb)
              have H77 := Lib.hid (H7.out.below hb)
              clear hb j1 j2 j3 j4 k1 k2 k3 k4
              by_cases hlt : X < Y
              · rw [decide_eq_true hlt]
                have HE2 := Lib.hid (show AP = -1 by rw [HE.out]; unfold dcmpS; simp [hlt])
                clear HE
                go_wp2
                go_ret
                exact ⟨by rw [HE2.out]; rfl, HW7.out.below⟩
              · rw [decide_eq_false hlt]
                obtain ⟨k1, k2, k3, k4⟩ := HW7.out.four
                obtain ⟨j1, j2, _, _⟩ := cell_two H67.out
                obtain ⟨j3, j4, _, _⟩ := cell_two H77.out
                go_wp2_with fail
                refine (dbelow_any Y X _).mono ?_
                rintro e w8 ⟨rfl, hb⟩
                have HB8 := Lib.hid (HW7.out.step hb).below
                clear hb j1 j2 j3 j4 k1 k2 k3 k4
                by_cases hgt : Y < X
                · rw [decide_eq_true hgt]
                  have HE2 := Lib.hid (show AP = 1 by rw [HE.out]; unfold dcmpS; simp [hlt, hgt])
                  clear HE
                  go_wp2
                  go_ret
                  exact ⟨by rw [HE2.out]; rfl, HB8.out⟩
                · rw [decide_eq_false hgt]
                  have HE2 := Lib.hid (show AP = 0 by rw [HE.out]; unfold dcmpS; simp [hlt, hgt])
                  clear HE
                  go_wp2
                  go_ret
                  exact ⟨by rw [HE2.out]; rfl, HB8.out⟩
            | true =>
              have hgb2 : decide (0 ≤ y1) = false := hgb
              clear hgb
              obtain ⟨k1, k2, k3, k4⟩ := HW5.out.four
              have HE2 := Lib.hid (show AP = 1 by rw [HE.out]; unfold dcmpS; simp)
              clear HE
              go_wp2
              go_ret
              exact ⟨by rw [HE2.out]; rfl, HW5.out.below⟩
          | true =>
            have hga2 : decide (0 ≤ x1) = false := hga
            clear hga
            cases sb with
            | false =>
              have hgb2 : decide (0 ≤ y1) = true := hgb
              clear hgb
              obtain ⟨k1, k2, k3, k4⟩ := HW5.out.four
              have HE2 := Lib.hid (show AP = -1 by rw [HE.out]; unfold dcmpS; simp)
              clear HE
              go_wp2
              go_ret
              exact ⟨by rw [HE2.out]; rfl, HW5.out.below⟩
            | true =>
              have hgb2 : decide (0 ≤ y1) = false := hgb
              clear hgb
              obtain ⟨k1, k2, k3, k4⟩ := HW5.out.four
              obtain ⟨j1, j2, j5, j6⟩ := cell_two H6.out
              obtain ⟨j3, j4, j7, j8⟩ := cell_two H7.out
              have n67s := Ne.symm n67
              go_upto_region 7 with fail
              have HW6 := Lib.hid ((HW5.out.put n6 (.int .u64 (hiN Y)) (.int .u64 (loN Y))).put n7 (.int .u64 (hiN X)) (.int .u64 (loN X)))
              have H66 := Lib.hid (show Blk 128 g6 Y _ from Blk.putO (show Blk 128 g6 Y _ from (cell_set (cell_set H6.out (.int .u64 (hiN Y))).1 (.int .u64 (loN Y))).2) n67 (.int .u64 (hiN X)) (.int .u64 (loN X)))
              have H76 := Lib.hid (show Blk 128 g7 X _ from (cell_set (cell_set (Blk.putO H7.out n67s (.int .u64 (hiN Y)) (.int .u64 (loN Y))) (.int .u64 (hiN X))).1 (.int .u64 (loN X))).2)
              generalize ((((wc.setCell ⟨g6, 0, none⟩ (.int .u64 (hiN Y))).setCell ⟨g6, 1, none⟩ (.int .u64 (loN Y))).setCell ⟨g7, 0, none⟩ (.int .u64 (hiN X))).setCell ⟨g7, 1, none⟩ (.int .u64 (loN X))) = w6 at *
              clear j1 j2 j3 j4 j5 j6 j7 j8 k1 k2 k3 k4
              obtain ⟨k1, k2, k3, k4⟩ := HW6.out.four
              obtain ⟨j1, j2, _, _⟩ := cell_two (H66.out)
              obtain ⟨j3, j4, _, _⟩ := cell_two (H76.out)
              go_wp2_with fail
              refine (dbelow_any Y X _).mono ?_
              rintro e w7 ⟨rfl, hb⟩
              have HW7 := Lib.hid (HW6.out.step hb)
              have H67 := Lib.hid (H66.out.below hb)
              have H77 := Lib.hid (H76.out.below hb)
              clear hb j1 j2 j3 j4 k1 k2 k3 k4
              by_cases hlt : Y < X
              · rw [decide_eq_true hlt]
                have HE2 := Lib.hid (show AP = -1 by rw [HE.out]; unfold dcmpS; simp [hlt])
                clear HE
                go_wp2
                go_ret
                exact ⟨by rw [HE2.out]; rfl, HW7.out.below⟩
              · rw [decide_eq_false hlt]
                obtain ⟨k1, k2, k3, k4⟩ := HW7.out.four
                obtain ⟨j1, j2, _, _⟩ := cell_two H67.out
                obtain ⟨j3, j4, _, _⟩ := cell_two H77.out
                go_wp2_with fail
                refine (dbelow_any X Y _).mono ?_
                rintro e w8 ⟨rfl, hb⟩
                have HB8 := Lib.hid (HW7.out.step hb).below
                clear hb j1 j2 j3 j4 k1 k2 k3 k4
                by_cases hgt : X < Y
                · rw [decide_eq_true hgt]
                  have HE2 := Lib.hid (show AP = 1 by rw [HE.out]; unfold dcmpS; simp [hlt, hgt])
                  clear HE
                  go_wp2
                  go_ret
                  exact ⟨by rw [HE2.out]; rfl, HB8.out⟩
                · rw [decide_eq_false hgt]
                  have HE2 := Lib.hid (show AP = 0 by rw [HE.out]; unfold dcmpS; simp [hlt, hgt])
                  clear HE
                  go_wp2
                  go_ret
                  exact ⟨by rw [HE2.out]; rfl, HB8.out⟩

end Go.Proofs.Ytfegongaflekiaa

/- Which of two valuations comes first. -/
namespace Go.Proofs.Ytfegongaflekiaa
open Go Go.RowKit
set_option linter.unusedVariables false
set_option linter.unusedSimpArgs false

/-- Which comes first from the place p on; fuel: how many of the first are left. -/
def cmpLF (a b : List (Int × Int)) : Nat → Nat → Int
  | 0, _ => if a.length < b.length then -1 else 0
  | g + 1, p => if b.length ≤ p then 1 else if cmpP (a.getD p (0, 0)) (b.getD p (0, 0)) ≠ 0 then cmpP (a.getD p (0, 0)) (b.getD p (0, 0)) else cmpLF a b g (p + 1)
def cmpLP (a b : List (Int × Int)) : Int := cmpLF a b a.length 0

set_option maxRecDepth 100000 in
set_option maxHeartbeats 4000000 in
theorem cmpfunc_any (A : Option Addr) (c : Nat) (l : List (Int × Int)) (B : Option Addr) (d : Nat) (l' : List (Int × Int)) (w : World) (hI : RatsA w A l) (hJ : RatsA w B l') (hmax : l.length ≤ 8796093022000) (hmax' : l'.length ≤ 8796093022000) (h64 : All64v l) (h64' : All64v l') :
    Calls Try.prog 60 #[.slice A l.length c, .slice B l'.length d, .func (.func 21) #[] #[]] w fun e w' => e = .returned (.int .i64 (cmpLP l l')) ∧ Below w.heap.size w w' := by
  have HI := Lib.hid hI
  have HJ := Lib.hid hJ
  have H64 := Lib.hid h64
  have H64' := Lib.hid h64'
  have HL := Lib.hid hmax
  have HB0 := Lib.hid (Below.refl w.heap.size w)
  obtain ⟨R, hR⟩ : ∃ q, q = cmpLP l l' := ⟨_, rfl⟩
  rw [← hR]
  have HR := Lib.hid hR
  clear hR hI hJ h64 h64' hmax hmax'
  go_enter Try.func60, Try.ntmps60
  go_wp2
  go_loopg [13] l.length (fun g s wr => ∃ p : Nat, s = .int .i64 p ∧ Hid (Below w.heap.size w wr) ∧ Hid (p ≤ l.length ∧ g + p = l.length ∧ R = cmpLF l l' g p))
  case atStart => exact ⟨0, by simp, HB0, Lib.hid ⟨by omega, by omega, HR.out⟩⟩
  case round =>
    clear HB0 HR
    obtain ⟨p, rfl, HB, HG⟩ := hrel
    by_cases hp : p < l.length
    · have hpi : (p : Int) < (l.length : Int) := by omega
      obtain ⟨ba, oa, rfl, d1, d2⟩ := HI.out.below HB.out p hp
      have x64 := H64.out p hp
      have HST : Hid (R = if l'.length ≤ p then 1 else if cmpP (l.getD p (0, 0)) (l'.getD p (0, 0)) ≠ 0 then cmpP (l.getD p (0, 0)) (l'.getD p (0, 0)) else cmpLF l l' (l.length - (p + 1)) (p + 1)) := Lib.hid (by
        have h := HG.out.2.2
        rw [show gk = (l.length - (p + 1)) + 1 by have := HG.out.2.1; omega] at h
        exact h)
      have w5 : IntKind.i64.wrap ((p : Int) + 1) = ((p + 1 : Nat) : Int) := by rw [IntWalk.i64_in _ (by have := HL.out; omega)]; omega
      by_cases hq : p < l'.length
      · have hqi : (p : Int) < (l'.length : Int) := by omega
        have hqn : ¬ (l'.length : Int) ≤ (p : Int) := by omega
        have y64 := H64'.out p hq
        rw [if_neg (by omega)] at HST
        obtain ⟨bb, ob, rfl, _, _⟩ := HJ.out.below HB.out p hq
        obtain ⟨x, hx⟩ : ∃ q, q = l.getD p (0, 0) := ⟨_, rfl⟩
        obtain ⟨y, hy⟩ : ∃ q, q = l'.getD p (0, 0) := ⟨_, rfl⟩
        have HY := Lib.hid hy
        rw [← hx] at d1 d2 x64 HST
        rw [← hy] at y64 HST
        obtain ⟨x1, x2⟩ := x
        obtain ⟨y1, y2⟩ := y
        have HCM := Lib.hid (fun W => compare_any x1 x2 y1 y2 x64.1 x64.2 y64.1 y64.2 W)
        obtain ⟨cc, hcc⟩ : ∃ q, q = cmpP (x1, x2) (y1, y2) := ⟨_, rfl⟩
        rw [← hcc] at HCM HST
        clear hx hy hcc x64 y64
        go_upto_region 6 with fail
        have K := Lib.hid ((Blx.start wr).new #[.int .i64 x1, .int .i64 x2] 59)
        generalize wr.alloc (.cells #[.int .i64 x1, .int .i64 x2] 59) = w3 at *
        generalize wr.heap.size = g3 at *
        replace HB := Lib.hid (HB.out.trans (K.out.below.mono HB.out.size))
        obtain ⟨bb', ob', eb', e1, e2⟩ := HJ.out.below HB.out p hq
        simp only [Option.some.injEq, Addr.mk.injEq, and_true] at eb'
        obtain ⟨rfl, rfl⟩ := eb'
        rw [← HY.out] at e1 e2
        simp only at e1 e2
        clear d1 d2
        go_upto_region 7 with fail
        replace HB := Lib.hid (HB.out.trans ((below_one w3 (.cells #[.int .i64 y1, .int .i64 y2] 59)).mono HB.out.size))
        replace K := Lib.hid (K.out.new #[.int .i64 y1, .int .i64 y2] 59)
        generalize w3.alloc (.cells #[.int .i64 y1, .int .i64 y2] 59) = w4 at *
        generalize w3.heap.size = g4 at *
        simp only [List.nil_append, List.cons_append] at K
        obtain ⟨k1, k2, _, _⟩ := K.out.cells2 0 rfl
        obtain ⟨k3, k4, _, _⟩ := K.out.cells2 1 rfl
        clear e1 e2
        go_wp2_with fail
        refine (HCM.out _).mono ?_
        rintro e w5 ⟨rfl, hb⟩
        replace HB := Lib.hid (HB.out.trans (hb.mono HB.out.size))
        clear hb HCM K k1 k2 k3 k4
        by_cases hc : cc = 0
        · have t1 : (cc != 0) = false := by simp [hc]
          have HE := Lib.hid (HST.out.trans (if_neg (fun h => h hc)))
          clear hc
          go_wp2
          go_roundg (gk - 1)
          case measure => have h := HG.out.2.1; omega
          case rel => exact ⟨p + 1, by go_num, HB, Lib.hid ⟨by omega, by have h := HG.out.2.1; omega, by rw [show gk - 1 = l.length - (p + 1) by have h := HG.out.2.1; omega]; exact HE.out⟩⟩
        · have t1 : (cc != 0) = true := by simp [hc]
          have HE := Lib.hid (HST.out.trans (if_pos hc))
          clear hc
          go_wp2
          go_ret
          exact ⟨by rw [HE.out]; rfl, HB.out⟩
      · have hqn : (l'.length : Int) ≤ (p : Int) := by omega
        have HE := Lib.hid (HST.out.trans (if_pos (by omega)))
        obtain ⟨x, hx⟩ : ∃ q, q = l.getD p (0, 0) := ⟨_, rfl⟩
        rw [← hx] at d1 d2
        obtain ⟨x1, x2⟩ := x
        have HB5 := Lib.hid (HB.out.trans ((below_one wr (.cells #[.int .i64 x1, .int .i64 x2] 59)).mono HB.out.size))
        clear hx x64 HST
        go_wp2
        go_ret
        exact ⟨by rw [HE.out]; rfl, HB5.out⟩
    · have hpi : ¬ (p : Int) < (l.length : Int) := by omega
      have HE : Hid (R = if l.length < l'.length then -1 else 0) := Lib.hid (by
        have h := HG.out.2.2
        rw [show gk = 0 by have := HG.out.2.1; omega] at h
        exact h)
      by_cases hl : l.length < l'.length
      · have hli : (l.length : Int) < (l'.length : Int) := by omega
        have HE := Lib.hid (HE.out.trans (if_pos hl))
        clear hl
        go_wp2
        go_ret
        exact ⟨by rw [HE.out]; rfl, HB.out⟩
      · have hli : ¬ (l.length : Int) < (l'.length : Int) := by omega
        have HE := Lib.hid (HE.out.trans (if_neg hl))
        clear hl
        go_wp2
        go_ret
        exact ⟨by rw [HE.out]; rfl, HB.out⟩
theorem pcompare_any (A : Option Addr) (c : Nat) (l : List (Int × Int)) (B : Option Addr) (d : Nat) (l' : List (Int × Int)) (w : World) (hI : RatsA w A l) (hJ : RatsA w B l') (hmax : l.length ≤ 8796093022000) (hmax' : l'.length ≤ 8796093022000) (h64 : All64v l) (h64' : All64v l') :
    Calls Try.prog 15 #[.slice A l.length c, .slice B l'.length d] w fun e w' => e = .returned (.int .i64 (cmpLP l l')) ∧ Below w.heap.size w w' := by
  have HC := Lib.hid (cmpfunc_any A c l B d l' w hI hJ hmax hmax' h64 h64')
  clear hI hJ hmax hmax' h64 h64'
  go_enter Try.func15, Try.ntmps15
  go_wp2_with fail
  refine HC.out.mono ?_
  rintro e w' ⟨rfl, hb⟩
  have HB := Lib.hid hb
  go_wp2
  go_ret
  exact ⟨rfl, HB.out⟩

def tbCm (ba oa la ca bb ob lb cb p : Nat) (x1 x2 y1 y2 cc : Int) : List (Nat × Nat × Value) :=
  [(0, 19, .slice (some ⟨ba, oa, none⟩) la ca), (1, 20, .int .i64 p), (2, 21, .pointer (some ⟨ba, oa + p * 2, none⟩)), (3, 22, .agg #[.int .i64 x1, .int .i64 x2]), (4, 23, .slice (some ⟨bb, ob, none⟩) lb cb), (5, 24, .int .i64 p), (6, 25, .pointer (some ⟨bb, ob + p * 2, none⟩)), (7, 26, .agg #[.int .i64 y1, .int .i64 y2]), (8, 27, .int .i64 cc), (9, 6, .int .i64 cc)]
def bsCm (ba oa la ca bb ob lb cb p : Nat) (x1 x2 y1 y2 cc : Int) : List (Nat × Value) := [(0, .slice (some ⟨ba, oa, none⟩) la ca), (1, .slice (some ⟨bb, ob, none⟩) lb cb), (5, .int .i64 p)]

set_option maxRecDepth 100000 in
set_option maxHeartbeats 8000000 in
theorem dpcompare_any (A : Option Addr) (ca : Nat) (l : List (Int × Int)) (B : Option Addr) (cb : Nat) (l' : List (Int × Int)) (w : World) (hI : RatsA w A l) (hJ : RatsA w B l') (hmax : l.length ≤ 8796093022000) (hmax' : l'.length ≤ 8796093022000) (h64 : All64v l) (h64' : All64v l') :
    Calls Try.prog 16 #[.slice A l.length ca, .slice B l'.length cb] w fun e w' => e = .returned (.int .i64 (cmpLP l l')) ∧ Below w.heap.size w w' := by
  have HI := Lib.hid hI
  have HJ := Lib.hid hJ
  have H64 := Lib.hid h64
  have H64' := Lib.hid h64'
  have HL := Lib.hid hmax
  have HB0 := Lib.hid (Below.refl w.heap.size w)
  obtain ⟨R, hR⟩ : ∃ q, q = cmpLP l l' := ⟨_, rfl⟩
  rw [← hR]
  have HR := Lib.hid hR
  clear hR hI hJ h64 h64' hmax hmax'
  go_enter Try.func16, Try.ntmps16
  go_wp2
  go_loopg [5] l.length (fun g s wr => ∃ p : Nat, s = .int .i64 p ∧ Hid (Below w.heap.size w wr) ∧ Hid (p ≤ l.length ∧ p ≤ l'.length ∧ g + p = l.length ∧ R = cmpLF l l' g p))
  case atStart => exact ⟨0, by simp, HB0, Lib.hid ⟨by omega, by omega, by omega, HR.out⟩⟩
  case round =>
    clear HB0 HR
    obtain ⟨p, rfl, HB, HG⟩ := hrel
    have w5 : IntKind.i64.wrap ((p : Int) + 1) = ((p + 1 : Nat) : Int) := by rw [IntWalk.i64_in _ (by have := HL.out; have := HG.out.1; omega)]; omega
    by_cases hpq : p < l.length ∧ p < l'.length
    · obtain ⟨hp, hq⟩ := hpq
      have hpi : (p : Int) < (l.length : Int) := by omega
      have hqi : (p : Int) < (l'.length : Int) := by omega
      obtain ⟨ba, oa, rfl, _, _⟩ := HI.out p hp
      obtain ⟨bb, ob, rfl, _, _⟩ := HJ.out p hq
      have x64 := H64.out p hp
      have y64 := H64'.out p hq
      have HST : Hid (R = if l'.length ≤ p then 1 else if cmpP (l.getD p (0, 0)) (l'.getD p (0, 0)) ≠ 0 then cmpP (l.getD p (0, 0)) (l'.getD p (0, 0)) else cmpLF l l' (l.length - (p + 1)) (p + 1)) := Lib.hid (by
        have h := HG.out.2.2.2
        rw [show gk = (l.length - (p + 1)) + 1 by have := HG.out.2.2.1; omega] at h
        exact h)
      rw [if_neg (by omega)] at HST
      obtain ⟨x, hx⟩ : ∃ q, q = l.getD p (0, 0) := ⟨_, rfl⟩
      obtain ⟨y, hy⟩ : ∃ q, q = l'.getD p (0, 0) := ⟨_, rfl⟩
      have HX := Lib.hid hx
      have HY := Lib.hid hy
      rw [← hx] at x64 HST
      rw [← hy] at y64 HST
      obtain ⟨x1, x2⟩ := x
      obtain ⟨y1, y2⟩ := y
      have HCM := Lib.hid (fun W => dcompare_any x1 x2 y1 y2 x64.1 x64.2 y64.1 y64.2 W)
      obtain ⟨cc, hcc⟩ : ∃ q, q = cmpP (x1, x2) (y1, y2) := ⟨_, rfl⟩
      rw [← hcc] at HCM HST
      clear hx hy hcc x64 y64
      go_upto_region 4 with fail
      refine wp_region_tab (by kernel_rfl) [0, 1, 5, 19, 20, 21, 22, 23, 24, 25, 26, 27, 6] [[], [], [0, 1], [2], [], [], [4, 5], [6], [3, 7], [0, 1, 2, 3, 4, 5, 6, 7, 8]]
        (fun L vals wx => Below w.heap.size w wx ∧ TabR (tbCm ba oa l.length ca bb ob l'.length cb p x1 x2 y1 y2 cc) (bsCm ba oa l.length ca bb ob l'.length cb p x1 x2 y1 y2 cc) L vals) (by kernel_rfl) rfl ?_ ?_ ?_
      · exact ⟨Below.drew HB.out, TabR.start (by simp [bsCm])⟩
      · intro i hi a L vals wx E hJ hLi hn K hK hK0
        obtain ⟨hI, hT⟩ := hJ
        match i, hi with
        | 0, _ => exact op_moveG rfl rfl rfl rfl ((E 0 (by decide)).trans (hT.rd 0 rfl)) (hK 19 _ _ (by decide) ⟨hI, hT.set 0 rfl (by kernel_rfl) (by kernel_rfl)⟩)
        | 1, _ => exact op_moveG rfl rfl rfl rfl ((E 5 (by decide)).trans (hT.rd 2 rfl)) (hK 20 _ _ (by decide) ⟨hI, hT.set 1 rfl (by kernel_rfl) (by kernel_rfl)⟩)
        | 2, _ =>
          have e1 := (E 19 (by decide)).trans (hT.val 0 rfl (hn 0 (by decide)))
          have e2 := (E 20 (by decide)).trans (hT.val 1 rfl (hn 1 (by decide)))
          refine op_valueG (w' := wx) (v := .pointer (some ⟨ba, oa + p * 2, none⟩)) rfl rfl rfl ?_ (hK 21 _ _ (by decide) ⟨hI, hT.set 2 rfl (by kernel_rfl) (by kernel_rfl)⟩)
          clear hK hK0 hT E
          revert e1 e2
          generalize a.eval = ρ
          intro e1 e2
          go_simp
        | 3, _ =>
          have e1 := (E 21 (by decide)).trans (hT.val 2 rfl (hn 2 (by decide)))
          obtain ⟨ba', oa', ea', d1, d2⟩ := HI.out.below hI p hp
          simp only [Option.some.injEq, Addr.mk.injEq, and_true] at ea'
          obtain ⟨rfl, rfl⟩ := ea'
          rw [← HX.out] at d1 d2
          refine op_valueG (w' := wx) (v := .agg #[.int .i64 x1, .int .i64 x2]) rfl rfl rfl ?_ (hK 22 _ _ (by decide) ⟨hI, hT.set 3 rfl (by kernel_rfl) (by kernel_rfl)⟩)
          clear hK hK0 hT E
          revert e1
          generalize a.eval = ρ
          intro e1
          go_simp
        | 4, _ => exact op_moveG rfl rfl rfl rfl ((E 1 (by decide)).trans (hT.rd 1 rfl)) (hK 23 _ _ (by decide) ⟨hI, hT.set 4 rfl (by kernel_rfl) (by kernel_rfl)⟩)
        | 5, _ => exact op_moveG rfl rfl rfl rfl ((E 5 (by decide)).trans (hT.rd 2 rfl)) (hK 24 _ _ (by decide) ⟨hI, hT.set 5 rfl (by kernel_rfl) (by kernel_rfl)⟩)
        | 6, _ =>
          have e1 := (E 23 (by decide)).trans (hT.val 4 rfl (hn 4 (by decide)))
          have e2 := (E 24 (by decide)).trans (hT.val 5 rfl (hn 5 (by decide)))
          refine op_valueG (w' := wx) (v := .pointer (some ⟨bb, ob + p * 2, none⟩)) rfl rfl rfl ?_ (hK 25 _ _ (by decide) ⟨hI, hT.set 6 rfl (by kernel_rfl) (by kernel_rfl)⟩)
          clear hK hK0 hT E
          revert e1 e2
          generalize a.eval = ρ
          intro e1 e2
          go_simp
        | 7, _ =>
          have e1 := (E 25 (by decide)).trans (hT.val 6 rfl (hn 6 (by decide)))
          obtain ⟨bb', ob', eb', d1, d2⟩ := HJ.out.below hI p hq
          simp only [Option.some.injEq, Addr.mk.injEq, and_true] at eb'
          obtain ⟨rfl, rfl⟩ := eb'
          rw [← HY.out] at d1 d2
          refine op_valueG (w' := wx) (v := .agg #[.int .i64 y1, .int .i64 y2]) rfl rfl rfl ?_ (hK 26 _ _ (by decide) ⟨hI, hT.set 7 rfl (by kernel_rfl) (by kernel_rfl)⟩)
          clear hK hK0 hT E
          revert e1
          generalize a.eval = ρ
          intro e1
          go_simp
        | 8, _ =>
          have e1 := (E 22 (by decide)).trans (hT.val 3 rfl (hn 3 (by decide)))
          have e2 := (E 26 (by decide)).trans (hT.val 7 rfl (hn 7 (by decide)))
          exact op_goG rfl rfl rfl rfl Try.func24 (by kernel_rfl) rfl (by simp only [List.map_toArray, List.map_cons, List.map_nil, e1, e2]) (HCM.out _) (fun w' hb => hK 27 _ _ (by decide) ⟨hI.trans (hb.mono hI.size), hT.set 8 rfl (by kernel_rfl) (by kernel_rfl)⟩)
        | 9, _ => exact op_assignG rfl rfl rfl rfl ((E 27 (by decide)).trans (hT.val 8 rfl (hn 8 (by decide)))) (hK 6 _ _ (by decide) ⟨hI, hT.set 9 rfl (by kernel_rfl) (by kernel_rfl)⟩)
        | k + 10, h => exact absurd (show k + 10 < 10 from h) (by omega)
      · intro L vals wx hJ hall
        obtain ⟨hI, hT⟩ := hJ
        have HI := Lib.hid hI
        have v0 : vals 0 = .slice (some ⟨ba, oa, none⟩) l.length ca := hT.rd 0 rfl
        have v1 : vals 1 = .slice (some ⟨bb, ob, none⟩) l'.length cb := hT.rd 1 rfl
        have v5 : vals 5 = .int .i64 p := hT.rd 2 rfl
        have v6 : vals 6 = .int .i64 cc := hT.val 9 rfl (hall 9 (by decide))
        simp only [overA, Act.put, List.setIfInBounds_toArray, List.set_cons_zero, List.set_cons_succ]
        rw [v0, v1, v5, v6]
        clear hI hT hall v0 v1 v5 v6
        by_cases hc : cc = 0
        · have t1 : (cc != 0) = false := by simp [hc]
          have HE := Lib.hid (HST.out.trans (if_neg (fun h => h hc)))
          clear hc
          go_wp2
          go_roundg (gk - 1)
          case measure => have h := HG.out.2.2.1; omega
          case rel => exact ⟨p + 1, by go_num, HI, Lib.hid ⟨by omega, by omega, by have h := HG.out.2.2.1; omega, by rw [show gk - 1 = l.length - (p + 1) by have h := HG.out.2.2.1; omega]; exact HE.out⟩⟩
        · have t1 : (cc != 0) = true := by simp [hc]
          have HE := Lib.hid (HST.out.trans (if_pos hc))
          clear hc
          go_wp2
          go_ret
          exact ⟨by rw [HE.out]; rfl, HI.out⟩
    · have c1 : (decide ((p : Int) < (l.length : Int)) && decide ((p : Int) < (l'.length : Int))) = false := by
        by_cases q : p < l.length
        · rw [decide_eq_false (show ¬ (p : Int) < (l'.length : Int) by omega), Bool.and_false]
        · rw [decide_eq_false (show ¬ (p : Int) < (l.length : Int) by omega), Bool.false_and]
      have HE : Hid (R = if l.length < l'.length then -1 else if l'.length < l.length then 1 else 0) := Lib.hid (by
        have h := HG.out.2.2.2
        by_cases q : p < l.length
        · rw [show gk = (l.length - (p + 1)) + 1 by have := HG.out.2.2.1; omega] at h
          have h : R = if l'.length ≤ p then 1 else _ := h
          rw [if_pos (by omega)] at h
          rw [if_neg (by have := HG.out.2.1; omega), if_pos (by have := HG.out.2.1; omega)]; exact h
        · rw [show gk = 0 by have := HG.out.2.2.1; omega] at h
          have h : R = if l.length < l'.length then -1 else 0 := h
          rw [h]
          split
          · rfl
          · rw [if_neg (by have := HG.out.2.1; have := HG.out.1; omega)])
      by_cases hp : p < l.length
      · have hpi : (p : Int) < (l.length : Int) := by omega
        have hqi : ¬ (p : Int) < (l'.length : Int) := by omega
        have e1 : ¬ (l.length : Int) < (l'.length : Int) := by have := HG.out.2.1; omega
        have e2 : (l'.length : Int) < (l.length : Int) := by have := HG.out.2.1; omega
        have HE := Lib.hid (HE.out.trans ((if_neg (by omega)).trans (if_pos (by omega))))
        go_wp2
        go_ret
        exact ⟨by rw [HE.out]; rfl, HB.out⟩
      · have hpi : ¬ (p : Int) < (l.length : Int) := by omega
        have e2 : ¬ (l'.length : Int) < (l.length : Int) := by have := HG.out.1; have := HG.out.2.1; omega
        by_cases hl : l.length < l'.length
        · have e1 : (l.length : Int) < (l'.length : Int) := by omega
          have HE := Lib.hid (HE.out.trans (if_pos hl))
          clear hl
          go_wp2
          go_ret
          exact ⟨by rw [HE.out]; rfl, HB.out⟩
        · have e1 : ¬ (l.length : Int) < (l'.length : Int) := by omega
          have HE := Lib.hid (HE.out.trans ((if_neg hl).trans (if_neg (by have := HG.out.1; have := HG.out.2.1; omega))))
          clear hl
          go_wp2
          go_ret
          exact ⟨by rw [HE.out]; rfl, HB.out⟩

set_option maxRecDepth 100000 in
theorem compares06_any (A : Option Addr) (c : Nat) (l : List (Int × Int)) (B : Option Addr) (d : Nat) (l' : List (Int × Int)) (w : World) (hI : RatsA w A l) (hJ : RatsA w B l') (hmax : l.length ≤ 8796093022000) (hmax' : l'.length ≤ 8796093022000) (h64 : All64v l) (h64' : All64v l') :
    Calls Try.prog 4 #[.slice A l.length c, .slice B l'.length d] w fun e w' => e = .returned (.bool true) ∧ Below w.heap.size w w' := by
  have HLV := Lib.hid (live06_any w)
  have HP := Lib.hid (fun W (hb : Below w.heap.size w W) => pcompare_any A c l B d l' W (hI.below hb) (hJ.below hb) hmax hmax' h64 h64')
  have HD := Lib.hid (fun W (hb : Below w.heap.size w W) => dpcompare_any A c l B d l' W (hI.below hb) (hJ.below hb) hmax hmax' h64 h64')
  clear hI hJ hmax hmax' h64 h64'
  go_enter Try.func4, Try.ntmps4
  go_wp2_with fail
  refine HLV.out.mono ?_
  rintro e w1 ⟨rfl, hb⟩
  have HB := Lib.hid hb
  clear hb
  go_wp2_with fail
  refine (HP.out _ HB.out).mono ?_
  rintro e w2 ⟨rfl, hb⟩
  replace HB := Lib.hid (HB.out.trans (hb.mono HB.out.size))
  clear hb
  go_wp2_with fail
  refine (HD.out _ HB.out).mono ?_
  rintro e w2 ⟨rfl, hb⟩
  replace HB := Lib.hid (HB.out.trans (hb.mono HB.out.size))
  clear hb
  go_wp2
  go_ret
  exact ⟨by simp, HB.out⟩
theorem compares06_law (A : Option Addr) (c : Nat) (l : List (Int × Int)) (B : Option Addr) (d : Nat) (l' : List (Int × Int)) (w : World) (hI : RatsA w A l) (hmax : l.length * 16 ≤ 140737488351232) (h64 : All64v l) (hJ : RatsA w B l') (hmax' : l'.length * 16 ≤ 140737488351232) (h64' : All64v l') :
    Calls Try.prog 4 #[.slice A l.length c, .slice B l'.length d] w fun e w' => e = .returned (.bool true) ∧ Below w.heap.size w w' :=
  compares06_any A c l B d l' w hI hJ (by omega) (by omega) h64 h64'

end Go.Proofs.Ytfegongaflekiaa

/- How a law's call ends: it tells true, and what came in reads as before. -/
namespace Go.Proofs.Ytfegongaflekiaa
open Go Go.ChangeShapes Go.WideShapes Go.ChangeAt Go.RowKit
set_option linter.unusedVariables false
set_option linter.unusedSimpArgs false

section
variable {H : Type} {enc : TypeId × Value → H} {P : Program} {W W' : World}
/-- All that came in reads as before, where below the old heap's size nothing has turned. -/
theorem stays_all (hl : laidOutB P = true) {sp : Nat → Bool} : ∀ {ts : List TypeId} {vs : List Value} {ds : List (DataW H)} {ps : List MemPlace},
    (∀ t ∈ ts, P.readableRec t = true ∧ t < P.types.size) → DataW.TrodAll enc P W 0 (fun _ => true) true ts vs ds ps → (∀ p ∈ ps, W.sameAt W' p) → (∀ p ∈ ps, sp p.block = true) →
    DataW.TrodAll enc P W' 0 sp true ts vs ds ps
  | [], [], [], _, _, h, _, _ => h
  | t :: _, _ :: _, _ :: _, _, ht, ⟨p, q, h1, h2, e⟩, hk, hs =>
    ⟨p, q, WideElems.Trod_stays hl (ht t (List.mem_cons.2 (.inl rfl))).1 (ht t (List.mem_cons.2 (.inl rfl))).2 h1 (fun x hx => hk x (by rw [e]; exact List.mem_append_left _ hx)) (fun x hx => hs x (by rw [e]; exact List.mem_append_left _ hx)),
      stays_all hl (fun t ht' => ht t (List.mem_cons.2 (.inr ht'))) h2 (fun x hx => hk x (by rw [e]; exact List.mem_append_right _ hx)) (fun x hx => hs x (by rw [e]; exact List.mem_append_right _ hx)), e⟩

/-- The post of a law's row, out of true and Below. -/
theorem law_post {f : Func} {s : ChangeSpec} {args : Array Value} {ds gs : List (DataW H)} {before : List MemPlace} {tb : TypeId} {apart fresh handsOn again : Bool}
    (hl : laidOutB P = true) (hr : ∀ t ∈ f.params.toList, P.readableRec t = true ∧ t < P.types.size) (hv : s.vars = [])
    (hres : f.resultTypes = #[tb]) (hb : P.underlying tb = some .bool) (hfn : s.fn H (ds ++ gs) = { results := [.lit (.bool true)], args := ds })
    (hW : DataW.Whole enc P f.params.toList s.vars apart W args.toList ds gs before) (hbel : Below W.heap.size W W') :
    s.post enc P f apart fresh handsOn again W args (.bool true) W' := by
  have hlt := hW.lt
  have hW' := hW
  obtain ⟨p, q, hA, hV, rfl, hz, hn⟩ := hW'
  rw [hv] at hV
  obtain ⟨rfl, rfl⟩ := trodVars_none hV
  simp only [List.append_nil] at hW hlt hz hn hfn
  have hargs : ∀ sp : Nat → Bool, (∀ x ∈ p, sp x.block = true) → DataW.TrodAll enc P W' 0 sp true f.params.toList args.toList ds p :=
    fun sp hs => stays_all hl hr hA (fun x hx => hbel.same (hlt x hx)) hs
  have hone : ∀ (b : Nat) (sp : Nat → Bool) (hd : Bool), DataW.TrodAll enc P W' b sp hd f.resultTypes.toList ((Value.bool true).resultList f.resultTypes.size) [.lit (.bool true)] [] := by
    intro b sp hd
    rw [hres]
    exact trodAll_mk1 (shut_bool hb true)
  have hvars : ∀ sp : Nat → Bool, DataW.TrodVars enc P W' sp s.vars ([] : List (DataW H)) [] := by
    intro sp
    rw [hv]
    rfl
  refine ⟨ds, [], p, [], p, [], hW, ?_, ?_, ?_, hbel.frame _, fun _ => ⟨ok_one hres rfl (okWide_bool_mk hb true), ?_⟩⟩
  · simp only [List.append_nil, hfn]; exact hone _ _ _
  · simp only [List.append_nil, hfn]; exact hargs _ (fun x hx => by simpa using hlt x hx)
  · simp only [List.append_nil, hfn]; exact hvars _
  · refine ⟨[.lit (.bool true)] ++ ds, [], [] ++ p, ⟨[] ++ p, [], trodAll_append (hargs _ (fun _ _ => rfl)) (hone _ _ _), hvars _, by simp, ?_, ?_⟩, ?_⟩
    · intro b off hp
      have hp' : MemPlace.cell b off ∈ p := by simpa using hp
      rw [hbel.frozen (p := ⟨b, off, none⟩) (hlt _ hp')]
      exact hz b off hp'
    · intro ha
      simpa using hn ha
    · intro x hx _
      simpa using hx

/-- A slice of numbers that came in. -/
theorem came_row {t e : TypeId} {k : IntKind} {v : Value} {d : DataW H} {ps : List MemPlace} {r : Reach} {base : Nat} (ht : P.underlying t = some (.slice e)) (he : P.underlying e = some (.int k)) (hc : P.cellsOf e = 1)
    (hval : Value.okWide P W r base t v) (h : DataW.Trod enc P W 0 (fun _ => true) true t v d ps) :
    ∃ A c xs, v = .slice A xs.length c ∧ Ints W k A xs ∧ (∀ n ∈ xs, (Lit.int k n).wf = true) ∧ (xs = [] ∨ ∃ el sp, d = .slice el sp ∧ el.length = xs.length) := by
  obtain ⟨a0, len, cap, rfl⟩ := okWide_slice ht hval
  obtain ⟨fuel, hf⟩ := h
  rcases open_ints ht he hc hf with ⟨hcs, hx⟩ | ⟨a, len', cap', zs, hcs, _, hle, hmax, hall, hx, hcell, hwf⟩
  · simp [Value.cells] at hcs
    obtain ⟨rfl, rfl, rfl⟩ := hcs
    exact ⟨none, 0, [], rfl, fun j hj => by simp at hj, by simp, .inl rfl⟩
  · simp [Value.cells] at hcs
    obtain ⟨rfl, rfl, rfl⟩ := hcs
    have hz : zs.length = cap := by simpa using hall
    simp only [Prod.mk.injEq] at hx
    refine ⟨some a, cap, zs.take len, by rw [List.length_take]; congr 1; omega, ?_, fun n hn => hwf n (List.mem_of_mem_take hn), .inr ⟨_, _, hx.1, by simp [lits]⟩⟩
    intro j hj
    rw [List.length_take] at hj
    obtain ⟨b, off, rfl, hcell'⟩ := ints_at hcell (by omega)
    refine ⟨b, off, rfl, ?_⟩
    rw [hcell' j (by omega)]
    congr 2
    simp [List.getD_eq_getElem?_getD, List.getElem?_take, show j < len by omega]
/-- Its length is within what the machine can hold. -/
theorem came_short {ts : List TypeId} {ds : List (DataW H)} {j : Nat} {t e : TypeId} {d : DataW H} {xs : List Int} {m : Nat} (hsz : (DataW.weightsEach P ts ds).all (· ≤ reachBytes) = true) (ht : ts[j]? = some t) (hd : ds[j]? = some d)
    (hu : P.underlying t = some (.slice e)) (hm : P.bytesOf e = m) (hm1 : 1 ≤ m) (h : xs = [] ∨ ∃ el sp, d = .slice el sp ∧ el.length = xs.length) : xs.length * m ≤ 140737488351232 := by
  rcases h with rfl | ⟨el, sp, rfl, he⟩
  · simp
  · have h1 := sized_slice hsz ht hd hu
    rw [hm] at h1
    have h2 : el.length * m ≤ (el.length + sp.length) * m := Nat.mul_le_mul_right _ (by omega)
    rw [← he]
    exact Nat.le_trans h2 h1
/-- The bounds of 32 bits. -/
theorem came_i32 {xs : List Int} (h : ∀ n ∈ xs, (Lit.int .i32 n).wf = true) : ∀ q, q < xs.length → -2147483648 ≤ xs.getD q 0 ∧ xs.getD q 0 ≤ 2147483647 := by
  intro q hq
  have h1 := h (xs.getD q 0) (by rw [List.getD_eq_getElem?_getD, List.getElem?_eq_getElem hq]; exact List.getElem_mem hq)
  exact bounds_i32 h1
/-- A pair of numbers that came in. -/
theorem came_pair {t e : TypeId} {k : IntKind} {v : Value} {d : DataW H} {ps : List MemPlace} {r : Reach} {base : Nat} (ht : P.underlying t = some (.array 2 e)) (he : P.underlying e = some (.int k)) (hc : P.cellsOf e = 1) (hct : P.cellsOf t = 2)
    (hval : Value.okWide P W r base t v) (h : DataW.Trod enc P W 0 (fun _ => true) true t v d ps) :
    ∃ x y, v = .agg #[.int k x, .int k y] ∧ (Lit.int k x).wf = true ∧ (Lit.int k y).wf = true := by
  obtain ⟨cs, rfl, hsz, _⟩ : ∃ cs, v = .agg cs ∧ cs.size = P.cellsOf t ∧ Row.okWide P W r base t cs := by
    simpa [Value.okWide, ht] using hval
  rw [hct] at hsz
  obtain ⟨l⟩ := cs
  match l, hsz with
  | [a, b], _ =>
    obtain ⟨fuel, hf⟩ := h
    obtain ⟨xs, m, _, hx, hlen, hn, hel⟩ := DataW.trod_array ht hf
    have h0 := hel 0 (by omega)
    have h1 := hel 1 (by omega)
    simp [Value.cells, hc] at h0 h1
    rw [List.getElem?_eq_getElem (by omega)] at h0 h1
    obtain ⟨x, e0, _, w0⟩ := DataW.trod_int he h0
    obtain ⟨y, e1, _, w1⟩ := DataW.trod_int he h1
    simp at e0 e1
    subst e0 e1
    exact ⟨x, y, rfl, w0, w1⟩
end

end Go.Proofs.Ytfegongaflekiaa

/- How rows of three numbers come in; texts. -/
namespace Go.Proofs.Ytfegongaflekiaa
open Go Go.ChangeShapes Go.WideShapes Go.ChangeAt Go.RowKit
set_option linter.unusedVariables false
set_option linter.unusedSimpArgs false

section
variable {H : Type} {enc : TypeId × Value → H} {P : Program} {W W' : World}
/-- Three numbers that came in. -/
theorem came_triple {t e : TypeId} {k : IntKind} {v : Value} {d : DataW H} {ps : List MemPlace} {r : Reach} {base : Nat} (ht : P.underlying t = some (.array 3 e)) (he : P.underlying e = some (.int k)) (hc : P.cellsOf e = 1) (hct : P.cellsOf t = 3)
    (hval : Value.okWide P W r base t v) (h : DataW.Trod enc P W 0 (fun _ => true) true t v d ps) :
    ∃ x y z, v = .agg #[.int k x, .int k y, .int k z] ∧ (Lit.int k x).wf = true ∧ (Lit.int k y).wf = true ∧ (Lit.int k z).wf = true := by
  obtain ⟨cs, rfl, hsz, _⟩ : ∃ cs, v = .agg cs ∧ cs.size = P.cellsOf t ∧ Row.okWide P W r base t cs := by
    simpa [Value.okWide, ht] using hval
  rw [hct] at hsz
  obtain ⟨l⟩ := cs
  match l, hsz with
  | [a, b, c], _ =>
    obtain ⟨fuel, hf⟩ := h
    obtain ⟨xs, m, _, hx, hlen, hn, hel⟩ := DataW.trod_array ht hf
    have h0 := hel 0 (by omega)
    have h1 := hel 1 (by omega)
    have h2 := hel 2 (by omega)
    simp [Value.cells, hc] at h0 h1 h2
    rw [List.getElem?_eq_getElem (by omega)] at h0 h1 h2
    obtain ⟨x, e0, _, w0⟩ := DataW.trod_int he h0
    obtain ⟨y, e1, _, w1⟩ := DataW.trod_int he h1
    obtain ⟨z, e2, _, w2⟩ := DataW.trod_int he h2
    simp at e0 e1 e2
    subst e0 e1 e2
    exact ⟨x, y, z, rfl, w0, w1, w2⟩
theorem came_i64 {n : Int} (h : (Lit.int .i64 n).wf = true) : -9223372036854775808 ≤ n ∧ n ≤ 9223372036854775807 := by
  exact bounds_i64 h
end

end Go.Proofs.Ytfegongaflekiaa

/- A slice of structs of two numbers of 64 bits that came in. -/
namespace Go.Proofs.Ytfegongaflekiaa
open Go Go.ChangeShapes Go.WideShapes Go.ChangeAt Go.RowKit
set_option linter.unusedVariables false
set_option linter.unusedSimpArgs false

section
variable {H : Type} {enc : TypeId × Value → H} {P : Program} {W W' : World}
/-- A slice of fractions that came in. -/
theorem came_rats {t e : TypeId} {f0 f1 : Field} {v : Value} {d : DataW H} {ps : List MemPlace} {r : Reach} {base : Nat} (ht : P.underlying t = some (.slice e)) (he : P.underlying e = some (.struct #[f0, f1]))
    (k0 : P.underlying f0.type = some (.int .i64)) (k1 : P.underlying f1.type = some (.int .i64)) (hone : Deep.oneCellFields P #[f0, f1] = true) (hc : P.cellsOf e = 2)
    (hval : Value.okWide P W r base t v) (h : DataW.Trod enc P W 0 (fun _ => true) true t v d ps) :
    ∃ A c xs, v = .slice A xs.length c ∧ RatsA W A xs ∧ All64v xs ∧ (xs = [] ∨ ∃ el sp, d = .slice el sp ∧ el.length = xs.length) := by
  obtain ⟨a0, len, cap, rfl⟩ := okWide_slice ht hval
  obtain ⟨fuel, hf⟩ := h
  rcases Deep.open_slice ht hf with ⟨hcs, hx⟩ | ⟨a, len', cap', m, n, D, Pl, hcs, _, hle, _, hmm, hx, hi⟩
  · simp [Value.cells] at hcs
    obtain ⟨rfl, rfl, rfl⟩ := hcs
    exact ⟨none, 0, [], rfl, fun j hj => by simp at hj, fun j hj => by simp at hj, .inl rfl⟩
  · simp [Value.cells] at hcs
    obtain ⟨rfl, rfl, rfl⟩ := hcs
    have hlm : len ≤ m := by rw [hmm]; split <;> omega
    have each : ∀ i, i < m → ∃ q : Int × Int, W.cell? (a.add (i * 2)) = some (.int .i64 q.1) ∧ W.cell? (a.add (i * 2 + 1)) = some (.int .i64 q.2) ∧
        (Lit.int .i64 q.1).wf = true ∧ (Lit.int .i64 q.2).wf = true := by
      intro i him
      obtain ⟨cs', h1, h2⟩ := hi i him
      rw [hc] at h1
      obtain ⟨_, hlen, hcell⟩ := World.cells?_some h1
      obtain ⟨xs, k, _, hxy, _, hxl, hfd⟩ := DataW.trod_struct he h2
      obtain ⟨o0, c0⟩ := Deep.hone_of hone 0 f0 rfl
      obtain ⟨o1, c1⟩ := Deep.hone_of hone 1 f1 rfl
      match xs, hxl, cs', hlen with
      | [y0, y1], _, [v0, v1], _ =>
        have g0 := hfd 0 f0 rfl
        have g1 := hfd 1 f1 rfl
        simp [o0, o1, c0, c1] at g0 g1
        have e0 := hcell 0 (by omega)
        have e1 := hcell 1 (by omega)
        rw [Deep.add_add] at e0 e1
        obtain ⟨z0, q0, _, w0⟩ := DataW.trod_int k0 g0
        obtain ⟨z1, q1, _, w1⟩ := DataW.trod_int k1 g1
        simp at q0 q1
        subst q0 q1
        exact ⟨(z0, z1), by simpa using e0, by simpa using e1, w0, w1⟩
    obtain ⟨q, hq⟩ := Deep.choose_lt each
    simp only [Prod.mk.injEq] at hx
    refine ⟨some a, cap, (List.range len).map q, by simp, ?_, ?_, .inr ⟨_, _, hx.1, by simp⟩⟩
    · intro j hj
      simp only [List.length_map, List.length_range] at hj
      obtain ⟨h0, h1, _⟩ := hq j (by omega)
      have hsp : a.spot = none := by
        have := World.cell?_spot (hq 0 (by omega)).1
        simpa [Addr.add] using this
      obtain ⟨b, off, spot⟩ := a
      simp only at hsp
      subst hsp
      have eg : ((List.range len).map q).getD j (0, 0) = q j := by simp [List.getD_eq_getElem?_getD, hj]
      rw [eg]
      have ea : ∀ k, (⟨b, off, none⟩ : Addr).add k = ⟨b, off + k, none⟩ := fun k => by unfold Addr.add; split <;> simp_all
      rw [ea] at h0 h1
      exact ⟨b, off, rfl, h0, by rw [Nat.add_assoc]; exact h1⟩
    · intro j hj
      simp only [List.length_map, List.length_range] at hj
      have eg : ((List.range len).map q).getD j (0, 0) = q j := by simp [List.getD_eq_getElem?_getD, hj]
      rw [eg]
      exact ⟨came_i64 (hq j (by omega)).2.2.1, came_i64 (hq j (by omega)).2.2.2⟩
/-- Its length is within what the machine can hold. -/
theorem came_shortQ {ts : List TypeId} {ds : List (DataW H)} {j : Nat} {t e : TypeId} {d : DataW H} {xs : List (Int × Int)} {m : Nat} (hsz : (DataW.weightsEach P ts ds).all (· ≤ reachBytes) = true) (ht : ts[j]? = some t) (hd : ds[j]? = some d)
    (hu : P.underlying t = some (.slice e)) (hm : P.bytesOf e = m) (h : xs = [] ∨ ∃ el sp, d = .slice el sp ∧ el.length = xs.length) : xs.length * m ≤ 140737488351232 := by
  rcases h with rfl | ⟨el, sp, rfl, he⟩
  · simp
  · have h1 := sized_slice hsz ht hd hu
    rw [hm] at h1
    have h2 : el.length * m ≤ (el.length + sp.length) * m := Nat.mul_le_mul_right _ (by omega)
    rw [← he]
    exact Nat.le_trans h2 h1
end

end Go.Proofs.Ytfegongaflekiaa
