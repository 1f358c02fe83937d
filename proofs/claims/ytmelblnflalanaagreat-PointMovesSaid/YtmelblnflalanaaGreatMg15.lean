/- Texts of ours, laid together: Jo, Jq, Jr, Jv. -/
import Derived.Test.YtmelblnflalanaaGreatMg14
/- The least valuation of a zone, as point tells it. -/
namespace Go.Proofs.YtmelblnflalanaaGreat
open Go Go.RowKit
set_option linter.unusedVariables false
set_option linter.unusedSimpArgs false
attribute [local go_sem] min_ints max_ints

theorem OwnQ.from {w w0 wr : World} {l : List (Int × Int)} {v : Value} (h : OwnQ w0 l v wr) (hb : Below w.heap.size w w0) : OwnQ w l v wr := by
  obtain ⟨h0, hl, h⟩ := h
  refine ⟨hb.trans (h0.mono hb.size), hl, ?_⟩
  rcases h with h | ⟨g, cap, cur, e1, e2, h1, h2⟩
  · exact .inl h
  · exact .inr ⟨g, cap, cur, e1, Nat.le_trans hb.size e2, h1, h2⟩
/-- A row of fractions and an error. -/
def LstEnds (w : World) (l : List (Int × Int)) (err : Int) (e : Ending) (w' : World) : Prop := ∃ v, e = .returned (.tuple #[v, .int .i64 err]) ∧ OwnQ w l v w'
theorem least_nil (w : World) : Calls Tryz.prog 34 #[.pointer none] w (LstEnds w [] 1) := by
  have HB := Lib.hid (OwnQ.start w)
  go_enter Tryz.func34, Tryz.ntmps34
  go_wp2
  go_ret2
  exact ⟨_, rfl, HB.out⟩
theorem least_empty (b n : Nat) (m : Mat) (w : World) (hm : MatAt w b 173 .i32 n m) (he : emptyP (some (n, m)) = true) : Calls Tryz.prog 34 #[.pointer (some ⟨b, 0, none⟩)] w (LstEnds w [] 14) := by
  have HB := Lib.hid (OwnQ.start w)
  have HE := Lib.hid (empty_zone b n m w hm)
  rw [show decide (m 0 0 < 1) = true from he] at HE
  go_enter Tryz.func34, Tryz.ntmps34
  go_wp2_with fail
  refine HE.out.mono ?_
  rintro e w' ⟨rfl, rfl⟩
  go_wp2
  go_ret2
  exact ⟨_, rfl, HB.out⟩

set_option maxRecDepth 100000 in
set_option maxHeartbeats 4000000 in
theorem least_full (b n : Nat) (m : Mat) (w : World) (hn : n ≤ 8) (hm : MatAt w b 173 .i32 n m) (hc : ClosedZ n m) : Calls Tryz.prog 34 #[.pointer (some ⟨b, 0, none⟩)] w (LstEnds w (leastV n m) 0) := by
  have HEm := Lib.hid (empty_zone b n m w hm)
  rw [show decide (m 0 0 < 1) = false from hc.full.notEmpty] at HEm
  have HD := Lib.hid (dim_zone b n m w hm)
  have HC := Lib.hid (fun W (hb : Below w.heap.size w W) => cells_zone b n m W hn (hm.later hb))
  obtain ⟨HU, h0, hub⟩ := place_bd hn hc
  have HU := Lib.hid HU
  have HUB := Lib.hid hub
  have HR := Lib.hid hc.full.right
  obtain ⟨N, hN⟩ : ∃ q, q = (n + 1) * (n + 1) := ⟨_, rfl⟩
  have hN1 : 0 < N := by rw [hN]; exact Nat.mul_pos (by omega) (by omega)
  have hN81 : N ≤ 81 := by have := Nat.mul_le_mul (show n + 1 ≤ 9 by omega) (show n + 1 ≤ 9 by omega); omega
  have HN := Lib.hid hN
  have hmk := run_make_row' (P := Tryz.prog) 114 2 (.int .i64 0) 8 Tryz.underlying114 infoT64 rfl .i64 .i64 (n + 1) (by omega) (by omega)
  have hcast : ((n + 1 : Nat) : Int) = (n : Int) + 1 := by omega
  rw [hcast] at hmk
  have HS := Lib.hid (show InT w n (insR n ((n : Int) + 1) (widW m) 0) (w.alloc (.cells (madeCells #[.int .i64 0] (n + 1)) 2)) from ⟨(Below.refl _ _).alloc (Nat.le_refl _) _, made_nums w _ _ (n + 1) _ (numsL_length _ _) (fun p hp => by rw [numsL_getD _ _ _ hp]; rfl)⟩)
  have HNW := Lib.hid (fun x (h : 0 ≤ x ∧ x ≤ 137438953472) W => new_any x ((n : Int) + 1) (by unfold I64; omega) (by unfold I64; omega) W)
  have hflen : (flat n m).length = N := by rw [flat_length, hN]
  have HFL := Lib.hid hflen
  clear hm hc hN hcast h0 hub hflen
  go_enter Tryz.func34, Tryz.ntmps34
  go_wp2_with fail
  refine HEm.out.mono ?_
  rintro e w' ⟨rfl, rfl⟩
  go_wp2_with fail
  refine HD.out.mono ?_
  rintro e w' ⟨rfl, rfl⟩
  go_wp2_with fail
  have HS0 := Lib.hid HS.out.2.lt
  generalize w.alloc (.cells (madeCells #[.int .i64 0] (n + 1)) 2) = w1 at *
  clear hmk HEm HD
  refine (HC.out _ HS.out.1).mono ?_
  rintro e w4 ⟨v, rfl, hb, hown⟩
  replace HS := Lib.hid (HS.out.step hb)
  clear hb HC
  obtain ⟨gc, cf, ecf, hgc, hrow⟩ := hown.row (by rw [HFL.out]; omega)
  subst ecf
  rw [HFL.out]
  have hgc2 : w.heap.size < gc := Nat.lt_of_lt_of_le HS0.out hgc
  have HF := Lib.hid hrow
  clear hown hrow hgc
  have HKI := Lib.hid (insK_all n ((n : Int) + 1) (widW m))
  go_wp2
  go_loopg [37] (n + 2) (fun q x wr => ∃ r : Nat, x = .int .i64 r ∧ Hid (InT w n (insR n ((n : Int) + 1) (widW m) r) wr ∧ RowAt wr gc 70 .i32 (flat n m)) ∧ Hid (q + r = n + 2))
  case atStart => exact ⟨0, by simp, Lib.hid ⟨HS.out, HF.out⟩, Lib.hid (by omega)⟩
  case round =>
    clear HS HF
    obtain ⟨r, rfl, HT, HG⟩ := hrel
    by_cases hr : r < n + 2
    · have hri : (r : Int) < (n : Int) + 2 := by omega
      have hle0 := Lib.hid (insR_le HU.out r)
      have hge0 := Lib.hid (insR_pos n ((n : Int) + 1) (widW m) r)
      obtain ⟨v0, hv0⟩ : ∃ v0, v0 = insR n ((n : Int) + 1) (widW m) r := ⟨_, rfl⟩
      rw [← hv0] at HT hle0 hge0
      have HV0 := Lib.hid hv0
      have w5 : IntKind.i64.wrap ((r : Int) + 1) = ((r + 1 : Nat) : Int) := by rw [IntWalk.i64_in _ (by omega)]; omega
      clear hv0
      go_wp2
      go_loopg [41] N (fun q x wr => ∃ k : Nat, x = .int .i64 k ∧ Hid (InT w n (insK n ((n : Int) + 1) (widW m) v0 k) wr ∧ RowAt wr gc 70 .i32 (flat n m)) ∧ Hid (k ≤ N ∧ q + k = N))
      case atStart => exact ⟨0, by simp, HT, Lib.hid (by omega)⟩
      case round =>
        clear HT
        obtain ⟨k, rfl, HT, HG2⟩ := hrel
        by_cases hk : k < N
        · have hki : (k : Int) < (N : Int) := by omega
          have cf := HT.out.2.cell k (by rw [HFL.out]; exact hk)
          rw [flat_getD n m k (by rw [← HN.out]; exact hk)] at cf
          have d1 : k / (n + 1) < n + 1 := Nat.div_lt_of_lt_mul (by rw [← HN.out]; exact hk)
          have d2 := Nat.mod_lt k (show 0 < n + 1 by omega)
          have hle2 := insK_le HU.out hle0.out k (by rw [← HN.out]; omega)
          have hge2 : ∀ a, 0 ≤ insK n ((n : Int) + 1) (widW m) v0 k a := fun a => Int.le_trans (hge0.out a) (insK_ge n _ (widW m) v0 a k)
          have HST : Hid (insK n ((n : Int) + 1) (widW m) v0 (k + 1) = insS ((n : Int) + 1) (widW m) (insK n ((n : Int) + 1) (widW m) v0 k) (k / (n + 1)) (k % (n + 1))) := Lib.hid rfl
          obtain ⟨i, hi⟩ : ∃ i, i = k / (n + 1) := ⟨_, rfl⟩
          obtain ⟨j, hj⟩ : ∃ j, j = k % (n + 1) := ⟨_, rfl⟩
          obtain ⟨t1, t2⟩ := quo_rem hi hj
          rw [← hi, ← hj] at cf HST
          rw [← hi] at d1
          rw [← hj] at d2
          obtain ⟨v2, hv2⟩ : ∃ v2, v2 = insK n ((n : Int) + 1) (widW m) v0 k := ⟨_, rfl⟩
          rw [← hv2] at HT hle2 hge2 HST
          have hvi := hge2 i
          have hvi' := Int.le_trans (hle2 i (by omega)) (HUB.out i (by omega)).2
          have hvj := hge2 j
          have hvj' := Int.le_trans (hle2 j (by omega)) (HUB.out j (by omega)).2
          have hrx := HR.out i j (by omega) (by omega)
          have q1 : IntKind.i64.wrap ((n : Int) + 1) = (n : Int) + 1 := IntWalk.i64_in _ (by omega)
          have q2 : IntKind.i64.wrap (i : Int) = (i : Int) := IntWalk.i64_in _ (by omega)
          have q3 : IntKind.i64.wrap (j : Int) = (j : Int) := IntWalk.i64_in _ (by omega)
          have q4 : ((n : Int) + 1 == 0) = false := by simp; omega
          have q5 : IntKind.i64.wrap ((k : Int) + 1) = ((k + 1 : Nat) : Int) := by rw [IntWalk.i64_in _ (by omega)]; omega
          have HX := Lib.hid (show widW m i j = wid (m i j) from rfl)
          obtain ⟨b', hb'⟩ : ∃ b, b = m i j := ⟨_, rfl⟩
          rw [← hb'] at cf HX hrx
          clear hv2 hle2 hge2 hi hj hb'
          go_wp2_with fail
          go_quiet (fail)
          generalize nq = nq at *
          replace HT := Lib.hid (And.intro (HT.out.1.step (belowN (Below.refl _ _) nq)) (HT.out.2.drewN nq))
          generalize wr.drewN nq = wq at *
          clear t1 t2 q1 q2 q3 q4 cf
          by_cases hinf : b' = 2147483647
          · have HSM := Lib.hid (show InT w n (insK n ((n : Int) + 1) (widW m) v0 (k + 1)) wq from by
              rw [HST.out, insS_inf (by rw [HX.out, hinf]; decide)]; exact HT.out.1)
            have HF := Lib.hid HT.out.2
            have HV := Lib.hid (fun W => value_no b' W (by simp [someB, hinf]))
            clear hinf HST HX HT hrx
            go_wp2_with fail
            refine (HV.out _).mono ?_
            rintro e w' ⟨rfl, rfl⟩
            go_wp2
            go_roundg (gk - 1)
            case measure => have h := HG2.out.2; omega
            case rel => exact ⟨k + 1, by go_num, Lib.hid ⟨HSM.out, HF.out⟩, Lib.hid ⟨by omega, by have h := HG2.out.2; omega⟩⟩
          · have hbd := rightB_bd hrx hinf
            have HV := Lib.hid (fun W => value_yes b' W (by simp [someB, hrx, hinf]))
            have hwx : wid b' = b' := by unfold wid; rw [if_neg hinf]
            have hnn : b' ≠ none62 := by unfold none62; omega
            have hset := insS_max (g := (n : Int) + 1) (m := widW m) (v := v2) (i := i) (j := j) (by rw [HX.out, hwx]; exact hnn)
            rw [HX.out, hwx] at hset
            have HST : Hid (insK n ((n : Int) + 1) (widW m) v0 (k + 1) = fun a => if a = j then max (v2 j) (v2 i - (b' / 2 * ((n : Int) + 1) - (1 - b' % 2))) else v2 a) := Lib.hid (HST.out.trans hset)
            obtain ⟨q, hq⟩ : ∃ q, q = b' / 2 := ⟨_, rfl⟩
            obtain ⟨r2, hr2⟩ : ∃ r2, r2 = b' % 2 := ⟨_, rfl⟩
            have hr01 : r2 = 0 ∨ r2 = 1 := by omega
            have hq0 : -268435456 ≤ q := by omega
            have hq1 : q ≤ 268435456 := by omega
            have hm1 : q * ((n : Int) + 1) ≤ 268435456 * 9 := by
              rcases (show 0 ≤ q ∨ q ≤ 0 by omega) with h | h
              · exact Int.mul_le_mul (by omega) (by omega) (by omega) (by omega)
              · have := Int.mul_le_mul_of_nonneg_right (a := q) (b := 0) (c := (n : Int) + 1) h (by omega)
                omega
            have hm2 : -(268435456 * 9) ≤ q * ((n : Int) + 1) := by
              have h1 : -268435456 * ((n : Int) + 1) ≤ q * ((n : Int) + 1) := Int.mul_le_mul_of_nonneg_right hq0 (by omega)
              omega
            obtain ⟨T, hT⟩ : ∃ T, T = q * ((n : Int) + 1) := ⟨_, rfl⟩
            rw [← hq, ← hr2, ← hT] at HST
            rw [← hq, ← hr2] at HV
            rw [← hT] at hm1 hm2
            have hTr : q * ((n : Int) + 1) = T := hT.symm
            have c2 := HT.out.1.2.cell i (by rw [numsL_length]; omega)
            rw [numsL_getD _ _ _ (by omega)] at c2
            have c3 := HT.out.1.2.cell j (by rw [numsL_length]; omega)
            rw [numsL_getD _ _ _ (by omega)] at c3
            have f3 := HT.out.1.2.frozen j
            have HWD := Lib.hid (show Below wq.heap.size wq wq.drew from Below.drew (Below.refl _ _))
            have C2 := Lib.hid (show wq.drew.cell? _ = _ from c2)
            have C3 := Lib.hid (show wq.drew.cell? _ = _ from c3)
            have F3 := Lib.hid (show wq.drew.frozen? _ = _ from f3)
            have HSM := Lib.hid (fun (X : Int) (hX : X = max (v2 j) (v2 i - (T - (1 - r2)))) => (HT.out.1.step HWD.out).put j (by omega) X (f' := insK n ((n : Int) + 1) (widW m) v0 (k + 1)) (by rw [HST.out, hX]))
            have HF := Lib.hid (fun (X : Int) => rowat_other HT.out.2.drew ⟨w.heap.size, j, none⟩ (show gc ≠ w.heap.size by omega) (.int .i64 X))
            have l4 : (i : Int) < (n : Int) + 1 := by omega
            have l5 : (j : Int) < (n : Int) + 1 := by omega
            clear hinf hbd hwx hnn hq hr2 hrx hT HX hset HST c2 c3 f3 HT
            obtain ⟨y, hy⟩ : ∃ y, y = v2 i := ⟨_, rfl⟩
            obtain ⟨z, hz⟩ : ∃ z, z = v2 j := ⟨_, rfl⟩
            rw [← hy] at C2 hvi hvi' HSM
            rw [← hz] at C3 hvj hvj' HSM
            clear hy hz
            have g1 : IntKind.i64.wrap T = T := IntWalk.i64_in _ (by omega)
            have g2 : IntKind.i64.wrap (T - 1) = T - 1 := IntWalk.i64_in _ (by omega)
            have g3 : IntKind.i64.wrap (y - T) = y - T := IntWalk.i64_in _ (by omega)
            have g4 : IntKind.i64.wrap (y - (T - 1)) = y - (T - 1) := IntWalk.i64_in _ (by omega)
            rcases hr01 with rfl | rfl
            · have e1 : decide ((0 : Int) = 1) = false := rfl
              rw [e1] at HV
              clear e1
              go_wp2_with fail
              refine (HV.out _).mono ?_
              rintro e w' ⟨rfl, rfl⟩
              go_wp2
              refine wp_region_still_tail 13 (by kernel_rfl) (by kernel_rfl) ?_
              simp only [List.take_succ_cons, List.take_zero, List.drop_succ_cons, List.drop_zero]
              change wpStill _ _ wq.drew _ _ _
              have d2 := C2.out
              have d3 := C3.out
              have d4 := F3.out
              repeat still_step
              refine wpStill_nil ?_
              change wpList _ _ _ _ _ wq.drew
              generalize wq.drew = wd at *
              go_wp2
              go_roundg (gk - 1)
              case measure => have h := HG2.out.2; omega
              case rel => exact ⟨k + 1, by go_num, Lib.hid ⟨HSM.out _ (by rw [show T - (1 - 0) = T - 1 by omega]), HF.out _⟩, Lib.hid ⟨by omega, by have h := HG2.out.2; omega⟩⟩
            · have e1 : decide ((1 : Int) = 1) = true := rfl
              rw [e1] at HV
              clear e1
              go_wp2_with fail
              refine (HV.out _).mono ?_
              rintro e w' ⟨rfl, rfl⟩
              go_wp2
              refine wp_region_still_tail 13 (by kernel_rfl) (by kernel_rfl) ?_
              simp only [List.take_succ_cons, List.take_zero, List.drop_succ_cons, List.drop_zero]
              change wpStill _ _ wq.drew _ _ _
              have d2 := C2.out
              have d3 := C3.out
              have d4 := F3.out
              repeat still_step
              refine wpStill_nil ?_
              change wpList _ _ _ _ _ wq.drew
              generalize wq.drew = wd at *
              go_wp2
              go_roundg (gk - 1)
              case measure => have h := HG2.out.2; omega
              case rel => exact ⟨k + 1, by go_num, Lib.hid ⟨HSM.out _ (by rw [show T - (1 - 1) = T by omega]), HF.out _⟩, Lib.hid ⟨by omega, by have h := HG2.out.2; omega⟩⟩
        · have hki : ¬ (k : Int) < (N : Int) := by omega
          have HSM := Lib.hid (show InT w n (insR n ((n : Int) + 1) (widW m) (r + 1)) wr ∧ RowAt wr gc 70 .i32 (flat n m) from ⟨by
            have h := HT.out.1
            rw [show k = (n + 1) * (n + 1) by rw [← HN.out]; have := HG2.out.1; omega, HKI.out, HV0.out] at h
            exact h, HT.out.2⟩)
          clear HT
          go_wp2
          go_roundg (n + 1 - r)
          case measure => have h := HG.out; omega
          case rel => exact ⟨r + 1, by go_num, HSM, Lib.hid (by have h := HG.out; omega)⟩
    · have hri : ¬ (r : Int) < (n : Int) + 2 := by omega
      have HE := Lib.hid (show InT w n (placeU n m) wr from by
        have h := HT.out.1
        rw [show r = n + 2 by have := HG.out; omega] at h
        exact h)
      have HO := Lib.hid (OwnQ.start wr)
      have HB := Lib.hid HE.out.1
      have HLT := Lib.hid HE.out.2.lt
      have HL := Lib.hid (leastV_length n m)
      have HLV := Lib.hid (fun (p : Nat) (hp : p < n) (y : Int) (hy : y = placeU n m (p + 1)) => show (newP y ((n : Int) + 1)).1 = (leastV n m).getD p (0, 0) by rw [least_grid, gridV_getD hp, hy])
      clear HT HG HR HU HN HFL HKI
      go_wp2
      generalize wr = wE at *
      go_loopg [16, 17] n (fun g v x wr => ∃ p : Nat, x = .int .i64 ((p : Int) + 1) ∧ Hid (OwnQ wE ((leastV n m).take p) v wr) ∧ Hid (p ≤ n ∧ g + p = n))
      case atStart => exact ⟨0, by simp, Lib.hid HO.out, Lib.hid (by omega)⟩
      case round =>
        clear HO
        obtain ⟨p, rfl, HO, HG⟩ := hrel
        by_cases hp : p < n
        · have hpi : (p : Int) + 1 ≤ (n : Int) := by omega
          have hpj : (p : Int) + 1 < (n : Int) + 1 := by omega
          have hp0 : (0 : Int) ≤ (p : Int) + 1 := by omega
          have tn : ((p : Int) + 1).toNat = p + 1 := by omega
          have c1 := (HE.out.2.below HO.out.1 HLT.out).cell (p + 1) (by rw [numsL_length]; omega)
          rw [numsL_getD _ _ _ (by omega)] at c1
          have hx := HUB.out (p + 1) (by omega)
          have HLV := Lib.hid (fun y => HLV.out p hp y)
          obtain ⟨x, hxe⟩ : ∃ x, x = placeU n m (p + 1) := ⟨_, rfl⟩
          rw [← hxe] at c1 hx HLV
          have HLV := Lib.hid (HLV.out x rfl)
          have HNX := Lib.hid (fun W => HNW.out x hx W)
          obtain ⟨y, hy⟩ : ∃ y, y = newP x ((n : Int) + 1) := ⟨_, rfl⟩
          rw [← hy] at HLV HNX
          obtain ⟨⟨y1, y2⟩, ye⟩ := y
          unfold rtV at HNX
          have q5 : IntKind.i64.wrap ((p : Int) + 1 + 1) = ((p + 1 : Nat) : Int) + 1 := by rw [IntWalk.i64_in _ (by omega)]; omega
          have HTK : Hid ((leastV n m).take (p + 1) = (leastV n m).take p ++ [(y1, y2)]) := Lib.hid (by
            rw [List.take_add_one, show (leastV n m)[p]? = some ((leastV n m).getD p (0, 0)) by
              rw [List.getD_eq_getElem?_getD, List.getElem?_eq_getElem (by rw [HL.out]; exact hp)]; rfl, ← HLV.out]; rfl)
          have HLN : Hid (((leastV n m).take p).length ≤ 8) := Lib.hid (by rw [List.length_take]; omega)
          clear hxe hx hy
          go_wp2_with fail
          refine (HNX.out _).mono ?_
          rintro e w2 ⟨rfl, hb⟩
          replace HO := Lib.hid (HO.out.step hb)
          clear hb
          go_upto_region 28 with fail
          have K := Lib.hid ((Blx.start w2).new #[.int .i64 y1, .int .i64 y2] 24)
          replace HO := Lib.hid (HO.out.step (below_one w2 (.cells #[.int .i64 y1, .int .i64 y2] 24)))
          generalize w2.alloc (.cells #[.int .i64 y1, .int .i64 y2] 24) = w3 at *
          generalize w2.heap.size = g3 at *
          obtain ⟨k1, k2, _, _⟩ := K.out.cells2 0 rfl
          have K2 := Lib.hid ((Blx.start w3).new #[.int .i64 y1, .int .i64 y2] 24)
          replace HO := Lib.hid (HO.out.step (below_one w3 (.cells #[.int .i64 y1, .int .i64 y2] 24)))
          obtain ⟨k3, k4, _, _⟩ := K2.out.cells2 0 rfl
          obtain ⟨v', w', hrun, hnext⟩ := HO.out.next w3.heap.size 1 y1 y2 ⟨k3, k4⟩ (by have := HLN.out; omega)
          have HO := Lib.hid hnext
          rw [← HTK.out] at HO
          clear hnext k3 k4
          go_wp2_with (at_builtin; refine wpList_append_run rfl _ _ 22 rfl _ _ v' w' rfl rfl hrun ?_)
          clear hrun
          go_wp2
          go_roundg (gk - 1)
          case measure => have h := HG.out.2; omega
          case rel => exact ⟨p + 1, by go_num, HO, Lib.hid ⟨by omega, by have h := HG.out.2; omega⟩⟩
        · have hpi : ¬ (p : Int) + 1 ≤ (n : Int) := by omega
          have HF := Lib.hid (show OwnQ w (leastV n m) u16 wr from by
            have h := HO.out
            rw [show p = n by have := HG.out.1; omega, List.take_of_length_le (by rw [HL.out]; exact Nat.le_refl _)] at h
            exact h.from HB.out)
          go_wp2
          go_ret2
          exact ⟨_, rfl, HF.out⟩
/-- What Least answers. -/
def leastA (z : Option (Nat × Mat)) : List (Int × Int) × Int := match z with
  | none => ([], 1)
  | some (n, m) => if emptyP (some (n, m)) = true then ([], 14) else (leastV n m, 0)
theorem least_any (v : Value) (z : Option (Nat × Mat)) (w : World) (hz : ZoneV 173 w v z) (hk : ∀ n m, z = some (n, m) → m = (fun _ _ => 0) ∨ ClosedZ n m) : Calls Tryz.prog 34 #[v] w (LstEnds w (leastA z).1 (leastA z).2) := by
  match z, hz with
  | none, h =>
    have h : v = .pointer none := h
    subst h
    exact least_nil w
  | some (n, m), ⟨b, e, hn, hr, hm⟩ =>
    subst e
    rcases hk n m rfl with rfl | hc
    · have he : emptyP (some (n, fun _ _ => 0)) = true := by show decide ((0 : Int) < 1) = true; decide
      unfold leastA
      simp only
      rw [if_pos he]
      exact least_empty b n _ w hm he
    · unfold leastA
      simp only
      rw [if_neg (by rw [hc.full.notEmpty]; decide)]
      exact least_full b n m w hn hm hc

end Go.Proofs.YtmelblnflalanaaGreat

/- Behind which delays a valuation is in a zone, as point tells them. -/
namespace Go.Proofs.YtmelblnflalanaaGreat
open Go Go.RowKit
set_option linter.unusedVariables false
set_option linter.unusedSimpArgs false
attribute [local go_sem] min_ints max_ints

theorem span64_narrow {s s' : SpanP} {x : Int × Int} {b : Int} {above : Bool} (hs : Span64 s) (h : narrowP s x b above = some s') : Span64 s' := by
  obtain ⟨⟨h1, h2⟩, h3, h4⟩ := hs
  unfold narrowP at h
  cases above with
  | true =>
    simp only [if_true] at h
    split at h
    · split at h
      · cases h; exact ⟨⟨h1, h2⟩, (subP64 _ _).1, (subP64 _ _).2⟩
      · cases h; exact ⟨⟨h1, h2⟩, h3, h4⟩
    · cases h
  | false =>
    simp only [Bool.false_eq_true, if_false] at h
    split at h
    · split at h
      · cases h; exact ⟨⟨(subP64 _ _).1, (subP64 _ _).2⟩, h3, h4⟩
      · cases h; exact ⟨⟨h1, h2⟩, h3, h4⟩
    · cases h
/-- What is told from the cell k on. -/
def delTold (n : Nat) (m : Mat) (v : List (Int × Int)) (k : Nat) (s : SpanP) : Option SpanP := (delayFrom n m v ((n + 1) * (n + 1) - k) k s).bind fun s => if spanEnd s = true then some s else none
theorem delTold_step {n : Nat} {m : Mat} {v : List (Int × Int)} {i j : Nat} (hi : i ≤ n) (hj : j ≤ n) (s : SpanP) : delTold n m v (i * (n + 1) + j) s = (delayStep n m v i j s).bind fun t => delTold n m v (i * (n + 1) + j + 1) t := by
  have hk : i * (n + 1) + j < (n + 1) * (n + 1) := at_lt (by omega) (by omega)
  have e1 : (i * (n + 1) + j) / (n + 1) = i := by rw [Nat.mul_comm, Nat.mul_add_div (by omega), Nat.div_eq_of_lt (by omega)]; rfl
  have e2 : (i * (n + 1) + j) % (n + 1) = j := by rw [Nat.mul_comm, Nat.mul_add_mod, Nat.mod_eq_of_lt (by omega)]
  unfold delTold
  obtain ⟨g, hg⟩ : ∃ g, (n + 1) * (n + 1) - (i * (n + 1) + j) = g + 1 := ⟨(n + 1) * (n + 1) - (i * (n + 1) + j) - 1, by omega⟩
  rw [hg, show (n + 1) * (n + 1) - (i * (n + 1) + j + 1) = g by omega]
  show (Option.bind (delayStep n m v ((i * (n + 1) + j) / (n + 1)) ((i * (n + 1) + j) % (n + 1)) s) (delayFrom n m v g (i * (n + 1) + j + 1))).bind _ = _
  rw [e1, e2]
  cases delayStep n m v i j s <;> rfl
theorem delTold_end {n : Nat} {m : Mat} {v : List (Int × Int)} (s : SpanP) : delTold n m v ((n + 1) * (n + 1)) s = if spanEnd s = true then some s else none := by
  unfold delTold
  rw [Nat.sub_self]
  rfl
def spanZero : SpanP := ⟨(0, 0), (0, 0), false, false, false⟩
/-- What Delays leaves. -/
def DelEnds (w : World) (o : Option SpanP) (e : Ending) (w' : World) : Prop := e = .returned (.tuple #[.agg (spanCs (o.getD spanZero)), .bool o.isSome]) ∧ Below w.heap.size w w'

theorem cells7_at {w0 wr : World} {L : List (Nat × Array Value × TypeId)} {g : Nat} {T : TypeId} {a0 a1 a2 a3 a4 a5 a6 : Value} (h : Blx w0 L wr) (j : Nat) (hj : L[j]? = some (g, #[a0, a1, a2, a3, a4, a5, a6], T)) : (wr.cell? ⟨g, 0, none⟩ = some a0 ∧ wr.cell? ⟨g, 1, none⟩ = some a1 ∧ wr.cell? ⟨g, 2, none⟩ = some a2 ∧ wr.cell? ⟨g, 3, none⟩ = some a3 ∧ wr.cell? ⟨g, 4, none⟩ = some a4 ∧ wr.cell? ⟨g, 5, none⟩ = some a5 ∧ wr.cell? ⟨g, 6, none⟩ = some a6) ∧ wr.frozen? ⟨g, 0, none⟩ = false ∧ wr.frozen? ⟨g, 1, none⟩ = false ∧ wr.frozen? ⟨g, 2, none⟩ = false ∧ wr.frozen? ⟨g, 3, none⟩ = false ∧ wr.frozen? ⟨g, 4, none⟩ = false ∧ wr.frozen? ⟨g, 5, none⟩ = false ∧ wr.frozen? ⟨g, 6, none⟩ = false :=
  ⟨⟨(h.cell j hj 0 rfl).1, (h.cell j hj 1 rfl).1, (h.cell j hj 2 rfl).1, (h.cell j hj 3 rfl).1, (h.cell j hj 4 rfl).1, (h.cell j hj 5 rfl).1, (h.cell j hj 6 rfl).1⟩, (h.cell j hj 0 (v := a0) rfl).2, (h.cell j hj 1 (v := a1) rfl).2, (h.cell j hj 2 (v := a2) rfl).2, (h.cell j hj 3 (v := a3) rfl).2, (h.cell j hj 4 (v := a4) rfl).2, (h.cell j hj 5 (v := a5) rfl).2, (h.cell j hj 6 (v := a6) rfl).2⟩
theorem cells7_store {w0 wr : World} {L : List (Nat × Array Value × TypeId)} {g : Nat} {T : TypeId} {a0 a1 a2 a3 a4 a5 a6 : Value} (h : Blx w0 L wr) (j : Nat) (hj : L[j]? = some (g, #[a0, a1, a2, a3, a4, a5, a6], T)) (b0 b1 b2 b3 b4 b5 b6 : Value) : Blx w0 (L.set j (g, #[b0, b1, b2, b3, b4, b5, b6], T)) (((((((wr.setCell ⟨g, 0, none⟩ b0).setCell ⟨g, 1, none⟩ b1).setCell ⟨g, 2, none⟩ b2).setCell ⟨g, 3, none⟩ b3).setCell ⟨g, 4, none⟩ b4).setCell ⟨g, 5, none⟩ b5).setCell ⟨g, 6, none⟩ b6) := by
  have hl : j < L.length := (List.getElem?_eq_some_iff.1 hj).1
  have one : ∀ x : Nat × Array Value × TypeId, (L.set j x)[j]? = some x := fun x => by rw [List.getElem?_set, if_pos rfl, if_pos hl]
  have e0 : (#[a0, a1, a2, a3, a4, a5, a6] : Array Value).setIfInBounds 0 b0 = #[b0, a1, a2, a3, a4, a5, a6] := rfl
  have h1 := h.set j hj 0 b0
  rw [e0] at h1
  have e1 : (#[b0, a1, a2, a3, a4, a5, a6] : Array Value).setIfInBounds 1 b1 = #[b0, b1, a2, a3, a4, a5, a6] := rfl
  have h2 := h1.set j (one _) 1 b1
  rw [List.set_set, e1] at h2
  have e2 : (#[b0, b1, a2, a3, a4, a5, a6] : Array Value).setIfInBounds 2 b2 = #[b0, b1, b2, a3, a4, a5, a6] := rfl
  have h3 := h2.set j (one _) 2 b2
  rw [List.set_set, e2] at h3
  have e3 : (#[b0, b1, b2, a3, a4, a5, a6] : Array Value).setIfInBounds 3 b3 = #[b0, b1, b2, b3, a4, a5, a6] := rfl
  have h4 := h3.set j (one _) 3 b3
  rw [List.set_set, e3] at h4
  have e4 : (#[b0, b1, b2, b3, a4, a5, a6] : Array Value).setIfInBounds 4 b4 = #[b0, b1, b2, b3, b4, a5, a6] := rfl
  have h5 := h4.set j (one _) 4 b4
  rw [List.set_set, e4] at h5
  have e5 : (#[b0, b1, b2, b3, b4, a5, a6] : Array Value).setIfInBounds 5 b5 = #[b0, b1, b2, b3, b4, b5, a6] := rfl
  have h6 := h5.set j (one _) 5 b5
  rw [List.set_set, e5] at h6
  have e6 : (#[b0, b1, b2, b3, b4, b5, a6] : Array Value).setIfInBounds 6 b6 = #[b0, b1, b2, b3, b4, b5, b6] := rfl
  have h7 := h6.set j (one _) 6 b6
  rw [List.set_set, e6] at h7
  exact h7

set_option maxRecDepth 100000 in
set_option maxHeartbeats 4000000 in
theorem delays_empty (b n : Nat) (m : Mat) (A : Option Addr) (c : Nat) (l : List (Int × Int)) (w : World) (hn : n ≤ 8) (hm : MatAt w b 173 .i32 n m) (he : emptyP (some (n, m)) = true) (hI : RatsA w A l) (h64 : All64v l) (hv : rightV l = true) (hl : l.length = n) :
    Calls Tryz.prog 35 #[.pointer (some ⟨b, 0, none⟩), .slice A l.length c] w (DelEnds w none) := by
  have HR := Lib.hid (fun W (hb : Below w.heap.size w W) => right_val A c l W (hI.below hb) (by omega) h64)
  rw [hv] at HR
  have HD := Lib.hid (fun W (hb : Below w.heap.size w W) => dim_zone b n m W (hm.later hb))
  have HEm := Lib.hid (fun W (hb : Below w.heap.size w W) => empty_zone b n m W (hm.later hb))
  rw [show decide (m 0 0 < 1) = true from he] at HEm
  have K := Lib.hid ((Blx.start w).new #[.int .i64 0, .int .i64 0, .int .i64 0, .int .i64 0, .bool false, .bool false, .bool false] 80)
  have hlen : ((l.length : Nat) : Int) = (n : Int) := by rw [hl]
  clear hI hm h64 hv hl hn he
  go_enter Tryz.func35, Tryz.ntmps35
  go_upto_region 1 with fail
  generalize w.alloc (.cells #[.int .i64 0, .int .i64 0, .int .i64 0, .int .i64 0, .bool false, .bool false, .bool false] 80) = w1 at *
  go_wp2_with fail
  refine (HR.out _ K.out.below).mono ?_
  rintro e w2 ⟨rfl, hb⟩
  replace K := Lib.hid (K.out.step hb)
  clear hb HR
  go_wp2_with fail
  refine (HD.out _ K.out.below).mono ?_
  rintro e w3 ⟨rfl, rfl⟩
  go_wp2_with fail
  refine (HEm.out _ K.out.below).mono ?_
  rintro e w3 ⟨rfl, rfl⟩
  simp only [List.nil_append] at K
  obtain ⟨⟨c0, c1, c2, c3, c4, c5, c6⟩, f0, f1, f2, f3, f4, f5, f6⟩ := cells7_at K.out 0 rfl
  replace K := Lib.hid (cells7_store K.out 0 rfl (.int .i64 0) (.int .i64 0) (.int .i64 0) (.int .i64 0) (.bool false) (.bool false) (.bool false))
  simp only [List.set_cons_zero] at K
  go_wp2
  generalize World.setCell _ _ _ = wz at *
  refine bodyPost_ret (results_row_tmp (fn := Tryz.f35) rfl _ _ w.heap.size _ _ _ _ rfl (K.out.l _ (List.mem_singleton.2 rfl)) Tryz.underlying80 rfl (by kernel_rfl)) rfl ?_
  exact ⟨rfl, K.out.below⟩

set_option maxRecDepth 100000 in
set_option maxHeartbeats 8000000 in
theorem delays_zone (b n : Nat) (m : Mat) (A : Option Addr) (c : Nat) (l : List (Int × Int)) (w : World) (hn : n ≤ 8) (hm : MatAt w b 173 .i32 n m) (hr : RightM n m) (he : emptyP (some (n, m)) = false) (hI : RatsA w A l) (h64 : All64v l) (hv : rightV l = true) (hl : l.length = n) :
    Calls Tryz.prog 35 #[.pointer (some ⟨b, 0, none⟩), .slice A l.length c] w (DelEnds w (delaysP n m l)) := by
  have HR := Lib.hid (fun W (hb : Below w.heap.size w W) => right_val A c l W (hI.below hb) (by omega) h64)
  rw [hv] at HR
  have HD := Lib.hid (fun W (hb : Below w.heap.size w W) => dim_zone b n m W (hm.later hb))
  have HEm := Lib.hid (fun W (hb : Below w.heap.size w W) => empty_zone b n m W (hm.later hb))
  rw [show decide (m 0 0 < 1) = false from he] at HEm
  have HC := Lib.hid (fun W (hb : Below w.heap.size w W) (i j : Nat) (hi : i ≤ n) (hj : j ≤ n) => show Calls Tryz.prog 79 #[.pointer (some ⟨b, 0, none⟩), .int .i64 (i : Int), .int .i64 (j : Int)] W (fun e w' => e = .returned (.tuple #[.int .i32 (m i j), .int .i64 0]) ∧ W = w') from by
    have h := cell_zone b n m i j W hn (hm.later hb)
    rw [show cellP n m i j = (m i j, 0) by unfold cellP; rw [if_pos (by omega)]; simp] at h
    exact h)
  have HA := Lib.hid (fun W (hb : Below w.heap.size w W) (i : Nat) (hi : i ≤ n) => at_val A c l i (by omega) (by omega) W (hI.below hb))
  have HK := Lib.hid (fun W (i j : Nat) (hi : i ≤ n) (hj : j ≤ n) => keepsq_any (clockV l i).1 (clockV l i).2 (clockV l j).1 (clockV l j).2 (m i j) (clock64 h64 (by omega)).1 (clock64 h64 (by omega)).2 (clock64 h64 (by omega)).1 (clock64 h64 (by omega)).2 (clock_right hv (by omega)).1 (clock_right hv (by omega)).1 (clock_right hv (by omega)).2 (clock_right hv (by omega)).2 (hr i j hi hj) W)
  have HNT := Lib.hid (fun (w0 W : World) (g : Nat) (s : SpanP) (i j : Nat) (hi : i ≤ n) (hj : j ≤ n) (hs : Span64 s) (hne : m i j ≠ 2147483647) K => narrow_above w0 W g s (clockV l (max i j)).1 (clockV l (max i j)).2 (m i j) (clock64 h64 (by omega)).1 (clock64 h64 (by omega)).2 hs (hr i j hi hj) hne K)
  have HNF := Lib.hid (fun (w0 W : World) (g : Nat) (s : SpanP) (i j : Nat) (hi : i ≤ n) (hj : j ≤ n) (hs : Span64 s) (hne : m i j ≠ 2147483647) K => narrow_below w0 W g s (clockV l (max i j)).1 (clockV l (max i j)).2 (m i j) (clock64 h64 (by omega)).1 (clock64 h64 (by omega)).2 hs (hr i j hi hj) hne K)
  have HO := Lib.hid (fun W => rof2_any 0 W)
  have K := Lib.hid ((Blx.start w).new #[.int .i64 0, .int .i64 0, .int .i64 0, .int .i64 0, .bool false, .bool false, .bool false] 80)
  obtain ⟨R, hR⟩ : ∃ R, R = delaysP n m l := ⟨_, rfl⟩
  rw [← hR]
  have HE : Hid (R = delTold n m l 0 ⟨(0, 1), (0, 0), true, false, true⟩) := Lib.hid (by
    rw [hR]
    unfold delaysP
    rw [if_pos ⟨hv, hl, by have := of_decide_eq_false he; exact this⟩]; rfl)
  have hlen : ((l.length : Nat) : Int) = (n : Int) := by rw [hl]
  have n1 : IntKind.i64.wrap ((n : Int) + 1) = (n : Int) + 1 := IntWalk.i64_in _ (by omega)
  clear hI hm h64 hv hl he hr hR
  go_enter Tryz.func35, Tryz.ntmps35
  go_upto_region 1 with fail
  generalize w.alloc (.cells #[.int .i64 0, .int .i64 0, .int .i64 0, .int .i64 0, .bool false, .bool false, .bool false] 80) = w1 at *
  simp only [List.nil_append] at K
  go_wp2_with fail
  refine (HR.out _ K.out.below).mono ?_
  rintro e w2 ⟨rfl, hb⟩
  replace K := Lib.hid (K.out.step hb)
  clear hb HR
  go_wp2_with fail
  refine (HD.out _ K.out.below).mono ?_
  rintro e w3 ⟨rfl, rfl⟩
  go_wp2_with fail
  refine (HEm.out _ K.out.below).mono ?_
  rintro e w3 ⟨rfl, rfl⟩
  clear HD HEm
  go_wp2_with fail
  refine (HO.out _).mono ?_
  rintro e wA ⟨rfl, hb⟩
  replace K := Lib.hid (K.out.step hb)
  clear hb HO
  have KS := Lib.hid (show Blx wA [(wA.heap.size, spanCs ⟨(0, 1), (0, 0), true, false, true⟩, 80)] (wA.alloc (.cells #[.int .i64 0, .int .i64 1, .int .i64 0, .int .i64 0, .bool true, .bool false, .bool true] 80)) from (Blx.start wA).new (spanCs ⟨(0, 1), (0, 0), true, false, true⟩) 80)
  go_upto_region 5 with fail
  generalize wA.alloc (.cells #[.int .i64 0, .int .i64 1, .int .i64 0, .int .i64 0, .bool true, .bool false, .bool true] 80) = wB at *
  generalize wA.heap.size = gs at *
  have HBW := Lib.hid (fun W (hb : Below wA.heap.size wA W) => K.out.below.trans (hb.mono K.out.below.size))
  have KRS := Lib.hid (fun W (hb : Below wA.heap.size wA W) => K.out.step hb)
  clear K
  go_wp2
  go_loopg [38] (n + 1) (fun q x wr => ∃ (i : Nat) (s : SpanP), x = .int .i64 i ∧ Hid (Blx wA [(gs, spanCs s, 80)] wr) ∧ Hid (q + i = n + 1 ∧ Span64 s ∧ R = delTold n m l (i * (n + 1)) s))
  case atStart => exact ⟨0, _, by simp, KS, Lib.hid ⟨by omega, ⟨⟨⟨by decide, by decide⟩, ⟨by decide, by decide⟩⟩, ⟨by decide, by decide⟩, ⟨by decide, by decide⟩⟩, by rw [HE.out, Nat.zero_mul]⟩⟩
  case round =>
    clear KS HE
    obtain ⟨i, s, rfl, KS, HG⟩ := hrel
    by_cases hi : i < n + 1
    · have hii : (i : Int) < (n : Int) + 1 := by omega
      have w5 : IntKind.i64.wrap ((i : Int) + 1) = ((i + 1 : Nat) : Int) := by rw [IntWalk.i64_in _ (by omega)]; omega
      go_wp2
      go_loopg [43] (n + 1) (fun q x wr => ∃ (j : Nat) (s : SpanP), x = .int .i64 j ∧ Hid (Blx wA [(gs, spanCs s, 80)] wr) ∧ Hid (q + j = n + 1 ∧ Span64 s ∧ R = delTold n m l (i * (n + 1) + j) s))
      case atStart => exact ⟨0, s, by simp, KS, Lib.hid ⟨by omega, HG.out.2.1, HG.out.2.2⟩⟩
      case round =>
        clear KS
        obtain ⟨j, t, rfl, KS, HG2⟩ := hrel
        by_cases hj : j < n + 1
        · have hjj : (j : Int) < (n : Int) + 1 := by omega
          have w6 : IntKind.i64.wrap ((j : Int) + 1) = ((j + 1 : Nat) : Int) := by rw [IntWalk.i64_in _ (by omega)]; omega
          have HST : Hid (R = (delayStep n m l i j t).bind fun s => delTold n m l (i * (n + 1) + j + 1) s) := Lib.hid (HG2.out.2.2.trans (delTold_step (by omega) (by omega) t))
          have HC2 := Lib.hid (fun W hb => HC.out W hb i j (by omega) (by omega))
          have HAI := Lib.hid (fun W hb => HA.out W hb i (by omega))
          have HAJ := Lib.hid (fun W hb => HA.out W hb j (by omega))
          have HAM := Lib.hid (fun W hb => HA.out W hb (max i j) (by omega))
          have HKK := Lib.hid (fun W => HK.out W i j (by omega) (by omega))
          have HNT2 := Lib.hid (fun w0 W g hne K => HNT.out w0 W g t i j (by omega) (by omega) HG2.out.2.1 hne K)
          have HNF2 := Lib.hid (fun w0 W g hne K => HNF.out w0 W g t i j (by omega) (by omega) HG2.out.2.1 hne K)
          unfold delayStep at HST
          obtain ⟨bb, hbb⟩ : ∃ bb, bb = m i j := ⟨_, rfl⟩
          rw [← hbb] at HC2 HKK HNT2 HNF2 HST
          clear hbb
          obtain ⟨x, hx⟩ : ∃ x, x = clockV l i := ⟨_, rfl⟩
          obtain ⟨y, hy⟩ : ∃ y, y = clockV l j := ⟨_, rfl⟩
          obtain ⟨z, hz⟩ : ∃ z, z = clockV l (max i j) := ⟨_, rfl⟩
          rw [← hx] at HAI HKK HST
          rw [← hy] at HAJ HKK HST
          rw [← hz] at HAM HNT2 HNF2 HST
          clear hx hy hz
          obtain ⟨x1, x2⟩ := x
          obtain ⟨y1, y2⟩ := y
          obtain ⟨z1, z2⟩ := z
          simp only at HAI HAJ HAM HKK HNT2 HNF2
          go_wp2_with fail
          refine (HC2.out _ (HBW.out _ KS.out.below)).mono ?_
          rintro e w' ⟨rfl, rfl⟩
          clear HC2
          by_cases h0 : decide (i = 0) = decide (j = 0)
          · have e0 : (((i : Int) == 0) == ((j : Int) == 0)) = true := by
              have h0 := decide_eq_decide.1 h0
              by_cases q : i = 0
              · have q2 := h0.1 q
                subst q; subst q2; rfl
              · have q2 : ¬ j = 0 := fun h => q (h0.2 h)
                rw [show ((i : Int) == 0) = false by simp; omega, show ((j : Int) == 0) = false by simp; omega]; rfl
            obtain ⟨kb, hkb⟩ : ∃ q, q = keepsQ (x1, x2) (y1, y2) bb := ⟨_, rfl⟩
            rw [if_pos h0, ← hkb] at HST
            rw [← hkb] at HKK
            clear hkb h0
            go_wp2_with fail
            refine (HAI.out _ (HBW.out _ KS.out.below)).mono ?_
            rintro e wa ⟨rfl, hb⟩
            replace KS := Lib.hid (KS.out.step hb)
            clear hb HAI
            go_wp2_with fail
            refine (HAJ.out _ (HBW.out _ KS.out.below)).mono ?_
            rintro e wb ⟨rfl, hb⟩
            replace KS := Lib.hid (KS.out.step hb)
            clear hb HAJ
            go_wp2_with fail
            refine (HKK.out _).mono ?_
            rintro e wc ⟨rfl, hb⟩
            replace KS := Lib.hid (KS.out.step hb)
            clear hb HKK
            cases kb with
            | false =>
              have HE : Hid (R = none) := Lib.hid (HST.out.trans (by rw [if_neg (by decide)]; rfl))
              have KR := Lib.hid (KRS.out _ KS.out.below)
              obtain ⟨⟨c0, c1, c2, c3, c4, c5, c6⟩, f0, f1, f2, f3, f4, f5, f6⟩ := cells7_at KR.out 0 rfl
              replace KR := Lib.hid (cells7_store KR.out 0 rfl (.int .i64 0) (.int .i64 0) (.int .i64 0) (.int .i64 0) (.bool false) (.bool false) (.bool false))
              simp only [List.set_cons_zero] at KR
              go_wp2
              generalize World.setCell _ _ _ = wz at *
              refine bodyPost_ret (results_row_tmp (fn := Tryz.f35) rfl _ _ w.heap.size _ _ _ _ rfl (KR.out.l _ (List.mem_singleton.2 rfl)) Tryz.underlying80 rfl (by kernel_rfl)) rfl ?_
              exact ⟨by rw [HE.out]; rfl, KR.out.below⟩
            | true =>
              have HE : Hid (R = delTold n m l (i * (n + 1) + (j + 1)) t) := Lib.hid (HST.out.trans (by rw [if_pos rfl]; rfl))
              go_wp2
              go_roundg (gk - 1)
              case measure => have h := HG2.out.1; omega
              case rel => exact ⟨j + 1, t, by go_num, KS, Lib.hid ⟨by have h := HG2.out.1; omega, HG2.out.2.1, HE.out⟩⟩
          · have e0 : (((i : Int) == 0) == ((j : Int) == 0)) = false := by
              by_cases q : i = 0
              · have q2 : ¬ j = 0 := fun h => h0 (by rw [decide_eq_true q, decide_eq_true h])
                rw [show ((i : Int) == 0) = true by simp; omega, show ((j : Int) == 0) = false by simp; omega]; rfl
              · have q2 : j = 0 := Classical.byContradiction fun h => h0 (by rw [decide_eq_false q, decide_eq_false h])
                rw [show ((i : Int) == 0) = false by simp; omega, show ((j : Int) == 0) = true by simp; omega]; rfl
            rw [if_neg h0] at HST
            by_cases hinf : bb = 2147483647
            · have e1 : (bb == 2147483647) = true := by simp [hinf]
              have HE : Hid (R = delTold n m l (i * (n + 1) + (j + 1)) t) := Lib.hid (HST.out.trans (by rw [if_pos hinf]; rfl))
              clear hinf h0
              go_wp2
              go_roundg (gk - 1)
              case measure => have h := HG2.out.1; omega
              case rel => exact ⟨j + 1, t, by go_num, KS, Lib.hid ⟨by have h := HG2.out.1; omega, HG2.out.2.1, HE.out⟩⟩
            · have e1 : (bb == 2147483647) = false := by simp [hinf]
              rw [if_neg hinf] at HST
              have em : max (i : Int) (j : Int) = ((max i j : Nat) : Int) := by omega
              have HNT2 := Lib.hid (fun w0 W g K => HNT2.out w0 W g hinf K)
              have HNF2 := Lib.hid (fun w0 W g K => HNF2.out w0 W g hinf K)
              have HNN := Lib.hid (fun W (K : Blx wA [(gs, spanCs t, 80)] W) => show Calls Tryz.prog 80 #[.pointer (some ⟨gs, 0, none⟩), .agg #[.int .i64 z1, .int .i64 z2], .int .i32 bb, .bool (decide (0 < i))] W (NarEnds wA gs t (narrowP t (z1, z2) bb (decide (0 < i)))) from by
                by_cases q : i = 0
                · rw [decide_eq_false (show ¬ 0 < i by omega)]; exact HNF2.out wA W gs K
                · rw [decide_eq_true (show 0 < i by omega)]; exact HNT2.out wA W gs K)
              have H64 := Lib.hid (fun s' h => span64_narrow (s' := s') (above := decide (0 < i)) (x := (z1, z2)) (b := bb) HG2.out.2.1 h)
              obtain ⟨o, ho⟩ : ∃ o, o = narrowP t (z1, z2) bb (decide (0 < i)) := ⟨_, rfl⟩
              rw [← ho] at HNN HST
              replace H64 := Lib.hid (fun s' (h : o = some s') => H64.out s' (by rw [← ho]; exact h))
              clear hinf h0 ho HNT2 HNF2
              go_wp2_with fail
              refine (HAM.out _ (HBW.out _ KS.out.below)).mono ?_
              rintro e wa ⟨rfl, hb⟩
              replace KS := Lib.hid (KS.out.step hb)
              clear hb HAM
              go_wp2_with fail
              refine (HNN.out _ KS.out).mono ?_
              rintro e wn h
              cases o with
              | none =>
                obtain ⟨rfl, KS⟩ := h
                have HE : Hid (R = none) := Lib.hid HST.out
                have KR := Lib.hid (KRS.out _ KS.below)
                obtain ⟨⟨c0, c1, c2, c3, c4, c5, c6⟩, f0, f1, f2, f3, f4, f5, f6⟩ := cells7_at KR.out 0 rfl
                replace KR := Lib.hid (cells7_store KR.out 0 rfl (.int .i64 0) (.int .i64 0) (.int .i64 0) (.int .i64 0) (.bool false) (.bool false) (.bool false))
                simp only [List.set_cons_zero] at KR
                go_wp2
                generalize World.setCell _ _ _ = wz at *
                refine bodyPost_ret (results_row_tmp (fn := Tryz.f35) rfl _ _ w.heap.size _ _ _ _ rfl (KR.out.l _ (List.mem_singleton.2 rfl)) Tryz.underlying80 rfl (by kernel_rfl)) rfl ?_
                exact ⟨by rw [HE.out]; rfl, KR.out.below⟩
              | some t' =>
                obtain ⟨rfl, KS⟩ := h
                have HE : Hid (R = delTold n m l (i * (n + 1) + (j + 1)) t') := Lib.hid HST.out
                have KS := Lib.hid KS
                go_wp2
                go_roundg (gk - 1)
                case measure => have h := HG2.out.1; omega
                case rel => exact ⟨j + 1, t', by go_num, KS, Lib.hid ⟨by have h := HG2.out.1; omega, H64.out t' rfl, HE.out⟩⟩
        · have hjj : ¬ (j : Int) < (n : Int) + 1 := by omega
          have HE : Hid (R = delTold n m l ((i + 1) * (n + 1)) t) := Lib.hid (by
            have h := HG2.out.2.2
            rw [show i * (n + 1) + j = (i + 1) * (n + 1) by rw [Nat.succ_mul]; have := HG2.out.1; omega] at h
            exact h)
          go_wp2
          go_roundg (n - i)
          case measure => have h := HG.out.1; omega
          case rel => exact ⟨i + 1, t, by go_num, KS, Lib.hid ⟨by have h := HG.out.1; omega, HG2.out.2.1, HE.out⟩⟩
    · have hii : ¬ (i : Int) < (n : Int) + 1 := by omega
      have HE : Hid (R = if spanEnd s = true then some s else none) := Lib.hid (by
        have h := HG.out.2.2
        rw [show i = n + 1 by have := HG.out.1; omega, delTold_end] at h
        exact h)
      have S64 := Lib.hid HG.out.2.1
      obtain ⟨⟨a1, a2⟩, ⟨h1, h2⟩, li, hi', ev⟩ := s
      have HCM := Lib.hid (fun W => compare_any a1 a2 h1 h2 S64.out.1.1 S64.out.1.2 S64.out.2.1 S64.out.2.2 W)
      have HSE : Hid (spanEnd ⟨(a1, a2), (h1, h2), li, hi', ev⟩ = (ev || (!decide (0 < cmpP (a1, a2) (h1, h2)) && (!decide (cmpP (a1, a2) (h1, h2) = 0) || (li && hi'))))) := Lib.hid rfl
      obtain ⟨cc, hcc⟩ : ∃ cc, cc = cmpP (a1, a2) (h1, h2) := ⟨_, rfl⟩
      rw [← hcc] at HCM HSE
      clear HG S64 hcc HC HA HK HNT HNF
      cases ev with
      | true =>
        have HE : Hid (R = some ⟨(a1, a2), (h1, h2), li, hi', true⟩) := Lib.hid (by rw [HE.out, HSE.out]; rfl)
        have KR := Lib.hid (KRS.out _ KS.out.below)
        obtain ⟨⟨c0, c1, c2, c3, c4, c5, c6⟩, f0, f1, f2, f3, f4, f5, f6⟩ := cells7_at KR.out 0 rfl
        obtain ⟨⟨k0, k1, k2, k3, k4, k5, k6⟩, _⟩ := cells7_at (a0 := .int .i64 a1) (a1 := .int .i64 a2) (a2 := .int .i64 h1) (a3 := .int .i64 h2) (a4 := .bool li) (a5 := .bool hi') (a6 := .bool true) KS.out 0 rfl
        replace KR := Lib.hid (cells7_store KR.out 0 rfl (.int .i64 a1) (.int .i64 a2) (.int .i64 h1) (.int .i64 h2) (.bool li) (.bool hi') (.bool true))
        simp only [List.set_cons_zero] at KR
        go_wp2
        generalize World.setCell _ _ _ = wz at *
        refine bodyPost_ret (results_row_tmp (fn := Tryz.f35) rfl _ _ w.heap.size _ _ _ _ rfl (KR.out.l _ (List.mem_singleton.2 rfl)) Tryz.underlying80 rfl (by kernel_rfl)) rfl ?_
        exact ⟨by rw [HE.out]; rfl, KR.out.below⟩
      | false =>
        obtain ⟨⟨k0, k1, k2, k3, k4, k5, k6⟩, _⟩ := cells7_at (a0 := .int .i64 a1) (a1 := .int .i64 a2) (a2 := .int .i64 h1) (a3 := .int .i64 h2) (a4 := .bool li) (a5 := .bool hi') (a6 := .bool false) KS.out 0 rfl
        go_wp2_with fail
        refine (HCM.out _).mono ?_
        rintro e wc ⟨rfl, hb⟩
        replace KS := Lib.hid (KS.out.step hb)
        clear hb HCM k0 k1 k2 k3 k4 k5 k6
        have KR := Lib.hid (KRS.out _ KS.out.below)
        obtain ⟨⟨c0, c1, c2, c3, c4, c5, c6⟩, f0, f1, f2, f3, f4, f5, f6⟩ := cells7_at KR.out 0 rfl
        obtain ⟨⟨k0, k1, k2, k3, k4, k5, k6⟩, _⟩ := cells7_at (a0 := .int .i64 a1) (a1 := .int .i64 a2) (a2 := .int .i64 h1) (a3 := .int .i64 h2) (a4 := .bool li) (a5 := .bool hi') (a6 := .bool false) KS.out 0 rfl
        by_cases q1 : 0 < cc
        · have t1 : decide (0 < cc) = true := decide_eq_true q1
          have HE : Hid (R = none) := Lib.hid (by rw [HE.out, HSE.out, t1]; rfl)
          clear q1 HSE
          replace KR := Lib.hid (cells7_store KR.out 0 rfl (.int .i64 0) (.int .i64 0) (.int .i64 0) (.int .i64 0) (.bool false) (.bool false) (.bool false))
          simp only [List.set_cons_zero] at KR
          go_wp2
          generalize World.setCell _ _ _ = wz at *
          refine bodyPost_ret (results_row_tmp (fn := Tryz.f35) rfl _ _ w.heap.size _ _ _ _ rfl (KR.out.l _ (List.mem_singleton.2 rfl)) Tryz.underlying80 rfl (by kernel_rfl)) rfl ?_
          exact ⟨by rw [HE.out]; rfl, KR.out.below⟩
        · have t1 : decide (0 < cc) = false := decide_eq_false q1
          by_cases q2 : cc = 0
          · subst q2
            clear q1
            cases li with
            | false =>
              have HE : Hid (R = none) := Lib.hid (by rw [HE.out, HSE.out]; rfl)
              clear HSE
              replace KR := Lib.hid (cells7_store KR.out 0 rfl (.int .i64 0) (.int .i64 0) (.int .i64 0) (.int .i64 0) (.bool false) (.bool false) (.bool false))
              simp only [List.set_cons_zero] at KR
              go_wp2
              generalize World.setCell _ _ _ = wz at *
              refine bodyPost_ret (results_row_tmp (fn := Tryz.f35) rfl _ _ w.heap.size _ _ _ _ rfl (KR.out.l _ (List.mem_singleton.2 rfl)) Tryz.underlying80 rfl (by kernel_rfl)) rfl ?_
              exact ⟨by rw [HE.out]; rfl, KR.out.below⟩
            | true =>
              cases hi' with
              | false =>
                have HE : Hid (R = none) := Lib.hid (by rw [HE.out, HSE.out]; rfl)
                clear HSE
                replace KR := Lib.hid (cells7_store KR.out 0 rfl (.int .i64 0) (.int .i64 0) (.int .i64 0) (.int .i64 0) (.bool false) (.bool false) (.bool false))
                simp only [List.set_cons_zero] at KR
                go_wp2
                generalize World.setCell _ _ _ = wz at *
                refine bodyPost_ret (results_row_tmp (fn := Tryz.f35) rfl _ _ w.heap.size _ _ _ _ rfl (KR.out.l _ (List.mem_singleton.2 rfl)) Tryz.underlying80 rfl (by kernel_rfl)) rfl ?_
                exact ⟨by rw [HE.out]; rfl, KR.out.below⟩
              | true =>
                have HE : Hid (R = some ⟨(a1, a2), (h1, h2), true, true, false⟩) := Lib.hid (by rw [HE.out, HSE.out]; rfl)
                clear HSE
                replace KR := Lib.hid (cells7_store KR.out 0 rfl (.int .i64 a1) (.int .i64 a2) (.int .i64 h1) (.int .i64 h2) (.bool true) (.bool true) (.bool false))
                simp only [List.set_cons_zero] at KR
                go_wp2
                generalize World.setCell _ _ _ = wz at *
                refine bodyPost_ret (results_row_tmp (fn := Tryz.f35) rfl _ _ w.heap.size _ _ _ _ rfl (KR.out.l _ (List.mem_singleton.2 rfl)) Tryz.underlying80 rfl (by kernel_rfl)) rfl ?_
                exact ⟨by rw [HE.out]; rfl, KR.out.below⟩
          · have t2 : (cc == 0) = false := by simp [q2]
            have HE : Hid (R = some ⟨(a1, a2), (h1, h2), li, hi', false⟩) := Lib.hid (by rw [HE.out, HSE.out, t1, decide_eq_false q2]; rfl)
            clear q1 q2 HSE
            replace KR := Lib.hid (cells7_store KR.out 0 rfl (.int .i64 a1) (.int .i64 a2) (.int .i64 h1) (.int .i64 h2) (.bool li) (.bool hi') (.bool false))
            simp only [List.set_cons_zero] at KR
            go_wp2
            generalize World.setCell _ _ _ = wz at *
            refine bodyPost_ret (results_row_tmp (fn := Tryz.f35) rfl _ _ w.heap.size _ _ _ _ rfl (KR.out.l _ (List.mem_singleton.2 rfl)) Tryz.underlying80 rfl (by kernel_rfl)) rfl ?_
            exact ⟨by rw [HE.out]; rfl, KR.out.below⟩
/-- Delays of a zone that is there, of a valuation that may be one. -/
theorem delays_any (v : Value) (n : Nat) (m : Mat) (A : Option Addr) (c : Nat) (l : List (Int × Int)) (w : World) (hz : ZoneV 173 w v (some (n, m))) (hk : m = (fun _ _ => 0) ∨ ClosedZ n m) (hI : RatsA w A l) (h64 : All64v l) (hv : rightV l = true) (hl : l.length = n) :
    Calls Tryz.prog 35 #[v, .slice A l.length c] w (DelEnds w (delaysP n m l)) := by
  obtain ⟨b, e, hn, hr, hm⟩ := hz
  subst e
  rcases hk with rfl | hc
  · have he : emptyP (some (n, fun _ _ => 0)) = true := by show decide ((0 : Int) < 1) = true; decide
    have hd : delaysP n (fun _ _ => 0) l = none := by
      unfold delaysP
      rw [if_neg (by intro h; exact absurd h.2.2 (by decide))]
    rw [hd]
    exact delays_empty b n _ A c l w hn hm he hI h64 hv hl
  · exact delays_zone b n m A c l w hn hm hr hc.full.notEmpty hI h64 hv hl

end Go.Proofs.YtmelblnflalanaaGreat

/- What live tells of points, whatever is asked. -/
namespace Go.Proofs.YtmelblnflalanaaGreat
open Go Go.RowKit
set_option linter.unusedVariables false
set_option linter.unusedSimpArgs false

theorem some_of6 {r : Option Mat × Int} (h1 : r.1.isSome = true) (h2 : r.2 = 0) : r = (some (r.1.getD fun _ _ => 0), 0) := by
  obtain ⟨a, b⟩ := r
  cases a
  · cases h1
  · simp only at h2; subst h2; rfl
def lp0 : Mat := (limP 1 [(1, 0, 16), (0, 1, -14)]).1.getD fun _ _ => 0
theorem lp0_is : limP 1 [(1, 0, 16), (0, 1, -14)] = (some lp0, 0) := some_of6 (by decide +kernel) (by decide +kernel)
theorem lp0_closed : ClosedZ 1 lp0 := by
  have h1 : ∀ i, i < 2 → ∀ j, j < 2 → rightB (lp0 i j) = true := by decide +kernel
  have h2 : ∀ i, i < 2 → lp0 i i = 1 := by decide +kernel
  have h3 : ∀ j, j < 2 → lp0 0 j ≤ 1 := by decide +kernel
  have h4 : ∀ q, q < 2 → ∀ i, i < 2 → ∀ j, j < 2 → widW lp0 i j ≤ wsum (widW lp0 i q) (widW lp0 q j) := by decide +kernel
  exact ⟨⟨fun i j hi hj => h1 i (by omega) j (by omega), fun i hi => h2 i (by omega), fun j hj => h3 j (by omega)⟩, fun q hq i j hi hj => h4 q hq i (by omega) j (by omega)⟩
theorem lp0_least : leastA (some (1, lp0)) = ([(15, 2)], 0) := by decide +kernel
theorem lp0_in : inZ (some (1, lp0)) [(15, 2)] = true := by decide +kernel
theorem some_span {o : Option SpanP} {s : SpanP} (h : (o.map fun t => (t.lo, t.hi, t.loIn, t.hiIn, t.ever)) = some (s.lo, s.hi, s.loIn, s.hiIn, s.ever)) : o = some s := by
  cases o with
  | none => cases h
  | some t =>
    obtain ⟨a, b, c, d, e⟩ := t
    obtain ⟨a', b', c', d', e'⟩ := s
    simp only [Option.map_some, Option.some.injEq, Prod.mk.injEq] at h
    obtain ⟨rfl, rfl, rfl, rfl, rfl⟩ := h
    rfl
theorem lp0_delays : delaysP 1 lp0 [(7, 1)] = some ⟨(0, 1), (1, 1), false, false, false⟩ := some_span (by decide +kernel)
theorem lims_two (w : World) (e : TypeId) (a b c a' b' c' : Int) : Lims (w.alloc (.cells #[.int .i64 a, .int .i64 b, .int .i32 c, .int .i64 a', .int .i64 b', .int .i32 c'] e (0, 0))) (some ⟨w.heap.size, 0, none⟩) [(a, b, c), (a', b', c')] := by
  have h1 := heap_alloc_new w (.cells #[.int .i64 a, .int .i64 b, .int .i32 c, .int .i64 a', .int .i64 b', .int .i32 c'] e (0, 0))
  intro j hj
  have e0 : j = 0 ∨ j = 1 := by simp at hj; omega
  rcases e0 with rfl | rfl <;> refine ⟨w.heap.size, 0, rfl, ?_, ?_, ?_⟩ <;> (unfold World.cell?; rw [h1]; rfl)
theorem rats_one (w : World) (e : TypeId) (x y : Int) : RatsA (w.alloc (.cells #[.int .i64 x, .int .i64 y] e (0, 0))) (some ⟨w.heap.size, 0, none⟩) [(x, y)] := fun j hj => by
  have h0 : j = 0 := by simpa using hj
  subst h0
  have h1 := heap_alloc_new w (.cells #[.int .i64 x, .int .i64 y] e (0, 0))
  refine ⟨w.heap.size, 0, rfl, ?_, ?_⟩ <;> (unfold World.cell?; rw [h1]; rfl)
theorem one64 {x y : Int} (hx : I64 x) (hy : I64 y) : All64v [(x, y)] := fun j hj => by
  have h0 : j = 0 := by simpa using hj
  subst h0
  exact ⟨hx, hy⟩

set_option maxRecDepth 100000 in
set_option maxHeartbeats 4000000 in
theorem live06_any (w : World) : Calls Tryz.prog 12 #[] w fun e w' => e = .returned (.bool true) ∧ Below w.heap.size w w' := by
  have HL := Lib.hid (fun A c w hI => limits_any 1 A c [(1, 0, 16), (0, 1, -14)] w hI (by simp) (fun q hq => by
    have : q = 0 ∨ q = 1 := by simp at hq; omega
    rcases this with rfl | rfl <;> decide))
  rw [lp0_is] at HL
  have HLE := Lib.hid (fun v w h => least_any v (some (1, lp0)) w h (fun n m e => by cases e; exact .inr lp0_closed))
  rw [lp0_least] at HLE
  have HDE := Lib.hid (fun v A c w h hI => delays_any v 1 lp0 A c [(7, 1)] w h (.inr lp0_closed) hI (one64 ⟨by decide, by decide⟩ ⟨by decide, by decide⟩) (by decide) rfl)
  rw [lp0_delays] at HDE
  have HIN := Lib.hid (fun v A c w h hI => in_any v (some (1, lp0)) A c [(15, 2)] w h hI (by decide) (one64 ⟨by decide, by decide⟩ ⟨by decide, by decide⟩))
  rw [lp0_in] at HIN
  go_enter Tryz.func12, Tryz.ntmps12
  go_wp2_with fail
  have HB0 := Lib.hid ((Below.refl w.heap.size w).alloc (Nat.le_refl _) (.cells #[.int .i64 1, .int .i64 0, .int .i32 16, .int .i64 0, .int .i64 1, .int .i32 (-14)] 72))
  have HL0 := Lib.hid (lims_two w 72 1 0 16 0 1 (-14))
  generalize w.alloc (.cells #[.int .i64 1, .int .i64 0, .int .i32 16, .int .i64 0, .int .i64 1, .int .i32 (-14)] 72) = w0 at *
  refine (HL.out _ _ _ HL0.out).mono ?_
  rintro e w1 ⟨hb, v, rfl, hv⟩
  have HB1 := Lib.hid (HB0.out.trans (hb.mono HB0.out.size))
  have HV1 := Lib.hid (show ZoneV 173 w1 v (some (1, lp0)) from hv)
  obtain ⟨b1, e1, _⟩ := hv
  subst e1
  clear hb HB0 HL0 HL
  go_wp2_with fail
  refine (HLE.out _ _ HV1.out).mono ?_
  rintro e w2 ⟨v2, rfl, hq⟩
  replace HV1 := Lib.hid (HV1.out.below hq.1)
  replace HB1 := Lib.hid (HB1.out.trans (hq.1.mono HB1.out.size))
  obtain ⟨A2, c2, rfl, hr2⟩ := hq.rats
  have HR2 := Lib.hid hr2
  clear hq hr2 HLE
  go_wp2_with fail
  have HR3 := Lib.hid (rats_one w2 24 7 1)
  have HB3 := Lib.hid (below_one w2 (.cells #[.int .i64 7, .int .i64 1] 24))
  replace HV1 := Lib.hid (HV1.out.below HB3.out)
  replace HR2 := Lib.hid (HR2.out.below HB3.out)
  replace HB1 := Lib.hid (HB1.out.trans (HB3.out.mono HB1.out.size))
  generalize w2.alloc (.cells #[.int .i64 7, .int .i64 1] 24) = w3 at *
  refine (HDE.out _ _ _ _ HV1.out HR3.out).mono ?_
  rintro e w4 ⟨he, hb⟩
  simp only [spanCs, Option.getD_some, Option.isSome_some] at he
  subst he
  replace HV1 := Lib.hid (HV1.out.below hb)
  replace HR2 := Lib.hid (HR2.out.below hb)
  replace HB1 := Lib.hid (HB1.out.trans (hb.mono HB1.out.size))
  clear hb HB3 HR3 HDE
  go_upto_region 6 with fail
  have HB5 := Lib.hid (below_one w4 (.cells #[.int .i64 0, .int .i64 1, .int .i64 1, .int .i64 1, .bool false, .bool false, .bool false] 80))
  have K := Lib.hid ((Blx.start w4).new #[.int .i64 0, .int .i64 1, .int .i64 1, .int .i64 1, .bool false, .bool false, .bool false] 80)
  replace HV1 := Lib.hid (HV1.out.below HB5.out)
  replace HR2 := Lib.hid (HR2.out.below HB5.out)
  replace HB1 := Lib.hid (HB1.out.trans (HB5.out.mono HB1.out.size))
  generalize w4.alloc (.cells #[.int .i64 0, .int .i64 1, .int .i64 1, .int .i64 1, .bool false, .bool false, .bool false] 80) = w5 at *
  simp only [List.nil_append] at K
  generalize w4.heap.size = g5 at *
  obtain ⟨b2, off, rfl, k1, k2⟩ := HR2.out 0 (by decide)
  rw [show off + 0 * 2 = off by omega] at k1 k2
  go_wp2_with fail
  refine (HIN.out _ _ _ _ HV1.out HR2.out).mono ?_
  rintro e w6 ⟨rfl, hb⟩
  replace K := Lib.hid (K.out.step hb)
  replace HB1 := Lib.hid (HB1.out.trans (hb.mono HB1.out.size))
  clear hb HIN k1 k2
  obtain ⟨⟨c0, c1, c2, c3, c4, c5, c6⟩, _⟩ := cells7_at K.out 0 rfl
  go_wp2
  go_ret
  exact ⟨rfl, HB1.out⟩

end Go.Proofs.YtmelblnflalanaaGreat

/- A valuation when time has passed, as point has it. -/
namespace Go.Proofs.YtmelblnflalanaaGreat
open Go Go.RowKit
set_option linter.unusedVariables false
set_option linter.unusedSimpArgs false

set_option maxRecDepth 100000 in
set_option maxHeartbeats 4000000 in
theorem wait_bad (A : Option Addr) (c : Nat) (l : List (Int × Int)) (d1 d2 : Int) (w : World) (hI : RatsA w A l) (hmax : l.length ≤ 8796093022000) (h64 : All64v l) (hd1 : I64 d1) (hd2 : I64 d2) (hbad : ¬ (rightV l = true ∧ rightR (d1, d2) = true ∧ 0 ≤ d1)) :
    Calls Tryz.prog 5 #[.slice A l.length c, .agg #[.int .i64 d1, .int .i64 d2]] w (LstEnds w [] 7) := by
  have HR := Lib.hid (fun W (hb : Below w.heap.size w W) => right_val A c l W (hI.below hb) hmax h64)
  have HRD := Lib.hid (fun W => rightq_any d1 d2 hd1 hd2 W)
  have K := Lib.hid ((Blx.start w).new #[.int .i64 d1, .int .i64 d2] 24)
  have HO := Lib.hid ((OwnQ.start w).step (below_one w (.cells #[.int .i64 d1, .int .i64 d2] 24)))
  obtain ⟨rv, hrv⟩ : ∃ q, q = rightV l := ⟨_, rfl⟩
  obtain ⟨rd, hrd⟩ : ∃ q, q = rightR (d1, d2) := ⟨_, rfl⟩
  rw [← hrv] at HR hbad
  rw [← hrd] at HRD hbad
  clear hI h64 hd1 hd2 hmax hrv hrd
  go_enter Tryz.func5, Tryz.ntmps5
  go_upto_region 1 with fail
  generalize w.alloc (.cells #[.int .i64 d1, .int .i64 d2] 24) = w1 at *
  simp only [List.nil_append] at K
  go_wp2_with fail
  refine (HR.out _ K.out.below).mono ?_
  rintro e w2 ⟨rfl, hb⟩
  replace K := Lib.hid (K.out.step hb)
  replace HO := Lib.hid (HO.out.step hb)
  clear hb
  cases rv with
  | false =>
    go_wp2
    go_ret2
    exact ⟨_, rfl, HO.out⟩
  | true =>
    obtain ⟨k1, k2, _, _⟩ := K.out.cells2 0 rfl
    go_wp2_with fail
    refine (HRD.out _).mono ?_
    rintro e w3 ⟨rfl, hb⟩
    replace K := Lib.hid (K.out.step hb)
    replace HO := Lib.hid (HO.out.step hb)
    clear hb k1 k2
    cases rd with
    | false =>
      go_wp2
      go_ret2
      exact ⟨_, rfl, HO.out⟩
    | true =>
      have hneg : d1 < 0 := by
        have : ¬ 0 ≤ d1 := fun h => hbad ⟨by simp, by simp, h⟩
        omega
      obtain ⟨k1, k2, _, _⟩ := K.out.cells2 0 rfl
      clear hbad
      go_wp2
      go_ret2
      exact ⟨_, rfl, HO.out⟩

set_option maxRecDepth 100000 in
set_option maxHeartbeats 4000000 in
theorem wait_goods (A : Option Addr) (c : Nat) (l : List (Int × Int)) (d1 d2 : Int) (w : World) (hI : RatsA w A l) (hmax : l.length ≤ 8796093022000) (h64 : All64v l) (hd1 : I64 d1) (hd2 : I64 d2) (hrv : rightV l = true) (hrd : rightR (d1, d2) = true) (hd0 : 0 ≤ d1) :
    Calls Tryz.prog 5 #[.slice A l.length c, .agg #[.int .i64 d1, .int .i64 d2]] w (LstEnds w (waitA l (d1, d2)).1 (waitA l (d1, d2)).2) := by
  have HR := Lib.hid (fun W (hb : Below w.heap.size w W) => right_val A c l W (hI.below hb) hmax h64)
  have HRD := Lib.hid (fun W => rightq_any d1 d2 hd1 hd2 W)
  have K := Lib.hid ((Blx.start w).new #[.int .i64 d1, .int .i64 d2] 24)
  have HI := Lib.hid hI
  have H64 := Lib.hid h64
  have HAD := Lib.hid (fun (x1 x2 : Int) (h1 : I64 x1) (h2 : I64 x2) W => addq_any x1 x2 d1 d2 h1 h2 hd1 hd2 W)
  have hl8 : l.length ≤ 8 := by
    unfold rightV at hrv
    exact of_decide_eq_true (Bool.and_eq_true_iff.1 hrv).1
  obtain ⟨R, hR⟩ : ∃ q, q = waitEF l (d1, d2) l.length 0 := ⟨_, rfl⟩
  have HA : Hid (waitA l (d1, d2) = if R = 0 then (waitV l (d1, d2), 0) else ([], R)) := Lib.hid (by unfold waitA; rw [if_pos ⟨hrv, hrd, hd0⟩, ← hR])
  have HR0 := Lib.hid hR
  obtain ⟨res, hres⟩ : ∃ q, q = waitA l (d1, d2) := ⟨_, rfl⟩
  rw [← hres] at HA ⊢
  rw [hrv] at HR
  rw [hrd] at HRD
  have n0 : ¬ d1 < 0 := by omega
  clear hI h64 hd1 hd2 hmax hrv hrd hres hR
  go_enter Tryz.func5, Tryz.ntmps5
  go_upto_region 1 with fail
  generalize w.alloc (.cells #[.int .i64 d1, .int .i64 d2] 24) = w1 at *
  simp only [List.nil_append] at K
  go_wp2_with fail
  refine (HR.out _ K.out.below).mono ?_
  rintro e w2 ⟨rfl, hb⟩
  replace K := Lib.hid (K.out.step hb)
  clear hb HR
  obtain ⟨k1, k2, _, _⟩ := K.out.cells2 0 rfl
  go_wp2_with fail
  refine (HRD.out _).mono ?_
  rintro e w3 ⟨rfl, hb⟩
  replace K := Lib.hid (K.out.step hb)
  clear hb k1 k2 HRD
  obtain ⟨k1, k2, _, _⟩ := K.out.cells2 0 rfl
  have HO := Lib.hid (OwnQ.start w3)
  go_wp2
  clear k1 k2
  go_loopg [6, 26] l.length (fun g v x wr => ∃ p : Nat, x = .int .i64 p ∧ Hid (OwnQ w3 ((waitV l (d1, d2)).take p) v wr) ∧ Hid (p ≤ l.length ∧ g + p = l.length ∧ R = waitEF l (d1, d2) g p))
  case atStart => exact ⟨0, by simp, Lib.hid HO.out, Lib.hid ⟨by omega, by omega, HR0.out⟩⟩
  case round =>
    clear HO HR0
    obtain ⟨p, rfl, HO, HG⟩ := hrel
    have q5 : IntKind.i64.wrap ((p : Int) + 1) = ((p + 1 : Nat) : Int) := by rw [IntWalk.i64_in _ (by have := HG.out.1; omega)]; omega
    by_cases hp : p < l.length
    · have hpi : (p : Int) < (l.length : Int) := by omega
      obtain ⟨ba, oa, rfl, e1, e2⟩ := HI.out.below (K.out.below.trans (HO.out.1.mono K.out.below.size)) p hp
      have x64 := H64.out p hp
      have HST : Hid (R = if (addP (l.getD p (0, 0)) (d1, d2)).2 = 0 then waitEF l (d1, d2) (l.length - (p + 1)) (p + 1) else (addP (l.getD p (0, 0)) (d1, d2)).2) := Lib.hid (by
        have h := HG.out.2.2
        rw [show gk = (l.length - (p + 1)) + 1 by have := HG.out.2.1; omega] at h
        exact h)
      have HTK := Lib.hid (waitV_take (v := l) (d := (d1, d2)) hp)
      have HLN : Hid (((waitV l (d1, d2)).take p).length ≤ 8) := Lib.hid (by rw [List.length_take, waitV_length]; omega)
      obtain ⟨x, hx⟩ : ∃ x, x = l.getD p (0, 0) := ⟨_, rfl⟩
      rw [← hx] at e1 e2 x64 HST HTK
      obtain ⟨x1, x2⟩ := x
      have HAX := Lib.hid (fun W => HAD.out x1 x2 x64.1 x64.2 W)
      obtain ⟨y, hy⟩ : ∃ y, y = addP (x1, x2) (d1, d2) := ⟨_, rfl⟩
      rw [← hy] at HST HTK HAX
      obtain ⟨⟨y1, y2⟩, ye⟩ := y
      unfold rtV at HAX
      clear hx hy x64
      go_upto_region 7 with fail
      have KD := Lib.hid ((K.out.step HO.out.1).new #[.int .i64 x1, .int .i64 x2] 24)
      replace HO := Lib.hid (HO.out.step (below_one wr (.cells #[.int .i64 x1, .int .i64 x2] 24)))
      generalize wr.alloc (.cells #[.int .i64 x1, .int .i64 x2] 24) = w4 at *
      generalize wr.heap.size = g4 at *
      simp only [List.cons_append, List.nil_append] at KD
      obtain ⟨k1, k2, _, _⟩ := KD.out.cells2 0 rfl
      obtain ⟨k3, k4, _, _⟩ := KD.out.cells2 1 rfl
      clear e1 e2 KD
      go_wp2_with fail
      refine (HAX.out _).mono ?_
      rintro e w5 ⟨rfl, hb⟩
      replace HO := Lib.hid (HO.out.step hb)
      clear hb k1 k2 k3 k4 HAX
      go_upto_region 8 with fail
      have K5 := Lib.hid ((Blx.start w5).new #[.int .i64 y1, .int .i64 y2] 24)
      replace HO := Lib.hid (HO.out.step (below_one w5 (.cells #[.int .i64 y1, .int .i64 y2] 24)))
      generalize w5.alloc (.cells #[.int .i64 y1, .int .i64 y2] 24) = w6 at *
      generalize w5.heap.size = g6 at *
      obtain ⟨k1, k2, _, _⟩ := K5.out.cells2 0 rfl
      by_cases hye : ye = 0
      · subst hye
        have HE := Lib.hid (HST.out.trans (if_pos rfl))
        go_upto_region 10 with fail
        have K2 := Lib.hid ((Blx.start w6).new #[.int .i64 y1, .int .i64 y2] 24)
        replace HO := Lib.hid (HO.out.step (below_one w6 (.cells #[.int .i64 y1, .int .i64 y2] 24)))
        obtain ⟨k3, k4, _, _⟩ := K2.out.cells2 0 rfl
        obtain ⟨v', w', hrun, hnext⟩ := HO.out.next w6.heap.size 1 y1 y2 ⟨k3, k4⟩ (by have := HLN.out; omega)
        have HO := Lib.hid hnext
        rw [← HTK.out] at HO
        clear hnext k3 k4
        go_wp2_with (at_builtin; refine wpList_append_run rfl _ _ 22 rfl _ _ v' w' rfl rfl hrun ?_)
        clear hrun
        go_wp2
        go_roundg (gk - 1)
        case measure => have h := HG.out.2.1; omega
        case rel => exact ⟨p + 1, by go_num, HO, Lib.hid ⟨by omega, by have h := HG.out.2.1; omega, by rw [show gk - 1 = l.length - (p + 1) by have h := HG.out.2.1; omega]; exact HE.out⟩⟩
      · have t1 : (ye != 0) = true := by simp [hye]
        have HE : Hid (res = ([], ye)) := Lib.hid (by
          have e := HST.out.trans (if_neg hye)
          rw [HA.out, e, if_neg hye])
        have HF := Lib.hid (((OwnQ.start w).step K.out.below).step HO.out.1)
        clear hye
        go_wp2
        go_ret2
        rw [HE.out]
        exact ⟨_, rfl, HF.out⟩
    · have hpi : ¬ (p : Int) < (l.length : Int) := by omega
      have HE : Hid (res = (waitV l (d1, d2), 0)) := Lib.hid (by
        have e := HG.out.2.2
        rw [show gk = 0 by have := HG.out.2.1; omega] at e
        have e : R = 0 := e
        rw [HA.out, if_pos e])
      have hfull : (waitV l (d1, d2)).take p = waitV l (d1, d2) := List.take_of_length_le (by rw [waitV_length]; have := HG.out.1; omega)
      rw [hfull] at HO
      have HF := Lib.hid (HO.out.from K.out.below)
      clear hfull HO
      go_wp2
      go_ret2
      rw [HE.out]
      exact ⟨_, rfl, HF.out⟩
theorem wait_any (A : Option Addr) (c : Nat) (l : List (Int × Int)) (d1 d2 : Int) (w : World) (hI : RatsA w A l) (hmax : l.length ≤ 8796093022000) (h64 : All64v l) (hd1 : I64 d1) (hd2 : I64 d2) :
    Calls Tryz.prog 5 #[.slice A l.length c, .agg #[.int .i64 d1, .int .i64 d2]] w (LstEnds w (waitA l (d1, d2)).1 (waitA l (d1, d2)).2) := by
  by_cases h : rightV l = true ∧ rightR (d1, d2) = true ∧ 0 ≤ d1
  · exact wait_goods A c l d1 d2 w hI hmax h64 hd1 hd2 h.1 h.2.1 h.2.2
  · have e : waitA l (d1, d2) = ([], 7) := by unfold waitA; exact if_neg h
    rw [e]
    exact wait_bad A c l d1 d2 w hI hmax h64 hd1 hd2 h
theorem waitV64 {l : List (Int × Int)} {d : Int × Int} : All64v (waitV l d) := fun j hj => by
  rw [waitV_length] at hj
  rw [waitV_getD hj]
  unfold addP
  split
  · exact frac64 _ _
  · exact ⟨⟨by decide, by decide⟩, ⟨by decide, by decide⟩⟩
theorem waitA64 {l : List (Int × Int)} {d : Int × Int} : All64v (waitA l d).1 := by
  unfold waitA
  split
  · split
    · exact waitV64
    · exact fun j hj => absurd hj (by simp)
  · exact fun j hj => absurd hj (by simp)

end Go.Proofs.YtmelblnflalanaaGreat
