/- Texts of ours, laid together: Jo, Eb, Ec, R1, Ra, Rb, Rc, Rd, Re, Rf, Sa, Rg, Rh, Fa, Ed, Ef, Mi. -/
import Derived.Test.YtkgohhdenfnfpaaProg
import Derived.Lib.Hide
import Derived.Deep.LoopGhost
import Derived.Deep.QuietTactic
import Derived.BigQuiet
import Derived.BigRegion
import Derived.StillTailTactics
import Derived.KernelRfl
import Derived.Deep.AppendLies
import Derived.Deep.RegionLaw
import Derived.Deep.OwnRows
import Derived.Deep.RegionHeld3
import Derived.Test.YtkgohhdenfnfpaaMg8
/- The least valuation of a zone, as point tells it. -/
namespace Go.Proofs.Ytkgohhdenfnfpaa
open Go Go.RowKit
set_option linter.unusedVariables false
set_option linter.unusedSimpArgs false
attribute [local go_sem] min_ints max_ints

theorem OwnQ.from {w w0 wr : World} {l : List (Int × Int)} {v : Value} (h : OwnQ w0 l v wr) (hb : Below w.heap.size w w0) : OwnQ w l v wr := by
  obtain ⟨h0, hl, h⟩ := h
  refine ⟨hb.trans (h0.mono hb.size), hl, ?_⟩
  rcases h with h | ⟨g, cap, cur, e1, e2, h1, h2⟩
  · exact .inl h
  · exact .inr ⟨g, cap, cur, e1, Nat.le_trans hb.size e2, h1, h2⟩
/-- A row of fractions and an error. -/
def LstEnds (w : World) (l : List (Int × Int)) (err : Int) (e : Ending) (w' : World) : Prop := ∃ v, e = .returned (.tuple #[v, .int .i64 err]) ∧ OwnQ w l v w'
theorem least_nil (w : World) : Calls Try.prog 5 #[.pointer none] w (LstEnds w [] 1) := by
  have HB := Lib.hid (OwnQ.start w)
  go_enter Try.func5, Try.ntmps5
  go_wp2
  go_ret2
  exact ⟨_, rfl, HB.out⟩
theorem least_empty (b n : Nat) (m : Mat) (w : World) (hm : MatAt w b 62 .i32 n m) (he : emptyP (some (n, m)) = true) : Calls Try.prog 5 #[.pointer (some ⟨b, 0, none⟩)] w (LstEnds w [] 14) := by
  have HB := Lib.hid (OwnQ.start w)
  have HE := Lib.hid (empty_zone b n m w hm)
  rw [show decide (m 0 0 < 1) = true from he] at HE
  go_enter Try.func5, Try.ntmps5
  go_wp2_with fail
  refine HE.out.mono ?_
  rintro e w' ⟨rfl, rfl⟩
  go_wp2
  go_ret2
  exact ⟨_, rfl, HB.out⟩

set_option maxRecDepth 100000 in
set_option maxHeartbeats 4000000 in
theorem least_full (b n : Nat) (m : Mat) (w : World) (hn : n ≤ 8) (hm : MatAt w b 62 .i32 n m) (hc : ClosedZ n m) : Calls Try.prog 5 #[.pointer (some ⟨b, 0, none⟩)] w (LstEnds w (leastV n m) 0) := by
  have HEm := Lib.hid (empty_zone b n m w hm)
  rw [show decide (m 0 0 < 1) = false from hc.full.notEmpty] at HEm
  have HD := Lib.hid (dim_zone b n m w hm)
  have HC := Lib.hid (fun W (hb : Below w.heap.size w W) => cells_zone b n m W hn (hm.later hb))
  obtain ⟨HU, h0, hub⟩ := place_bd hn hc
  have HU := Lib.hid HU
  have HUB := Lib.hid hub
  have HR := Lib.hid hc.full.right
  obtain ⟨N, hN⟩ : ∃ q, q = (n + 1) * (n + 1) := ⟨_, rfl⟩
  have hN1 : 0 < N := by rw [hN]; exact Nat.mul_pos (by omega) (by omega)
  have hN81 : N ≤ 81 := by have := Nat.mul_le_mul (show n + 1 ≤ 9 by omega) (show n + 1 ≤ 9 by omega); omega
  have HN := Lib.hid hN
  have hmk := run_make_row' (P := Try.prog) 48 2 (.int .i64 0) 8 Try.underlying48 infoT64 rfl .i64 .i64 (n + 1) (by omega) (by omega)
  have hcast : ((n + 1 : Nat) : Int) = (n : Int) + 1 := by omega
  rw [hcast] at hmk
  have HS := Lib.hid (show InT w n (insR n ((n : Int) + 1) (widW m) 0) (w.alloc (.cells (madeCells #[.int .i64 0] (n + 1)) 2)) from ⟨(Below.refl _ _).alloc (Nat.le_refl _) _, made_nums w _ _ (n + 1) _ (numsL_length _ _) (fun p hp => by rw [numsL_getD _ _ _ hp]; rfl)⟩)
  have HNW := Lib.hid (fun x (h : 0 ≤ x ∧ x ≤ 137438953472) W => new_any x ((n : Int) + 1) (by unfold I64; omega) (by unfold I64; omega) W)
  have hflen : (flat n m).length = N := by rw [flat_length, hN]
  have HFL := Lib.hid hflen
  clear hm hc hN hcast h0 hub hflen
  go_enter Try.func5, Try.ntmps5
  go_wp2_with fail
  refine HEm.out.mono ?_
  rintro e w' ⟨rfl, rfl⟩
  go_wp2_with fail
  refine HD.out.mono ?_
  rintro e w' ⟨rfl, rfl⟩
  go_wp2_with fail
  have HS0 := Lib.hid HS.out.2.lt
  generalize w.alloc (.cells (madeCells #[.int .i64 0] (n + 1)) 2) = w1 at *
  clear hmk HEm HD
  refine (HC.out _ HS.out.1).mono ?_
  rintro e w4 ⟨v, rfl, hb, hown⟩
  replace HS := Lib.hid (HS.out.step hb)
  clear hb HC
  obtain ⟨gc, cf, ecf, hgc, hrow⟩ := hown.row (by rw [HFL.out]; omega)
  subst ecf
  rw [HFL.out]
  have hgc2 : w.heap.size < gc := Nat.lt_of_lt_of_le HS0.out hgc
  have HF := Lib.hid hrow
  clear hown hrow hgc
  have HKI := Lib.hid (insK_all n ((n : Int) + 1) (widW m))
  go_wp2
  go_loopg [37] (n + 2) (fun q x wr => ∃ r : Nat, x = .int .i64 r ∧ Hid (InT w n (insR n ((n : Int) + 1) (widW m) r) wr ∧ RowAt wr gc 41 .i32 (flat n m)) ∧ Hid (q + r = n + 2))
  case atStart => exact ⟨0, by simp, Lib.hid ⟨HS.out, HF.out⟩, Lib.hid (by omega)⟩
  case round =>
    clear HS HF
    obtain ⟨r, rfl, HT, HG⟩ := hrel
    by_cases hr : r < n + 2
    · have hri : (r : Int) < (n : Int) + 2 := by omega
      have hle0 := Lib.hid (insR_le HU.out r)
      have hge0 := Lib.hid (insR_pos n ((n : Int) + 1) (widW m) r)
      obtain ⟨v0, hv0⟩ : ∃ v0, v0 = insR n ((n : Int) + 1) (widW m) r := ⟨_, rfl⟩
      rw [← hv0] at HT hle0 hge0
      have HV0 := Lib.hid hv0
      have w5 : IntKind.i64.wrap ((r : Int) + 1) = ((r + 1 : Nat) : Int) := by rw [IntWalk.i64_in _ (by omega)]; omega
      clear hv0
      go_wp2
      go_loopg [41] N (fun q x wr => ∃ k : Nat, x = .int .i64 k ∧ Hid (InT w n (insK n ((n : Int) + 1) (widW m) v0 k) wr ∧ RowAt wr gc 41 .i32 (flat n m)) ∧ Hid (k ≤ N ∧ q + k = N))
      case atStart => exact ⟨0, by simp, HT, Lib.hid (by omega)⟩
      case round =>
        clear HT
        obtain ⟨k, rfl, HT, HG2⟩ := hrel
        by_cases hk : k < N
        · have hki : (k : Int) < (N : Int) := by omega
          have cf := HT.out.2.cell k (by rw [HFL.out]; exact hk)
          rw [flat_getD n m k (by rw [← HN.out]; exact hk)] at cf
          have d1 : k / (n + 1) < n + 1 := Nat.div_lt_of_lt_mul (by rw [← HN.out]; exact hk)
          have d2 := Nat.mod_lt k (show 0 < n + 1 by omega)
          have hle2 := insK_le HU.out hle0.out k (by rw [← HN.out]; omega)
          have hge2 : ∀ a, 0 ≤ insK n ((n : Int) + 1) (widW m) v0 k a := fun a => Int.le_trans (hge0.out a) (insK_ge n _ (widW m) v0 a k)
          have HST : Hid (insK n ((n : Int) + 1) (widW m) v0 (k + 1) = insS ((n : Int) + 1) (widW m) (insK n ((n : Int) + 1) (widW m) v0 k) (k / (n + 1)) (k % (n + 1))) := Lib.hid rfl
          obtain ⟨i, hi⟩ : ∃ i, i = k / (n + 1) := ⟨_, rfl⟩
          obtain ⟨j, hj⟩ : ∃ j, j = k % (n + 1) := ⟨_, rfl⟩
          obtain ⟨t1, t2⟩ := quo_rem hi hj
          rw [← hi, ← hj] at cf HST
          rw [← hi] at d1
          rw [← hj] at d2
          obtain ⟨v2, hv2⟩ : ∃ v2, v2 = insK n ((n : Int) + 1) (widW m) v0 k := ⟨_, rfl⟩
          rw [← hv2] at HT hle2 hge2 HST
          have hvi := hge2 i
          have hvi' := Int.le_trans (hle2 i (by omega)) (HUB.out i (by omega)).2
          have hvj := hge2 j
          have hvj' := Int.le_trans (hle2 j (by omega)) (HUB.out j (by omega)).2
          have hrx := HR.out i j (by omega) (by omega)
          have q1 : IntKind.i64.wrap ((n : Int) + 1) = (n : Int) + 1 := IntWalk.i64_in _ (by omega)
          have q2 : IntKind.i64.wrap (i : Int) = (i : Int) := IntWalk.i64_in _ (by omega)
          have q3 : IntKind.i64.wrap (j : Int) = (j : Int) := IntWalk.i64_in _ (by omega)
          have q4 : ((n : Int) + 1 == 0) = false := by simp; omega
          have q5 : IntKind.i64.wrap ((k : Int) + 1) = ((k + 1 : Nat) : Int) := by rw [IntWalk.i64_in _ (by omega)]; omega
          have HX := Lib.hid (show widW m i j = wid (m i j) from rfl)
          obtain ⟨b', hb'⟩ : ∃ b, b = m i j := ⟨_, rfl⟩
          rw [← hb'] at cf HX hrx
          clear hv2 hle2 hge2 hi hj hb'
          go_wp2_with fail
          go_quiet (fail)
          generalize nq = nq at *
          replace HT := Lib.hid (And.intro (HT.out.1.step (belowN (Below.refl _ _) nq)) (HT.out.2.drewN nq))
          generalize wr.drewN nq = wq at *
          clear t1 t2 q1 q2 q3 q4 cf
          by_cases hinf : b' = 2147483647
          · have HSM := Lib.hid (show InT w n (insK n ((n : Int) + 1) (widW m) v0 (k + 1)) wq from by
              rw [HST.out, insS_inf (by rw [HX.out, hinf]; decide)]; exact HT.out.1)
            have HF := Lib.hid HT.out.2
            have HV := Lib.hid (fun W => value_no b' W (by simp [someB, hinf]))
            clear hinf HST HX HT hrx
            go_wp2_with fail
            refine (HV.out _).mono ?_
            rintro e w' ⟨rfl, rfl⟩
            go_wp2
            go_roundg (gk - 1)
            case measure => have h := HG2.out.2; omega
            case rel => exact ⟨k + 1, by go_num, Lib.hid ⟨HSM.out, HF.out⟩, Lib.hid ⟨by omega, by have h := HG2.out.2; omega⟩⟩
          · have hbd := rightB_bd hrx hinf
            have HV := Lib.hid (fun W => value_yes b' W (by simp [someB, hrx, hinf]))
            have hwx : wid b' = b' := by unfold wid; rw [if_neg hinf]
            have hnn : b' ≠ none62 := by unfold none62; omega
            have hset := insS_max (g := (n : Int) + 1) (m := widW m) (v := v2) (i := i) (j := j) (by rw [HX.out, hwx]; exact hnn)
            rw [HX.out, hwx] at hset
            have HST : Hid (insK n ((n : Int) + 1) (widW m) v0 (k + 1) = fun a => if a = j then max (v2 j) (v2 i - (b' / 2 * ((n : Int) + 1) - (1 - b' % 2))) else v2 a) := Lib.hid (HST.out.trans hset)
            obtain ⟨q, hq⟩ : ∃ q, q = b' / 2 := ⟨_, rfl⟩
            obtain ⟨r2, hr2⟩ : ∃ r2, r2 = b' % 2 := ⟨_, rfl⟩
            have hr01 : r2 = 0 ∨ r2 = 1 := by omega
            have hq0 : -268435456 ≤ q := by omega
            have hq1 : q ≤ 268435456 := by omega
            have hm1 : q * ((n : Int) + 1) ≤ 268435456 * 9 := by
              rcases (show 0 ≤ q ∨ q ≤ 0 by omega) with h | h
              · exact Int.mul_le_mul (by omega) (by omega) (by omega) (by omega)
              · have := Int.mul_le_mul_of_nonneg_right (a := q) (b := 0) (c := (n : Int) + 1) h (by omega)
                omega
            have hm2 : -(268435456 * 9) ≤ q * ((n : Int) + 1) := by
              have h1 : -268435456 * ((n : Int) + 1) ≤ q * ((n : Int) + 1) := Int.mul_le_mul_of_nonneg_right hq0 (by omega)
              omega
            obtain ⟨T, hT⟩ : ∃ T, T = q * ((n : Int) + 1) := ⟨_, rfl⟩
            rw [← hq, ← hr2, ← hT] at HST
            rw [← hq, ← hr2] at HV
            rw [← hT] at hm1 hm2
            have hTr : q * ((n : Int) + 1) = T := hT.symm
            have c2 := HT.out.1.2.cell i (by rw [numsL_length]; omega)
            rw [numsL_getD _ _ _ (by omega)] at c2
            have c3 := HT.out.1.2.cell j (by rw [numsL_length]; omega)
            rw [numsL_getD _ _ _ (by omega)] at c3
            have f3 := HT.out.1.2.frozen j
            have HWD := Lib.hid (show Below wq.heap.size wq wq.drew from Below.drew (Below.refl _ _))
            have C2 := Lib.hid (show wq.drew.cell? _ = _ from c2)
            have C3 := Lib.hid (show wq.drew.cell? _ = _ from c3)
            have F3 := Lib.hid (show wq.drew.frozen? _ = _ from f3)
            have HSM := Lib.hid (fun (X : Int) (hX : X = max (v2 j) (v2 i - (T - (1 - r2)))) => (HT.out.1.step HWD.out).put j (by omega) X (f' := insK n ((n : Int) + 1) (widW m) v0 (k + 1)) (by rw [HST.out, hX]))
            have HF := Lib.hid (fun (X : Int) => rowat_other HT.out.2.drew ⟨w.heap.size, j, none⟩ (show gc ≠ w.heap.size by omega) (.int .i64 X))
            have l4 : (i : Int) < (n : Int) + 1 := by omega
            have l5 : (j : Int) < (n : Int) + 1 := by omega
            clear hinf hbd hwx hnn hq hr2 hrx hT HX hset HST c2 c3 f3 HT
            obtain ⟨y, hy⟩ : ∃ y, y = v2 i := ⟨_, rfl⟩
            obtain ⟨z, hz⟩ : ∃ z, z = v2 j := ⟨_, rfl⟩
            rw [← hy] at C2 hvi hvi' HSM
            rw [← hz] at C3 hvj hvj' HSM
            clear hy hz
            have g1 : IntKind.i64.wrap T = T := IntWalk.i64_in _ (by omega)
            have g2 : IntKind.i64.wrap (T - 1) = T - 1 := IntWalk.i64_in _ (by omega)
            have g3 : IntKind.i64.wrap (y - T) = y - T := IntWalk.i64_in _ (by omega)
            have g4 : IntKind.i64.wrap (y - (T - 1)) = y - (T - 1) := IntWalk.i64_in _ (by omega)
            rcases hr01 with rfl | rfl
            · have e1 : decide ((0 : Int) = 1) = false := rfl
              rw [e1] at HV
              clear e1
              go_wp2_with fail
              refine (HV.out _).mono ?_
              rintro e w' ⟨rfl, rfl⟩
              go_wp2
              refine wp_region_still_tail 13 (by kernel_rfl) (by kernel_rfl) ?_
              simp only [List.take_succ_cons, List.take_zero, List.drop_succ_cons, List.drop_zero]
              change wpStill _ _ wq.drew _ _ _
              have d2 := C2.out
              have d3 := C3.out
              have d4 := F3.out
              repeat still_step
              refine wpStill_nil ?_
              change wpList _ _ _ _ _ wq.drew
              generalize wq.drew = wd at *
              go_wp2
              go_roundg (gk - 1)
              case measure => have h := HG2.out.2; omega
              case rel => exact ⟨k + 1, by go_num, Lib.hid ⟨HSM.out _ (by rw [show T - (1 - 0) = T - 1 by omega]), HF.out _⟩, Lib.hid ⟨by omega, by have h := HG2.out.2; omega⟩⟩
            · have e1 : decide ((1 : Int) = 1) = true := rfl
              rw [e1] at HV
              clear e1
              go_wp2_with fail
              refine (HV.out _).mono ?_
              rintro e w' ⟨rfl, rfl⟩
              go_wp2
              refine wp_region_still_tail 13 (by kernel_rfl) (by kernel_rfl) ?_
              simp only [List.take_succ_cons, List.take_zero, List.drop_succ_cons, List.drop_zero]
              change wpStill _ _ wq.drew _ _ _
              have d2 := C2.out
              have d3 := C3.out
              have d4 := F3.out
              repeat still_step
              refine wpStill_nil ?_
              change wpList _ _ _ _ _ wq.drew
              generalize wq.drew = wd at *
              go_wp2
              go_roundg (gk - 1)
              case measure => have h := HG2.out.2; omega
              case rel => exact ⟨k + 1, by go_num, Lib.hid ⟨HSM.out _ (by rw [show T - (1 - 1) = T by omega]), HF.out _⟩, Lib.hid ⟨by omega, by have h := HG2.out.2; omega⟩⟩
        · have hki : ¬ (k : Int) < (N : Int) := by omega
          have HSM := Lib.hid (show InT w n (insR n ((n : Int) + 1) (widW m) (r + 1)) wr ∧ RowAt wr gc 41 .i32 (flat n m) from ⟨by
            have h := HT.out.1
            rw [show k = (n + 1) * (n + 1) by rw [← HN.out]; have := HG2.out.1; omega, HKI.out, HV0.out] at h
            exact h, HT.out.2⟩)
          clear HT
          go_wp2
          go_roundg (n + 1 - r)
          case measure => have h := HG.out; omega
          case rel => exact ⟨r + 1, by go_num, HSM, Lib.hid (by have h := HG.out; omega)⟩
    · have hri : ¬ (r : Int) < (n : Int) + 2 := by omega
      have HE := Lib.hid (show InT w n (placeU n m) wr from by
        have h := HT.out.1
        rw [show r = n + 2 by have := HG.out; omega] at h
        exact h)
      have HO := Lib.hid (OwnQ.start wr)
      have HB := Lib.hid HE.out.1
      have HLT := Lib.hid HE.out.2.lt
      have HL := Lib.hid (leastV_length n m)
      have HLV := Lib.hid (fun (p : Nat) (hp : p < n) (y : Int) (hy : y = placeU n m (p + 1)) => show (newP y ((n : Int) + 1)).1 = (leastV n m).getD p (0, 0) by rw [least_grid, gridV_getD hp, hy])
      clear HT HG HR HU HN HFL HKI
      go_wp2
      generalize wr = wE at *
      go_loopg [16, 17] n (fun g v x wr => ∃ p : Nat, x = .int .i64 ((p : Int) + 1) ∧ Hid (OwnQ wE ((leastV n m).take p) v wr) ∧ Hid (p ≤ n ∧ g + p = n))
      case atStart => exact ⟨0, by simp, Lib.hid HO.out, Lib.hid (by omega)⟩
      case round =>
        clear HO
        obtain ⟨p, rfl, HO, HG⟩ := hrel
        by_cases hp : p < n
        · have hpi : (p : Int) + 1 ≤ (n : Int) := by omega
          have hpj : (p : Int) + 1 < (n : Int) + 1 := by omega
          have hp0 : (0 : Int) ≤ (p : Int) + 1 := by omega
          have tn : ((p : Int) + 1).toNat = p + 1 := by omega
          have c1 := (HE.out.2.below HO.out.1 HLT.out).cell (p + 1) (by rw [numsL_length]; omega)
          rw [numsL_getD _ _ _ (by omega)] at c1
          have hx := HUB.out (p + 1) (by omega)
          have HLV := Lib.hid (fun y => HLV.out p hp y)
          obtain ⟨x, hxe⟩ : ∃ x, x = placeU n m (p + 1) := ⟨_, rfl⟩
          rw [← hxe] at c1 hx HLV
          have HLV := Lib.hid (HLV.out x rfl)
          have HNX := Lib.hid (fun W => HNW.out x hx W)
          obtain ⟨y, hy⟩ : ∃ y, y = newP x ((n : Int) + 1) := ⟨_, rfl⟩
          rw [← hy] at HLV HNX
          obtain ⟨⟨y1, y2⟩, ye⟩ := y
          unfold rtV at HNX
          have q5 : IntKind.i64.wrap ((p : Int) + 1 + 1) = ((p + 1 : Nat) : Int) + 1 := by rw [IntWalk.i64_in _ (by omega)]; omega
          have HTK : Hid ((leastV n m).take (p + 1) = (leastV n m).take p ++ [(y1, y2)]) := Lib.hid (by
            rw [List.take_add_one, show (leastV n m)[p]? = some ((leastV n m).getD p (0, 0)) by
              rw [List.getD_eq_getElem?_getD, List.getElem?_eq_getElem (by rw [HL.out]; exact hp)]; rfl, ← HLV.out]; rfl)
          have HLN : Hid (((leastV n m).take p).length ≤ 8) := Lib.hid (by rw [List.length_take]; omega)
          clear hxe hx hy
          go_wp2_with fail
          refine (HNX.out _).mono ?_
          rintro e w2 ⟨rfl, hb⟩
          replace HO := Lib.hid (HO.out.step hb)
          clear hb
          go_upto_region 28 with fail
          have K := Lib.hid ((Blx.start w2).new #[.int .i64 y1, .int .i64 y2] 54)
          replace HO := Lib.hid (HO.out.step (below_one w2 (.cells #[.int .i64 y1, .int .i64 y2] 54)))
          generalize w2.alloc (.cells #[.int .i64 y1, .int .i64 y2] 54) = w3 at *
          generalize w2.heap.size = g3 at *
          obtain ⟨k1, k2, _, _⟩ := K.out.cells2 0 rfl
          have K2 := Lib.hid ((Blx.start w3).new #[.int .i64 y1, .int .i64 y2] 54)
          replace HO := Lib.hid (HO.out.step (below_one w3 (.cells #[.int .i64 y1, .int .i64 y2] 54)))
          obtain ⟨k3, k4, _, _⟩ := K2.out.cells2 0 rfl
          obtain ⟨v', w', hrun, hnext⟩ := HO.out.next w3.heap.size 1 y1 y2 ⟨k3, k4⟩ (by have := HLN.out; omega)
          have HO := Lib.hid hnext
          rw [← HTK.out] at HO
          clear hnext k3 k4
          go_wp2_with (at_builtin; refine wpList_append_run rfl _ _ 28 rfl _ _ v' w' rfl rfl hrun ?_)
          clear hrun
          go_wp2
          go_roundg (gk - 1)
          case measure => have h := HG.out.2; omega
          case rel => exact ⟨p + 1, by go_num, HO, Lib.hid ⟨by omega, by have h := HG.out.2; omega⟩⟩
        · have hpi : ¬ (p : Int) + 1 ≤ (n : Int) := by omega
          have HF := Lib.hid (show OwnQ w (leastV n m) u16 wr from by
            have h := HO.out
            rw [show p = n by have := HG.out.1; omega, List.take_of_length_le (by rw [HL.out]; exact Nat.le_refl _)] at h
            exact h.from HB.out)
          go_wp2
          go_ret2
          exact ⟨_, rfl, HF.out⟩
/-- What Least answers. -/
def leastA (z : Option (Nat × Mat)) : List (Int × Int) × Int := match z with
  | none => ([], 1)
  | some (n, m) => if emptyP (some (n, m)) = true then ([], 14) else (leastV n m, 0)
theorem least_any (v : Value) (z : Option (Nat × Mat)) (w : World) (hz : ZoneV 62 w v z) (hk : ∀ n m, z = some (n, m) → m = (fun _ _ => 0) ∨ ClosedZ n m) : Calls Try.prog 5 #[v] w (LstEnds w (leastA z).1 (leastA z).2) := by
  match z, hz with
  | none, h =>
    have h : v = .pointer none := h
    subst h
    exact least_nil w
  | some (n, m), ⟨b, e, hn, hr, hm⟩ =>
    subst e
    rcases hk n m rfl with rfl | hc
    · have he : emptyP (some (n, fun _ _ => 0)) = true := by show decide ((0 : Int) < 1) = true; decide
      unfold leastA
      simp only
      rw [if_pos he]
      exact least_empty b n _ w hm he
    · unfold leastA
      simp only
      rw [if_neg (by rw [hc.full.notEmpty]; decide)]
      exact least_full b n m w hn hm hc

end Go.Proofs.Ytkgohhdenfnfpaa

/- Constants; a cell, widened. -/
namespace Go.Proofs.Ytkgohhdenfnfpaa
open Go Go.RowKit
set_option linter.unusedVariables false
set_option linter.unusedSimpArgs false
attribute [local go_sem] min_ints max_ints

set_option maxHeartbeats 1000000 in
set_option maxRecDepth 100000 in
theorem at_any (A : Option Addr) (c : Nat) (l : List Int) (i : Nat) (w : World) (hI : Ints w .i64 A l) (hi : i ≤ l.length) (h8 : l.length ≤ 8) : Calls Try.prog 54 #[.slice A l.length c, .int .i64 i] w fun e w' => e = .returned (.int .i64 (atP l i)) ∧ w = w' := by
  by_cases h0 : i = 0
  · subst h0
    clear hI
    go_enter Try.func54, Try.ntmps54
    go_wp2
    go_ret
    exact ⟨rfl, rfl⟩
  · obtain ⟨k, rfl⟩ : ∃ k, i = k + 1 := ⟨i - 1, by omega⟩
    obtain ⟨b, off, rfl, c1⟩ := hI k (by omega)
    have t0 : (((k + 1 : Nat) : Int) == 0) = false := by simp; omega
    have g1 : IntKind.i64.wrap (((k + 1 : Nat) : Int) - 1) = k := by rw [show ((k + 1 : Nat) : Int) - 1 = k by omega]; exact IntWalk.i64_in _ (by omega)
    have g2 : (k : Int) < (l.length : Int) := by omega
    rw [show atP l (k + 1) = max (l.getD k 0) 0 by unfold atP; rw [if_neg (by omega)]; rfl]
    generalize l.getD k 0 = x at *
    clear hI h0
    go_enter Try.func54, Try.ntmps54
    go_wp2
    go_ret
    exact ⟨rfl, rfl⟩

set_option maxHeartbeats 2000000 in
set_option maxRecDepth 100000 in
theorem widened_any (A : Option Addr) (c : Nat) (lo : List Int) (B : Option Addr) (d : Nat) (up : List Int) (i j : Nat) (b : Int) (w : World) (hI : Ints w .i64 A lo) (hJ : Ints w .i64 B up) (hi : i ≤ lo.length) (hj : j ≤ up.length) (h8 : lo.length ≤ 8) (h9 : up.length ≤ 8)
    (h0 : lo.all cstB = true) (h1 : up.all cstB = true) :
    Calls Try.prog 41 #[.agg #[.slice A lo.length c, .slice B up.length d], .int .i64 i, .int .i64 j, .int .i32 b] w fun e w' => e = .returned (.int .i32 (widP lo up i j b)) ∧ Below w.heap.size w w' := by
  have HA := Lib.hid (fun w hI => at_any A c lo i w hI hi h8)
  have HB := Lib.hid (fun w hJ => at_any B d up j w hJ hj h9)
  have HBW := Lib.hid (fun o => (Below.refl w.heap.size w).alloc (Nat.le_refl w.heap.size) o)
  have HI := Lib.hid (fun o => hI.below (HBW.out o))
  have HJ := Lib.hid (fun o => hJ.below (HBW.out o))
  have a0 := atP_rng h0 i
  have a1 := atP_rng h1 j
  unfold widP
  generalize atP lo i = x at *
  generalize atP up j = y at *
  have g1 : IntKind.i64.wrap (-2 * y) = -2 * y := IntWalk.i64_in _ (by omega)
  have g2 : IntKind.i64.wrap (2 * x) = 2 * x := IntWalk.i64_in _ (by omega)
  have g3 : IntKind.i64.wrap (2 * x + 1) = 2 * x + 1 := IntWalk.i64_in _ (by omega)
  have g5 : IntKind.i32.wrap (2 * x + 1) = 2 * x + 1 := by rw [IntKind.wrap_i32]; omega
  have g6 : IntKind.i32.wrap (-2 * y) = -2 * y := by rw [IntKind.wrap_i32]; omega
  clear hI hJ h0 h1
  by_cases i0 : i = 0
  · subst i0
    rw [if_neg (by simp), if_pos rfl]
    by_cases hb : b < -2 * y
    · have t1 : decide (b < -2 * y) = true := decide_eq_true hb
      have e : min (max b (-2 * y)) 1 = min (-2 * y) 1 := by omega
      rw [e]
      clear hb e
      go_enter Try.func41, Try.ntmps41
      go_wp2_with fail
      refine (HB.out _ (HJ.out _)).mono ?_
      rintro e w1 ⟨rfl, rfl⟩
      go_wp2
      go_ret
      exact ⟨rfl, HBW.out _⟩
    · have t1 : decide (b < -2 * y) = false := decide_eq_false hb
      have e : min (max b (-2 * y)) 1 = min b 1 := by omega
      rw [e]
      clear hb e
      go_enter Try.func41, Try.ntmps41
      go_wp2_with fail
      refine (HB.out _ (HJ.out _)).mono ?_
      rintro e w1 ⟨rfl, rfl⟩
      go_wp2
      go_ret
      exact ⟨rfl, HBW.out _⟩
  · have t0 : ((i : Int) != 0) = true := by simp; omega
    have t00 : ((i : Int) == 0) = false := by simp; omega
    by_cases hb : 2 * x + 1 < b
    · rw [if_pos ⟨i0, hb⟩]
      have t1 : decide (2 * x + 1 < b) = true := decide_eq_true hb
      clear hb i0
      go_enter Try.func41, Try.ntmps41
      go_wp2_with fail
      refine (HB.out _ (HJ.out _)).mono ?_
      rintro e w1 ⟨rfl, rfl⟩
      go_wp2_with fail
      refine (HA.out _ (HI.out _)).mono ?_
      rintro e w1 ⟨rfl, rfl⟩
      go_wp2
      go_ret
      exact ⟨rfl, HBW.out _⟩
    · rw [if_neg (fun h => hb h.2), if_neg i0]
      have t1 : decide (2 * x + 1 < b) = false := decide_eq_false hb
      by_cases hc : b < -2 * y
      · have t2 : decide (b < -2 * y) = true := decide_eq_true hc
        have e : max b (-2 * y) = -2 * y := by omega
        rw [e]
        clear hb hc e i0
        go_enter Try.func41, Try.ntmps41
        go_wp2_with fail
        refine (HB.out _ (HJ.out _)).mono ?_
        rintro e w1 ⟨rfl, rfl⟩
        go_wp2_with fail
        refine (HA.out _ (HI.out _)).mono ?_
        rintro e w1 ⟨rfl, rfl⟩
        go_wp2
        go_ret
        exact ⟨rfl, HBW.out _⟩
      · have t2 : decide (b < -2 * y) = false := decide_eq_false hc
        have e : max b (-2 * y) = b := by omega
        rw [e]
        clear hb hc e i0
        go_enter Try.func41, Try.ntmps41
        go_wp2_with fail
        refine (HB.out _ (HJ.out _)).mono ?_
        rintro e w1 ⟨rfl, rfl⟩
        go_wp2_with fail
        refine (HA.out _ (HI.out _)).mono ?_
        rintro e w1 ⟨rfl, rfl⟩
        go_wp2
        go_ret
        exact ⟨rfl, HBW.out _⟩

set_option maxHeartbeats 1000000 in
set_option maxRecDepth 100000 in
theorem right5_any (b n : Nat) (m : Mat) (A : Option Addr) (c : Nat) (l : List Int) (w : World) (hm : MatAt w b 62 .i32 n m) (hI : Ints w .i64 A l) (hmax : l.length ≤ 4611686018427387904) :
    Calls Try.prog 37 #[.pointer (some ⟨b, 0, none⟩), .slice A l.length c] w fun e w' => e = .returned (.int .i64 (rightE n l)) ∧ w = w' := by
  have HD := Lib.hid (dim_zone b n m w hm)
  have HI := Lib.hid hI
  clear hm hI
  by_cases hl : l.length = n
  · have t0 : ((l.length : Int) != (n : Int)) = false := by rw [hl]; simp
    have HL := Lib.hid hl
    clear hl
    go_enter Try.func37, Try.ntmps37
    go_wp2_with fail
    refine HD.out.mono ?_
    rintro e w1 ⟨rfl, rfl⟩
    go_wp2
    go_loopg [14] l.length (fun g v wr => ∃ p : Nat, v = .int .i64 p ∧ w = wr ∧ Hid (p ≤ l.length ∧ g + p = l.length ∧ ∀ q, q < p → cstB (l.getD q 0) = true))
    case atStart => exact ⟨0, by simp, rfl, by omega, by omega, fun q h => by omega⟩
    case round =>
      obtain ⟨p, rfl, rfl, HG⟩ := hrel
      by_cases hp : p < l.length
      · obtain ⟨b', off, rfl, c1⟩ := HI.out p hp
        obtain ⟨x, hx⟩ : ∃ x, x = l.getD p 0 := ⟨_, rfl⟩
        rw [← hx] at c1
        have hpi : (p : Int) < (l.length : Int) := by omega
        by_cases hc : cstB x = true
        · have hcc : -1 ≤ x ∧ x ≤ 1048576 := by unfold cstB at hc; simpa only [decide_eq_true_eq] using hc
          have t1 : decide (x < -1) = false := decide_eq_false (by omega)
          have t2 : decide (1048576 < x) = false := decide_eq_false (by omega)
          have HC := Lib.hid hc
          have HX := Lib.hid hx
          clear hc hcc hx
          go_wp2
          go_roundg (gk - 1)
          case measure => have h := HG.out; omega
          case rel =>
            refine ⟨p + 1, by go_num, rfl, by omega, by have h := HG.out; omega, fun q hq => ?_⟩
            by_cases e : q = p
            · subst e; rw [← HX.out]; exact HC.out
            · exact HG.out.2.2 q (by omega)
        · have HE := Lib.hid (show rightE n l = 13 by
            unfold rightE
            rw [if_pos HL.out, if_neg]
            intro ha
            have := (all_getD l cstB 0).1 ha p hp
            rw [← hx] at this
            exact hc this)
          by_cases hlt : x < -1
          · have t1 : decide (x < -1) = true := decide_eq_true hlt
            clear hc hx hlt
            go_wp2
            go_ret
            rw [HE.out]
            exact ⟨rfl, rfl⟩
          · have hgt : 1048576 < x := by
              by_cases h : 1048576 < x
              · exact h
              · exact absurd (show cstB x = true from decide_eq_true (by omega)) hc
            have t1 : decide (x < -1) = false := decide_eq_false hlt
            have t2 : decide (1048576 < x) = true := decide_eq_true hgt
            clear hc hx hlt hgt
            go_wp2
            go_ret
            rw [HE.out]
            exact ⟨rfl, rfl⟩
      · have e : p = l.length := by have := HG.out.1; omega
        subst e
        have HE := Lib.hid (show rightE n l = 0 by
          unfold rightE
          rw [if_pos HL.out, if_pos ((all_getD l cstB 0).2 HG.out.2.2)])
        go_wp2
        go_ret
        rw [HE.out]
        exact ⟨rfl, rfl⟩
  · have t0 : ((l.length : Int) != (n : Int)) = true := by simp; omega
    have HE := Lib.hid (show rightE n l = 6 by unfold rightE; rw [if_neg hl])
    clear hl
    go_enter Try.func37, Try.ntmps37
    go_wp2_with fail
    refine HD.out.mono ?_
    rintro e w1 ⟨rfl, rfl⟩
    go_wp2
    go_ret
    rw [HE.out]
    exact ⟨rfl, rfl⟩

end Go.Proofs.Ytkgohhdenfnfpaa

/- Each cell of a zone, by what it becomes. -/
namespace Go.Proofs.Ytkgohhdenfnfpaa
open Go Go.RowKit
set_option linter.unusedVariables false
set_option linter.unusedSimpArgs false
attribute [local go_sem] min_ints max_ints

/-- The first p cells are done. -/
def doneM (n : Nat) (f : Nat → Nat → Int → Int) (m : Mat) (p : Nat) : Mat := fun i j => if i * (n + 1) + j < p then offM f m i j else m i j
theorem done_zero (n : Nat) (f : Nat → Nat → Int → Int) (m : Mat) : doneM n f m 0 = m := by funext i j; unfold doneM; rw [if_neg (by omega)]
theorem done_all (n : Nat) (f : Nat → Nat → Int → Int) (m : Mat) : Agree n (doneM n f m ((n + 1) * (n + 1))) (offM f m) := fun i j hi hj => by
  unfold doneM
  rw [if_pos (at_lt (by omega) (by omega))]
theorem at_back (n p : Nat) : p / (n + 1) * (n + 1) + p % (n + 1) = p := by rw [Nat.mul_comm]; exact Nat.div_add_mod p (n + 1)
theorem at_only {n i j p : Nat} (hj : j ≤ n) (h : i * (n + 1) + j = p) : i = p / (n + 1) ∧ j = p % (n + 1) := by
  have := at_row (n := n) (i := i) (j := j) (by omega)
  rw [h] at this
  exact ⟨this.1.symm, this.2.symm⟩
theorem done_here (n : Nat) (f : Nat → Nat → Int → Int) (m : Mat) (p : Nat) : doneM n f m p (p / (n + 1)) (p % (n + 1)) = m (p / (n + 1)) (p % (n + 1)) := by
  unfold doneM
  rw [at_back, if_neg (by omega)]
theorem done_set (n : Nat) (f : Nat → Nat → Int → Int) (m : Mat) (p : Nat) (hp : p < (n + 1) * (n + 1)) (hne : p / (n + 1) ≠ p % (n + 1)) :
    (flat n (doneM n f m p)).set p (f (p / (n + 1)) (p % (n + 1)) (m (p / (n + 1)) (p % (n + 1)))) = flat n (doneM n f m (p + 1)) := by
  have h1 : p / (n + 1) < n + 1 := Nat.div_lt_of_lt_mul hp
  have h2 : p % (n + 1) < n + 1 := Nat.mod_lt p (by omega)
  have := flat_upd (doneM n f m p) h1 h2 (f (p / (n + 1)) (p % (n + 1)) (m (p / (n + 1)) (p % (n + 1))))
  rw [at_back] at this
  rw [this]
  refine flat_congr fun i j hi hj => ?_
  unfold upd
  by_cases e : i = p / (n + 1) ∧ j = p % (n + 1)
  · rw [if_pos e, e.1, e.2]
    unfold doneM
    rw [at_back, if_pos (by omega)]
    unfold offM
    rw [if_neg hne]
  · rw [if_neg e]
    unfold doneM
    by_cases c : i * (n + 1) + j < p
    · rw [if_pos c, if_pos (by omega)]
    · rw [if_neg c, if_neg (fun h => e (at_only hj (by omega)))]
theorem done_same (n : Nat) (f : Nat → Nat → Int → Int) (m : Mat) (p : Nat) (he : p / (n + 1) = p % (n + 1)) : flat n (doneM n f m p) = flat n (doneM n f m (p + 1)) :=
  flat_congr fun i j hi hj => by
    unfold doneM
    by_cases c : i * (n + 1) + j < p
    · rw [if_pos c, if_pos (by omega)]
    · rw [if_neg c]
      by_cases d : i * (n + 1) + j < p + 1
      · rw [if_pos d]
        obtain ⟨a, b⟩ := at_only hj (show i * (n + 1) + j = p by omega)
        unfold offM
        rw [if_pos (by omega)]
      · rw [if_neg d]
def EachR (w0 : World) (g n : Nat) (f : Nat → Nat → Int → Int) (m : Mat) (p : Nat) (wr : World) : Prop := Below w0.heap.size w0 wr ∧ RowAt wr g 41 .i32 (flat n (doneM n f m p))
theorem EachR.step {w0 wr w' : World} {g n p : Nat} {f : Nat → Nat → Int → Int} {m : Mat} (h : EachR w0 g n f m p wr) (hb : Below wr.heap.size wr w') : EachR w0 g n f m p w' := ⟨h.1.trans (hb.mono h.1.size), h.2.later hb⟩
theorem EachR.set {w0 wr : World} {g n p : Nat} {f : Nat → Nat → Int → Int} {m : Mat} (h : EachR w0 g n f m p wr) (hg : w0.heap.size ≤ g) (hp : p < (n + 1) * (n + 1)) (hne : p / (n + 1) ≠ p % (n + 1)) (x : Int) (hx : f (p / (n + 1)) (p % (n + 1)) (m (p / (n + 1)) (p % (n + 1))) = x) :
    EachR w0 g n f m (p + 1) (wr.setCell ⟨g, p, none⟩ (.int .i32 x)) := ⟨h.1.setCell (p := ⟨g, _, none⟩) hg _, by rw [← done_set n f m p hp hne, hx]; exact h.2.set p x⟩

theorem flat_rng {n : Nat} {m : Mat} (h : RightM n m) : ∀ q, q < (flat n m).length → -2147483648 ≤ (flat n m).getD q 0 ∧ (flat n m).getD q 0 ≤ 2147483647 := fun q hq => by
  rw [flat_length] at hq
  rw [flat_getD _ _ _ hq]
  have h1 : q / (n + 1) < n + 1 := Nat.div_lt_of_lt_mul hq
  have h2 := Nat.mod_lt q (show 0 < n + 1 by omega)
  exact right_hi (h _ _ (by omega) (by omega))
set_option maxHeartbeats 2000000 in
set_option maxRecDepth 100000 in
theorem each_widened (v : Value) (n : Nat) (m : Mat) (A : Option Addr) (c : Nat) (lo : List Int) (B : Option Addr) (d : Nat) (up : List Int) (w : World) (h : ZoneV 62 w v (some (n, m))) (hI : Ints w .i64 A lo) (hJ : Ints w .i64 B up) (hl : lo.length = n) (hu : up.length = n)
    (h0 : lo.all cstB = true) (h1 : up.all cstB = true) (hro : RightM n (offM (widP lo up) m)) :
    Calls Try.prog 40 #[v, .func (.func 41) #[.agg #[.slice A lo.length c, .slice B up.length d]] #[]] w (MakesZ w n (ofP n (flat n (offM (widP lo up) m)))) := by
  have HI := Lib.hid hI
  have HJ := Lib.hid hJ
  have HRB := Lib.hid (flat_rng hro)
  have HLU := Lib.hid (And.intro (And.intro hl hu) (And.intro h0 h1))
  obtain ⟨b, rfl, hn, hr, hm⟩ := h
  have HD := Lib.hid (dim_zone b n m w hm)
  have HC := Lib.hid (cells_zone b n m w hn hm)
  have hN81 : (n + 1) * (n + 1) ≤ 81 := by
    have := Nat.mul_le_mul (show n + 1 ≤ 9 by omega) (show n + 1 ≤ 9 by omega)
    omega
  obtain ⟨N, hN⟩ : ∃ N, N = (n + 1) * (n + 1) := ⟨_, rfl⟩
  have HN := Lib.hid hN
  have hfl : (flat n m).length = N := by rw [flat_length, hN]
  rw [← hN] at hN81
  have g1 : IntKind.i64.wrap ((n : Int) + 1) = (n : Int) + 1 := IntWalk.i64_in _ (by omega)
  have g4 : ((n : Int) + 1 == 0) = false := by simp; omega
  have g5 : ¬ ((n : Int) + 1 = 0) := by omega
  have hNpos : 0 < N := by rw [hN]; exact Nat.mul_pos (by omega) (by omega)
  clear hI hJ hl hu h0 h1 hm hr hN hro
  go_enter Try.func40, Try.ntmps40
  go_wp2_with fail
  refine HD.out.mono ?_
  rintro e w1 ⟨rfl, rfl⟩
  go_wp2_with fail
  refine HC.out.mono ?_
  rintro e w1 ⟨v', rfl, hb, ho⟩
  obtain ⟨g, cap, rfl, hg, hrow⟩ := ho.row (by rw [hfl]; exact hNpos)
  rw [hfl]
  have HS := Lib.hid (show EachR w g n (widP lo up) m 0 w1 from ⟨hb, by rw [done_zero]; exact hrow⟩)
  have HGG := Lib.hid hg
  clear hb ho hrow hfl HC HD hg
  go_wp2
  go_loopg [17] N (fun q v wr => ∃ p : Nat, v = .int .i64 p ∧ Hid (EachR w g n (widP lo up) m p wr) ∧ Hid (p ≤ N ∧ q + p = N))
  case atStart => exact ⟨0, by simp, HS.out, by omega, by omega⟩
  case round =>
    clear HS
    obtain ⟨p, rfl, HR, HG⟩ := hrel
    by_cases hp : p < N
    · have hsq : p < (n + 1) * (n + 1) := by rw [← HN.out]; exact hp
      have hd9 : p / (n + 1) ≤ n := by have := Nat.div_lt_of_lt_mul hsq; omega
      have hm9 : p % (n + 1) ≤ n := by have := Nat.mod_lt p (show 0 < n + 1 by omega); omega
      have g2 := wrap_tdiv p n (by omega)
      have g3 := wrap_tmod p n (by omega)
      have k1 := w64_div p n (by omega)
      have k2 := w64_mod p n (by omega)
      have c1 := HR.out.2.cell p (by rw [flat_length]; exact hsq)
      have f1 := HR.out.2.frozen p
      have hlt := HR.out.2.lt
      rw [flat_getD _ _ _ hsq, done_here] at c1
      have hpi : (p : Int) < (N : Int) := by omega
      have HEQ := Lib.hid (fun (x : Int) hne (hx : widP lo up (p / (n + 1)) (p % (n + 1)) (m (p / (n + 1)) (p % (n + 1))) = x) (w' : World) (h : EachR w g n (widP lo up) m p w') => h.set HGG.out hsq hne x hx)
      have HSM := Lib.hid (fun he => done_same n (widP lo up) m p he)
      obtain ⟨D, hD⟩ : ∃ D, D = p / (n + 1) := ⟨_, rfl⟩
      obtain ⟨M, hM⟩ : ∃ M, M = p % (n + 1) := ⟨_, rfl⟩
      rw [← hD] at hd9 g2 k1 c1 HEQ HSM
      rw [← hM] at hm9 g3 k2 c1 HEQ HSM
      have HT := Lib.hid (fun (e : ¬ D = M) => And.intro (show ((D : Int) != (M : Int)) = true by simp; omega) (show ((D : Int) == (M : Int)) = false by simp; omega))
      have k3 : IntKind.i64.wrap ((p : Int) / ((n : Int) + 1)) = (D : Int) := by rw [idx_div, ← hD]; exact IntWalk.i64_in _ (by omega)
      have k4 : IntKind.i64.wrap ((p : Int) % ((n : Int) + 1)) = (M : Int) := by rw [idx_mod, ← hM]; exact IntWalk.i64_in _ (by omega)
      have k5 : (p : Int) / ((n : Int) + 1) = (D : Int) := by rw [idx_div, ← hD]
      have k6 : (p : Int) % ((n : Int) + 1) = (M : Int) := by rw [idx_mod, ← hM]
      clear hsq hD hM k1 k2
      by_cases e : D = M
      · subst e
        have HN2 := Lib.hid (show EachR w g n (widP lo up) m (p + 1) wr from ⟨HR.out.1, by rw [← HSM.out rfl]; exact HR.out.2⟩)
        have HN3 := Lib.hid (fun q => HN2.out.step (belowN (Below.refl wr.heap.size wr) q))
        go_wp2_with fail
        go_quiet (fail)
        go_wp2
        go_roundg (gk - 1)
        case measure => have h := HG.out; omega
        case rel => exact ⟨p + 1, by go_num, by first | exact HN2.out | exact HN3.out _, by omega, by have h := HG.out; omega⟩
      · obtain ⟨t1, t2⟩ := HT.out e
        obtain ⟨x, hx⟩ : ∃ x, x = m D M := ⟨_, rfl⟩
        rw [← hx] at c1 HEQ
        obtain ⟨y, hy⟩ : ∃ y, y = widP lo up D M x := ⟨_, rfl⟩
        have HW := Lib.hid (fun q => widened_any A c lo B d up D M x (wr.drewN q) (HI.out.below (belowN HR.out.1 q)) (HJ.out.below (belowN HR.out.1 q)) (by rw [HLU.out.1.1]; exact hd9) (by rw [HLU.out.1.2]; exact hm9) (by rw [HLU.out.1.1]; exact hn) (by rw [HLU.out.1.2]; exact hn) HLU.out.2.1 HLU.out.2.2)
        rw [← hy] at HW
        have HE2 := Lib.hid (HEQ.out y e hy.symm)
        clear hx hy e HEQ HSM
        go_wp2_with fail
        go_quiet (fail)
        go_wp2_with fail
        refine (HW.out nq).mono ?_
        rintro e w2 ⟨rfl, hb⟩
        have c2 := (hb.cell (p := ⟨g, p, none⟩) hlt).trans c1
        have f2 := (hb.frozen (p := ⟨g, p, none⟩) hlt).trans f1
        have hlt2 : g < w2.heap.size := Nat.lt_of_lt_of_le hlt hb.size
        have HN2 := Lib.hid (HE2.out _ (HR.out.step ((belowN (Below.refl wr.heap.size wr) nq).trans hb)))
        clear hb c1 f1 hlt
        go_wp2
        go_roundg (gk - 1)
        case measure => have h := HG.out; omega
        case rel => exact ⟨p + 1, by go_num, HN2.out, by omega, by have h := HG.out; omega⟩
    · have e : p = N := by have := HG.out.1; omega
      subst e
      have hcall := of_any n (some ⟨g, 0, none⟩) cap (flat n (offM (widP lo up) m)) wr (by rw [← flat_congr (done_all n (widP lo up) m), ← HN.out]; exact HR.out.2.ints) (by rw [flat_length, ← HN.out]; omega) HRB.out
      rw [flat_length, ← HN.out, Int.toNat_natCast] at hcall
      have HCL := Lib.hid hcall
      clear hcall
      go_wp2_with fail
      refine HCL.out.mono ?_
      rintro e w2 hz
      have HZ2 := Lib.hid hz
      obtain ⟨hb, v, rfl, hv⟩ := hz
      have HB2 := Lib.hid (HR.out.1.trans (hb.mono HR.out.1.size))
      clear hb hv
      go_wp2
      go_ret2
      exact ⟨HB2.out, HZ2.out.2⟩

end Go.Proofs.Ytkgohhdenfnfpaa

/- The document's answers for bounds. -/
namespace Go.Proofs.Ytkgohhdenfnfpaa
open Go Go.RowKit
set_option linter.unusedVariables false
set_option linter.unusedSimpArgs false

theorem tmod_two (b : Int) : b.tmod 2 = 0 ↔ b % 2 = 0 := by
  constructor
  · intro h; have := Int.dvd_of_tmod_eq_zero h; omega
  · intro h; exact Int.tmod_eq_zero_of_dvd (by omega)
theorem tdiv_even {b : Int} (h : b % 2 = 0) : b.tdiv 2 = b / 2 := Int.tdiv_eq_ediv_of_dvd (by omega)

end Go.Proofs.Ytkgohhdenfnfpaa

/- The document's answers for bounds: the number of a bound, whether it is right, the sum of two wide ones. -/
namespace Go.Proofs.Ytkgohhdenfnfpaa
open Go Go.RowKit
set_option linter.unusedVariables false
set_option linter.unusedSimpArgs false

theorem wsum_plain {a b : Int} (ha : a ≠ none62) (hb : b ≠ none62) : wsum a b = if a % 2 = 0 ∧ b % 2 = 0 then a + b else a + b - 1 := by
  unfold wsum
  rw [if_neg (by simp [ha, hb])]
  rcases two_cases a b with ⟨h, h1⟩ | ⟨h, h1, h2⟩ <;> rw [h]
  · by_cases c : a % 2 = 0 ∧ b % 2 = 0
    · rw [if_pos c]; omega
    · rw [if_neg c]; omega
  · rw [if_neg (by omega)]; omega

end Go.Proofs.Ytkgohhdenfnfpaa

/- The document's close over a row of wide bounds: the same closed form. -/
namespace Go.Proofs.Ytkgohhdenfnfpaa
open Go Go.RowKit
set_option linter.unusedVariables false
set_option linter.unusedSimpArgs false

/-- The row is cur; nothing else was touched. -/
def RAt (w0 : World) (g n : Nat) (cur : Mat) (wr : World) : Prop := Only g w0 wr ∧ RowAt wr g 2 .i64 (flat n cur)
theorem RAt.step {w0 wr : World} {g n : Nat} {cur : Mat} (h : RAt w0 g n cur wr) {i j : Nat} (hi : i < n + 1) (hj : j < n + 1) (v : Int) (p : Nat) (hp : p = i * (n + 1) + j) :
    RAt w0 g n (upd cur i j v) (wr.setCell ⟨g, p, none⟩ (.int .i64 v)) := by
  subst hp
  refine ⟨h.1.setCell _ _, ?_⟩
  rw [← flat_upd cur hi hj v]
  exact h.2.set _ _
theorem RAt.cell {w0 wr : World} {g n : Nat} {cur : Mat} (h : RAt w0 g n cur wr) {i j : Nat} (hi : i < n + 1) (hj : j < n + 1) (p : Nat) (hp : p = i * (n + 1) + j) :
    wr.cell? ⟨g, p, none⟩ = some (.int .i64 (cur i j)) := by
  subst hp
  have := h.2.cell (i * (n + 1) + j) (by rw [flat_length]; exact at_lt hi hj)
  rwa [flat_at cur hi hj] at this
theorem RAt.drewN {w0 wr : World} {g n : Nat} {cur : Mat} (h : RAt w0 g n cur wr) (q : Nat) : RAt w0 g n cur (wr.drewN q) := ⟨h.1.drewN q, h.2⟩

def ROuter (w0 : World) (b n : Nat) (m0 : Mat) (g k : Nat) (m : Mat) (wr : World) : Prop := RAt w0 b n m wr ∧ RoundOk n m0 k m ∧ g + k = n + 1
def RMid (w0 : World) (b n : Nat) (m : Mat) (k g i : Nat) (cur : Mat) (wr : World) : Prop :=
  RAt w0 b n cur wr ∧ RefOk n (1073741824 * 4 ^ k) m k i 0 cur ∧ i ≤ n + 1 ∧ g + i = n + 1
def RInn (w0 : World) (b n : Nat) (m : Mat) (k i g j : Nat) (cur : Mat) (wr : World) : Prop :=
  RAt w0 b n cur wr ∧ RefOk n (1073741824 * 4 ^ k) m k i j cur ∧ j ≤ n + 1 ∧ g + j = n + 1
def RTest (w0 : World) (b n : Nat) (m : Mat) (k g i : Nat) (cur : Mat) (wr : World) : Prop :=
  RAt w0 b n cur wr ∧ RefOk n (1073741824 * 4 ^ k) m k (n + 1) 0 cur ∧ (∀ a, a < i → 1 ≤ cur a a) ∧ i ≤ n + 1 ∧ g + i = n + 1

theorem RInn.bounds {w0 wr : World} {b n : Nat} {m m0 cur : Mat} {k i g j : Nat} (h : RInn w0 b n m k i g j cur wr) (hr : RoundOk n m0 k m) (hn : n ≤ 8) (hk : k ≤ n) {a c : Nat} (ha : a ≤ n) (hc : c ≤ n) :
    Bd 1152921504606846976 (cur a c) := by
  have h4 := pow2_le (show k ≤ 9 by omega)
  have h1 := one_le_pow2 k
  exact (h.2.1.bounds hr.fit (by omega) hk ha hc).mono (by omega)
theorem RInn.stepTo {w0 wr : World} {b n : Nat} {m m0 cur : Mat} {k i g j : Nat} (h : RInn w0 b n m k i g j cur wr) (hr : RoundOk n m0 k m) (hk : k ≤ n) (hi : i ≤ n) (hj : j ≤ n) (hlt : wsum (cur i k) (cur k j) < cur i j) (p : Nat) (hp : p = i * (n + 1) + j) :
    RInn w0 b n m k i (g - 1) (j + 1) (upd cur i j (wsum (cur i k) (cur k j))) (wr.setCell ⟨b, p, none⟩ (.int .i64 (wsum (cur i k) (cur k j)))) := by
  have h1 := one_le_pow2 k
  have hs := h.2.1.step hr.fit (by omega) hk hi hj
  rw [show min (cur i j) (wsum (cur i k) (cur k j)) = wsum (cur i k) (cur k j) by rw [Int.min_def, if_neg (by omega)]] at hs
  have := h.2.2.2
  exact ⟨h.1.step (by omega) (by omega) _ p hp, hs, by omega, by omega⟩
theorem RInn.stepSame {w0 wr : World} {b n : Nat} {m m0 cur : Mat} {k i g j : Nat} (h : RInn w0 b n m k i g j cur wr) (hr : RoundOk n m0 k m) (hk : k ≤ n) (hi : i ≤ n) (hj : j ≤ n) (hlt : ¬ wsum (cur i k) (cur k j) < cur i j) :
    RInn w0 b n m k i (g - 1) (j + 1) cur wr := by
  have h1 := one_le_pow2 k
  have hs := h.2.1.step hr.fit (by omega) hk hi hj
  have e : upd cur i j (min (cur i j) (wsum (cur i k) (cur k j))) = cur := by
    rw [show min (cur i j) (wsum (cur i k) (cur k j)) = cur i j by rw [Int.min_def, if_pos (by omega)]]
    funext a c; simp only [upd]; split
    · rename_i h; rw [h.1, h.2]
    · rfl
  rw [e] at hs
  have := h.2.2.2
  exact ⟨h.1, hs, by omega, by omega⟩
theorem RInn.drewN {w0 wr : World} {b n : Nat} {m cur : Mat} {k i g j : Nat} (h : RInn w0 b n m k i g j cur wr) (q : Nat) : RInn w0 b n m k i g j cur (wr.drewN q) := ⟨h.1.drewN q, h.2⟩

def RCloseEnds (w0 : World) (g n : Nat) (m0 : Mat) (e : Ending) (w' : World) : Prop :=
  Only g w0 w' ∧ ((closed n m0 = none ∧ e = .returned (.bool false)) ∨ ∃ m', closed n m0 = some m' ∧ e = .returned (.bool true) ∧ RowAt w' g 2 .i64 (flat n m'))

theorem prod_facts (i n : Nat) (hi : i ≤ n) (hn : n ≤ 8) : ∃ P : Nat, (i : Int) * ((n : Int) + 1) = (P : Int) ∧ P ≤ 72 ∧ P = i * (n + 1) ∧ P + n < (n + 1) * (n + 1) := by
  refine ⟨i * (n + 1), by simp, ?_, rfl, at_lt (by omega) (by omega)⟩
  have := Nat.mul_le_mul (show i ≤ 8 by omega) (show n + 1 ≤ 9 by omega)
  omega

end Go.Proofs.Ytkgohhdenfnfpaa

/- The document's zones, made of bounds. -/
namespace Go.Proofs.Ytkgohhdenfnfpaa
open Go Go.RowKit
set_option linter.unusedVariables false
set_option linter.unusedSimpArgs false

theorem infoI : (Try.prog.info? 2).map (fun i => (i.zero, i.size, i.bytes)) = some (some (.int .i64 0), 1, 8) := by kernel_rfl
theorem infoRB : (Try.prog.info? 41).map (fun i => (i.zero, i.size, i.bytes)) = some (some (.int .i32 0), 1, 4) := by kernel_rfl

/-- The wide row, so far. -/
def WideR (w0 : World) (l : List Int) (p : Nat) (v : Value) (wr : World) : Prop :=
  Below w0.heap.size w0 wr ∧ wr.ownsRow w0.heap.size 2 1 v p (vals .i64 (widUp l p)) ∧ p ≤ l.length
theorem WideR.next {w0 wr w1 : World} {l : List Int} {p : Nat} {v v' : Value} {o : Obj} (h : WideR w0 l p v wr) (hp : p < l.length) (x : Int) (hx : x = wid (l.getD p 0))
    (hown : w1.ownsRow w0.heap.size 2 1 v' (p + 1) (vals .i64 (widUp l p) ++ [.int .i64 x])) (hg : (wr.alloc o).grownBy w1 v.ownBlock) : WideR w0 l (p + 1) v' w1 := by
  refine ⟨(h.1.alloc h.1.size o).grown hg (by have := h.1.size; simp; omega) (fun k hk => (h.2.1.lt k hk).1), ?_, by omega⟩
  have e : vals .i64 (widUp l (p + 1)) = vals .i64 (widUp l p) ++ [.int .i64 x] := by rw [hx]; simp [vals, widUp]
  rw [e]; exact hown

end Go.Proofs.Ytkgohhdenfnfpaa

/- The document's zone: the empty one; the one of wide cells, or the error. -/
namespace Go.Proofs.Ytkgohhdenfnfpaa
open Go Go.RowKit
set_option linter.unusedVariables false
set_option linter.unusedSimpArgs false

theorem zeros_row (w : World) (N : Nat) (xs : List Int) (hl : xs.length = N) (hx : ∀ p, p < N → xs.getD p 0 = 0) : RowAt (w.alloc (.cells (madeCells #[.int .i32 0] N) 41)) w.heap.size 41 .i32 xs := by
  refine ⟨_, heap_alloc_new _ _, ?_⟩
  subst hl
  apply List.ext_getElem?
  intro p
  by_cases hp : p < xs.length
  · have := hx p hp
    rw [List.getD_eq_getElem?_getD, List.getElem?_eq_getElem hp] at this
    have e : xs[p] = 0 := this
    simp [madeCells, vals, hp, e, Nat.mod_one]
  · simp [madeCells, vals, hp]

/-! ### made -/
def ClR (w0 : World) (g n : Nat) (m : Mat) (q i : Nat) (wr : World) : Prop := RAt w0 g n (clUp m i) wr ∧ i ≤ n + 1 ∧ q + i = n + 1
def store1 (c : Bool) (w : World) (a : Addr) : World := if c then w.setCell a (.int .i64 1) else w
theorem RAt.store1 {w0 wr : World} {g n : Nat} {cur : Mat} (h : RAt w0 g n cur wr) {i j : Nat} (hi : i < n + 1) (hj : j < n + 1) (p : Nat) (hp : p = i * (n + 1) + j) (c : Bool) (hc : c = decide (1 < cur i j)) :
    RAt w0 g n (upd cur i j (min (cur i j) 1)) (store1 c wr ⟨g, p, none⟩) := by
  subst hc
  by_cases hlt : 1 < cur i j
  · rw [decide_eq_true hlt]
    have e : min (cur i j) 1 = 1 := by rw [Int.min_def, if_neg (by omega)]
    rw [e]
    exact h.step hi hj 1 p hp
  · rw [decide_eq_false hlt]
    have e : upd cur i j (min (cur i j) 1) = cur := by
      have : min (cur i j) 1 = cur i j := by rw [Int.min_def, if_pos (by omega)]
      rw [this]
      funext a c; simp only [upd]; split
      · rename_i h; rw [h.1, h.2]
      · rfl
    rw [e]
    exact h
theorem ClR.next {w0 wr : World} {g n : Nat} {m : Mat} {q i : Nat} (h : ClR w0 g n m q i wr) (hi : i < n + 1) (p : Nat) (hp : p = i * (n + 1) + i) (c1 c2 : Bool) (h1 : c1 = decide (1 < m i i)) (h2 : c2 = decide (1 < upd (clUp m i) i i (min (clUp m i i i) 1) 0 i)) :
    ClR w0 g n m (q - 1) (i + 1) (store1 c2 (store1 c1 wr ⟨g, p, none⟩) ⟨g, i, none⟩) := by
  have ha := h.1.store1 hi hi p hp c1 (by rw [clUp_at]; exact h1)
  have hb := ha.store1 (i := 0) (j := i) (by omega) hi i (by omega) c2 h2
  rw [clUp_step] at hb
  have := h.2.2
  exact ⟨hb, by omega, by omega⟩

end Go.Proofs.Ytkgohhdenfnfpaa

/- The document's zone of wide cells. -/
namespace Go.Proofs.Ytkgohhdenfnfpaa
open Go Go.RowKit
set_option linter.unusedVariables false
set_option linter.unusedSimpArgs false

end Go.Proofs.Ytkgohhdenfnfpaa

/- The document's Of. -/
namespace Go.Proofs.Ytkgohhdenfnfpaa
open Go Go.RowKit
set_option linter.unusedVariables false
set_option linter.unusedSimpArgs false

end Go.Proofs.Ytkgohhdenfnfpaa

/- Rows held against one another. -/
namespace Go.Proofs.Ytkgohhdenfnfpaa
open Go Go.RowKit
set_option linter.unusedVariables false
set_option linter.unusedSimpArgs false

/-- Are two rows the same? -/
def sameL (xs ys : List Int) : Bool := decide (xs = ys)
theorem sameL_len {xs ys : List Int} (h : ¬ xs.length = ys.length) : sameL xs ys = false := decide_eq_false fun e => h (by rw [e])
theorem sameL_no {xs ys : List Int} {p : Nat} (h : ¬ xs.getD p 0 = ys.getD p 0) : sameL xs ys = false := decide_eq_false fun e => h (by rw [e])
theorem sameL_yes {xs ys : List Int} (hl : xs.length = ys.length) (h : ∀ p, p < xs.length → xs.getD p 0 = ys.getD p 0) : sameL xs ys = true := decide_eq_true (list_ext0 hl h)

theorem sameL_self (xs : List Int) : sameL xs xs = true := decide_eq_true rfl

end Go.Proofs.Ytkgohhdenfnfpaa

/- What is asked of the document's zones; rows held against one another. -/
namespace Go.Proofs.Ytkgohhdenfnfpaa
open Go Go.RowKit
set_option linter.unusedVariables false
set_option linter.unusedSimpArgs false

/-! ### the document's zones -/
/-- The document asks it so. -/
def emptyR (z : Option (Nat × Mat)) : Bool := match z with | some (_, m) => decide (m 0 0 ≠ 1) | none => false

end Go.Proofs.Ytkgohhdenfnfpaa

/- Cell and Cells of the document's zones. -/
namespace Go.Proofs.Ytkgohhdenfnfpaa
open Go Go.RowKit
set_option linter.unusedVariables false
set_option linter.unusedSimpArgs false

end Go.Proofs.Ytkgohhdenfnfpaa

/- The document's cells in which nothing is said of a clock: plain. -/
namespace Go.Proofs.Ytkgohhdenfnfpaa
open Go Go.RowKit
set_option linter.unusedVariables false
set_option linter.unusedSimpArgs false

/-- Nothing is said of clock x, in the first p rows and columns. -/
def fgoUp (x : Nat) (m : Mat) (p : Nat) : Mat := fun a b => if a = b then m a b else if a = x ∧ b < p then 2147483647 else if b = x ∧ a < p then m a 0 else m a b
theorem fgoUp_zero (x : Nat) (m : Mat) : fgoUp x m 0 = m := by
  funext a b
  unfold fgoUp
  split
  · rfl
  · rw [if_neg (by omega), if_neg (by omega)]
theorem fgoUp_own (x : Nat) (m : Mat) : fgoUp x m (x + 1) = fgoUp x m x := by
  funext a b
  unfold fgoUp
  split
  · rfl
  · by_cases e : a = x ∧ b < x
    · rw [if_pos e, if_pos (by omega)]
    · rw [if_neg e, if_neg (by omega)]
      by_cases e2 : b = x ∧ a < x
      · rw [if_pos e2, if_pos (by omega)]
      · rw [if_neg e2, if_neg (by omega)]
theorem fgoUp_step (x : Nat) (m : Mat) (p : Nat) (hp : p ≠ x) : upd (upd (fgoUp x m p) x p 2147483647) p x (m p 0) = fgoUp x m (p + 1) := by
  funext a b
  unfold upd
  by_cases h1 : a = p ∧ b = x
  · rw [if_pos h1]
    unfold fgoUp
    rw [if_neg (by omega), if_neg (by omega), if_pos (by omega), h1.1]
  · rw [if_neg h1]
    by_cases h2 : a = x ∧ b = p
    · rw [if_pos h2]
      unfold fgoUp
      rw [if_neg (by omega), if_pos (by omega)]
    · rw [if_neg h2]
      unfold fgoUp
      split
      · rfl
      · by_cases e : a = x ∧ b < p
        · rw [if_pos e, if_pos (show a = x ∧ b < p + 1 by omega)]
        · rw [if_neg e, if_neg (show ¬ (a = x ∧ b < p + 1) by omega)]
          by_cases e2 : b = x ∧ a < p
          · rw [if_pos e2, if_pos (show b = x ∧ a < p + 1 by omega)]
          · rw [if_neg e2, if_neg (show ¬ (b = x ∧ a < p + 1) by omega)]
/-- One clock behind others. -/
theorem fgo_more {n : Nat} {l : List Int} {x : Nat} {m : Mat} (hx : 1 ≤ x) (h0 : goneB l 0 = false) : Agree n (fgoUp x (offM (goneF l m) m) (n + 1)) (offM (goneF (l ++ [(x : Int)]) m) m) := fun i j hi hj => by
  have hb : ∀ a, goneB (l ++ [(x : Int)]) a = true ↔ (goneB l a = true ∨ a = x) := fun a => by
    unfold goneB
    simp only [decide_eq_true_eq, List.mem_append, List.mem_singleton]
    constructor
    · rintro (h | h)
      · exact .inl h
      · exact .inr (by omega)
    · rintro (h | h)
      · exact .inl h
      · exact .inr (by omega)
  unfold fgoUp
  by_cases e : i = j
  · rw [if_pos e]
    unfold offM
    rw [if_pos e, if_pos e]
  · rw [if_neg e]
    by_cases e1 : i = x
    · rw [if_pos ⟨e1, by omega⟩]
      unfold offM goneF
      rw [if_neg e, if_pos ((hb i).2 (.inr e1))]
    · rw [if_neg (fun h => e1 h.1)]
      have hi1 : goneB (l ++ [(x : Int)]) i = goneB l i := by
        cases g : goneB l i with
        | true => exact (hb i).2 (.inl g)
        | false =>
          cases g2 : goneB (l ++ [(x : Int)]) i with
          | false => rfl
          | true =>
            rcases (hb i).1 g2 with h | h
            · rw [g] at h; cases h
            · exact absurd h e1
      by_cases e2 : j = x
      · rw [if_pos ⟨e2, by omega⟩]
        unfold offM goneF
        rw [if_neg e, hi1, (hb j).2 (.inr e2), if_pos rfl]
        by_cases e3 : i = 0
        · rw [if_pos e3, e3, h0, if_neg (by simp)]
        · rw [if_neg e3, h0]
          split
          · rfl
          · rw [if_neg (by simp)]
      · rw [if_neg (fun h => e2 h.1)]
        have hj1 : goneB (l ++ [(x : Int)]) j = goneB l j := by
          cases g : goneB l j with
          | true => exact (hb j).2 (.inl g)
          | false =>
            cases g2 : goneB (l ++ [(x : Int)]) j with
            | false => rfl
            | true =>
              rcases (hb j).1 g2 with h | h
              · rw [g] at h; cases h
              · exact absurd h e2
        unfold offM goneF
        rw [if_neg e, if_neg e, hi1, hj1]
theorem gone_none (m : Mat) : offM (goneF [] m) m = m := by
  funext i j
  unfold offM goneF goneB
  split
  · rfl
  · rw [if_neg (by simp), if_neg (by simp)]
theorem take_more {l : List Int} {p : Nat} (hp : p < l.length) : l.take (p + 1) = l.take p ++ [l.getD p 0] := by
  rw [List.take_succ_eq_append_getElem hp, List.getD_eq_getElem?_getD, List.getElem?_eq_getElem hp]; rfl
theorem clk_zero {n : Nat} {l : List Int} (h : clkE n l = true) : goneB l 0 = false := by
  unfold goneB
  refine decide_eq_false fun hm => ?_
  have := List.all_eq_true.1 h _ hm
  simp only [decide_eq_true_eq] at this
  omega
theorem clk_take {n : Nat} {l : List Int} (h : clkE n l = true) (p : Nat) : clkE n (l.take p) = true := by
  unfold clkE at h ⊢
  rw [List.all_eq_true] at h ⊢
  exact fun x hx => h x (List.mem_of_mem_take hx)
theorem clk_at {n : Nat} {l : List Int} (h : clkE n l = true) {p : Nat} (hp : p < l.length) : ∃ x : Nat, l.getD p 0 = (x : Int) ∧ 1 ≤ x ∧ x ≤ n := by
  have := (all_getD l _ 0).1 h p hp
  simp only [decide_eq_true_eq] at this
  exact ⟨(l.getD p 0).toNat, by omega, by omega, by omega⟩

/-! ### forget -/
/-- The cells under way are a row of the call's own. -/
def FoR (w0 : World) (g n : Nat) (cur : Mat) (wr : World) : Prop := Below w0.heap.size w0 wr ∧ w0.heap.size ≤ g ∧ RowAt wr g 41 .i32 (flat n cur)
theorem FoR.set {w0 wr : World} {g n : Nat} {cur : Mat} (h : FoR w0 g n cur wr) {i j : Nat} (hi : i < n + 1) (hj : j < n + 1) (v : Int) (p : Nat) (hp : p = i * (n + 1) + j) : FoR w0 g n (upd cur i j v) (wr.setCell ⟨g, p, none⟩ (.int .i32 v)) := by
  subst hp
  refine ⟨h.1.setCell (p := ⟨g, _, none⟩) h.2.1 _, h.2.1, ?_⟩
  rw [← flat_upd cur hi hj v]
  exact h.2.2.set _ _

end Go.Proofs.Ytkgohhdenfnfpaa

/- Each cell of a zone of which nothing is said of clocks; Gone. -/
namespace Go.Proofs.Ytkgohhdenfnfpaa
open Go Go.RowKit
set_option linter.unusedVariables false
set_option linter.unusedSimpArgs false

/-- A block of nine marks. -/
def marks9 (f : Nat → Bool) : Array Value := ((List.range 9).map fun i => Value.bool (f i)).toArray
def BAt (w : World) (g : Nat) (f : Nat → Bool) : Prop := w.heap[g]? = some (.cells (marks9 f) 109 (0, 0))
section
variable {w w' : World} {g : Nat} {f : Nat → Bool}
theorem BAt.lt (h : BAt w g f) : g < w.heap.size := (Array.getElem?_eq_some_iff.1 h).1
theorem BAt.cell (h : BAt w g f) (i : Nat) (hi : i < 9) : w.cell? ⟨g, i, none⟩ = some (.bool (f i)) := by
  unfold BAt at h
  simp [World.cell?, h, marks9, hi]
theorem BAt.frozen (h : BAt w g f) (i : Nat) : w.frozen? ⟨g, i, none⟩ = false := by
  unfold BAt at h
  simp [World.frozen?, h]
theorem BAt.below (h : BAt w g f) (hb : Below w.heap.size w w') : BAt w' g f := (hb.block g h.lt).trans h
theorem BAt.set (h : BAt w g f) (i : Nat) (hi : i < 9) (f' : Nat → Bool) (hf : ∀ j, j < 9 → f' j = (f j || decide (j = i))) : BAt (w.setCell ⟨g, i, none⟩ (.bool true)) g f' := by
  unfold BAt at h ⊢
  simp only [World.setCell, Array.getElem?_modify, if_true, h, Option.map_some]
  have e : (marks9 f).setIfInBounds i (.bool true) = marks9 f' := by
    apply Array.ext_getElem?
    intro q
    rw [Array.getElem?_setIfInBounds]
    by_cases hq : q < 9
    · have h1 : (marks9 f)[q]? = some (.bool (f q)) := by simp [marks9, hq]
      have h2 : (marks9 f')[q]? = some (.bool (f' q)) := by simp [marks9, hq]
      rw [h1, h2, hf q hq]
      by_cases e : i = q
      · subst e; rw [if_pos rfl, if_pos (by simp [marks9]; omega)]; simp
      · rw [if_neg e]; simp [show ¬ q = i by omega]
    · rw [if_neg (by omega), Array.getElem?_eq_none (by simp [marks9]; omega), Array.getElem?_eq_none (by simp [marks9]; omega)]
  simp [e]
end

set_option maxHeartbeats 1000000 in
set_option maxRecDepth 100000 in
theorem gone1_any (gb zb : Nat) (f : Nat → Bool) (v : Value) (n : Nat) (m : Mat) (i j : Nat) (x : Int) (w : World) (hB : BAt w gb f) (hz : w.cell? ⟨zb, 0, none⟩ = some v) (hv : ZoneV 62 w v (some (n, m))) (hi : i ≤ n) (hj : j ≤ n) :
    Calls Try.prog 52 #[.int .i64 i, .int .i64 j, .int .i32 x, .pointer (some ⟨gb, 0, none⟩), .pointer (some ⟨zb, 0, none⟩)] w fun e w' => e = .returned (.int .i32 (if f i = true then 2147483647 else if f j = true then m i 0 else x)) ∧ w = w' := by
  have hn : n ≤ 8 := by obtain ⟨_, _, h, _⟩ := hv; exact h
  have HC := Lib.hid (cell_any v (some (n, m)) i 0 w hv)
  rw [show cellZ (some (n, m)) i 0 = (m i 0, 0) by show cellP n m i 0 = _; unfold cellP; rw [if_pos (by omega)]; rfl] at HC
  have c1 := hB.cell i (by omega)
  have c2 := hB.cell j (by omega)
  have i9 : (i : Int) < 9 := by omega
  have j9 : (j : Int) < 9 := by omega
  obtain ⟨y, hy⟩ : ∃ y, y = m i 0 := ⟨_, rfl⟩
  rw [← hy] at HC ⊢
  clear hB hv hy
  cases hfi : f i with
  | true =>
    rw [if_pos rfl]
    rw [hfi] at c1
    clear hfi c2
    go_enter Try.func52, Try.ntmps52
    go_wp2
    go_ret
    exact ⟨rfl, rfl⟩
  | false =>
    rw [if_neg (by simp)]
    rw [hfi] at c1
    cases hfj : f j with
    | true =>
      rw [if_pos rfl]
      rw [hfj] at c2
      clear hfi hfj
      go_enter Try.func52, Try.ntmps52
      go_wp2_with fail
      refine HC.out.mono ?_
      rintro e w1 ⟨rfl, rfl⟩
      go_wp2
      go_ret
      exact ⟨rfl, rfl⟩
    | false =>
      rw [if_neg (by simp)]
      rw [hfj] at c2
      clear hfi hfj
      go_enter Try.func52, Try.ntmps52
      go_wp2
      go_ret
      exact ⟨rfl, rfl⟩

set_option maxHeartbeats 2000000 in
set_option maxRecDepth 100000 in
theorem each_gone (v : Value) (n : Nat) (m : Mat) (gb zb : Nat) (l : List Int) (w : World) (h : ZoneV 62 w v (some (n, m))) (hg : BAt w gb (goneB l)) (hzb : w.cell? ⟨zb, 0, none⟩ = some v)
    (hro : RightM n (offM (goneF l m) m)) :
    Calls Try.prog 40 #[v, .func (.func 52) #[] #[.pointer (some ⟨gb, 0, none⟩), .pointer (some ⟨zb, 0, none⟩)]] w (MakesZ w n (ofP n (flat n (offM (goneF l m) m)))) := by
  have HV := Lib.hid h
  have HRB := Lib.hid (flat_rng hro)
  obtain ⟨b, rfl, hn, hr, hm⟩ := h
  have HD := Lib.hid (dim_zone b n m w hm)
  have HC := Lib.hid (cells_zone b n m w hn hm)
  have hN81 : (n + 1) * (n + 1) ≤ 81 := by
    have := Nat.mul_le_mul (show n + 1 ≤ 9 by omega) (show n + 1 ≤ 9 by omega)
    omega
  obtain ⟨N, hN⟩ : ∃ N, N = (n + 1) * (n + 1) := ⟨_, rfl⟩
  have HN := Lib.hid hN
  have hfl : (flat n m).length = N := by rw [flat_length, hN]
  rw [← hN] at hN81
  have g1 : IntKind.i64.wrap ((n : Int) + 1) = (n : Int) + 1 := IntWalk.i64_in _ (by omega)
  have g4 : ((n : Int) + 1 == 0) = false := by simp; omega
  have g5 : ¬ ((n : Int) + 1 = 0) := by omega
  have hNpos : 0 < N := by rw [hN]; exact Nat.mul_pos (by omega) (by omega)
  have HBA := Lib.hid hg
  have HZB := Lib.hid hzb
  clear hg hzb hm hr hN hro
  go_enter Try.func40, Try.ntmps40
  go_wp2_with fail
  refine HD.out.mono ?_
  rintro e w1 ⟨rfl, rfl⟩
  go_wp2_with fail
  refine HC.out.mono ?_
  rintro e w1 ⟨v', rfl, hb, ho⟩
  obtain ⟨g, cap, rfl, hg, hrow⟩ := ho.row (by rw [hfl]; exact hNpos)
  rw [hfl]
  have HS := Lib.hid (show EachR w g n (goneF l m) m 0 w1 from ⟨hb, by rw [done_zero]; exact hrow⟩)
  have HGG := Lib.hid hg
  clear hb ho hrow hfl HC HD hg
  go_wp2
  go_loopg [17] N (fun q v wr => ∃ p : Nat, v = .int .i64 p ∧ Hid (EachR w g n (goneF l m) m p wr) ∧ Hid (p ≤ N ∧ q + p = N))
  case atStart => exact ⟨0, by simp, HS.out, by omega, by omega⟩
  case round =>
    clear HS
    obtain ⟨p, rfl, HR, HG⟩ := hrel
    by_cases hp : p < N
    · have hsq : p < (n + 1) * (n + 1) := by rw [← HN.out]; exact hp
      have hd9 : p / (n + 1) ≤ n := by have := Nat.div_lt_of_lt_mul hsq; omega
      have hm9 : p % (n + 1) ≤ n := by have := Nat.mod_lt p (show 0 < n + 1 by omega); omega
      have g2 := wrap_tdiv p n (by omega)
      have g3 := wrap_tmod p n (by omega)
      have k1 := w64_div p n (by omega)
      have k2 := w64_mod p n (by omega)
      have c1 := HR.out.2.cell p (by rw [flat_length]; exact hsq)
      have f1 := HR.out.2.frozen p
      have hlt := HR.out.2.lt
      rw [flat_getD _ _ _ hsq, done_here] at c1
      have hpi : (p : Int) < (N : Int) := by omega
      have HEQ := Lib.hid (fun (x : Int) hne (hx : goneF l m (p / (n + 1)) (p % (n + 1)) (m (p / (n + 1)) (p % (n + 1))) = x) (w' : World) (h : EachR w g n (goneF l m) m p w') => h.set HGG.out hsq hne x hx)
      have HSM := Lib.hid (fun he => done_same n (goneF l m) m p he)
      obtain ⟨D, hD⟩ : ∃ D, D = p / (n + 1) := ⟨_, rfl⟩
      obtain ⟨M, hM⟩ : ∃ M, M = p % (n + 1) := ⟨_, rfl⟩
      rw [← hD] at hd9 g2 k1 c1 HEQ HSM
      rw [← hM] at hm9 g3 k2 c1 HEQ HSM
      have HT := Lib.hid (fun (e : ¬ D = M) => And.intro (show ((D : Int) != (M : Int)) = true by simp; omega) (show ((D : Int) == (M : Int)) = false by simp; omega))
      have k3 : IntKind.i64.wrap ((p : Int) / ((n : Int) + 1)) = (D : Int) := by rw [idx_div, ← hD]; exact IntWalk.i64_in _ (by omega)
      have k4 : IntKind.i64.wrap ((p : Int) % ((n : Int) + 1)) = (M : Int) := by rw [idx_mod, ← hM]; exact IntWalk.i64_in _ (by omega)
      have k5 : (p : Int) / ((n : Int) + 1) = (D : Int) := by rw [idx_div, ← hD]
      have k6 : (p : Int) % ((n : Int) + 1) = (M : Int) := by rw [idx_mod, ← hM]
      clear hsq hD hM k1 k2
      by_cases e : D = M
      · subst e
        have HN2 := Lib.hid (show EachR w g n (goneF l m) m (p + 1) wr from ⟨HR.out.1, by rw [← HSM.out rfl]; exact HR.out.2⟩)
        have HN3 := Lib.hid (fun q => HN2.out.step (belowN (Below.refl wr.heap.size wr) q))
        go_wp2_with fail
        go_quiet (fail)
        go_wp2
        go_roundg (gk - 1)
        case measure => have h := HG.out; omega
        case rel => exact ⟨p + 1, by go_num, by first | exact HN2.out | exact HN3.out _, by omega, by have h := HG.out; omega⟩
      · obtain ⟨t1, t2⟩ := HT.out e
        obtain ⟨x, hx⟩ : ∃ x, x = m D M := ⟨_, rfl⟩
        rw [← hx] at c1 HEQ
        obtain ⟨y, hy⟩ : ∃ y, y = goneF l m D M x := ⟨_, rfl⟩
        have HW := Lib.hid (fun q => gone1_any gb zb (goneB l) (.pointer (some ⟨b, 0, none⟩)) n m D M x (wr.drewN q) (HBA.out.below (belowN HR.out.1 q)) (((belowN HR.out.1 q).cell (p := ⟨zb, 0, none⟩) (World.block_lt_of_cell? w _ HZB.out)).trans HZB.out) (HV.out.below (belowN HR.out.1 q)) hd9 hm9)
        rw [show (if goneB l D = true then (2147483647 : Int) else if goneB l M = true then m D 0 else x) = y from hy.symm] at HW
        have HE2 := Lib.hid (HEQ.out y e hy.symm)
        clear hx hy e HEQ HSM
        go_wp2_with fail
        go_quiet (fail)
        go_wp2_with fail
        refine (HW.out nq).mono ?_
        rintro e w2 ⟨rfl, hb'⟩
        have hb : Below (wr.drewN nq).heap.size (wr.drewN nq) w2 := hb' ▸ Below.refl _ _
        clear hb'
        have c2 := (hb.cell (p := ⟨g, p, none⟩) hlt).trans c1
        have f2 := (hb.frozen (p := ⟨g, p, none⟩) hlt).trans f1
        have hlt2 : g < w2.heap.size := Nat.lt_of_lt_of_le hlt hb.size
        have HN2 := Lib.hid (HE2.out _ (HR.out.step ((belowN (Below.refl wr.heap.size wr) nq).trans hb)))
        clear hb c1 f1 hlt
        go_wp2
        go_roundg (gk - 1)
        case measure => have h := HG.out; omega
        case rel => exact ⟨p + 1, by go_num, HN2.out, by omega, by have h := HG.out; omega⟩
    · have e : p = N := by have := HG.out.1; omega
      subst e
      have hcall := of_any n (some ⟨g, 0, none⟩) cap (flat n (offM (goneF l m) m)) wr (by rw [← flat_congr (done_all n (goneF l m) m), ← HN.out]; exact HR.out.2.ints) (by rw [flat_length, ← HN.out]; omega) HRB.out
      rw [flat_length, ← HN.out, Int.toNat_natCast] at hcall
      have HCL := Lib.hid hcall
      clear hcall
      go_wp2_with fail
      refine HCL.out.mono ?_
      rintro e w2 hz
      have HZ2 := Lib.hid hz
      obtain ⟨hb, v, rfl, hv⟩ := hz
      have HB2 := Lib.hid (HR.out.1.trans (hb.mono HR.out.1.size))
      clear hb hv
      go_wp2
      go_ret2
      exact ⟨HB2.out, HZ2.out.2⟩

end Go.Proofs.Ytkgohhdenfnfpaa

/- The program's zone of which nothing is said of clocks. -/
namespace Go.Proofs.Ytkgohhdenfnfpaa
open Go Go.RowKit
set_option linter.unusedVariables false
set_option linter.unusedSimpArgs false

theorem xempty_any (v : Value) (z : Option (Nat × Mat)) (w : World) (h : ZoneV 62 w v z) : Calls Try.prog 6 #[v] w fun e w' => e = .returned (.bool (emptyP z)) ∧ w = w' := by
  match z, h with
  | none, h =>
    have h : v = .pointer none := h
    subst h
    exact empty_nil w
  | some (n, m), h =>
    obtain ⟨b, e, _, _, hm⟩ := h
    subst e
    exact oempty_any b n m w hm
def GoneK (n : Nat) (m : Mat) : Prop := m = (fun _ _ => 0) ∨ ClosedZ n m
theorem gone_nil (A : Option Addr) (c : Nat) (l : List Int) (w : World) : Calls Try.prog 39 #[.pointer none, .slice A l.length c] w fun e w' => e = .returned (.tuple #[.pointer none, .int .i64 1]) ∧ Below w.heap.size w w' := by
  go_enter Try.func39, Try.ntmps39
  go_wp2
  go_ret2
  exact ⟨rfl, (Below.refl _ _).alloc (Nat.le_refl _) _⟩
theorem clkE_all {n : Nat} {l : List Int} (h : ∀ q, q < l.length → 1 ≤ l.getD q 0 ∧ l.getD q 0 ≤ n) : clkE n l = true := (all_getD _ _ 0).2 fun q hq => decide_eq_true (h q hq)
theorem clkE_no {n : Nat} {l : List Int} {p : Nat} (hp : p < l.length) (h : ¬ (1 ≤ l.getD p 0 ∧ l.getD p 0 ≤ n)) : clkE n l = false := by
  rw [Bool.eq_false_iff]
  intro ha
  have := (all_getD l _ 0).1 ha p hp
  simp only [decide_eq_true_eq] at this
  exact h this
theorem goneB_more {l : List Int} {p x : Nat} (hp : p < l.length) (hx : l.getD p 0 = (x : Int)) (j : Nat) : goneB (l.take (p + 1)) j = (goneB (l.take p) j || decide (j = x)) := by
  rw [take_more hp, hx]
  unfold goneB
  rw [Bool.eq_iff_iff]
  simp only [decide_eq_true_eq, Bool.or_eq_true, List.mem_append, List.mem_singleton]
  constructor
  · rintro (h | h)
    · exact .inl h
    · exact .inr (by omega)
  · rintro (h | h)
    · exact .inl h
    · exact .inr (by omega)
theorem stable_bat (g : Nat) (f : Nat → Bool) : Stable fun w => BAt w g f := fun _ _ h hb => h.below hb
theorem stable_cell1 (g : Nat) (v : Value) : Stable fun w => w.cell? ⟨g, 0, none⟩ = some v := fun w _ h hb => (hb.cell (p := ⟨g, 0, none⟩) (World.block_lt_of_cell? w _ h)).trans h
theorem flat_rng6 {n : Nat} {m : Mat} (h : RightM n m) : ∀ q, q < (flat n m).length → -2147483648 ≤ (flat n m).getD q 0 ∧ (flat n m).getD q 0 ≤ 2147483647 := flat_rng h
/-- A cell of one's own, written. -/
theorem Bag.setOwn {w0 w : World} {Ps : List (World → Prop)} {g o : Nat} {v : Value} (h : Bag w0 Ps w) (hg : w0.heap.size ≤ g) (hk : ∀ P, P ∈ Ps → P w → P (w.setCell ⟨g, o, none⟩ v)) : Bag w0 Ps (w.setCell ⟨g, o, none⟩ v) :=
  ⟨h.below.setCell (p := ⟨g, o, none⟩) hg _, fun P hP => ⟨hk P hP (h.all P hP).1, (h.all P hP).2⟩⟩
/-- The marks, so far. -/
def GnR (w0 : World) (T1 : TypeId) (v : Value) (n : Nat) (m : Mat) (A : Option Addr) (l : List Int) (p : Nat) (wr : World) : Prop :=
  Below w0.heap.size w0 wr ∧ ZoneV T1 wr v (some (n, m)) ∧ Ints wr .i64 A l ∧ wr.cell? ⟨w0.heap.size, 0, none⟩ = some v ∧ BAt wr (w0.heap.size + 1) (goneB (l.take p))
theorem GnR.step {w0 wr w' : World} {T1 : TypeId} {v : Value} {n : Nat} {m : Mat} {A : Option Addr} {l : List Int} {p : Nat} (h : GnR w0 T1 v n m A l p wr) (hb : Below wr.heap.size wr w') : GnR w0 T1 v n m A l p w' :=
  ⟨h.1.trans (hb.mono h.1.size), h.2.1.below hb, h.2.2.1.below hb, (stable_cell1 _ _) _ _ h.2.2.2.1 hb, h.2.2.2.2.below hb⟩
theorem zone_old {T1 : TypeId} {w0 wr : World} {v : Value} {z : Option (Nat × Mat)} (h : ZoneV T1 w0 v z) (hb : Below w0.heap.size w0 wr) : ZoneV T1 wr v z := h.below hb
theorem GnR.mark {w0 wr : World} {T1 : TypeId} {v : Value} {n : Nat} {m : Mat} {A : Option Addr} {l : List Int} {p x : Nat} (h : GnR w0 T1 v n m A l p wr) (h0 : ZoneV T1 w0 v (some (n, m))) (hI : Ints w0 .i64 A l) (hp : p < l.length) (hx : l.getD p 0 = (x : Int)) (hx9 : x < 9) :
    GnR w0 T1 v n m A l (p + 1) (wr.setCell ⟨w0.heap.size + 1, x, none⟩ (.bool true)) := by
  have hb : Below w0.heap.size w0 (wr.setCell ⟨w0.heap.size + 1, x, none⟩ (.bool true)) := h.1.setCell (p := ⟨w0.heap.size + 1, x, none⟩) (by show _ ≤ w0.heap.size + 1; omega) _
  refine ⟨hb, h0.below hb, hI.below hb, ?_, h.2.2.2.2.set x hx9 _ fun j _ => goneB_more hp hx j⟩
  rw [World.cell?_setCell_other]
  · exact h.2.2.2.1
  · intro e; simp at e

theorem gone_of {n N g cap : Nat} {m : Mat} {w : World} (h : RightM n m) (hl : (flat n m).length = N) (hN : N ≤ 81) (hr : RowAt w g 41 .i32 (flat n m)) : Calls Try.prog 38 #[.int .i64 n, .slice (some ⟨g, 0, none⟩) N cap] w (MakesZ w n (ofP n (flat n m))) := by
  have hcall := of_any n (some ⟨g, 0, none⟩) cap (flat n m) w hr.ints (by rw [hl]; omega) (flat_rng h)
  rw [hl, Int.toNat_natCast] at hcall
  exact hcall
set_option maxRecDepth 100000 in
set_option maxHeartbeats 2000000 in
theorem gone_zone (v : Value) (n : Nat) (m : Mat) (A : Option Addr) (c : Nat) (l : List Int) (w : World) (h : ZoneV 62 w v (some (n, m))) (hq : GoneK n m) (hI : Ints w .i64 A l) (hmax : l.length ≤ 4611686018427387904) :
    Calls Try.prog 39 #[v, .slice A l.length c] w (MakesZ w n (goneP n m l)) := by
  have HQ := Lib.hid hq
  have HI := Lib.hid hI
  have HZ := Lib.hid h
  have HE := Lib.hid (fun w h => xempty_any v (some (n, m)) w h)
  have HC := Lib.hid (fun w h => cells_any v (some (n, m)) w h)
  rw [show cellsP (some (n, m)) = flat n m from rfl] at HC
  have HD := Lib.hid (fun w h => odim_any v (some (n, m)) w h)
  rw [show dimN (some (n, m)) = n from rfl] at HD
  obtain ⟨b, rfl, hn, hrm, _⟩ := h
  have HRM := Lib.hid hrm
  have HS := Lib.hid (show GnR w 62 (.pointer (some ⟨b, 0, none⟩)) n m A l 0 ((w.alloc (.cells #[.pointer (some ⟨b, 0, none⟩)] 24)).alloc (.cells #[.bool false, .bool false, .bool false, .bool false, .bool false, .bool false, .bool false, .bool false, .bool false] 109)) by
    have hb1 : Below w.heap.size w (w.alloc (.cells #[.pointer (some ⟨b, 0, none⟩)] 24)) := (Below.refl _ _).alloc (Nat.le_refl _) _
    have hb : Below w.heap.size w ((w.alloc (.cells #[.pointer (some ⟨b, 0, none⟩)] 24)).alloc (.cells #[.bool false, .bool false, .bool false, .bool false, .bool false, .bool false, .bool false, .bool false, .bool false] 109)) := hb1.alloc (by simp) _
    refine ⟨hb, HZ.out.below hb, hI.below hb, ?_, ?_⟩
    · unfold World.cell?
      rw [heap_alloc_old _ _ (by simp), heap_alloc_new]
      rfl
    · unfold BAt
      have := heap_alloc_new (w.alloc (.cells #[.pointer (some ⟨b, 0, none⟩)] 24)) (.cells #[.bool false, .bool false, .bool false, .bool false, .bool false, .bool false, .bool false, .bool false, .bool false] 109)
      rw [show (w.alloc (.cells #[.pointer (some ⟨b, 0, none⟩)] 24)).heap.size = w.heap.size + 1 by simp] at this
      rw [this]
      rfl)
  clear hq hI hrm
  go_enter Try.func39, Try.ntmps39
  go_wp2
  generalize (w.alloc (.cells #[.pointer (some ⟨b, 0, none⟩)] 24)).alloc (.cells #[.bool false, .bool false, .bool false, .bool false, .bool false, .bool false, .bool false, .bool false, .bool false] 109) = w1 at *
  go_loopg [13] l.length (fun q v wr => ∃ p : Nat, v = .int .i64 p ∧ Hid (GnR w 62 (.pointer (some ⟨b, 0, none⟩)) n m A l p wr) ∧ Hid (p ≤ l.length ∧ q + p = l.length ∧ ∀ q, q < p → 1 ≤ l.getD q 0 ∧ l.getD q 0 ≤ n))
  case atStart => exact ⟨0, by simp, HS.out, by omega, by omega, fun q h => by omega⟩
  case round =>
    clear HS
    obtain ⟨p, rfl, HR, HP⟩ := hrel
    have cz := HR.out.2.2.2.1
    by_cases hp : p < l.length
    · obtain ⟨b', off, rfl, c1⟩ := HR.out.2.2.1 p hp
      have hpi : (p : Int) < (l.length : Int) := by omega
      obtain ⟨x, hx⟩ : ∃ x, x = l.getD p 0 := ⟨_, rfl⟩
      rw [← hx] at c1
      have HX := Lib.hid hx
      clear hx
      by_cases h1 : x < 1
      · have d1 : decide (x < 1) = true := decide_eq_true h1
        have HEQ := Lib.hid (show goneP n m l = (none, 12) by unfold goneP; rw [clkE_no hp (by rw [← HX.out]; omega), if_neg (by simp)])
        clear h1
        go_wp2
        go_ret2
        rw [HEQ.out]
        exact ⟨HR.out.1, .pointer none, rfl, rfl⟩
      · have d1 : decide (x < 1) = false := decide_eq_false h1
        by_cases h2 : (n : Int) < x
        · have d2 : decide ((n : Int) < x) = true := decide_eq_true h2
          have HEQ := Lib.hid (show goneP n m l = (none, 12) by unfold goneP; rw [clkE_no hp (by rw [← HX.out]; omega), if_neg (by simp)])
          clear h1 h2
          go_wp2_with fail
          refine (HD.out _ HR.out.2.1).mono ?_
          rintro e w2 ⟨rfl, rfl⟩
          go_wp2
          go_ret2
          rw [HEQ.out]
          exact ⟨HR.out.1, .pointer none, rfl, rfl⟩
        · have d2 : decide ((n : Int) < x) = false := decide_eq_false h2
          obtain ⟨y, rfl⟩ : ∃ y : Nat, x = y := ⟨x.toNat, by omega⟩
          have HOK := Lib.hid (show 1 ≤ (y : Int) ∧ (y : Int) ≤ n by omega)
          have y9 : (y : Int) < 9 := by omega
          have d3 : decide (n < y) = false := decide_eq_false (by omega)
          have HN2 := Lib.hid (HR.out.mark HZ.out HI.out hp HX.out.symm (show y < 9 by omega))
          have c2 := HR.out.2.2.2.2.cell y (by omega)
          have f2 := HR.out.2.2.2.2.frozen y
          have hlt := HR.out.2.2.2.2.lt
          clear h1 h2
          go_wp2_with fail
          refine (HD.out _ HR.out.2.1).mono ?_
          rintro e w2 ⟨rfl, rfl⟩
          go_wp2
          go_roundg (gk - 1)
          case measure => have h := HP.out; omega
          case rel =>
            refine ⟨p + 1, by go_num, HN2.out, by omega, by have h := HP.out; omega, fun q hq => ?_⟩
            by_cases e : q = p
            · subst e; rw [← HX.out]; exact HOK.out
            · exact HP.out.2.2 q (by omega)
    · have e : p = l.length := by have := HP.out.1; omega
      subst e
      have HCK := Lib.hid (clkE_all HP.out.2.2)
      clear HP
      go_wp2_with fail
      refine (HE.out _ HR.out.2.1).mono ?_
      rcases HQ.out with hz | hz
      · have HZE := Lib.hid (show emptyP (some (n, m)) = true by rw [hz]; rfl)
        have HEQ := Lib.hid (show goneP n m l = ofP n (flat n m) by unfold goneP; rw [if_pos HCK.out, if_pos (by rw [hz]; decide)])
        rw [HZE.out]
        clear hz
        rintro e w2 ⟨rfl, rfl⟩
        have hlen : (flat n m).length = (n + 1) * (n + 1) := flat_length n m
        obtain ⟨N, hN⟩ : ∃ N, N = (n + 1) * (n + 1) := ⟨_, rfl⟩
        have hN81 : N ≤ 81 := by
          have := Nat.mul_le_mul (show n + 1 ≤ 9 by omega) (show n + 1 ≤ 9 by omega)
          omega
        have hN0 : 0 < N := by rw [hN]; exact Nat.mul_pos (by omega) (by omega)
        rw [← hN] at hlen
        have HLEN := Lib.hid hlen
        clear hlen hN
        have HRD := Lib.hid (HR.out.step (Below.drew (Below.refl wr.heap.size wr)))
        have k := HRD.out
        go_wp2_with fail
        go_region_held3 (fun w' => GnR w 62 (.pointer (some ⟨b, 0, none⟩)) n m A l l.length w' ∧ w'.cell? ⟨w.heap.size, 0, none⟩ = some (.pointer (some ⟨b, 0, none⟩))) (first | exact ⟨k, k.2.2.2.1⟩ | go_keep)
          (first | (go_at_call 17; refine (HD.out _ (by exact k.2.1)).mono ?_; rintro e w2 ⟨rfl, rfl⟩) | (go_at_call 18; refine (HC.out _ (by exact k.2.1)).mono ?_; rintro e w3 ⟨lv, rfl, hb, ho⟩; obtain ⟨g1, cp1, hv, _, hrow⟩ := ho.row (by rw [HLEN.out]; exact hN0); rw [HLEN.out] at hv; subst hv; have k := k.step hb; have HRW := Lib.hid hrow; clear hb ho hrow) | (go_at_call 38; refine (gone_of HRM.out HLEN.out hN81 HRW.out).mono ?_; rintro e w4 hz; have HZ4 := Lib.hid hz; obtain ⟨hb, v, rfl, hv⟩ := hz; have k := k.step hb; clear hb hv))
        have HB4 := Lib.hid k.1
        clear k
        go_wp2
        go_ret2
        rw [HEQ.out]
        exact ⟨HB4.out, HZ4.out.2⟩
      · have HZE := Lib.hid (show emptyP (some (n, m)) = false from hz.notEmpty)
        have HEQ := Lib.hid (show goneP n m l = ofP n (flat n (offM (goneF l m) m)) by unfold goneP; rw [if_pos HCK.out, if_neg (by rw [hz.full.one 0 (Nat.zero_le _)]; omega)])
        have HBG := Lib.hid (show BAt wr (w.heap.size + 1) (goneB l) by have := HR.out.2.2.2.2; rw [List.take_length] at this; exact this)
        have HEA := Lib.hid (each_gone (.pointer (some ⟨b, 0, none⟩)) n m (w.heap.size + 1) w.heap.size l wr HR.out.2.1 HBG.out cz (gone_closed HCK.out hz).full.right)
        rw [HZE.out]
        clear hz
        rintro e w2 ⟨rfl, rfl⟩
        go_wp2_with fail
        refine HEA.out.mono ?_
        rintro e w4 hz
        have HZ4 := Lib.hid hz
        obtain ⟨hb, v, rfl, hv⟩ := hz
        have HB4 := Lib.hid (HR.out.step hb).1
        clear hb hv
        go_wp2
        go_ret2
        rw [HEQ.out]
        exact ⟨HB4.out, HZ4.out.2⟩

theorem gone_any (v : Value) (z : Option (Nat × Mat)) (A : Option Addr) (c : Nat) (l : List Int) (w : World) (h : ZoneV 62 w v z) (hz : ∀ n m, z = some (n, m) → GoneK n m) (hI : Ints w .i64 A l) (hmax : l.length ≤ 4611686018427387904) :
    Calls Try.prog 39 #[v, .slice A l.length c] w (MakesZ w (dimN z) (goneA z l)) := by
  match z, h, hz with
  | none, h, _ =>
    have h : v = .pointer none := h
    subst h
    exact (gone_nil A c l w).mono fun e w' ⟨he, hw⟩ => ⟨hw, .pointer none, he, rfl⟩
  | some (n, m), h, hz => exact gone_zone v n m A c l w h (hz n m rfl) hI hmax

end Go.Proofs.Ytkgohhdenfnfpaa

/- Whole numbers in memory: a copy with marked room behind its end; it is as it was. -/
namespace Go.Proofs.Ytkgohhdenfnfpaa
open Go Go.RowKit
set_option linter.unusedVariables false
set_option linter.unusedSimpArgs false

theorem infoN : (Try.prog.info? 3).map (fun i => (i.zero, i.size, i.bytes)) = some (some (.int .i64 0), 1, 8) := by kernel_rfl
/-- The marks behind a copy. -/
def marksI : List Int := [-700, -701, -702, -703, -704, -705, -706, -707, -708]
/-- The copy while it is made: p places of it. -/
def handI (l : List Int) (p : Nat) : List Int := (l ++ marksI).take p ++ List.replicate (l.length + 9 - p) 0
theorem handI_length (l : List Int) (p : Nat) (hp : p ≤ l.length + 9) : (handI l p).length = l.length + 9 := by
  unfold handI
  rw [List.length_append, List.length_take, List.length_append, List.length_replicate, show marksI.length = 9 from rfl]
  omega
theorem handI_next (l : List Int) (p : Nat) (hp : p < l.length + 9) (x : Int) (hx : (l ++ marksI).getD p 0 = x) : (handI l p).set p x = handI l (p + 1) := by
  have hl : (l ++ marksI).length = l.length + 9 := by rw [List.length_append]; rfl
  have ht : ((l ++ marksI).take p).length = p := by rw [List.length_take]; omega
  unfold handI
  rw [List.set_append_right _ _ (by omega), ht, Nat.sub_self, show l.length + 9 - p = (l.length + 9 - (p + 1)) + 1 by omega, List.replicate_succ, List.set_cons_zero, List.take_add_one]
  have e : (l ++ marksI)[p]? = some x := by
    rw [← hx, List.getD_eq_getElem?_getD, List.getElem?_eq_getElem (by omega)]; rfl
  rw [e]
  simp
theorem handI_done (l : List Int) : handI l (l.length + 9) = l ++ marksI := by
  unfold handI
  rw [Nat.sub_self, List.take_of_length_le (by rw [List.length_append]; exact Nat.le_refl _)]
  simp
theorem hand_left (l : List Int) (p : Nat) (hp : p < l.length) : (l ++ marksI).getD p 0 = l.getD p 0 := by
  rw [List.getD_eq_getElem?_getD, List.getElem?_append_left hp, ← List.getD_eq_getElem?_getD]
theorem marks_at (d : Nat) (hd : d < 9) : marksI.getD d 0 = -700 - (d : Int) := by
  match d, hd with
  | 0, _ | 1, _ | 2, _ | 3, _ | 4, _ | 5, _ | 6, _ | 7, _ | 8, _ => rfl
theorem hand_right (l : List Int) (p : Nat) (hp : l.length ≤ p) (h9 : p < l.length + 9) : (l ++ marksI).getD p 0 = -700 - (p : Int) + (l.length : Int) := by
  rw [List.getD_eq_getElem?_getD, List.getElem?_append_right hp, ← List.getD_eq_getElem?_getD, marks_at _ (by omega)]
  omega
theorem made_row (w : World) (e : TypeId) (N : Nat) : RowAt (w.alloc (.cells (madeCells #[.int .i64 0] N) e)) w.heap.size e .i64 (List.replicate N 0) := by
  refine ⟨_, heap_alloc_new _ _, ?_⟩
  refine List.ext_getElem? fun i => ?_
  rw [List.length_replicate]
  by_cases h : i < N
  · simp [madeCells, vals, h, Nat.mod_one]
  · rw [List.getElem?_eq_none (by simp; omega), List.getElem?_eq_none (by simp [vals]; omega)]
def HandIR (w0 : World) (l : List Int) (p : Nat) (wr : World) : Prop := Below w0.heap.size w0 wr ∧ RowAt wr w0.heap.size 3 .i64 (handI l p)
theorem HandIR.next {w0 wr : World} {l : List Int} {p : Nat} (h : HandIR w0 l p wr) (hp : p < l.length + 9) (x : Int) (hx : (l ++ marksI).getD p 0 = x) : HandIR w0 l (p + 1) (wr.setCell ⟨w0.heap.size, p, none⟩ (.int .i64 x)) :=
  ⟨h.1.setCell (p := ⟨w0.heap.size, _, none⟩) (Nat.le_refl _) _, by rw [← handI_next l p hp x hx]; exact h.2.set p x⟩

/-- A copy with its marks, in block g. -/
def HandN (w : World) (g : Nat) (l : List Int) : Prop := RowAt w g 3 .i64 (handI l (l.length + 9))
theorem HandN.ints {w : World} {g : Nat} {l : List Int} (h : HandN w g l) : Ints w .i64 (some ⟨g, 0, none⟩) l := fun j hj => by
  have h1 := h.cell j (by rw [handI_length _ _ (Nat.le_refl _)]; omega)
  rw [handI_done, hand_left _ _ hj] at h1
  exact ⟨g, 0, rfl, by rw [Nat.zero_add]; exact h1⟩
theorem stable_handn (g : Nat) (l : List Int) : ∀ w w' : World, HandN w g l → Below w.heap.size w w' → HandN w' g l := fun _ _ h hb => h.later hb
theorem HandIR.ints {w0 w : World} {l : List Int} (h : HandIR w0 l (l.length + 9) w) : Ints w .i64 (some ⟨w0.heap.size, 0, none⟩) l := HandN.ints h.2
/-- What HandInts tells. -/
def HandEnds (w0 : World) (l : List Int) (e : Ending) (w' : World) : Prop := ∃ g, e = .returned (.slice (some ⟨g, 0, none⟩) l.length (l.length + 9)) ∧ Below w0.heap.size w0 w' ∧ HandN w' g l
theorem HandIR.later {w0 w w' : World} {l : List Int} {p : Nat} (h : HandIR w0 l p w) (hb : Below w.heap.size w w') : HandIR w0 l p w' := ⟨h.1.trans (hb.mono h.1.size), h.2.later hb⟩

end Go.Proofs.Ytkgohhdenfnfpaa
