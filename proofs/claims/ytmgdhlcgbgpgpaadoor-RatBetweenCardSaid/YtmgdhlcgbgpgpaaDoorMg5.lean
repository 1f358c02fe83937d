/- Texts of ours, laid together: Yd, Ye, Yf, Yg, Yh, Yi, Row, Row9, Row4. -/
import Derived.Test.YtmgdhlcgbgpgpaaDoorShelf
import Derived.Lib.AppendIntMem
import Derived.Lib.LaidTab
import Derived.Lib.ItoaLen
import Derived.Test.YtmgdhlcgbgpgpaaDoorRows
import Derived.WalkKit
import Derived.ProofKit
import Derived.OpenShut
import Derived.Carry
import Derived.Lib.SmallJoins
import Derived.SizedLaws
import Derived.Test.YtmgdhlcgbgpgpaaDoorMg4
/- What rat's inner tells of any two fractions: the steps of innerP. -/
namespace Go.Proofs.YtmgdhlcgbgpgpaaDoor
open Go Go.RowKit
set_option linter.unusedVariables false
set_option linter.unusedSimpArgs false

/-- The slots of region 12. -/
def tb12 (lo hi u v : Int × Int) (n : Int) : List (Nat × Nat × Value) :=
  [(0, 46, .agg #[.int .i64 lo.1, .int .i64 lo.2]), (1, 47, .agg #[.int .i64 u.1, .int .i64 u.2]), (2, 48, .agg #[.int .i64 hi.1, .int .i64 hi.2]), (3, 49, .int .i64 n), (4, 50, .agg #[.int .i64 v.1, .int .i64 v.2])]
def bs12 (g7 g8 : Nat) (n : Int) : List (Nat × Value) := [(7, .pointer (some ⟨g7, 0, none⟩)), (8, .pointer (some ⟨g8, 0, none⟩)), (10, .int .i64 n)]
def bk12 (u v : Int × Int) : List BlkR :=
  [⟨5, 14, 7, #[.int .i64 0, .int .i64 0], #[.int .i64 u.1, .int .i64 u.2], 23⟩, ⟨6, 15, 8, #[.int .i64 0, .int .i64 0], #[.int .i64 v.1, .int .i64 v.2], 23⟩]
/-- The slots of region 13. -/
def tb13 (ga : Nat) (u v : Int × Int) (b : Bool) : List (Nat × Nat × Value) :=
  [(0, 51, .agg #[.int .i64 v.1, .int .i64 v.2]), (1, 52, .agg #[.int .i64 v.2, .int .i64 v.1]), (2, 53, .pointer (some ⟨ga, 0, none⟩)), (3, 54, .int .i64 u.1), (4, 55, .bool b), (6, 9, .bool b)]
def bs13 (g7 ga gb : Nat) : List (Nat × Value) := [(7, .pointer (some ⟨g7, 0, none⟩)), (14, .pointer (some ⟨ga, 0, none⟩)), (15, .pointer (some ⟨gb, 0, none⟩))]

set_option maxRecDepth 100000 in
set_option maxHeartbeats 16000000 in
theorem inner_any (a1 a2 b1 b2 : Int) (g : Nat) (R : (Int × Int) × Int) (h64 : In64 1 0 0 1 (a1, a2) (b1, b2)) (hR : innerP (g + 1) 1 0 0 1 (a1, a2) (b1, b2) true = R) (hne : ¬ R.2 = -1) (w : World) :
    Calls Tryd.prog 52 #[.agg #[.int .i64 a1, .int .i64 a2], .agg #[.int .i64 b1, .int .i64 b2]] w fun e w' => e = .returned (.tuple #[.agg #[.int .i64 R.1.1, .int .i64 R.1.2], .int .i64 R.2]) ∧ Below w.heap.size w w' := by
  have H0 := Lib.hid h64
  have HR := Lib.hid hR
  have HNE := Lib.hid hne
  have HIN := Lib.hid (in_start w a1 a2 b1 b2)
  clear h64 hR hne
  go_enter Tryd.func52, Tryd.ntmps52
  go_upto_region 2 with fail
  go_cut [7, 8, 9] (fun s7 s8 s9 wx => ∃ g4 g6 g7 g8 : Nat, g4 = w.heap.size + 1 + 1 ∧ g6 = w.heap.size + 1 + 1 + 1 ∧ s7 = .pointer (some ⟨g7, 0, none⟩) ∧ s8 = .pointer (some ⟨g8, 0, none⟩) ∧ s9 = .bool true ∧ Hid (InR w g4 g6 g7 g8 (1, 0, 0, 1) (a1, a2) (b1, b2) wx))
  case first =>
    go_region
    all_goals
      go_wp2_with fail
      go_meet
      first | exact ⟨_, _, _, _, rfl, rfl, rfl, rfl, rfl, Lib.hid HIN.out.1⟩ | exact ⟨_, _, _, _, rfl, rfl, rfl, rfl, rfl, Lib.hid HIN.out.2⟩
  case rest =>
    obtain ⟨g4, g6, g7, g8, hg4, hg6, rfl, rfl, rfl, HI⟩ := hcut
    rw [← hg6, ← hg4]
    clear HIN hg4 hg6
    go_wp2
    go_loopg [9] g (fun gk s9 wr => ∃ (p q pp qq l1 l2 h1 h2 : Int) (op : Bool), s9 = .bool op ∧ Hid (InR w g4 g6 g7 g8 (p, q, pp, qq) (l1, l2) (h1, h2) wr) ∧ Hid (In64 p q pp qq (l1, l2) (h1, h2)) ∧ Hid (innerP (gk + 1) p q pp qq (l1, l2) (h1, h2) op = R))
    case atStart => exact ⟨_, _, _, _, _, _, _, _, _, rfl, HI, H0, HR⟩
    case round =>
      clear HI H0 HR
      obtain ⟨p, q, pp, qq, l1, l2, h1, h2, op, rfl, HV, H64, HR⟩ := hrel
      have HFL := Lib.hid (fun W => floor_any l1 l2 H64.out.2.2.2.2.1 H64.out.2.2.2.2.2.1 W)
      have HN64 := Lib.hid (floor64 (r := (l1, l2)) H64.out.2.2.2.2.1)
      obtain ⟨n, hn⟩ : ∃ n, n = floorP (l1, l2) := ⟨_, rfl⟩
      rw [← hn] at HFL HN64
      have HN := Lib.hid hn
      clear hn
      obtain ⟨c1, c2, _, _⟩ := cell_two HV.out.h7
      go_wp2_with fail
      refine (HFL.out _).mono ?_
      rintro e w2 ⟨rfl, hb⟩
      have HV2 := Lib.hid (HV.out.step hb)
      clear hb c1 c2 HV HFL
      by_cases hx : n = 9223372036854775807
      · have HE := Lib.hid (HR.out.symm.trans (inner_none HN.out hx))
        obtain ⟨z1, z2, z3, z4⟩ := cell_two HV2.out.h4
        obtain ⟨t1, t2⟩ := HV2.out.told (.int .i64 0) (.int .i64 0)
        have T1 := Lib.hid t1
        have T2 := Lib.hid t2
        clear t1 t2
        subst hx
        go_wp2
        refine bodyPost_ret (results_row_tmp (fn := Tryd.f52) rfl _ _ g4 _ _ _ _ rfl T1.out Tryd.underlying23 rfl (by kernel_rfl)) rfl ?_
        exact ⟨by rw [HE.out]; rfl, T2.out⟩
      · have d1 : (n == 9223372036854775807) = false := by simp [hx]
        have HX := Lib.hid hx
        have k1 : IntKind.i64.wrap (n + 1) = n + 1 := IntWalk.i64_in _ (by obtain ⟨_, _⟩ := HN64.out; omega)
        have HK64 : Hid (I64 (n + 1)) := Lib.hid ⟨by have := HN64.out.1; omega, by have := HN64.out.2; omega⟩
        clear hx
        have HCM := Lib.hid (fun W => compare_any (n + 1) 1 h1 h2 HK64.out ⟨by decide, by decide⟩ H64.out.2.2.2.2.2.2.1 H64.out.2.2.2.2.2.2.2 W)
        obtain ⟨cm, hcm⟩ : ∃ cm, cm = cmpP (n + 1, 1) (h1, h2) := ⟨_, rfl⟩
        rw [← hcm] at HCM
        have HC := Lib.hid hcm
        clear hcm
        go_upto_region 7 with fail
        go_cut [35] (fun s35 wx => ∃ c : Bool, s35 = .bool c ∧ Hid ((c = true → op = true ∧ 0 ≤ cm) ∧ (c = false → op = false ∨ cm < 0)) ∧ Hid (InR w g4 g6 g7 g8 (p, q, pp, qq) (l1, l2) (h1, h2) wx))
        case first =>
          cases op with
          | false =>
            have HD := Lib.hid HV2.out.drew
            go_region
            all_goals
              go_wp2_with fail
              go_meet
              exact ⟨_, rfl, Lib.hid ⟨fun h => Bool.noConfusion h, fun _ => .inl (by simp)⟩, HD⟩
          | true =>
            have HWH := Lib.hid (fun W => whole_any (n + 1) W)
            obtain ⟨cb, hcb⟩ : ∃ cb, decide (0 ≤ cm) = cb := ⟨_, rfl⟩
            have HCB := Lib.hid hcb
            have kb := HV2.out.drew
            go_region_held3 (fun wr => wr.cell? ⟨g8, 0, none⟩ = some (.int .i64 h1) ∧ wr.cell? ⟨g8, 1, none⟩ = some (.int .i64 h2))
              (first | exact ⟨(cell_two kb.h8).1, (cell_two kb.h8).2.1⟩ | go_keep)
              (first | (go_at_call 75; refine (HWH.out _).mono ?_; rintro e w3 ⟨rfl, hb⟩; have kb := kb.step hb; clear hb) | (go_at_call 21; refine (HCM.out _).mono ?_; rintro e w4 ⟨rfl, hb⟩; have kb := kb.step hb; clear hb))
            have HV3 := Lib.hid kb
            clear kb
            go_wp2_with fail
            go_meet
            exact ⟨_, rfl, Lib.hid ⟨fun h => ⟨by simp, of_decide_eq_true (HCB.out.trans h)⟩, fun h => .inr (by have := of_decide_eq_false (HCB.out.trans h); omega)⟩, HV3⟩
        case rest =>
          obtain ⟨c, rfl, HCC, HV3⟩ := hcut
          clear HV2 HCM
          cases c with
          | false =>
            have HE := Lib.hid (HR.out.symm.trans (inner_last HN.out HX.out (by rw [← HC.out]; exact HCC.out.2 rfl)))
            clear HCC
            have HST := Lib.hid (fun W => step_any p q pp qq (n + 1) H64.out.1 H64.out.2.1 H64.out.2.2.1 H64.out.2.2.2.1 HK64.out W)
            obtain ⟨x1, hx1⟩ : ∃ x, x = fitP ((n + 1) * p + pp) := ⟨_, rfl⟩
            obtain ⟨x2, hx2⟩ : ∃ x, x = fitP ((n + 1) * q + qq) := ⟨_, rfl⟩
            obtain ⟨f, hf⟩ : ∃ x, x = (fitsI ((n + 1) * p + pp) && fitsI ((n + 1) * q + qq)) := ⟨_, rfl⟩
            rw [← hx1, ← hx2, ← hf] at HST
            have HXX := Lib.hid (And.intro hx1 (And.intro hx2 hf))
            clear hx1 hx2 hf
            obtain ⟨c1, c2, c3, c4⟩ := cell_four HV3.out.h6
            go_wp2_with fail
            refine (HST.out _).mono ?_
            rintro e w5 ⟨rfl, hb⟩
            have HV4 := Lib.hid (HV3.out.step hb)
            clear hb c1 c2 c3 c4 HV3 HST
            go_upto_region 17 with fail
            have HV5 := Lib.hid (HV4.out.step (below_one w5 (.cells #[.int .i64 x1, .int .i64 x2, .int .i64 p, .int .i64 q] 85)))
            have H12 := Lib.hid (heap_alloc_new w5 (.cells #[.int .i64 x1, .int .i64 x2, .int .i64 p, .int .i64 q] 85))
            generalize w5.alloc (.cells #[.int .i64 x1, .int .i64 x2, .int .i64 p, .int .i64 q] 85) = w6 at *
            clear HV4
            obtain ⟨c1, c2, c3, c4⟩ := cell_four H12.out
            cases f with
            | false =>
              have HE2 := Lib.hid (HE.out.trans (if_neg (by rw [← HXX.out.2.2]; simp)))
              obtain ⟨t1, t2⟩ := HV5.out.told (.int .i64 0) (.int .i64 0)
              have T1 := Lib.hid t1
              have T2 := Lib.hid t2
              clear t1 t2
              obtain ⟨z1, z2, z3, z4⟩ := cell_two HV5.out.h4
              go_wp2
              refine bodyPost_ret (results_row_tmp (fn := Tryd.f52) rfl _ _ g4 _ _ _ _ rfl T1.out Tryd.underlying23 rfl (by kernel_rfl)) rfl ?_
              exact ⟨by rw [HE2.out]; rfl, T2.out⟩
            | true =>
              have hff := Bool.and_eq_true_iff.1 HXX.out.2.2.symm
              have HE2 := Lib.hid (HE.out.trans (if_pos HXX.out.2.2.symm))
              have e1 : fitP ((n + 1) * p + pp) = (n + 1) * p + pp := by unfold fitP; rw [if_pos hff.1]
              have e2 : fitP ((n + 1) * q + qq) = (n + 1) * q + qq := by unfold fitP; rw [if_pos hff.2]
              have HE3 : Hid (R = ((x1, x2), 0)) := Lib.hid (by rw [HE2.out, HXX.out.1, HXX.out.2.1, e1, e2])
              clear hff HE2 e1 e2 HE
              obtain ⟨t1, t2⟩ := HV5.out.told (.int .i64 x1) (.int .i64 x2)
              have T1 := Lib.hid t1
              have T2 := Lib.hid t2
              clear t1 t2
              obtain ⟨z1, z2, z3, z4⟩ := cell_two HV5.out.h4
              go_wp2
              refine bodyPost_ret (results_row_tmp (fn := Tryd.f52) rfl _ _ g4 _ _ _ _ rfl T1.out Tryd.underlying23 rfl (by kernel_rfl)) rfl ?_
              exact ⟨by rw [HE3.out]; rfl, T2.out⟩
          | true =>
            obtain ⟨rfl, hc0⟩ := HCC.out.1 rfl
            have HE := Lib.hid (HR.out.symm.trans (inner_on HN.out HX.out (by rw [← HC.out]; exact hc0)))
            clear HCC hc0
            have HST := Lib.hid (fun W => step_any p q pp qq (n) H64.out.1 H64.out.2.1 H64.out.2.2.1 H64.out.2.2.2.1 HN64.out W)
            obtain ⟨x1, hx1⟩ : ∃ x, x = fitP ((n) * p + pp) := ⟨_, rfl⟩
            obtain ⟨x2, hx2⟩ : ∃ x, x = fitP ((n) * q + qq) := ⟨_, rfl⟩
            obtain ⟨f, hf⟩ : ∃ x, x = (fitsI ((n) * p + pp) && fitsI ((n) * q + qq)) := ⟨_, rfl⟩
            rw [← hx1, ← hx2, ← hf] at HST
            have HXX := Lib.hid (And.intro hx1 (And.intro hx2 hf))
            clear hx1 hx2 hf
            obtain ⟨c1, c2, c3, c4⟩ := cell_four HV3.out.h6
            go_wp2_with fail
            refine (HST.out _).mono ?_
            rintro e w5 ⟨rfl, hb⟩
            have HV4 := Lib.hid (HV3.out.step hb)
            clear hb c1 c2 c3 c4 HV3 HST
            go_upto_region 9 with fail
            have HV5 := Lib.hid (HV4.out.step (below_one w5 (.cells #[.int .i64 x1, .int .i64 x2, .int .i64 p, .int .i64 q] 85)))
            have H12 := Lib.hid (heap_alloc_new w5 (.cells #[.int .i64 x1, .int .i64 x2, .int .i64 p, .int .i64 q] 85))
            generalize w5.alloc (.cells #[.int .i64 x1, .int .i64 x2, .int .i64 p, .int .i64 q] 85) = w6 at *
            clear HV4
            obtain ⟨c1, c2, c3, c4⟩ := cell_four H12.out
            cases f with
            | false =>
              have HE2 := Lib.hid (HE.out.trans (if_neg (by rw [← HXX.out.2.2]; simp)))
              obtain ⟨t1, t2⟩ := HV5.out.told (.int .i64 0) (.int .i64 0)
              have T1 := Lib.hid t1
              have T2 := Lib.hid t2
              clear t1 t2
              obtain ⟨z1, z2, z3, z4⟩ := cell_two HV5.out.h4
              go_wp2
              refine bodyPost_ret (results_row_tmp (fn := Tryd.f52) rfl _ _ g4 _ _ _ _ rfl T1.out Tryd.underlying23 rfl (by kernel_rfl)) rfl ?_
              exact ⟨by rw [HE2.out]; rfl, T2.out⟩
            | true =>
              have hff := Bool.and_eq_true_iff.1 HXX.out.2.2.symm
              have HE2 := Lib.hid (HE.out.trans (if_pos HXX.out.2.2.symm))
              have H64' := Lib.hid (H64.out.next HXX.out.2.2.symm)
              have e1 : fitP (n * p + pp) = n * p + pp := by unfold fitP; rw [if_pos hff.1]
              have e2 : fitP (n * q + qq) = n * q + qq := by unfold fitP; rw [if_pos hff.2]
              rw [← e1, ← e2, ← HXX.out.1, ← HXX.out.2.1] at HE2 H64'
              clear hff e1 e2 HE HXX HR
              obtain ⟨d1, d2, d3, d4⟩ := cell_four HV5.out.h6
              obtain ⟨f1, f2, f3, f4⟩ := four_frozen HV5.out.h6
              go_upto_region 12 with fail
              have HV6 := Lib.hid (HV5.out.set6 x1 x2 p q)
              generalize (((w6.setCell ⟨g6, 0, none⟩ (.int .i64 x1)).setCell ⟨g6, 1, none⟩ (.int .i64 x2)).setCell ⟨g6, 2, none⟩ (.int .i64 p)).setCell ⟨g6, 3, none⟩ (.int .i64 q) = w7 at *
              clear c1 c2 c3 c4 d1 d2 d3 d4 f1 f2 f3 f4 H12 HV5
              have HFR : Hid (∀ W, Calls Tryd.prog 23 #[.agg #[.int .i64 l1, .int .i64 l2]] W fun e w' => e = .returned (.agg #[.int .i64 (partP (l1, l2)).1, .int .i64 (partP (l1, l2)).2]) ∧ Below W.heap.size W w') := Lib.hid (fun W => frac_any l1 l2 H64.out.2.2.2.2.1 H64.out.2.2.2.2.2.1 W)
              have HLS : Hid (∀ W, Calls Tryd.prog 77 #[.agg #[.int .i64 h1, .int .i64 h2], .int .i64 n] W fun e w' => e = .returned (.agg #[.int .i64 (subP (h1, h2) (n, 1)).1.1, .int .i64 (subP (h1, h2) (n, 1)).1.2]) ∧ Below W.heap.size W w') := Lib.hid (fun W => rless_any h1 h2 n H64.out.2.2.2.2.2.2.1 H64.out.2.2.2.2.2.2.2 HN64.out W)
              obtain ⟨u, hu⟩ : ∃ u, u = partP (l1, l2) := ⟨_, rfl⟩
              obtain ⟨v, hv⟩ : ∃ v, v = (subP (h1, h2) (n, 1)).1 := ⟨_, rfl⟩
              rw [← hu] at HFR HE2 H64'
              rw [← hv] at HLS HE2 H64'
              clear hu hv H64
              go_cut [14, 15] (fun s14 s15 wx => ∃ ga gb : Nat, s14 = .pointer (some ⟨ga, 0, none⟩) ∧ s15 = .pointer (some ⟨gb, 0, none⟩) ∧ Hid (In12 w g4 g6 g7 g8 (x1, x2, p, q) (l1, l2) (h1, h2) ga gb u v wx))
              case first =>
                have s7 := heap_lt2 HV6.out.h7
                have s8 := heap_lt2 HV6.out.h8
                refine wp_region_tab (by kernel_rfl) [7, 8, 10, 14, 15, 46, 47, 48, 49, 50] [[], [0], [], [], [1, 2, 3], [], [], [0, 1, 4, 5, 6], [0, 1, 2, 3, 4, 5, 6, 7]]
                  (fun L vals wx => InR w g4 g6 g7 g8 (x1, x2, p, q) (l1, l2) (h1, h2) wx ∧ TabR (tb12 (l1, l2) (h1, h2) u v n) (bs12 g7 g8 n) L vals ∧ BlksR (bk12 u v) w7.heap.size L vals wx) (by kernel_rfl) rfl ?_ ?_ ?_
                · exact ⟨HV6.out.drew, TabR.start (by simp [bs12]), BlksR.start _ (Nat.le_refl _)⟩
                · intro i hi a L vals wx E hJ hLi hn K hK hK0
                  obtain ⟨hI, hT, hB⟩ := hJ
                  match i, hi with
                  | 0, _ => exact op_load rfl rfl rfl rfl Tryd.underlying23 rfl (by kernel_rfl) ((E 7 (by decide)).trans (hT.rd 0 rfl)) hI.h7 (hK 46 _ _ (by decide) ⟨hI, hT.put (by simp [tb12]) (by simp [bs12]), hB.keep (Below.refl _ _) (by simp [bk12])⟩)
                  | 1, _ =>
                    have e1 := (E 46 (by decide)).trans (hT.val 0 rfl (hn 0 (by decide)))
                    exact op_go rfl rfl rfl rfl Tryd.func23 (by kernel_rfl) rfl (by simp only [List.map_toArray, List.map_cons, List.map_nil, e1]) (HFR.out _) (fun w' hb => hK 47 _ _ (by decide) ⟨hI.step hb, hT.put (by simp [tb12]) (by simp [bs12]), hB.keep hb (by simp [bk12])⟩)
                  | 2, _ => exact op_load rfl rfl rfl rfl Tryd.underlying23 rfl (by kernel_rfl) ((E 8 (by decide)).trans (hT.rd 1 rfl)) hI.h8 (hK 48 _ _ (by decide) ⟨hI, hT.put (by simp [tb12]) (by simp [bs12]), hB.keep (Below.refl _ _) (by simp [bk12])⟩)
                  | 3, _ => exact op_move rfl rfl rfl rfl ((E 10 (by decide)).trans (hT.rd 2 rfl)) (hK 49 _ _ (by decide) ⟨hI, hT.put (by simp [tb12]) (by simp [bs12]), hB.keep (Below.refl _ _) (by simp [bk12])⟩)
                  | 4, _ =>
                    have e1 := (E 48 (by decide)).trans (hT.val 2 rfl (hn 2 (by decide)))
                    have e2 := (E 49 (by decide)).trans (hT.val 3 rfl (hn 3 (by decide)))
                    exact op_go rfl rfl rfl rfl Tryd.func77 (by kernel_rfl) rfl (by simp only [List.map_toArray, List.map_cons, List.map_nil, e1, e2]) (HLS.out _) (fun w' hb => hK 50 _ _ (by decide) ⟨hI.step hb, hT.put (by simp [tb12]) (by simp [bs12]), hB.keep hb (by simp [bk12])⟩)
                  | 5, _ =>
                    refine op_value (w' := wx.alloc (.cells #[.int .i64 0, .int .i64 0] 23)) (v := .pointer (some ⟨wx.heap.size, 0, none⟩)) rfl rfl rfl ?_ (hK 14 _ _ (by decide) ⟨hI.step (below_one _ _), hT.put (by simp [tb12]) (by simp [bs12]), hB.new 0 rfl hLi (by simp [bk12]) (by simp [bk12])⟩)
                    clear hK hK0 hT hB E
                    go_simp
                  | 6, _ =>
                    refine op_value (w' := wx.alloc (.cells #[.int .i64 0, .int .i64 0] 23)) (v := .pointer (some ⟨wx.heap.size, 0, none⟩)) rfl rfl rfl ?_ (hK 15 _ _ (by decide) ⟨hI.step (below_one _ _), hT.put (by simp [tb12]) (by simp [bs12]), hB.new 1 rfl hLi (by simp [bk12]) (by simp [bk12])⟩)
                    clear hK hK0 hT hB E
                    go_simp
                  | 7, _ =>
                    obtain ⟨ga, e1, e2, e3⟩ := hB.blk 0 rfl (hn 5 (by decide))
                    rw [if_neg (by rw [hLi]; decide)] at e3
                    exact op_store (old := #[.int .i64 0, .int .i64 0]) (cs := #[.int .i64 u.1, .int .i64 u.2]) rfl rfl rfl rfl (by kernel_rfl) rfl (by kernel_rfl) ((E 14 (by decide)).trans e1) ((E 47 (by decide)).trans (hT.val 1 rfl (hn 1 (by decide)))) e3
                      (hK0 _ ⟨hI.stR ⟨by omega, by omega⟩ _, hT.skip (by simp [tb12]), hB.st 0 rfl (hn 5 (by decide)) (by simp [bk12]) (by simp [bk12]) (by simp [bk12]) e1⟩)
                  | 8, _ =>
                    obtain ⟨ga, e1, e2, e3⟩ := hB.blk 1 rfl (hn 6 (by decide))
                    rw [if_neg (by rw [hLi]; decide)] at e3
                    exact op_store (old := #[.int .i64 0, .int .i64 0]) (cs := #[.int .i64 v.1, .int .i64 v.2]) rfl rfl rfl rfl (by kernel_rfl) rfl (by kernel_rfl) ((E 15 (by decide)).trans e1) ((E 50 (by decide)).trans (hT.val 4 rfl (hn 4 (by decide)))) e3
                      (hK0 _ ⟨hI.stR ⟨by omega, by omega⟩ _, hT.skip (by simp [tb12]), hB.st 1 rfl (hn 6 (by decide)) (by simp [bk12]) (by simp [bk12]) (by simp [bk12]) e1⟩)
                  | k + 9, h => exact absurd (show k + 9 < 9 from h) (by omega)
                · intro L vals wx hJ hall
                  obtain ⟨hI, hT, hB⟩ := hJ
                  obtain ⟨ga, e1, e2, e3⟩ := hB.blk 0 rfl (hall 5 (by decide))
                  obtain ⟨gb, f1, f2, f3⟩ := hB.blk 1 rfl (hall 6 (by decide))
                  rw [if_pos (hall 7 (by decide))] at e3
                  rw [if_pos (hall 8 (by decide))] at f3
                  simp only [overA, Act.put, List.setIfInBounds_toArray, List.set_cons_zero, List.set_cons_succ]
                  have v7 : vals 7 = .pointer (some ⟨g7, 0, none⟩) := hT.rd 0 rfl
                  have v8 : vals 8 = .pointer (some ⟨g8, 0, none⟩) := hT.rd 1 rfl
                  have v10 : vals 10 = .int .i64 n := hT.rd 2 rfl
                  have v14 : vals 14 = .pointer (some ⟨ga, 0, none⟩) := e1
                  have v15 : vals 15 = .pointer (some ⟨gb, 0, none⟩) := f1
                  rw [v7, v8, v10, v14, v15]
                  go_wp2_with fail
                  go_meet
                  exact ⟨ga, gb, rfl, rfl, Lib.hid ⟨hI, ⟨by omega, by omega, by omega, by omega⟩, e3, f3⟩⟩
              case rest =>
                obtain ⟨ga, gb, rfl, rfl, HV8⟩ := hcut
                have HTU := Lib.hid (fun W => turned_any v.1 v.2 W)
                clear HFR HLS HV6
                obtain ⟨z, hz⟩ : ∃ z, z = decide (u.1 = 0) := ⟨_, rfl⟩
                have HZ := Lib.hid hz
                rw [← hz] at HE2
                clear hz
                go_upto_region 13 with fail
                go_cut [9] (fun s9 wx => s9 = .bool (!z) ∧ Hid (In12 w g4 g6 g7 g8 (x1, x2, p, q) (v.2, v.1) (h1, h2) ga gb u v wx))
                case first =>
                  refine wp_region_tab (by kernel_rfl) [7, 14, 15, 51, 52, 53, 54, 55, 9] [[], [0], [], [2], [3], [0, 1], [0, 1, 2, 3, 4, 5]]
                    (fun L vals wx => In12 w g4 g6 g7 g8 (x1, x2, p, q) (cond (L 5) (v.2, v.1) (l1, l2)) (h1, h2) ga gb u v wx ∧ TabR (tb13 ga u v (!z)) (bs13 g7 ga gb) L vals) (by kernel_rfl) rfl ?_ ?_ ?_
                  · exact ⟨HV8.out.drew, TabR.start (by simp [bs13])⟩
                  · intro i hi a L vals wx E hJ hLi hn K hK hK0
                    obtain ⟨hI, hT⟩ := hJ
                    match i, hi with
                    | 0, _ => exact op_load rfl rfl rfl rfl Tryd.underlying23 rfl (by kernel_rfl) ((E 15 (by decide)).trans (hT.rd 2 rfl)) hI.hb (hK 51 _ _ (by decide) ⟨hI, hT.put (by simp [tb13]) (by simp [bs13])⟩)
                    | 1, _ =>
                      have e1 := (E 51 (by decide)).trans (hT.val 0 rfl (hn 0 (by decide)))
                      exact op_go rfl rfl rfl rfl Tryd.func78 (by kernel_rfl) rfl (by simp only [List.map_toArray, List.map_cons, List.map_nil, e1]) (HTU.out _) (fun w' hb => hK 52 _ _ (by decide) ⟨hI.step hb, hT.put (by simp [tb13]) (by simp [bs13])⟩)
                    | 2, _ =>
                      have e1 := (E 14 (by decide)).trans (hT.rd 1 rfl)
                      refine op_value (w' := wx) (v := .pointer (some ⟨ga, 0, none⟩)) rfl rfl rfl ?_ (hK 53 _ _ (by decide) ⟨hI, hT.put (by simp [tb13]) (by simp [bs13])⟩)
                      clear hK hK0 hT E HE2 H64'
                      revert e1
                      generalize a.eval = ρ
                      intro e1
                      go_simp
                    | 3, _ =>
                      have e1 := (E 53 (by decide)).trans (hT.val 2 rfl (hn 2 (by decide)))
                      obtain ⟨c1, c2, _, _⟩ := cell_two hI.ha
                      refine op_value (w' := wx) (v := .int .i64 u.1) rfl rfl rfl ?_ (hK 54 _ _ (by decide) ⟨hI, hT.put (by simp [tb13]) (by simp [bs13])⟩)
                      clear hK hK0 hT E HE2 H64'
                      revert e1
                      generalize a.eval = ρ
                      intro e1
                      go_simp
                    | 4, _ =>
                      have e1 := (E 54 (by decide)).trans (hT.val 3 rfl (hn 3 (by decide)))
                      refine op_value (w' := wx) (v := .bool (!z)) rfl rfl rfl ?_ (hK 55 _ _ (by decide) ⟨hI, hT.put (by simp [tb13]) (by simp [bs13])⟩)
                      have hzz : (u.1 == 0) = z := by rw [HZ.out]; rfl
                      have e2 : a.eval (.const (.int .i64 0)) = .int .i64 0 := rfl
                      clear hK hK0 hT E HE2 H64'
                      revert e1 e2
                      generalize a.eval = ρ
                      intro e1 e2
                      go_simp
                      show (!(u.1 == 0)) = !z
                      rw [hzz]
                    | 5, _ =>
                      rw [hLi] at hI
                      refine op_store (old := #[.int .i64 l1, .int .i64 l2]) (cs := #[.int .i64 v.2, .int .i64 v.1]) rfl rfl rfl rfl (by kernel_rfl) rfl (by kernel_rfl) ((E 7 (by decide)).trans (hT.rd 0 rfl)) ((E 52 (by decide)).trans (hT.val 1 rfl (hn 1 (by decide)))) hI.r.h7 (hK0 _ ⟨?_, hT.skip (by simp [tb13])⟩)
                      exact hI.set7 (v.2, v.1)
                    | 6, _ =>
                      have e1 := (E 55 (by decide)).trans (hT.val 4 rfl (hn 4 (by decide)))
                      refine op_value (w' := wx) (v := .bool (!z)) rfl rfl rfl ?_ (hK 9 _ _ (by decide) ⟨hI, hT.put (by simp [tb13]) (by simp [bs13])⟩)
                      clear hK hK0 hT E HE2 H64'
                      revert e1
                      generalize a.eval = ρ
                      intro e1
                      go_simp
                    | k + 7, h => exact absurd (show k + 7 < 7 from h) (by omega)
                  · intro L vals wx hJ hall
                    obtain ⟨hI, hT⟩ := hJ
                    rw [hall 5 (by decide)] at hI
                    simp only [overA, Act.put, List.setIfInBounds_toArray, List.set_cons_zero, List.set_cons_succ]
                    have v7 : vals 7 = .pointer (some ⟨g7, 0, none⟩) := hT.rd 0 rfl
                    have v14 : vals 14 = .pointer (some ⟨ga, 0, none⟩) := hT.rd 1 rfl
                    have v15 : vals 15 = .pointer (some ⟨gb, 0, none⟩) := hT.rd 2 rfl
                    have v9 : vals 9 = .bool (!z) := hT.val 5 rfl (hall 6 (by decide))
                    rw [v7, v14, v15, v9]
                    go_wp2_with fail
                    go_meet
                    exact ⟨rfl, Lib.hid hI⟩
                case rest =>
                  obtain ⟨rfl, HV9⟩ := hcut
                  have HG : Hid (∃ gk', gk = gk' + 1) := Lib.hid (by
                    cases gk with
                    | zero => exact absurd (by rw [HE2.out]; rfl) HNE.out
                    | succ k => exact ⟨k, rfl⟩)
                  clear HV8
                  cases z with
                  | true =>
                    have hu0 := of_decide_eq_true HZ.out.symm
                    rw [if_pos hu0] at HE2 H64'
                    clear hu0
                    go_wp2
                    obtain ⟨gk', hgk⟩ := HG.out
                    go_roundg gk'
                    case measure => omega
                    case rel =>
                      subst hgk
                      exact ⟨x1, x2, p, q, v.2, v.1, h1, h2, false, rfl, Lib.hid HV9.out.r, H64', Lib.hid HE2.out.symm⟩
                  | false =>
                    have hu0 := of_decide_eq_false HZ.out.symm
                    rw [if_neg hu0] at HE2 H64'
                    clear hu0
                    obtain ⟨c1, c2, _, _⟩ := cell_two HV9.out.ha
                    have HTV := Lib.hid (fun W => turned_any u.1 u.2 W)
                    go_wp2_with fail
                    refine (HTV.out _).mono ?_
                    rintro e w9 ⟨rfl, hb⟩
                    have HVA := Lib.hid (HV9.out.r.step hb)
                    clear hb c1 c2 HTV
                    obtain ⟨c3, c4, c5, c6⟩ := cell_two HVA.out.h8
                    have HVB := Lib.hid (HVA.out.set8 u.2 u.1)
                    go_wp2
                    obtain ⟨gk', hgk⟩ := HG.out
                    go_roundg gk'
                    case measure => omega
                    case rel =>
                      subst hgk
                      exact ⟨x1, x2, p, q, v.2, v.1, u.2, u.1, true, rfl, HVB, H64', Lib.hid HE2.out.symm⟩

end Go.Proofs.YtmgdhlcgbgpgpaaDoor

/- What rat's Between tells of any two fractions. -/
namespace Go.Proofs.YtmgdhlcgbgpgpaaDoor
open Go Go.RowKit
set_option linter.unusedVariables false
set_option linter.unusedSimpArgs false

/-- The simplest fraction between two, or the error; g: steps enough. -/
def betP (g : Nat) (a b : Int × Int) : (Int × Int) × Int :=
  if (rightR a && rightR b) = true then
    if 0 ≤ cmpP a b then ((0, 0), 2)
    else if cmpP (floorP a + 1, 1) b < 0 then ((floorP a + 1, 1), 0)
    else innerP (g + 1) 1 0 0 1 a b true
  else ((0, 0), 7)

theorem floor_small {a b : Int × Int} (ha : rightR a = true) (hb : rightR b = true) (hb1 : I64 b.1) (hc : cmpP a b < 0) : floorP a < 9223372036854775807 := by
  have pa : 0 < a.2 := right_pos (a := a.1) (b := a.2) ha
  have pb : 0 < b.2 := right_pos (a := b.1) (b := b.2) hb
  unfold cmpP at hc
  rw [if_pos (by rw [ha, hb]; rfl)] at hc
  have h1 : a.1 * b.2 - b.1 * a.2 < 0 := by
    rcases cmp_cases (a.1 * b.2 - b.1 * a.2) with ⟨h, _⟩ | ⟨_, h⟩ | ⟨_, h⟩
    · exact h
    · omega
    · omega
  unfold floorP
  rw [if_pos ha]
  rw [Int.ediv_lt_iff_lt_mul pa]
  have h2 : b.1 * a.2 ≤ 9223372036854775807 * a.2 := Int.mul_le_mul_of_nonneg_right hb1.2 (by omega)
  by_cases h3 : 0 ≤ a.1
  · have h4 : a.1 * 1 ≤ a.1 * b.2 := Int.mul_le_mul_of_nonneg_left (by omega) h3
    omega
  · omega

set_option maxRecDepth 100000 in
set_option maxHeartbeats 8000000 in
theorem between_any (a1 a2 b1 b2 : Int) (g : Nat) (ha1 : I64 a1) (ha2 : I64 a2) (hb1 : I64 b1) (hb2 : I64 b2) (hg : ¬ (betP g (a1, a2) (b1, b2)).2 = -1) (w : World) :
    Calls Tryd.prog 19 #[.agg #[.int .i64 a1, .int .i64 a2], .agg #[.int .i64 b1, .int .i64 b2]] w fun e w' => e = .returned (.tuple #[.agg #[.int .i64 (betP g (a1, a2) (b1, b2)).1.1, .int .i64 (betP g (a1, a2) (b1, b2)).1.2], .int .i64 (betP g (a1, a2) (b1, b2)).2]) ∧ Below w.heap.size w w' := by
  have HBO := Lib.hid (fun W => both_any a1 a2 b1 b2 ha1 ha2 hb1 hb2 W)
  have HCM := Lib.hid (fun W => compare_any a1 a2 b1 b2 ha1 ha2 hb1 hb2 W)
  have HFL := Lib.hid (fun W => floor_any a1 a2 ha1 ha2 W)
  have HA0 := Lib.hid (show (rightR (a1, a2) && rightR (b1, b2)) = false → betP g (a1, a2) (b1, b2) = ((0, 0), 7) from fun h => by unfold betP; rw [if_neg (by rw [h]; decide)])
  have HA1 := Lib.hid (show (rightR (a1, a2) && rightR (b1, b2)) = true → 0 ≤ cmpP (a1, a2) (b1, b2) → betP g (a1, a2) (b1, b2) = ((0, 0), 2) from fun h h2 => by unfold betP; rw [if_pos h, if_pos h2])
  have HA2 := Lib.hid (show (rightR (a1, a2) && rightR (b1, b2)) = true → ¬ 0 ≤ cmpP (a1, a2) (b1, b2) → betP g (a1, a2) (b1, b2) = if cmpP (floorP (a1, a2) + 1, 1) (b1, b2) < 0 then ((floorP (a1, a2) + 1, 1), 0) else innerP (g + 1) 1 0 0 1 (a1, a2) (b1, b2) true from fun h h2 => by unfold betP; rw [if_pos h, if_neg h2])
  have HFS := Lib.hid (fun (h : (rightR (a1, a2) && rightR (b1, b2)) = true) (h2 : ¬ 0 ≤ cmpP (a1, a2) (b1, b2)) => floor_small (Bool.and_eq_true_iff.1 h).1 (Bool.and_eq_true_iff.1 h).2 hb1 (by omega))
  have HF64 := Lib.hid (floor64 (r := (a1, a2)) ha1)
  have H0 := Lib.hid (show In64 1 0 0 1 (a1, a2) (b1, b2) from ⟨⟨by decide, by decide⟩, zero64, zero64, ⟨by decide, by decide⟩, ha1, ha2, hb1, hb2⟩)
  have HNE := Lib.hid hg
  obtain ⟨R, hR⟩ : ∃ R, R = betP g (a1, a2) (b1, b2) := ⟨_, rfl⟩
  obtain ⟨rb, hrb⟩ : ∃ rb, rb = (rightR (a1, a2) && rightR (b1, b2)) := ⟨_, rfl⟩
  obtain ⟨c, hc⟩ : ∃ c, c = cmpP (a1, a2) (b1, b2) := ⟨_, rfl⟩
  obtain ⟨n, hn⟩ : ∃ n, n = floorP (a1, a2) := ⟨_, rfl⟩
  rw [← hR] at HA0 HA1 HA2 HNE ⊢
  rw [← hrb] at HA0 HA1 HA2 HBO HFS
  rw [← hc] at HA1 HA2 HCM HFS
  rw [← hn] at HA2 HFL HFS HF64
  clear hR hrb hc hn hg
  have HW := Lib.hid (Rb.made w a1 a2 b1 b2)
  go_enter Tryd.func19, Tryd.ntmps19
  go_upto_region 1 with fail
  generalize ((w.alloc (.cells #[.int .i64 a1, .int .i64 a2] 23)).alloc (.cells #[.int .i64 b1, .int .i64 b2] 23)).alloc (.cells #[.int .i64 0, .int .i64 0] 23) = w1 at *
  obtain ⟨k1, k2, k3, k4⟩ := HW.out.four
  go_wp2_with fail
  refine (HBO.out _).mono ?_
  rintro e w2 ⟨rfl, hb⟩
  have HW2 := Lib.hid (HW.out.step hb)
  clear hb HW HBO k1 k2 k3 k4
  cases rb with
  | false =>
    obtain ⟨k7, k8, k9, k10⟩ := HW2.out.zero
    obtain ⟨t1, t2⟩ := HW2.out.told (.int .i64 0) (.int .i64 0)
    have T1 := Lib.hid t1
    have T2 := Lib.hid t2
    clear t1 t2
    go_wp2
    refine bodyPost_ret (results_row_tmp (fn := Tryd.f19) rfl _ _ (w.heap.size + 1 + 1) _ _ _ _ rfl T1.out Tryd.underlying23 rfl (by kernel_rfl)) rfl ?_
    exact ⟨by rw [HA0.out (by simp)]; rfl, T2.out⟩
  | true =>
    obtain ⟨k1, k2, k3, k4⟩ := HW2.out.four
    go_wp2_with fail
    refine (HCM.out _).mono ?_
    rintro e w3 ⟨rfl, hb⟩
    have HW3 := Lib.hid (HW2.out.step hb)
    clear hb HW2 HCM k1 k2 k3 k4
    by_cases hc : 0 ≤ c
    · have d1 : decide (0 ≤ c) = true := decide_eq_true hc
      have HE := Lib.hid (HA1.out (by simp) hc)
      obtain ⟨k7, k8, k9, k10⟩ := HW3.out.zero
      obtain ⟨t1, t2⟩ := HW3.out.told (.int .i64 0) (.int .i64 0)
      have T1 := Lib.hid t1
      have T2 := Lib.hid t2
      clear t1 t2 hc
      go_wp2
      refine bodyPost_ret (results_row_tmp (fn := Tryd.f19) rfl _ _ (w.heap.size + 1 + 1) _ _ _ _ rfl T1.out Tryd.underlying23 rfl (by kernel_rfl)) rfl ?_
      exact ⟨by rw [HE.out]; rfl, T2.out⟩
    · have d1 : decide (0 ≤ c) = false := decide_eq_false hc
      have HE := Lib.hid (HA2.out (by simp) (by omega))
      have hns := HFS.out (by simp) (by omega)
      have d2 : decide (n < 9223372036854775807) = true := decide_eq_true hns
      have kw : IntKind.i64.wrap (n + 1) = n + 1 := IntWalk.i64_in _ (by obtain ⟨_, _⟩ := HF64.out; omega)
      have HC2 := Lib.hid (fun W => compare_any (n + 1) 1 b1 b2 ⟨by obtain ⟨_, _⟩ := HF64.out; omega, by omega⟩ ⟨by decide, by decide⟩ hb1 hb2 W)
      obtain ⟨c2, hc2⟩ : ∃ c2, c2 = cmpP (n + 1, 1) (b1, b2) := ⟨_, rfl⟩
      rw [← hc2] at HC2 HE
      clear hc2 hc HFS HA0 HA1 HA2 hns
      obtain ⟨k1, k2, k3, k4⟩ := HW3.out.four
      go_wp2_with fail
      refine (HFL.out _).mono ?_
      rintro e w4 ⟨rfl, hb⟩
      have HW4 := Lib.hid (HW3.out.step hb)
      clear hb HW3 HFL k1 k2 k3 k4
      go_upto_region 8 with fail
      have HW5 := Lib.hid (HW4.out.step (below_one w4 (.cells #[.int .i64 (n + 1), .int .i64 1] 23)))
      have H7 := Lib.hid (heap_alloc_new w4 (.cells #[.int .i64 (n + 1), .int .i64 1] 23))
      generalize w4.alloc (.cells #[.int .i64 (n + 1), .int .i64 1] 23) = w5 at *
      obtain ⟨k1, k2, k3, k4⟩ := HW5.out.four
      obtain ⟨j1, j2, _, _⟩ := cell_two H7.out
      go_wp2_with fail
      refine (HC2.out _).mono ?_
      rintro e w6 ⟨rfl, hb⟩
      have HW6 := Lib.hid (HW5.out.step hb)
      have H76 := Lib.hid (heap_keep H7.out hb)
      clear hb HW5 HC2 k1 k2 k3 k4 H7 j1 j2 HW4
      by_cases h2 : c2 < 0
      · have d3 : decide (c2 < 0) = true := decide_eq_true h2
        have HE2 := Lib.hid (HE.out.trans (if_pos h2))
        obtain ⟨k7, k8, k9, k10⟩ := HW6.out.zero
        obtain ⟨j1, j2, _, _⟩ := cell_two H76.out
        obtain ⟨t1, t2⟩ := HW6.out.told (.int .i64 (n + 1)) (.int .i64 1)
        have T1 := Lib.hid t1
        have T2 := Lib.hid t2
        clear t1 t2 h2 HE
        go_wp2
        refine bodyPost_ret (results_row_tmp (fn := Tryd.f19) rfl _ _ (w.heap.size + 1 + 1) _ _ _ _ rfl T1.out Tryd.underlying23 rfl (by kernel_rfl)) rfl ?_
        exact ⟨by rw [HE2.out]; rfl, T2.out⟩
      · have d3 : decide (c2 < 0) = false := decide_eq_false h2
        have HE2 := Lib.hid (HE.out.trans (if_neg h2))
        have HIN := Lib.hid (fun W => inner_any a1 a2 b1 b2 g R H0.out HE2.out.symm HNE.out W)
        clear h2 HE HE2 H0
        obtain ⟨k1, k2, k3, k4⟩ := HW6.out.four
        go_wp2_with fail
        refine (HIN.out _).mono ?_
        rintro e w7 ⟨rfl, hb⟩
        have HW7 := Lib.hid (HW6.out.step hb)
        clear hb HW6 HIN k1 k2 k3 k4
        obtain ⟨k7, k8, k9, k10⟩ := HW7.out.zero
        obtain ⟨t1, t2⟩ := HW7.out.told (.int .i64 R.1.1) (.int .i64 R.1.2)
        have T1 := Lib.hid t1
        have T2 := Lib.hid t2
        clear t1 t2
        go_wp2
        refine bodyPost_ret (results_row_tmp (fn := Tryd.f19) rfl _ _ (w.heap.size + 1 + 1) _ _ _ _ rfl T1.out Tryd.underlying23 rfl (by kernel_rfl)) rfl ?_
        exact ⟨rfl, T2.out⟩

end Go.Proofs.YtmgdhlcgbgpgpaaDoor

/- A fraction as a text, as rat prints it. -/
namespace Go.Proofs.YtmgdhlcgbgpgpaaDoor
open Go Go.RowKit
set_option linter.unusedVariables false
set_option linter.unusedSimpArgs false

/-- The library's table of powers of ten lies as its package laid it. -/
def TabQ (w : World) : Prop := Lib.TabIs Tryd.prog w "internal/strconv.uint64pow10" .u64 Lib.pow10Tab
theorem TabQ.below {w w' : World} (h : TabQ w) (hb : Below w.heap.size w w') : TabQ w' := Lib.tabBelow_of_tabIs h w' hb
/-- A fraction's text. -/
def printR (r : Int × Int) : List UInt8 := if rightR r = true then (if r.2 = 1 then Lib.itoa r.1 else Lib.itoa r.1 ++ 47 :: Lib.itoa r.2) else []

set_option maxRecDepth 100000 in
set_option maxHeartbeats 1000000 in
theorem fmt_any (n : Int) (h : I64 n) (w : World) (ht : TabQ w) : Calls Tryd.prog 70 #[.int .i64 n, .int .i64 10] w fun e w' => e = .returned (.string ⟨(Lib.itoa n).toArray⟩) ∧ Below w.heap.size w w' :=
  (Tryd.strconv_FormatInt_10 n h.1 h.2 w ht).mono fun e w' ⟨h, k, os, hw⟩ => ⟨h, by rw [hw]; exact Lib.below_grow _ w (Nat.le_refl _) k os⟩

theorem bytes_add (a b : List UInt8) : (⟨a.toArray⟩ : ByteArray) ++ ⟨b.toArray⟩ = ⟨(a ++ b).toArray⟩ := ByteArray.ext (by simp [ByteArray.data_append])

/-- A fraction in a block, and the table. -/
structure Pq (w0 : World) (x y : Int) (wr : World) : Prop where
  below : Below w0.heap.size w0 wr
  ha : wr.heap[w0.heap.size]? = some (.cells #[.int .i64 x, .int .i64 y] 23)
  tab : TabQ wr
section
variable {w0 wr w' : World} {x y : Int}
theorem Pq.step (h : Pq w0 x y wr) (hb : Below wr.heap.size wr w') : Pq w0 x y w' := ⟨h.below.trans (hb.mono h.below.size), heap_keep h.ha hb, h.tab.below hb⟩
theorem Pq.drew (h : Pq w0 x y wr) : Pq w0 x y wr.drew := h.step (Below.drew (Below.refl _ _))
end
def tb5 (g : Nat) (x y : Int) : List (Nat × Nat × Value) :=
  [(0, 14, .pointer (some ⟨g, 0, none⟩)), (1, 15, .int .i64 x), (2, 16, .string ⟨(Lib.itoa x).toArray⟩), (3, 17, .string ⟨(Lib.itoa x ++ [47]).toArray⟩), (4, 18, .pointer (some ⟨g, 1, none⟩)), (5, 19, .int .i64 y), (6, 20, .string ⟨(Lib.itoa y).toArray⟩), (7, 21, .string ⟨(Lib.itoa x ++ 47 :: Lib.itoa y).toArray⟩), (8, 2, .string ⟨(Lib.itoa x ++ 47 :: Lib.itoa y).toArray⟩)]
def bs5 (g : Nat) : List (Nat × Value) := [(1, .pointer (some ⟨g, 0, none⟩))]

set_option maxRecDepth 100000 in
set_option maxHeartbeats 4000000 in
theorem rprint_any (x y : Int) (hx : I64 x) (hy : I64 y) (w : World) (ht : TabQ w) : Calls Tryd.prog 44 #[.agg #[.int .i64 x, .int .i64 y]] w fun e w' => e = .returned (.string ⟨(printR (x, y)).toArray⟩) ∧ Below w.heap.size w w' := by
  have HR := Lib.hid (fun W => right_any x y hx hy W)
  have HFX := Lib.hid (fun W => fmt_any x hx W)
  have HFY := Lib.hid (fun W => fmt_any y hy W)
  have hlx := Lib.hid (Lib.itoa_length_le x hx.1 hx.2)
  have hly := Lib.hid (Lib.itoa_length_le y hy.1 hy.2)
  have HA1 := Lib.hid (show rightR (x, y) = true → printR (x, y) = if y = 1 then Lib.itoa x else Lib.itoa x ++ 47 :: Lib.itoa y from fun h => by unfold printR; rw [if_pos h])
  have HA0 := Lib.hid (show rightR (x, y) = false → printR (x, y) = [] from fun h => by unfold printR; rw [if_neg (by rw [h]; decide)])
  obtain ⟨T, hT⟩ : ∃ T, T = printR (x, y) := ⟨_, rfl⟩
  obtain ⟨rb, hrb⟩ : ∃ rb, rb = rightR (x, y) := ⟨_, rfl⟩
  rw [← hT] at HA1 HA0 ⊢
  rw [← hrb] at HA1 HA0 HR
  have HW : Hid (Pq w x y (w.alloc (.cells #[.int .i64 x, .int .i64 y] 23))) := Lib.hid ⟨below_one _ _, heap_alloc_new _ _, ht.below (below_one _ _)⟩
  clear hT hrb ht
  go_enter Tryd.func44, Tryd.ntmps44
  go_upto_region 1 with fail
  generalize w.alloc (.cells #[.int .i64 x, .int .i64 y] 23) = w1 at *
  obtain ⟨k1, k2, _, _⟩ := cell_two HW.out.ha
  go_wp2_with fail
  refine (HR.out _).mono ?_
  rintro e w2 ⟨rfl, hb⟩
  have HW2 := Lib.hid (HW.out.step hb)
  clear hb HW k1 k2 HR
  cases rb with
  | false =>
    have HE := Lib.hid (HA0.out (by simp))
    clear HA0 HA1
    go_wp2
    go_ret
    exact ⟨by rw [HE.out]; rfl, HW2.out.below⟩
  | true =>
    have HE := Lib.hid (HA1.out (by simp))
    clear HA0 HA1
    obtain ⟨k1, k2, _, _⟩ := cell_two HW2.out.ha
    by_cases h1 : y = 1
    · have HE2 := Lib.hid (HE.out.trans (if_pos h1))
      subst h1
      clear HE
      go_wp2_with fail
      refine (HFX.out _ HW2.out.tab).mono ?_
      rintro e w3 ⟨rfl, hb⟩
      have HW3 := Lib.hid (HW2.out.step hb)
      clear hb
      go_wp2
      go_ret
      exact ⟨by rw [HE2.out]; rfl, HW3.out.below⟩
    · have HE2 := Lib.hid (HE.out.trans (if_neg h1))
      have d1 : (y == 1) = false := by simp [h1]
      clear HE h1
      go_upto_region 5 with fail
      refine wp_region_tab (by kernel_rfl) [1, 14, 15, 16, 17, 18, 19, 20, 21, 2] [[], [0], [1], [2], [], [4], [5, 2], [3, 6], [7]]
        (fun L vals wx => Pq w x y wx ∧ TabR (tb5 w.heap.size x y) (bs5 w.heap.size) L vals) (by kernel_rfl) rfl ?_ ?_ ?_
      · exact ⟨HW2.out.drew, TabR.start (by simp [bs5])⟩
      · intro i hi a L vals wx E hJ hLi hn K hK hK0
        obtain ⟨hI, hT⟩ := hJ
        match i, hi with
        | 0, _ =>
          have e1 := (E 1 (by decide)).trans (hT.rd 0 rfl)
          refine op_value (w' := wx) (v := .pointer (some ⟨w.heap.size, 0, none⟩)) rfl rfl rfl ?_ (hK 14 _ _ (by decide) ⟨hI, hT.put (by simp [tb5]) (by simp [bs5])⟩)
          clear hK hK0 hT E
          revert e1
          generalize a.eval = ρ
          intro e1
          go_simp
        | 1, _ =>
          have e1 := (E 14 (by decide)).trans (hT.val 0 rfl (hn 0 (by decide)))
          obtain ⟨c1, c2, _, _⟩ := cell_two hI.ha
          refine op_value (w' := wx) (v := .int .i64 x) rfl rfl rfl ?_ (hK 15 _ _ (by decide) ⟨hI, hT.put (by simp [tb5]) (by simp [bs5])⟩)
          clear hK hK0 hT E
          revert e1
          generalize a.eval = ρ
          intro e1
          go_simp
        | 2, _ =>
          have e1 := (E 15 (by decide)).trans (hT.val 1 rfl (hn 1 (by decide)))
          have e2 : a.eval (.const (.int .i64 10)) = .int .i64 10 := rfl
          exact op_go rfl rfl rfl rfl Tryd.func70 (by kernel_rfl) rfl (by simp only [List.map_toArray, List.map_cons, List.map_nil, e1, e2]) (HFX.out _ hI.tab) (fun w' hb => hK 16 _ _ (by decide) ⟨hI.step hb, hT.put (by simp [tb5]) (by simp [bs5])⟩)
        | 3, _ =>
          have e1 := (E 16 (by decide)).trans (hT.val 2 rfl (hn 2 (by decide)))
          have e2 : a.eval (.const (.string ⟨#[47]⟩)) = .string ⟨#[47]⟩ := rfl
          refine op_value (w' := wx) (v := .string ⟨(Lib.itoa x ++ [47]).toArray⟩) rfl rfl rfl ?_ (hK 17 _ _ (by decide) ⟨hI, hT.put (by simp [tb5]) (by simp [bs5])⟩)
          have l1 := hlx.out
          have l2 : ¬ (9223372036854775807 < (Lib.itoa x).length + 1) := by omega
          clear hK hK0 hT E
          revert e1 e2
          generalize a.eval = ρ
          intro e1 e2
          go_simp
          exact bytes_add (Lib.itoa x) [47]
        | 4, _ =>
          have e1 := (E 1 (by decide)).trans (hT.rd 0 rfl)
          refine op_value (w' := wx) (v := .pointer (some ⟨w.heap.size, 1, none⟩)) rfl rfl rfl ?_ (hK 18 _ _ (by decide) ⟨hI, hT.put (by simp [tb5]) (by simp [bs5])⟩)
          clear hK hK0 hT E
          revert e1
          generalize a.eval = ρ
          intro e1
          go_simp
        | 5, _ =>
          have e1 := (E 18 (by decide)).trans (hT.val 4 rfl (hn 4 (by decide)))
          obtain ⟨c1, c2, _, _⟩ := cell_two hI.ha
          refine op_value (w' := wx) (v := .int .i64 y) rfl rfl rfl ?_ (hK 19 _ _ (by decide) ⟨hI, hT.put (by simp [tb5]) (by simp [bs5])⟩)
          clear hK hK0 hT E
          revert e1
          generalize a.eval = ρ
          intro e1
          go_simp
        | 6, _ =>
          have e1 := (E 19 (by decide)).trans (hT.val 5 rfl (hn 5 (by decide)))
          have e2 : a.eval (.const (.int .i64 10)) = .int .i64 10 := rfl
          exact op_go rfl rfl rfl rfl Tryd.func70 (by kernel_rfl) rfl (by simp only [List.map_toArray, List.map_cons, List.map_nil, e1, e2]) (HFY.out _ hI.tab) (fun w' hb => hK 20 _ _ (by decide) ⟨hI.step hb, hT.put (by simp [tb5]) (by simp [bs5])⟩)
        | 7, _ =>
          have e1 := (E 17 (by decide)).trans (hT.val 3 rfl (hn 3 (by decide)))
          have e2 := (E 20 (by decide)).trans (hT.val 6 rfl (hn 6 (by decide)))
          refine op_value (w' := wx) (v := .string ⟨(Lib.itoa x ++ 47 :: Lib.itoa y).toArray⟩) rfl rfl rfl ?_ (hK 21 _ _ (by decide) ⟨hI, hT.put (by simp [tb5]) (by simp [bs5])⟩)
          have l1 := hlx.out
          have l2 := hly.out
          have l3 : ¬ (9223372036854775807 < (Lib.itoa x).length + 1 + (Lib.itoa y).length) := by omega
          clear hK hK0 hT E
          revert e1 e2
          generalize a.eval = ρ
          intro e1 e2
          go_simp
          rw [bytes_add, List.append_assoc]
          rfl
        | 8, _ =>
          have e1 := (E 21 (by decide)).trans (hT.val 7 rfl (hn 7 (by decide)))
          refine op_value (w' := wx) (v := .string ⟨(Lib.itoa x ++ 47 :: Lib.itoa y).toArray⟩) rfl rfl rfl ?_ (hK 2 _ _ (by decide) ⟨hI, hT.put (by simp [tb5]) (by simp [bs5])⟩)
          clear hK hK0 hT E
          revert e1
          generalize a.eval = ρ
          intro e1
          go_simp
        | k + 9, h => exact absurd (show k + 9 < 9 from h) (by omega)
      · intro L vals wx hJ hall
        obtain ⟨hI, hT⟩ := hJ
        have HI := Lib.hid hI
        have v2 : vals 2 = .string ⟨(Lib.itoa x ++ 47 :: Lib.itoa y).toArray⟩ := hT.val 8 rfl (hall 8 (by decide))
        simp only [overA, Act.put, List.setIfInBounds_toArray, List.set_cons_zero, List.set_cons_succ]
        rw [v2]
        clear hI hT hall v2
        go_wp2
        go_ret
        exact ⟨by rw [HE2.out]; rfl, HI.out.below⟩

end Go.Proofs.YtmgdhlcgbgpgpaaDoor

/- What is so whatever is asked of rat. -/
namespace Go.Proofs.YtmgdhlcgbgpgpaaDoor
open Go Go.RowKit
set_option linter.unusedVariables false
set_option linter.unusedSimpArgs false

theorem i64_of {x : Int} (h : decide (-9223372036854775808 ≤ x ∧ x ≤ 9223372036854775807) = true) : I64 x := of_decide_eq_true (p := -9223372036854775808 ≤ x ∧ x ≤ 9223372036854775807) h

set_option maxRecDepth 100000 in
set_option maxHeartbeats 4000000 in
theorem live02_any (w : World) (ht : TabQ w) : Calls Tryd.prog 14 #[] w fun e w' => e = .returned (.bool true) ∧ Below w.heap.size w w' := by
  have HN : Hid (∀ W, Calls Tryd.prog 12 #[.int .i64 6, .int .i64 (-4)] W fun e w' => e = .returned (.tuple #[.agg #[.int .i64 (-3), .int .i64 2], .int .i64 0]) ∧ Below W.heap.size W w') := Lib.hid (fun W => by
    have h := new_any 6 (-4) (i64_of (by decide)) (i64_of (by decide)) W
    rw [show newP 6 (-4) = ((-3, 2), 0) by decide +kernel] at h; exact h)
  have HA : Hid (∀ W, Calls Tryd.prog 24 #[.agg #[.int .i64 (-3), .int .i64 2], .agg #[.int .i64 5, .int .i64 1]] W fun e w' => e = .returned (.tuple #[.agg #[.int .i64 7, .int .i64 2], .int .i64 0]) ∧ Below W.heap.size W w') := Lib.hid (fun W => by
    have h := add_any (-3) 2 5 1 (i64_of (by decide)) (i64_of (by decide)) (i64_of (by decide)) (i64_of (by decide)) W
    rw [show addP (-3, 2) (5, 1) = ((7, 2), 0) by decide +kernel] at h; exact h)
  have HM : Hid (∀ W, Calls Tryd.prog 12 #[.int .i64 5, .int .i64 0] W fun e w' => e = .returned (.tuple #[.agg #[.int .i64 0, .int .i64 0], .int .i64 21]) ∧ Below W.heap.size W w') := Lib.hid (fun W => by
    have h := new_any 5 0 (i64_of (by decide)) (i64_of (by decide)) W
    rw [show newP 5 0 = ((0, 0), 21) by decide +kernel] at h; exact h)
  have HB : Hid (∀ W, Calls Tryd.prog 19 #[.agg #[.int .i64 1, .int .i64 3], .agg #[.int .i64 1, .int .i64 2]] W fun e w' => e = .returned (.tuple #[.agg #[.int .i64 2, .int .i64 5], .int .i64 0]) ∧ Below W.heap.size W w') := Lib.hid (fun W => by
    have e1 : betP 2 (1, 3) (1, 2) = ((2, 5), 0) := by decide +kernel
    have h := between_any 1 3 1 2 2 (i64_of (by decide)) (i64_of (by decide)) (i64_of (by decide)) (i64_of (by decide)) (by rw [e1]; decide) W
    rw [e1] at h; exact h)
  have HP : Hid (∀ W, TabQ W → Calls Tryd.prog 44 #[.agg #[.int .i64 (-3), .int .i64 2]] W fun e w' => e = .returned (.string ⟨#[45, 51, 47, 50]⟩) ∧ Below W.heap.size W w') := Lib.hid (fun W hW => by
    have h := rprint_any (-3) 2 (i64_of (by decide)) (i64_of (by decide)) W hW
    rw [show printR (-3, 2) = [45, 51, 47, 50] by decide +kernel] at h; exact h)
  have HT := Lib.hid ht
  clear ht
  go_enter Tryd.func14, Tryd.ntmps14
  go_wp2_with fail
  refine (HN.out _).mono ?_
  rintro e w1 ⟨rfl, hb⟩
  have B1 := Lib.hid hb
  clear hb
  go_upto_region 2 with fail
  have B2 := Lib.hid (B1.out.trans ((below_one w1 (.cells #[.int .i64 (-3), .int .i64 2] 23)).mono B1.out.size))
  have H1 := Lib.hid (heap_alloc_new w1 (.cells #[.int .i64 (-3), .int .i64 2] 23))
  generalize w1.alloc (.cells #[.int .i64 (-3), .int .i64 2] 23) = w2 at *
  generalize w1.heap.size = g1 at *
  clear B1
  obtain ⟨c1, c2, _, _⟩ := cell_two H1.out
  go_wp2_with fail
  refine (HA.out _).mono ?_
  rintro e w3 ⟨rfl, hb⟩
  have B3 := Lib.hid (B2.out.trans (hb.mono B2.out.size))
  have H1 := Lib.hid (heap_keep H1.out hb)
  clear hb B2 c1 c2
  go_upto_region 3 with fail
  have B4 := Lib.hid (B3.out.trans ((below_one w3 (.cells #[.int .i64 7, .int .i64 2] 23)).mono B3.out.size))
  have H2 := Lib.hid (heap_alloc_new w3 (.cells #[.int .i64 7, .int .i64 2] 23))
  have H1 := Lib.hid (heap_keep H1.out (below_one w3 (.cells #[.int .i64 7, .int .i64 2] 23)))
  generalize w3.alloc (.cells #[.int .i64 7, .int .i64 2] 23) = w4 at *
  generalize w3.heap.size = g2 at *
  clear B3
  go_wp2_with fail
  refine (HM.out _).mono ?_
  rintro e w5 ⟨rfl, hb⟩
  have B5 := Lib.hid (B4.out.trans (hb.mono B4.out.size))
  have H1 := Lib.hid (heap_keep H1.out hb)
  have H2 := Lib.hid (heap_keep H2.out hb)
  clear hb B4
  go_upto_region 4 with fail
  have B6 := Lib.hid (B5.out.trans ((below_one w5 (.cells #[.int .i64 0, .int .i64 0] 23)).mono B5.out.size))
  have H1 := Lib.hid (heap_keep H1.out (below_one w5 (.cells #[.int .i64 0, .int .i64 0] 23)))
  have H2 := Lib.hid (heap_keep H2.out (below_one w5 (.cells #[.int .i64 0, .int .i64 0] 23)))
  generalize w5.alloc (.cells #[.int .i64 0, .int .i64 0] 23) = w6 at *
  clear B5
  go_wp2_with fail
  refine (HB.out _).mono ?_
  rintro e w7 ⟨rfl, hb⟩
  have B7 := Lib.hid (B6.out.trans (hb.mono B6.out.size))
  have H1 := Lib.hid (heap_keep H1.out hb)
  have H2 := Lib.hid (heap_keep H2.out hb)
  clear hb B6
  go_upto_region 5 with fail
  have B8 := Lib.hid (B7.out.trans ((below_one w7 (.cells #[.int .i64 2, .int .i64 5] 23)).mono B7.out.size))
  have H1 := Lib.hid (heap_keep H1.out (below_one w7 (.cells #[.int .i64 2, .int .i64 5] 23)))
  have H2 := Lib.hid (heap_keep H2.out (below_one w7 (.cells #[.int .i64 2, .int .i64 5] 23)))
  have H3 := Lib.hid (heap_alloc_new w7 (.cells #[.int .i64 2, .int .i64 5] 23))
  generalize w7.alloc (.cells #[.int .i64 2, .int .i64 5] 23) = w8 at *
  generalize w7.heap.size = g3 at *
  clear B7
  obtain ⟨c1, c2, _, _⟩ := cell_two H1.out
  obtain ⟨c3, c4, _, _⟩ := cell_two H2.out
  obtain ⟨c5, c6, _, _⟩ := cell_two H3.out
  go_wp2_with fail
  refine (HP.out _ (HT.out.below B8.out)).mono ?_
  rintro e w9 ⟨rfl, hb⟩
  have B9 := Lib.hid (B8.out.trans (hb.mono B8.out.size))
  clear hb B8 c1 c2 c3 c4 c5 c6 H1 H2 H3
  go_wp2
  go_ret
  exact ⟨rfl, B9.out⟩

end Go.Proofs.YtmgdhlcgbgpgpaaDoor

/- Fractions in blocks, and the library's table: what a law of rat keeps. -/
namespace Go.Proofs.YtmgdhlcgbgpgpaaDoor
open Go Go.RowKit
set_option linter.unusedVariables false
set_option linter.unusedSimpArgs false

structure RtL (w0 : World) (L : List (Nat × Int × Int)) (wr : World) : Prop where
  below : Below w0.heap.size w0 wr
  l : ∀ t ∈ L, wr.heap[t.1]? = some (.cells #[.int .i64 t.2.1, .int .i64 t.2.2] 23)
  tab : TabQ wr
section
variable {w0 wr w' : World} {L : List (Nat × Int × Int)}
theorem RtL.start (h : TabQ w0) : RtL w0 [] w0 := ⟨Below.refl _ _, (fun _ h => by cases h), h⟩
theorem RtL.step (h : RtL w0 L wr) (hb : Below wr.heap.size wr w') : RtL w0 L w' := ⟨h.below.trans (hb.mono h.below.size), fun t ht => heap_keep (h.l t ht) hb, h.tab.below hb⟩
theorem RtL.drew (h : RtL w0 L wr) : RtL w0 L wr.drew := h.step (Below.drew (Below.refl _ _))
theorem RtL.new (h : RtL w0 L wr) (x y : Int) : RtL w0 (L ++ [(wr.heap.size, x, y)]) (wr.alloc (.cells #[.int .i64 x, .int .i64 y] 23)) := by
  have h2 := h.step (below_one wr (.cells #[.int .i64 x, .int .i64 y] 23))
  refine ⟨h2.below, fun t ht => ?_, h2.tab⟩
  rcases List.mem_append.1 ht with ht | ht
  · exact h2.l t ht
  · obtain rfl := List.mem_singleton.1 ht
    exact heap_alloc_new _ _
theorem RtL.cells (h : RtL w0 L wr) (j : Nat) {t : Nat × Int × Int} (ht : L[j]? = some t) : wr.cell? ⟨t.1, 0, none⟩ = some (.int .i64 t.2.1) ∧ wr.cell? ⟨t.1, 1, none⟩ = some (.int .i64 t.2.2) := by
  obtain ⟨a, b, _, _⟩ := cell_two (h.l t (List.mem_of_getElem? ht))
  exact ⟨a, b⟩
theorem RtL.one (h : RtL w0 [] w0) (x y : Int) : RtL w0 [(w0.heap.size, x, y)] (w0.alloc (.cells #[.int .i64 x, .int .i64 y] 23)) := h.new x y
theorem RtL.two (h : RtL w0 [] w0) (x y u v : Int) : RtL w0 [(w0.heap.size, x, y), (w0.heap.size + 1, u, v)] ((w0.alloc (.cells #[.int .i64 x, .int .i64 y] 23)).alloc (.cells #[.int .i64 u, .int .i64 v] 23)) := by
  have := (h.one x y).new u v
  rw [show (w0.alloc (.cells #[.int .i64 x, .int .i64 y] 23)).heap.size = w0.heap.size + 1 by simp] at this
  exact this
theorem RtL.three (h : RtL w0 [] w0) (x y u v p q : Int) : RtL w0 [(w0.heap.size, x, y), (w0.heap.size + 1, u, v), (w0.heap.size + 1 + 1, p, q)] (((w0.alloc (.cells #[.int .i64 x, .int .i64 y] 23)).alloc (.cells #[.int .i64 u, .int .i64 v] 23)).alloc (.cells #[.int .i64 p, .int .i64 q] 23)) := by
  have := (h.two x y u v).new p q
  rw [show ((w0.alloc (.cells #[.int .i64 x, .int .i64 y] 23)).alloc (.cells #[.int .i64 u, .int .i64 v] 23)).heap.size = w0.heap.size + 1 + 1 by simp] at this
  exact this
end
theorem addP64 (a b : Int × Int) : I64 (addP a b).1.1 ∧ I64 (addP a b).1.2 := by
  unfold addP
  split
  · exact frac64 _ _
  · exact ⟨zero64, zero64⟩
theorem mulP64 (a b : Int × Int) : I64 (mulP a b).1.1 ∧ I64 (mulP a b).1.2 := by
  unfold mulP
  split
  · exact frac64 _ _
  · exact ⟨zero64, zero64⟩
theorem divP64 (a b : Int × Int) : I64 (divP a b).1.1 ∧ I64 (divP a b).1.2 := by
  unfold divP
  split
  · split
    · exact ⟨zero64, zero64⟩
    · exact frac64 _ _
  · exact ⟨zero64, zero64⟩
theorem fits_of {x : Int} (h : I64 x) : fitsI x = true := decide_eq_true (p := -9223372036854775808 ≤ x ∧ x ≤ 9223372036854775807) h

end Go.Proofs.YtmgdhlcgbgpgpaaDoor

/- RatTurns: sums and products do not hang on the order; what is added and taken off is what was there. -/
namespace Go.Proofs.YtmgdhlcgbgpgpaaDoor
open Go Go.RowKit
set_option linter.unusedVariables false
set_option linter.unusedSimpArgs false

set_option maxRecDepth 100000 in
set_option maxHeartbeats 8000000 in
theorem turns_any (x1 x2 y1 y2 : Int) (w : World) (hx1 : I64 x1) (hx2 : I64 x2) (hy1 : I64 y1) (hy2 : I64 y2) (ht : TabQ w) :
    Calls Tryd.prog 8 #[.agg #[.int .i64 x1, .int .i64 x2], .agg #[.int .i64 y1, .int .i64 y2]] w fun e w' => e = .returned (.bool true) ∧ Below w.heap.size w w' := by
  obtain ⟨⟨⟨s1, s2⟩, es⟩, hS⟩ : ∃ q, q = addP (x1, x2) (y1, y2) := ⟨_, rfl⟩
  obtain ⟨⟨⟨p1, p2⟩, ep⟩, hP⟩ : ∃ q, q = mulP (x1, x2) (y1, y2) := ⟨_, rfl⟩
  obtain ⟨s64, s64'⟩ := addP64 (x1, x2) (y1, y2)
  obtain ⟨p64, p64'⟩ := mulP64 (x1, x2) (y1, y2)
  have F1 := Lib.hid (fun (h : es = 0) => sub_back (a := (x1, x2)) (b := (y1, y2)) ⟨fits_of hx1, hx2.2⟩ (by rw [← hS]; exact h))
  have F2 := Lib.hid (fun (h : ep = 0) (h0 : y1 ≠ 0) => div_back (a := (x1, x2)) (b := (y1, y2)) ⟨fits_of hx1, hx2.2⟩ h0 (by rw [← hP]; exact h))
  rw [← hS] at s64 s64' F1
  rw [← hP] at p64 p64' F2
  have HA1 : Hid (∀ W, Calls Tryd.prog 24 #[.agg #[.int .i64 x1, .int .i64 x2], .agg #[.int .i64 y1, .int .i64 y2]] W fun e w' => e = .returned (.tuple #[.agg #[.int .i64 s1, .int .i64 s2], .int .i64 es]) ∧ Below W.heap.size W w') := Lib.hid (fun W => by have h := add_any x1 x2 y1 y2 hx1 hx2 hy1 hy2 W; rw [← hS] at h; exact h)
  have HA2 : Hid (∀ W, Calls Tryd.prog 24 #[.agg #[.int .i64 y1, .int .i64 y2], .agg #[.int .i64 x1, .int .i64 x2]] W fun e w' => e = .returned (.tuple #[.agg #[.int .i64 s1, .int .i64 s2], .int .i64 es]) ∧ Below W.heap.size W w') := Lib.hid (fun W => by have h := add_any y1 y2 x1 x2 hy1 hy2 hx1 hx2 W; rw [add_comm, ← hS] at h; exact h)
  have HM1 : Hid (∀ W, Calls Tryd.prog 29 #[.agg #[.int .i64 x1, .int .i64 x2], .agg #[.int .i64 y1, .int .i64 y2]] W fun e w' => e = .returned (.tuple #[.agg #[.int .i64 p1, .int .i64 p2], .int .i64 ep]) ∧ Below W.heap.size W w') := Lib.hid (fun W => by have h := mul_any x1 x2 y1 y2 hx1 hx2 hy1 hy2 W; rw [← hP] at h; exact h)
  have HM2 : Hid (∀ W, Calls Tryd.prog 29 #[.agg #[.int .i64 y1, .int .i64 y2], .agg #[.int .i64 x1, .int .i64 x2]] W fun e w' => e = .returned (.tuple #[.agg #[.int .i64 p1, .int .i64 p2], .int .i64 ep]) ∧ Below W.heap.size W w') := Lib.hid (fun W => by have h := mul_any y1 y2 x1 x2 hy1 hy2 hx1 hx2 W; rw [mul_comm, ← hP] at h; exact h)
  have HS : es = 0 → Hid (∀ W, Calls Tryd.prog 22 #[.agg #[.int .i64 s1, .int .i64 s2], .agg #[.int .i64 y1, .int .i64 y2]] W fun e w' => e = .returned (.tuple #[.agg #[.int .i64 x1, .int .i64 x2], .int .i64 0]) ∧ Below W.heap.size W w') := fun he => Lib.hid (fun W => by have h := sub_any s1 s2 y1 y2 s64 s64' hy1 hy2 W; rw [F1.out he] at h; exact h)
  have HD : ep = 0 → y1 ≠ 0 → Hid (∀ W, Calls Tryd.prog 31 #[.agg #[.int .i64 p1, .int .i64 p2], .agg #[.int .i64 y1, .int .i64 y2]] W fun e w' => e = .returned (.tuple #[.agg #[.int .i64 x1, .int .i64 x2], .int .i64 0]) ∧ Below W.heap.size W w') := fun he h0 => Lib.hid (fun W => by have h := div_any p1 p2 y1 y2 p64 p64' hy1 hy2 W; rw [F2.out he h0] at h; exact h)
  have HS := Lib.hid HS
  have HD := Lib.hid HD
  have K := Lib.hid ((RtL.start ht).two x1 x2 y1 y2)
  clear hS hP s64 s64' p64 p64' F1 F2 hx1 hx2 hy1 hy2 ht
  go_enter Tryd.func8, Tryd.ntmps8
  go_upto_region 1 with fail
  generalize (w.alloc (.cells #[.int .i64 x1, .int .i64 x2] 23)).alloc (.cells #[.int .i64 y1, .int .i64 y2] 23) = w1 at *
  obtain ⟨a0, b0⟩ := K.out.cells 0 rfl
  obtain ⟨a1, b1⟩ := K.out.cells 1 rfl
  go_wp2_with fail
  refine (HA1.out _).mono ?_
  rintro e w2 ⟨rfl, hb⟩
  replace K := Lib.hid (K.out.step hb)
  clear hb a0 b0 a1 b1 HA1
  go_upto_region 2 with fail
  replace K := Lib.hid (K.out.new s1 s2)
  generalize w2.alloc (.cells #[.int .i64 s1, .int .i64 s2] 23) = w3 at *
  generalize w2.heap.size = g5 at *
  simp only [List.cons_append, List.nil_append] at K
  obtain ⟨a0, b0⟩ := K.out.cells 0 rfl
  obtain ⟨a1, b1⟩ := K.out.cells 1 rfl
  go_wp2_with fail
  refine (HA2.out _).mono ?_
  rintro e w4 ⟨rfl, hb⟩
  replace K := Lib.hid (K.out.step hb)
  clear hb a0 b0 a1 b1 HA2
  go_upto_region 3 with fail
  replace K := Lib.hid (K.out.new s1 s2)
  generalize w4.alloc (.cells #[.int .i64 s1, .int .i64 s2] 23) = w5 at *
  generalize w4.heap.size = g7 at *
  simp only [List.cons_append, List.nil_append] at K
  obtain ⟨a0, b0⟩ := K.out.cells 0 rfl
  obtain ⟨a1, b1⟩ := K.out.cells 1 rfl
  go_wp2_with fail
  refine (HM1.out _).mono ?_
  rintro e w6 ⟨rfl, hb⟩
  replace K := Lib.hid (K.out.step hb)
  clear hb a0 b0 a1 b1 HM1
  go_upto_region 4 with fail
  replace K := Lib.hid (K.out.new p1 p2)
  generalize w6.alloc (.cells #[.int .i64 p1, .int .i64 p2] 23) = w7 at *
  generalize w6.heap.size = g9 at *
  simp only [List.cons_append, List.nil_append] at K
  obtain ⟨a0, b0⟩ := K.out.cells 0 rfl
  obtain ⟨a1, b1⟩ := K.out.cells 1 rfl
  go_wp2_with fail
  refine (HM2.out _).mono ?_
  rintro e w8 ⟨rfl, hb⟩
  replace K := Lib.hid (K.out.step hb)
  clear hb a0 b0 a1 b1 HM2
  go_upto_region 5 with fail
  replace K := Lib.hid (K.out.new p1 p2)
  generalize w8.alloc (.cells #[.int .i64 p1, .int .i64 p2] 23) = w9 at *
  generalize w8.heap.size = g11 at *
  simp only [List.cons_append, List.nil_append] at K
  go_wp2_with fail
  refine (live02_any _ K.out.tab).mono ?_
  rintro e wl ⟨rfl, hb⟩
  replace K := Lib.hid (K.out.step hb)
  clear hb
  obtain ⟨a2, b2⟩ := K.out.cells 2 rfl
  obtain ⟨a3, b3⟩ := K.out.cells 3 rfl
  obtain ⟨a4, b4⟩ := K.out.cells 4 rfl
  obtain ⟨a5, b5⟩ := K.out.cells 5 rfl
  go_upto_if 64 with fail
  clear a2 b2 a3 b3 a4 b4 a5 b5
  go_cut [] (fun wx => Hid (RtL w [(w.heap.size, x1, x2), (w.heap.size + 1, y1, y2), (g5, s1, s2), (g7, s1, s2), (g9, p1, p2), (g11, p1, p2)] wx))
  case first =>
    by_cases he : es = 0
    · have d1 : (es == 0) = true := by simp [he]
      have HS1 := HS.out he
      clear he
      obtain ⟨a2, b2⟩ := K.out.cells 2 rfl
      obtain ⟨a1, b1⟩ := K.out.cells 1 rfl
      go_wp2_with fail
      refine (HS1.out _).mono ?_
      rintro e w10 ⟨rfl, hb⟩
      replace K := Lib.hid (K.out.step hb)
      clear hb a2 b2 a1 b1 HS1
      go_upto_region 9 with fail
      replace K := Lib.hid (K.out.new x1 x2)
      generalize w10.alloc (.cells #[.int .i64 x1, .int .i64 x2] 23) = w11 at *
      generalize w10.heap.size = g13 at *
      simp only [List.cons_append, List.nil_append] at K
      obtain ⟨a0, b0⟩ := K.out.cells 0 rfl
      obtain ⟨a6, b6⟩ := K.out.cells 6 rfl
      go_wp2_with fail
      go_meet
      exact Lib.hid ⟨K.out.below, fun t ht => K.out.l t (by simp at ht ⊢; rcases ht with h | h | h | h | h | h <;> simp [h]), K.out.tab⟩
    · have d1 : (es == 0) = false := by simp [he]
      clear he
      go_wp2_with fail
      go_meet
      exact K
  case rest =>
    clear K
    have K := hcut
    clear hcut
    obtain ⟨a1, b1⟩ := K.out.cells 1 rfl
    by_cases he : ep = 0
    · have d1 : (ep == 0) = true := by simp [he]
      by_cases h0 : y1 = 0
      · subst h0
        clear he
        go_wp2
        go_ret
        exact ⟨rfl, K.out.below⟩
      · have d2 : (y1 == 0) = false := by simp [h0]
        have HD1 := HD.out he h0
        go_upto_region 12 with fail
        clear a1 b1
        obtain ⟨a4, b4⟩ := K.out.cells 4 rfl
        obtain ⟨a1, b1⟩ := K.out.cells 1 rfl
        go_wp2_with fail
        refine (HD1.out _).mono ?_
        rintro e w12 ⟨rfl, hb⟩
        replace K := Lib.hid (K.out.step hb)
        clear hb a4 b4 a1 b1 HD1
        go_upto_region 13 with fail
        replace K := Lib.hid (K.out.new x1 x2)
        generalize w12.alloc (.cells #[.int .i64 x1, .int .i64 x2] 23) = w13 at *
        generalize w12.heap.size = g15 at *
        simp only [List.cons_append, List.nil_append] at K
        obtain ⟨a0, b0⟩ := K.out.cells 0 rfl
        obtain ⟨a6, b6⟩ := K.out.cells 6 rfl
        clear he h0
        go_wp2
        go_ret
        exact ⟨rfl, K.out.below⟩
    · have d1 : (ep == 0) = false := by simp [he]
      clear he
      go_wp2
      go_ret
      exact ⟨rfl, K.out.below⟩

end Go.Proofs.YtmgdhlcgbgpgpaaDoor

/- How a law's call ends: it tells true, and what came in reads as before. -/
namespace Go.Proofs.YtmgdhlcgbgpgpaaDoor
open Go Go.ChangeShapes Go.WideShapes Go.ChangeAt Go.RowKit
set_option linter.unusedVariables false
set_option linter.unusedSimpArgs false

section
variable {H : Type} {enc : TypeId × Value → H} {P : Program} {W W' : World}
/-- All that came in reads as before, where below the old heap's size nothing has turned. -/
theorem stays_all (hl : laidOutB P = true) {sp : Nat → Bool} : ∀ {ts : List TypeId} {vs : List Value} {ds : List (DataW H)} {ps : List MemPlace},
    (∀ t ∈ ts, P.readableRec t = true ∧ t < P.types.size) → DataW.TrodAll enc P W 0 (fun _ => true) true ts vs ds ps → (∀ p ∈ ps, W.sameAt W' p) → (∀ p ∈ ps, sp p.block = true) →
    DataW.TrodAll enc P W' 0 sp true ts vs ds ps
  | [], [], [], _, _, h, _, _ => h
  | t :: _, _ :: _, _ :: _, _, ht, ⟨p, q, h1, h2, e⟩, hk, hs =>
    ⟨p, q, WideElems.Trod_stays hl (ht t (List.mem_cons.2 (.inl rfl))).1 (ht t (List.mem_cons.2 (.inl rfl))).2 h1 (fun x hx => hk x (by rw [e]; exact List.mem_append_left _ hx)) (fun x hx => hs x (by rw [e]; exact List.mem_append_left _ hx)),
      stays_all hl (fun t ht' => ht t (List.mem_cons.2 (.inr ht'))) h2 (fun x hx => hk x (by rw [e]; exact List.mem_append_right _ hx)) (fun x hx => hs x (by rw [e]; exact List.mem_append_right _ hx)), e⟩

/-- The post of a law's row, out of true and Below. -/
theorem law_post {f : Func} {s : ChangeSpec} {args : Array Value} {ds gs : List (DataW H)} {before : List MemPlace} {tb : TypeId} {apart fresh handsOn again : Bool}
    (hl : laidOutB P = true) (hr : ∀ t ∈ f.params.toList, P.readableRec t = true ∧ t < P.types.size) (hv : s.vars = [])
    (hres : f.resultTypes = #[tb]) (hb : P.underlying tb = some .bool) (hfn : s.fn H (ds ++ gs) = { results := [.lit (.bool true)], args := ds })
    (hW : DataW.Whole enc P f.params.toList s.vars apart W args.toList ds gs before) (hbel : Below W.heap.size W W') :
    s.post enc P f apart fresh handsOn again W args (.bool true) W' := by
  have hlt := hW.lt
  have hW' := hW
  obtain ⟨p, q, hA, hV, rfl, hz, hn⟩ := hW'
  rw [hv] at hV
  obtain ⟨rfl, rfl⟩ := trodVars_none hV
  simp only [List.append_nil] at hW hlt hz hn hfn
  have hargs : ∀ sp : Nat → Bool, (∀ x ∈ p, sp x.block = true) → DataW.TrodAll enc P W' 0 sp true f.params.toList args.toList ds p :=
    fun sp hs => stays_all hl hr hA (fun x hx => hbel.same (hlt x hx)) hs
  have hone : ∀ (b : Nat) (sp : Nat → Bool) (hd : Bool), DataW.TrodAll enc P W' b sp hd f.resultTypes.toList ((Value.bool true).resultList f.resultTypes.size) [.lit (.bool true)] [] := by
    intro b sp hd
    rw [hres]
    exact trodAll_mk1 (shut_bool hb true)
  have hvars : ∀ sp : Nat → Bool, DataW.TrodVars enc P W' sp s.vars ([] : List (DataW H)) [] := by
    intro sp
    rw [hv]
    rfl
  refine ⟨ds, [], p, [], p, [], hW, ?_, ?_, ?_, hbel.frame _, fun _ => ⟨ok_one hres rfl (okWide_bool_mk hb true), ?_⟩⟩
  · simp only [List.append_nil, hfn]; exact hone _ _ _
  · simp only [List.append_nil, hfn]; exact hargs _ (fun x hx => by simpa using hlt x hx)
  · simp only [List.append_nil, hfn]; exact hvars _
  · refine ⟨[.lit (.bool true)] ++ ds, [], [] ++ p, ⟨[] ++ p, [], trodAll_append (hargs _ (fun _ _ => rfl)) (hone _ _ _), hvars _, by simp, ?_, ?_⟩, ?_⟩
    · intro b off hp
      have hp' : MemPlace.cell b off ∈ p := by simpa using hp
      rw [hbel.frozen (p := ⟨b, off, none⟩) (hlt _ hp')]
      exact hz b off hp'
    · intro ha
      simpa using hn ha
    · intro x hx _
      simpa using hx

/-- A slice of numbers that came in. -/
theorem came_row {t e : TypeId} {k : IntKind} {v : Value} {d : DataW H} {ps : List MemPlace} {r : Reach} {base : Nat} (ht : P.underlying t = some (.slice e)) (he : P.underlying e = some (.int k)) (hc : P.cellsOf e = 1)
    (hval : Value.okWide P W r base t v) (h : DataW.Trod enc P W 0 (fun _ => true) true t v d ps) :
    ∃ A c xs, v = .slice A xs.length c ∧ Ints W k A xs ∧ (∀ n ∈ xs, (Lit.int k n).wf = true) ∧ (xs = [] ∨ ∃ el sp, d = .slice el sp ∧ el.length = xs.length) := by
  obtain ⟨a0, len, cap, rfl⟩ := okWide_slice ht hval
  obtain ⟨fuel, hf⟩ := h
  rcases open_ints ht he hc hf with ⟨hcs, hx⟩ | ⟨a, len', cap', zs, hcs, _, hle, hmax, hall, hx, hcell, hwf⟩
  · simp [Value.cells] at hcs
    obtain ⟨rfl, rfl, rfl⟩ := hcs
    exact ⟨none, 0, [], rfl, fun j hj => by simp at hj, by simp, .inl rfl⟩
  · simp [Value.cells] at hcs
    obtain ⟨rfl, rfl, rfl⟩ := hcs
    have hz : zs.length = cap := by simpa using hall
    simp only [Prod.mk.injEq] at hx
    refine ⟨some a, cap, zs.take len, by rw [List.length_take]; congr 1; omega, ?_, fun n hn => hwf n (List.mem_of_mem_take hn), .inr ⟨_, _, hx.1, by simp [lits]⟩⟩
    intro j hj
    rw [List.length_take] at hj
    obtain ⟨b, off, rfl, hcell'⟩ := ints_at hcell (by omega)
    refine ⟨b, off, rfl, ?_⟩
    rw [hcell' j (by omega)]
    congr 2
    simp [List.getD_eq_getElem?_getD, List.getElem?_take, show j < len by omega]
/-- Its length is within what the machine can hold. -/
theorem came_short {ts : List TypeId} {ds : List (DataW H)} {j : Nat} {t e : TypeId} {d : DataW H} {xs : List Int} {m : Nat} (hsz : (DataW.weightsEach P ts ds).all (· ≤ reachBytes) = true) (ht : ts[j]? = some t) (hd : ds[j]? = some d)
    (hu : P.underlying t = some (.slice e)) (hm : P.bytesOf e = m) (hm1 : 1 ≤ m) (h : xs = [] ∨ ∃ el sp, d = .slice el sp ∧ el.length = xs.length) : xs.length * m ≤ 140737488351232 := by
  rcases h with rfl | ⟨el, sp, rfl, he⟩
  · simp
  · have h1 := sized_slice hsz ht hd hu
    rw [hm] at h1
    have h2 : el.length * m ≤ (el.length + sp.length) * m := Nat.mul_le_mul_right _ (by omega)
    rw [← he]
    exact Nat.le_trans h2 h1
/-- The bounds of 32 bits. -/
theorem came_i32 {xs : List Int} (h : ∀ n ∈ xs, (Lit.int .i32 n).wf = true) : ∀ q, q < xs.length → -2147483648 ≤ xs.getD q 0 ∧ xs.getD q 0 ≤ 2147483647 := by
  intro q hq
  have h1 := h (xs.getD q 0) (by rw [List.getD_eq_getElem?_getD, List.getElem?_eq_getElem hq]; exact List.getElem_mem hq)
  exact bounds_i32 h1
/-- A pair of numbers that came in. -/
theorem came_pair {t e : TypeId} {k : IntKind} {v : Value} {d : DataW H} {ps : List MemPlace} {r : Reach} {base : Nat} (ht : P.underlying t = some (.array 2 e)) (he : P.underlying e = some (.int k)) (hc : P.cellsOf e = 1) (hct : P.cellsOf t = 2)
    (hval : Value.okWide P W r base t v) (h : DataW.Trod enc P W 0 (fun _ => true) true t v d ps) :
    ∃ x y, v = .agg #[.int k x, .int k y] ∧ (Lit.int k x).wf = true ∧ (Lit.int k y).wf = true := by
  obtain ⟨cs, rfl, hsz, _⟩ : ∃ cs, v = .agg cs ∧ cs.size = P.cellsOf t ∧ Row.okWide P W r base t cs := by
    simpa [Value.okWide, ht] using hval
  rw [hct] at hsz
  obtain ⟨l⟩ := cs
  match l, hsz with
  | [a, b], _ =>
    obtain ⟨fuel, hf⟩ := h
    obtain ⟨xs, m, _, hx, hlen, hn, hel⟩ := DataW.trod_array ht hf
    have h0 := hel 0 (by omega)
    have h1 := hel 1 (by omega)
    simp [Value.cells, hc] at h0 h1
    rw [List.getElem?_eq_getElem (by omega)] at h0 h1
    obtain ⟨x, e0, _, w0⟩ := DataW.trod_int he h0
    obtain ⟨y, e1, _, w1⟩ := DataW.trod_int he h1
    simp at e0 e1
    subst e0 e1
    exact ⟨x, y, rfl, w0, w1⟩
end

end Go.Proofs.YtmgdhlcgbgpgpaaDoor

/- How arrays of rows of numbers, and structs of rows and numbers, come in. -/
namespace Go.Proofs.YtmgdhlcgbgpgpaaDoor
open Go Go.ChangeShapes Go.WideShapes Go.ChangeAt Go.RowKit Go.Deep
set_option linter.unusedVariables false
set_option linter.unusedSimpArgs false

/-- What a row's datum says of its length. -/
def RowD {H : Type} (d : DataW H) (xs : List Int) : Prop := xs = [] ∨ ∃ el sp, d = .slice el sp ∧ el.length = xs.length
section
variable {H : Type} {enc : TypeId × Value → H} {P : Program} {W W' : World}
theorem row_opened {t e : TypeId} {k : IntKind} {v : Value} {fuel : Nat} {x : DataW H × List MemPlace} (ht : P.underlying t = some (.slice e)) (he : P.underlying e = some (.int k)) (hc : P.cellsOf e = 1)
    (h : DataW.trod enc P W 0 (fun _ => true) true fuel t [v] = some x) :
    ∃ A c xs, v = .slice A xs.length c ∧ Ints W k A xs ∧ (∀ n ∈ xs, (Lit.int k n).wf = true) ∧ RowD x.1 xs := by
  rcases open_ints ht he hc h with ⟨hcs, _⟩ | ⟨a, len, cap, zs, hcs, _, hle, hmax, hall, hx, hcell, hwf⟩
  · simp only [List.cons.injEq, and_true] at hcs
    subst hcs
    exact ⟨none, 0, [], rfl, fun j hj => by simp at hj, by simp, .inl rfl⟩
  · simp only [List.cons.injEq, and_true] at hcs
    subst hcs
    have hz : zs.length = cap := by simpa using hall
    have hlen : (zs.take len).length = len := by rw [List.length_take]; omega
    refine ⟨some a, cap, zs.take len, by rw [hlen], ?_, fun n hn => hwf n (List.mem_of_mem_take hn), .inr ⟨_, _, by rw [hx], by simp [lits]⟩⟩
    intro j hj
    rw [hlen] at hj
    obtain ⟨b, off, rfl, hcell'⟩ := ints_at hcell (by omega)
    refine ⟨b, off, rfl, ?_⟩
    rw [hcell' j (by omega)]
    congr 2
    simp [List.getD_eq_getElem?_getD, List.getElem?_take, hj]
theorem came_rows2 {t e f : TypeId} {k : IntKind} {v : Value} {d : DataW H} {ps : List MemPlace} {r : Reach} {base : Nat} (ht : P.underlying t = some (.array 2 e)) (he : P.underlying e = some (.slice f)) (hf : P.underlying f = some (.int k)) (hc : P.cellsOf e = 1) (hcf : P.cellsOf f = 1) (hct : P.cellsOf t = 2)
    (hval : Value.okWide P W r base t v) (h : DataW.Trod enc P W 0 (fun _ => true) true t v d ps) :
    ∃ A0 c0 l0 A1 c1 l1 d0 d1, v = .agg #[.slice A0 l0.length c0, .slice A1 l1.length c1] ∧ Ints W k A0 l0 ∧ Ints W k A1 l1 ∧ (∀ n ∈ l0, (Lit.int k n).wf = true) ∧ (∀ n ∈ l1, (Lit.int k n).wf = true) ∧ d = .agg [d0, d1] ∧ RowD d0 l0 ∧ RowD d1 l1 := by
  obtain ⟨cs, rfl, hsz, _⟩ : ∃ cs, v = .agg cs ∧ cs.size = P.cellsOf t ∧ Row.okWide P W r base t cs := by
    simpa [Value.okWide, ht] using hval
  rw [hct] at hsz
  obtain ⟨l⟩ := cs
  match l, hsz with
  | [a, b], _ =>
    obtain ⟨fuel, hfu⟩ := h
    obtain ⟨xs, m, _, hx, hlen, hn, hel⟩ := DataW.trod_array ht hfu
    have h0 := hel 0 (by omega)
    have h1 := hel 1 (by omega)
    simp [Value.cells, hc] at h0 h1
    rw [List.getElem?_eq_getElem (by omega)] at h0 h1
    obtain ⟨A0, c0, l0, e0, i0, w0, r0⟩ := row_opened he hf hcf h0
    obtain ⟨A1, c1, l1, e1, i1, w1, r1⟩ := row_opened he hf hcf h1
    subst e0 e1
    match xs, hn with
    | [y0, y1], _ =>
      simp only [Prod.mk.injEq] at hx
      exact ⟨A0, c0, l0, A1, c1, l1, y0.1, y1.1, rfl, i0, i1, w0, w1, hx.1, r0, r1⟩
theorem came_rows3 {t e f : TypeId} {k : IntKind} {v : Value} {d : DataW H} {ps : List MemPlace} {r : Reach} {base : Nat} (ht : P.underlying t = some (.array 3 e)) (he : P.underlying e = some (.slice f)) (hf : P.underlying f = some (.int k)) (hc : P.cellsOf e = 1) (hcf : P.cellsOf f = 1) (hct : P.cellsOf t = 3)
    (hval : Value.okWide P W r base t v) (h : DataW.Trod enc P W 0 (fun _ => true) true t v d ps) :
    ∃ A0 c0 l0 A1 c1 l1 A2 c2 l2 d0 d1 d2, v = .agg #[.slice A0 l0.length c0, .slice A1 l1.length c1, .slice A2 l2.length c2] ∧ Ints W k A0 l0 ∧ Ints W k A1 l1 ∧ Ints W k A2 l2 ∧ (∀ n ∈ l0, (Lit.int k n).wf = true) ∧ (∀ n ∈ l1, (Lit.int k n).wf = true) ∧ (∀ n ∈ l2, (Lit.int k n).wf = true) ∧ d = .agg [d0, d1, d2] ∧ RowD d0 l0 ∧ RowD d1 l1 ∧ RowD d2 l2 := by
  obtain ⟨cs, rfl, hsz, _⟩ : ∃ cs, v = .agg cs ∧ cs.size = P.cellsOf t ∧ Row.okWide P W r base t cs := by
    simpa [Value.okWide, ht] using hval
  rw [hct] at hsz
  obtain ⟨l⟩ := cs
  match l, hsz with
  | [a, b, c], _ =>
    obtain ⟨fuel, hfu⟩ := h
    obtain ⟨xs, m, _, hx, hlen, hn, hel⟩ := DataW.trod_array ht hfu
    have h0 := hel 0 (by omega)
    have h1 := hel 1 (by omega)
    have h2 := hel 2 (by omega)
    simp [Value.cells, hc] at h0 h1 h2
    rw [List.getElem?_eq_getElem (by omega)] at h0 h1 h2
    obtain ⟨A0, c0, l0, e0, i0, w0, r0⟩ := row_opened he hf hcf h0
    obtain ⟨A1, c1, l1, e1, i1, w1, r1⟩ := row_opened he hf hcf h1
    obtain ⟨A2, c2, l2, e2, i2, w2, r2⟩ := row_opened he hf hcf h2
    subst e0 e1 e2
    match xs, hn with
    | [y0, y1, y2], _ =>
      simp only [Prod.mk.injEq] at hx
      exact ⟨A0, c0, l0, A1, c1, l1, A2, c2, l2, y0.1, y1.1, y2.1, rfl, i0, i1, i2, w0, w1, w2, hx.1, r0, r1, r2⟩
theorem mem_all {e : TypeId} {d : DataW H} : ∀ {ds : List (DataW H)}, d ∈ ds → ∀ n ∈ DataW.weights P e d, n ∈ DataW.weightsAll P e ds
  | d' :: ds, h, n, hn => by
    simp only [DataW.weightsAll, List.mem_append]
    rcases List.mem_cons.1 h with rfl | h
    · exact .inl hn
    · exact .inr (mem_all h n hn)
theorem rowD_weight {e f : TypeId} {d : DataW H} {xs : List Int} {m : Nat} (he : P.underlying e = some (.slice f)) (hm : P.bytesOf f = m) (h : RowD d xs) {S : List Nat} (hS : ∀ n ∈ DataW.weights P e d, n ∈ S) (hs : S.all (· ≤ reachBytes) = true) : xs.length * m ≤ 140737488351232 := by
  rcases h with rfl | ⟨el, sp, rfl, hl⟩
  · simp
  · have h1 := List.all_eq_true.1 hs _ (hS ((el.length + sp.length) * P.bytesOf f) (by simp [DataW.weights, he]))
    rw [hm] at h1
    have h3 : el.length * m ≤ (el.length + sp.length) * m := Nat.mul_le_mul_right _ (by omega)
    rw [← hl]
    have h4 : (el.length + sp.length) * m ≤ 140737488351232 := of_decide_eq_true (p := (el.length + sp.length) * m ≤ 140737488351232) h1
    omega
theorem came_shortA {ts : List TypeId} {ds dd : List (DataW H)} {j q : Nat} {t e f : TypeId} {d : DataW H} {xs : List Int} {m : Nat} (hsz : (DataW.weightsEach P ts ds).all (· ≤ reachBytes) = true) (ht : ts[j]? = some t) (hd : ds[j]? = some (.agg dd))
    (hu : P.underlying t = some (.array q e)) (he : P.underlying e = some (.slice f)) (hm : P.bytesOf f = m) (hmem : d ∈ dd) (h : RowD d xs) : xs.length * m ≤ 140737488351232 :=
  rowD_weight he hm h (S := DataW.weightsEach P ts ds) (fun n hn => DataW.weights_mem_each ht hd _ (by simpa [DataW.weights, hu] using mem_all hmem n hn)) hsz

/-! ### structs of one-cell fields, by value -/
theorem open_fields {t : TypeId} {fs : Array Field} {v : Value} {d : DataW H} {ps : List MemPlace} {r : Reach} {base : Nat} (hs : P.underlying t = some (.struct fs)) (hone : oneCellFields P fs = true) (hC : P.cellsOf t = fs.size)
    (hval : Value.okWide P W r base t v) (h : DataW.Trod enc P W 0 (fun _ => true) true t v d ps) :
    ∃ (l : List Value) (ys : List (DataW H × List MemPlace)) (n : Nat), v = .agg l.toArray ∧ l.length = fs.size ∧ d = .agg (ys.map (·.1)) ∧ ys.length = fs.size ∧
      ∀ (j : Nat) (f : Field), fs[j]? = some f → ∃ c y, l[j]? = some c ∧ ys[j]? = some y ∧ DataW.trod enc P W 0 (fun _ => true) true n f.type [c] = some y := by
  obtain ⟨cs, rfl, hsz⟩ := okWide_struct hs hval
  obtain ⟨l⟩ := cs
  obtain ⟨fuel, hf⟩ := h
  obtain ⟨ys, n, _, hx, _, hlen, hg⟩ := DataW.trod_struct hs hf
  simp only [Prod.mk.injEq] at hx
  have hll : l.length = fs.size := hsz.trans hC
  refine ⟨l, ys, n, rfl, hll, hx.1, hlen, fun j f hj => ?_⟩
  have hjl : j < fs.size := (Array.getElem?_eq_some_iff.1 hj).1
  obtain ⟨o, k⟩ := hone_of hone j f hj
  have h1 := hg j f hj
  rw [o, k] at h1
  have e1 : (((Value.agg l.toArray).cells.toList).drop j).take 1 = [l[j]'(by omega)] := by
    show (l.drop j).take 1 = _
    rw [List.drop_eq_getElem_cons (by omega)]
    rfl
  refine ⟨l[j]'(by omega), ys[j]'(by omega), List.getElem?_eq_getElem _, List.getElem?_eq_getElem _, ?_⟩
  rw [← List.getElem?_eq_getElem (show j < ys.length by omega), ← h1, ← e1]
theorem came_shortF {ts : List TypeId} {ds : List (DataW H)} {ys : List (DataW H × List MemPlace)} {j q : Nat} {t : TypeId} {fs : Array Field} {g : Field} {f : TypeId} {y : DataW H × List MemPlace} {xs : List Int} {m : Nat} (hsz : (DataW.weightsEach P ts ds).all (· ≤ reachBytes) = true) (ht : ts[j]? = some t) (hd : ds[j]? = some (.agg (ys.map (·.1))))
    (hu : P.underlying t = some (.struct fs)) (hg : fs[q]? = some g) (hy : ys[q]? = some y) (he : P.underlying g.type = some (.slice f)) (hm : P.bytesOf f = m) (h : RowD y.1 xs) : xs.length * m ≤ 140737488351232 :=
  rowD_weight he hm h (S := DataW.weightsEach P ts ds) (fun n hn => DataW.weights_mem_each ht hd _ (by
    have := DataW.weights_mem_each (P := P) (ts := fs.toList.map (·.type)) (ds := ys.map (·.1)) (j := q) (t := g.type) (d := y.1) (by simp [hg]) (by simp [hy]) n hn
    simpa [DataW.weights, hu] using this)) hsz
end

end Go.Proofs.YtmgdhlcgbgpgpaaDoor

/- How rows of three numbers come in; texts. -/
namespace Go.Proofs.YtmgdhlcgbgpgpaaDoor
open Go Go.ChangeShapes Go.WideShapes Go.ChangeAt Go.RowKit
set_option linter.unusedVariables false
set_option linter.unusedSimpArgs false

section
variable {H : Type} {enc : TypeId × Value → H} {P : Program} {W W' : World}
/-- Three numbers that came in. -/
theorem came_triple {t e : TypeId} {k : IntKind} {v : Value} {d : DataW H} {ps : List MemPlace} {r : Reach} {base : Nat} (ht : P.underlying t = some (.array 3 e)) (he : P.underlying e = some (.int k)) (hc : P.cellsOf e = 1) (hct : P.cellsOf t = 3)
    (hval : Value.okWide P W r base t v) (h : DataW.Trod enc P W 0 (fun _ => true) true t v d ps) :
    ∃ x y z, v = .agg #[.int k x, .int k y, .int k z] ∧ (Lit.int k x).wf = true ∧ (Lit.int k y).wf = true ∧ (Lit.int k z).wf = true := by
  obtain ⟨cs, rfl, hsz, _⟩ : ∃ cs, v = .agg cs ∧ cs.size = P.cellsOf t ∧ Row.okWide P W r base t cs := by
    simpa [Value.okWide, ht] using hval
  rw [hct] at hsz
  obtain ⟨l⟩ := cs
  match l, hsz with
  | [a, b, c], _ =>
    obtain ⟨fuel, hf⟩ := h
    obtain ⟨xs, m, _, hx, hlen, hn, hel⟩ := DataW.trod_array ht hf
    have h0 := hel 0 (by omega)
    have h1 := hel 1 (by omega)
    have h2 := hel 2 (by omega)
    simp [Value.cells, hc] at h0 h1 h2
    rw [List.getElem?_eq_getElem (by omega)] at h0 h1 h2
    obtain ⟨x, e0, _, w0⟩ := DataW.trod_int he h0
    obtain ⟨y, e1, _, w1⟩ := DataW.trod_int he h1
    obtain ⟨z, e2, _, w2⟩ := DataW.trod_int he h2
    simp at e0 e1 e2
    subst e0 e1 e2
    exact ⟨x, y, z, rfl, w0, w1, w2⟩
theorem came_i64 {n : Int} (h : (Lit.int .i64 n).wf = true) : -9223372036854775808 ≤ n ∧ n ≤ 9223372036854775807 := by
  exact bounds_i64 h
end

end Go.Proofs.YtmgdhlcgbgpgpaaDoor
