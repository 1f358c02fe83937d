/- Texts of ours, laid together: Vo, Vq, Ya, Yf, Yb, Yh, Yv, Jg. -/
import Derived.OrdersHeld
import Derived.Laws.Rows
import Derived.BigFrame
import Derived.BigCall
import Derived.Test.YtmelblnflalanaaGreatShelf
import Derived.Lib.AppendIntMem
import Derived.Lib.LaidTab
import Derived.Lib.ItoaLen
import Derived.Deep.OwnRows
import Derived.StillTailTactics
import Derived.Test.YtmelblnflalanaaGreatMg3
/- Sums, differences, products and quotients of fractions, as rat makes them. -/
namespace Go.Proofs.YtmelblnflalanaaGreat
open Go Go.RowKit
set_option linter.unusedVariables false
set_option linter.unusedSimpArgs false

/-- Two fractions in blocks, and a third that is still 0. -/
structure Rb (w0 : World) (x1 x2 y1 y2 : Int) (wr : World) : Prop where
  below : Below w0.heap.size w0 wr
  ha : wr.heap[w0.heap.size]? = some (.cells #[.int .i64 x1, .int .i64 x2] 24)
  hb : wr.heap[w0.heap.size + 1]? = some (.cells #[.int .i64 y1, .int .i64 y2] 24)
  h0 : wr.heap[w0.heap.size + 1 + 1]? = some (.cells #[.int .i64 0, .int .i64 0] 24)
section
variable {w0 wr w' : World} {x1 x2 y1 y2 : Int}
theorem Rb.step (h : Rb w0 x1 x2 y1 y2 wr) (hb : Below wr.heap.size wr w') : Rb w0 x1 x2 y1 y2 w' :=
  ⟨h.below.trans (hb.mono h.below.size), heap_keep h.ha hb, heap_keep h.hb hb, heap_keep h.h0 hb⟩
theorem Rb.drew (h : Rb w0 x1 x2 y1 y2 wr) : Rb w0 x1 x2 y1 y2 wr.drew := ⟨Below.drew h.below, h.ha, h.hb, h.h0⟩
theorem Rb.four (h : Rb w0 x1 x2 y1 y2 wr) : wr.cell? ⟨w0.heap.size, 0, none⟩ = some (.int .i64 x1) ∧ wr.cell? ⟨w0.heap.size, 1, none⟩ = some (.int .i64 x2) ∧ wr.cell? ⟨w0.heap.size + 1, 0, none⟩ = some (.int .i64 y1) ∧ wr.cell? ⟨w0.heap.size + 1, 1, none⟩ = some (.int .i64 y2) := by
  obtain ⟨a1, a2, _, _⟩ := cell_two h.ha
  obtain ⟨b1, b2, _, _⟩ := cell_two h.hb
  exact ⟨a1, a2, b1, b2⟩
theorem Rb.zero (h : Rb w0 x1 x2 y1 y2 wr) : wr.cell? ⟨w0.heap.size + 1 + 1, 0, none⟩ = some (.int .i64 0) ∧ wr.cell? ⟨w0.heap.size + 1 + 1, 1, none⟩ = some (.int .i64 0) ∧ wr.frozen? ⟨w0.heap.size + 1 + 1, 0, none⟩ = false ∧ wr.frozen? ⟨w0.heap.size + 1 + 1, 1, none⟩ = false := cell_two h.h0
theorem Rb.told (h : Rb w0 x1 x2 y1 y2 wr) (x y : Value) : ((wr.setCell ⟨w0.heap.size + 1 + 1, 0, none⟩ x).setCell ⟨w0.heap.size + 1 + 1, 1, none⟩ y).heap[w0.heap.size + 1 + 1]? = some (.cells #[x, y] 24) ∧
    Below w0.heap.size w0 ((wr.setCell ⟨w0.heap.size + 1 + 1, 0, none⟩ x).setCell ⟨w0.heap.size + 1 + 1, 1, none⟩ y) := by
  have hl : w0.heap.size ≤ w0.heap.size + 1 + 1 := by omega
  exact ⟨rat_cells h.h0 x y, (h.below.setCell (p := ⟨w0.heap.size + 1 + 1, 0, none⟩) hl _).setCell (p := ⟨w0.heap.size + 1 + 1, 1, none⟩) hl _⟩
theorem Rb.fourT (h : Rb w0 x1 x2 y1 y2 wr) (x y : Value) : ((wr.setCell ⟨w0.heap.size + 1 + 1, 0, none⟩ x).setCell ⟨w0.heap.size + 1 + 1, 1, none⟩ y).cell? ⟨w0.heap.size, 0, none⟩ = some (.int .i64 x1) ∧ ((wr.setCell ⟨w0.heap.size + 1 + 1, 0, none⟩ x).setCell ⟨w0.heap.size + 1 + 1, 1, none⟩ y).cell? ⟨w0.heap.size, 1, none⟩ = some (.int .i64 x2) ∧ ((wr.setCell ⟨w0.heap.size + 1 + 1, 0, none⟩ x).setCell ⟨w0.heap.size + 1 + 1, 1, none⟩ y).cell? ⟨w0.heap.size + 1, 0, none⟩ = some (.int .i64 y1) ∧ ((wr.setCell ⟨w0.heap.size + 1 + 1, 0, none⟩ x).setCell ⟨w0.heap.size + 1 + 1, 1, none⟩ y).cell? ⟨w0.heap.size + 1, 1, none⟩ = some (.int .i64 y2) := by
  have e1 := heap_other (c := 1) (g := w0.heap.size + 1 + 1) y (heap_other (c := 0) (g := w0.heap.size + 1 + 1) x h.ha (by omega)) (by omega)
  have e2 := heap_other (c := 1) (g := w0.heap.size + 1 + 1) y (heap_other (c := 0) (g := w0.heap.size + 1 + 1) x h.hb (by omega)) (by omega)
  obtain ⟨a1, a2, _, _⟩ := cell_two e1
  obtain ⟨b1, b2, _, _⟩ := cell_two e2
  exact ⟨a1, a2, b1, b2⟩
end
theorem Rb.made (w : World) (x1 x2 y1 y2 : Int) : Rb w x1 x2 y1 y2 (((w.alloc (.cells #[.int .i64 x1, .int .i64 x2] 24)).alloc (.cells #[.int .i64 y1, .int .i64 y2] 24)).alloc (.cells #[.int .i64 0, .int .i64 0] 24)) := by
  obtain ⟨h1, h2⟩ := two_fr w (.cells #[.int .i64 x1, .int .i64 x2] 24) (.cells #[.int .i64 y1, .int .i64 y2] 24)
  have hz : ∀ (w : World) (o : Obj), (w.alloc o).heap.size = w.heap.size + 1 := fun w o => by simp
  refine ⟨below_three _ _ _ _, (heap_alloc_old _ _ (heap_lt2 h1)).trans h1, (heap_alloc_old _ _ (heap_lt2 h2)).trans h2, ?_⟩
  have h := heap_alloc_new ((w.alloc (.cells #[.int .i64 x1, .int .i64 x2] 24)).alloc (.cells #[.int .i64 y1, .int .i64 y2] 24)) (.cells #[.int .i64 0, .int .i64 0] 24)
  simp only [hz] at h
  exact h
theorem prod_abs {a b : Int} (ha : I64 a) (hb : I64 b) : (a * b).natAbs ≤ 85070591730234615865843651857942052864 := by
  rw [Int.natAbs_mul]
  have h := Nat.mul_le_mul (abs64 ha) (abs64 hb)
  omega
theorem right_pos {a b : Int} (h : rightR (a, b) = true) : 0 < b := (of_decide_eq_true h).1

set_option maxRecDepth 100000 in
set_option maxHeartbeats 8000000 in
theorem addq_any (x1 x2 y1 y2 : Int) (hx1 : I64 x1) (hx2 : I64 x2) (hy1 : I64 y1) (hy2 : I64 y2) (w : World) :
    Calls Tryz.prog 20 #[.agg #[.int .i64 x1, .int .i64 x2], .agg #[.int .i64 y1, .int .i64 y2]] w fun e w' => e = .returned (.tuple #[rtV (addP (x1, x2) (y1, y2)).1, .int .i64 (addP (x1, x2) (y1, y2)).2]) ∧ Below w.heap.size w w' := by
  have HBO := Lib.hid (fun W => both_any x1 x2 y1 y2 hx1 hx2 hy1 hy2 W)
  have HA1 := Lib.hid (show (rightR (x1, x2) && rightR (y1, y2)) = true → addP (x1, x2) (y1, y2) = fracP (x1 * y2 + y1 * x2) (x2 * y2) from fun h => by unfold addP; rw [if_pos h])
  have HA0 := Lib.hid (show (rightR (x1, x2) && rightR (y1, y2)) = false → addP (x1, x2) (y1, y2) = ((0, 0), 7) from fun h => by unfold addP; rw [if_neg (by rw [h]; decide)])
  have HPX := Lib.hid (fun (h : (rightR (x1, x2) && rightR (y1, y2)) = true) => right_pos (Bool.and_eq_true_iff.1 h).1)
  have HPY := Lib.hid (fun (h : (rightR (x1, x2) && rightR (y1, y2)) = true) => right_pos (Bool.and_eq_true_iff.1 h).2)
  obtain ⟨AP, hAP⟩ : ∃ AP, AP = addP (x1, x2) (y1, y2) := ⟨_, rfl⟩
  obtain ⟨rb, hrb⟩ : ∃ rb, rb = (rightR (x1, x2) && rightR (y1, y2)) := ⟨_, rfl⟩
  rw [← hAP] at HA1 HA0 ⊢
  rw [← hrb] at HA1 HA0 HBO HPX HPY
  clear hAP hrb
  have HW := Lib.hid (Rb.made w x1 x2 y1 y2)
  go_enter Tryz.func20, Tryz.ntmps20
  go_upto_region 1 with fail
  generalize ((w.alloc (.cells #[.int .i64 x1, .int .i64 x2] 24)).alloc (.cells #[.int .i64 y1, .int .i64 y2] 24)).alloc (.cells #[.int .i64 0, .int .i64 0] 24) = w1 at *
  obtain ⟨k1, k2, k3, k4⟩ := HW.out.four
  go_wp2_with fail
  refine (HBO.out _).mono ?_
  rintro e w2 ⟨rfl, hb⟩
  have HW2 := Lib.hid (HW.out.step hb)
  clear hb HW HBO k1 k2 k3 k4
  cases rb with
  | false =>
    obtain ⟨k7, k8, k9, k10⟩ := HW2.out.zero
    obtain ⟨t1, t2⟩ := HW2.out.told (.int .i64 0) (.int .i64 0)
    have T1 := Lib.hid t1
    have T2 := Lib.hid t2
    clear t1 t2
    go_wp2
    refine bodyPost_ret (results_row_tmp (fn := Tryz.f20) rfl _ _ (w.heap.size + 1 + 1) _ _ _ _ rfl T1.out Tryz.underlying24 rfl (by kernel_rfl)) rfl ?_
    exact ⟨by rw [HA0.out (by simp)]; rfl, T2.out⟩
  | true =>
    have px := HPX.out (by simp)
    have py := HPY.out (by simp)
    have HT1 := Lib.hid (fun W => times_any x1 y2 hx1 hy2 W)
    have HT2 := Lib.hid (fun W => times_any y1 x2 hy1 hx2 W)
    have HT3 := Lib.hid (fun W => times_any x2 y2 hx2 hy2 W)
    have HSU := Lib.hid (fun W => sumq_any (x1 * y2) (y1 * x2) W (prod_abs hx1 hy2) (prod_abs hy1 hx2))
    have HMD := Lib.hid (fun W => madeq_any (x1 * y2 + y1 * x2) (x2 * y2) W (by have h1 := prod_abs hx1 hy2; have h2 := prod_abs hy1 hx2; omega) (by have := Int.mul_pos px py; omega) (Nat.le_trans (prod_abs hx2 hy2) (by omega)))
    have HE := Lib.hid (HA1.out (by simp))
    obtain ⟨M, hM⟩ : ∃ M, M = fracP (x1 * y2 + y1 * x2) (x2 * y2) := ⟨_, rfl⟩
    rw [← hM] at HE HMD
    have HMD : Hid (∀ W, Calls Tryz.prog 56 #[wdV (x1 * y2 + y1 * x2), wdV (x2 * y2)] W fun e w' => e = .returned (.tuple #[.agg #[.int .i64 M.1.1, .int .i64 M.1.2], .int .i64 M.2]) ∧ Below W.heap.size W w') := HMD
    clear hM HA1 HA0 HPX HPY px py hx1 hx2 hy1 hy2
    go_upto_region 3 with fail
    have kb := HW2.out.drew
    go_region_held3 (fun wr => wr.cell? ⟨w.heap.size, 0, none⟩ = some (.int .i64 x1) ∧ wr.cell? ⟨w.heap.size, 1, none⟩ = some (.int .i64 x2) ∧ wr.cell? ⟨w.heap.size + 1, 0, none⟩ = some (.int .i64 y1) ∧ wr.cell? ⟨w.heap.size + 1, 1, none⟩ = some (.int .i64 y2))
      (first | exact kb.four | exact kb.fourT _ _ | go_keep)
      (first | (go_at_call_of 57 x1; refine (HT1.out _).mono ?_; rintro e v1 ⟨rfl, hb⟩; have kb := kb.step hb; clear hb) | (go_at_call_of 57 y1; refine (HT2.out _).mono ?_; rintro e v2 ⟨rfl, hb⟩; have kb := kb.step hb; clear hb) | (go_at_call 57; refine (HT3.out _).mono ?_; rintro e v3 ⟨rfl, hb⟩; have kb := kb.step hb; clear hb) | (go_at_call 58; refine (HSU.out _).mono ?_; rintro e v7 ⟨rfl, hb⟩; have kb := kb.step hb; clear hb) | (go_at_call 56; refine (HMD.out _).mono ?_; rintro e v9 ⟨rfl, hb⟩; have kb := kb.step hb; clear hb; have kc := kb.zero; obtain ⟨k7, k8, k9, k10⟩ := kc))
    obtain ⟨t1, t2⟩ := kb.told (.int .i64 M.1.1) (.int .i64 M.1.2)
    have T1 := Lib.hid t1
    have T2 := Lib.hid t2
    clear t1 t2 k7 k8 k9 k10
    go_wp2
    refine bodyPost_ret (results_row_tmp (fn := Tryz.f20) rfl _ _ (w.heap.size + 1 + 1) _ _ _ _ rfl T1.out Tryz.underlying24 rfl (by kernel_rfl)) rfl ?_
    exact ⟨by rw [HE.out]; rfl, T2.out⟩

set_option maxRecDepth 100000 in
set_option maxHeartbeats 8000000 in
theorem sub_any (x1 x2 y1 y2 : Int) (hx1 : I64 x1) (hx2 : I64 x2) (hy1 : I64 y1) (hy2 : I64 y2) (w : World) :
    Calls Tryz.prog 63 #[.agg #[.int .i64 x1, .int .i64 x2], .agg #[.int .i64 y1, .int .i64 y2]] w fun e w' => e = .returned (.tuple #[rtV (subP (x1, x2) (y1, y2)).1, .int .i64 (subP (x1, x2) (y1, y2)).2]) ∧ Below w.heap.size w w' := by
  have HBO := Lib.hid (fun W => both_any x1 x2 y1 y2 hx1 hx2 hy1 hy2 W)
  have HA1 := Lib.hid (show (rightR (x1, x2) && rightR (y1, y2)) = true → subP (x1, x2) (y1, y2) = fracP (x1 * y2 - y1 * x2) (x2 * y2) from fun h => by unfold subP; rw [if_pos h])
  have HA0 := Lib.hid (show (rightR (x1, x2) && rightR (y1, y2)) = false → subP (x1, x2) (y1, y2) = ((0, 0), 7) from fun h => by unfold subP; rw [if_neg (by rw [h]; decide)])
  have HPX := Lib.hid (fun (h : (rightR (x1, x2) && rightR (y1, y2)) = true) => right_pos (Bool.and_eq_true_iff.1 h).1)
  have HPY := Lib.hid (fun (h : (rightR (x1, x2) && rightR (y1, y2)) = true) => right_pos (Bool.and_eq_true_iff.1 h).2)
  obtain ⟨AP, hAP⟩ : ∃ AP, AP = subP (x1, x2) (y1, y2) := ⟨_, rfl⟩
  obtain ⟨rb, hrb⟩ : ∃ rb, rb = (rightR (x1, x2) && rightR (y1, y2)) := ⟨_, rfl⟩
  rw [← hAP] at HA1 HA0 ⊢
  rw [← hrb] at HA1 HA0 HBO HPX HPY
  clear hAP hrb
  have HW := Lib.hid (Rb.made w x1 x2 y1 y2)
  go_enter Tryz.func63, Tryz.ntmps63
  go_upto_region 1 with fail
  generalize ((w.alloc (.cells #[.int .i64 x1, .int .i64 x2] 24)).alloc (.cells #[.int .i64 y1, .int .i64 y2] 24)).alloc (.cells #[.int .i64 0, .int .i64 0] 24) = w1 at *
  obtain ⟨k1, k2, k3, k4⟩ := HW.out.four
  go_wp2_with fail
  refine (HBO.out _).mono ?_
  rintro e w2 ⟨rfl, hb⟩
  have HW2 := Lib.hid (HW.out.step hb)
  clear hb HW HBO k1 k2 k3 k4
  cases rb with
  | false =>
    obtain ⟨k7, k8, k9, k10⟩ := HW2.out.zero
    obtain ⟨t1, t2⟩ := HW2.out.told (.int .i64 0) (.int .i64 0)
    have T1 := Lib.hid t1
    have T2 := Lib.hid t2
    clear t1 t2
    go_wp2
    refine bodyPost_ret (results_row_tmp (fn := Tryz.f63) rfl _ _ (w.heap.size + 1 + 1) _ _ _ _ rfl T1.out Tryz.underlying24 rfl (by kernel_rfl)) rfl ?_
    exact ⟨by rw [HA0.out (by simp)]; rfl, T2.out⟩
  | true =>
    have px := HPX.out (by simp)
    have py := HPY.out (by simp)
    have HT1 := Lib.hid (fun W => times_any x1 y2 hx1 hy2 W)
    have HT2 := Lib.hid (fun W => times_any y1 x2 hy1 hx2 W)
    have HT3 := Lib.hid (fun W => times_any x2 y2 hx2 hy2 W)
    have HOP := Lib.hid (fun W => opposite_any (y1 * x2) W)
    have HSU := Lib.hid (fun W => sumq_any (x1 * y2) (-(y1 * x2)) W (prod_abs hx1 hy2) (by rw [Int.natAbs_neg]; exact prod_abs hy1 hx2))
    rw [show x1 * y2 + -(y1 * x2) = x1 * y2 - y1 * x2 from rfl] at HSU
    have HMD := Lib.hid (fun W => madeq_any (x1 * y2 - y1 * x2) (x2 * y2) W (by have h1 := prod_abs hx1 hy2; have h2 := prod_abs hy1 hx2; omega) (by have := Int.mul_pos px py; omega) (Nat.le_trans (prod_abs hx2 hy2) (by omega)))
    have HE := Lib.hid (HA1.out (by simp))
    obtain ⟨M, hM⟩ : ∃ M, M = fracP (x1 * y2 - y1 * x2) (x2 * y2) := ⟨_, rfl⟩
    rw [← hM] at HE HMD
    have HMD : Hid (∀ W, Calls Tryz.prog 56 #[wdV (x1 * y2 - y1 * x2), wdV (x2 * y2)] W fun e w' => e = .returned (.tuple #[.agg #[.int .i64 M.1.1, .int .i64 M.1.2], .int .i64 M.2]) ∧ Below W.heap.size W w') := HMD
    clear hM HA1 HA0 HPX HPY px py hx1 hx2 hy1 hy2
    go_upto_region 3 with fail
    have kb := HW2.out.drew
    go_region_held3 (fun wr => wr.cell? ⟨w.heap.size, 0, none⟩ = some (.int .i64 x1) ∧ wr.cell? ⟨w.heap.size, 1, none⟩ = some (.int .i64 x2) ∧ wr.cell? ⟨w.heap.size + 1, 0, none⟩ = some (.int .i64 y1) ∧ wr.cell? ⟨w.heap.size + 1, 1, none⟩ = some (.int .i64 y2))
      (first | exact kb.four | exact kb.fourT _ _ | go_keep)
      (first | (go_at_call_of 57 x1; refine (HT1.out _).mono ?_; rintro e v1 ⟨rfl, hb⟩; have kb := kb.step hb; clear hb) | (go_at_call_of 57 y1; refine (HT2.out _).mono ?_; rintro e v2 ⟨rfl, hb⟩; have kb := kb.step hb; clear hb) | (go_at_call 57; refine (HT3.out _).mono ?_; rintro e v3 ⟨rfl, hb⟩; have kb := kb.step hb; clear hb) | (go_at_call 58; refine (HSU.out _).mono ?_; rintro e v7 ⟨rfl, hb⟩; have kb := kb.step hb; clear hb) | (go_at_call 100; refine (HOP.out _).mono ?_; rintro e v8 ⟨rfl, hb⟩; have kb := kb.step hb; clear hb) | (go_at_call 56; refine (HMD.out _).mono ?_; rintro e v9 ⟨rfl, hb⟩; have kb := kb.step hb; clear hb; have kc := kb.zero; obtain ⟨k7, k8, k9, k10⟩ := kc))
    obtain ⟨t1, t2⟩ := kb.told (.int .i64 M.1.1) (.int .i64 M.1.2)
    have T1 := Lib.hid t1
    have T2 := Lib.hid t2
    clear t1 t2 k7 k8 k9 k10
    go_wp2
    refine bodyPost_ret (results_row_tmp (fn := Tryz.f63) rfl _ _ (w.heap.size + 1 + 1) _ _ _ _ rfl T1.out Tryz.underlying24 rfl (by kernel_rfl)) rfl ?_
    exact ⟨by rw [HE.out]; rfl, T2.out⟩

end Go.Proofs.YtmelblnflalanaaGreat

/- Whole numbers below and above, and what is left, as rat reckons them. -/
namespace Go.Proofs.YtmelblnflalanaaGreat
open Go Go.RowKit
set_option linter.unusedVariables false
set_option linter.unusedSimpArgs false

/-- Go's division and remainder by the floor's. -/
theorem tm_neg {x d : Int} (hd : 0 < d) (h : x.tmod d < 0) : x.tdiv d - 1 = x / d ∧ x.tmod d + d = x % d := (tdiv_floor x d hd).1 h
theorem tm_pos {x d : Int} (hd : 0 < d) (h : ¬ x.tmod d < 0) : x.tdiv d = x / d ∧ x.tmod d = x % d := (tdiv_floor x d hd).2 h
theorem div_range {x d : Int} (hx : I64 x) (hd : 0 < d) : I64 (x / d) ∧ 0 ≤ x % d ∧ x % d < d := by
  obtain ⟨h1, h2⟩ := hx
  have h3 := Int.emod_nonneg x (show d ≠ 0 by omega)
  have h4 := Int.emod_lt_of_pos x hd
  have h5 := Int.mul_ediv_add_emod x d
  refine ⟨⟨?_, ?_⟩, h3, h4⟩
  · rw [Int.le_ediv_iff_mul_le hd]
    have : -9223372036854775808 * d ≤ -9223372036854775808 * 1 := Int.mul_le_mul_of_nonpos_left (by omega) (by omega)
    omega
  · by_cases hx0 : 0 ≤ x
    · exact Int.le_trans (Int.ediv_le_self _ hx0) h2
    · have := Int.ediv_neg_of_neg_of_pos (show x < 0 by omega) hd
      omega
theorem tdiv_range {x d : Int} (hx : I64 x) (hd : 0 < d) : I64 (x.tdiv d) ∧ -d < x.tmod d ∧ x.tmod d < d := by
  have h6 : -d < x.tmod d := by
    have := Int.tmod_lt_of_pos (-x) hd
    rw [Int.neg_tmod] at this
    omega
  have h7 := Int.tmod_lt_of_pos x hd
  obtain ⟨⟨h1, h2⟩, h3, h4⟩ := div_range hx hd
  by_cases h : x.tmod d < 0
  · obtain ⟨e1, e2⟩ := tm_neg hd h
    have hx0 : x < 0 := by
      by_cases hc : 0 ≤ x
      · rw [Int.tmod_eq_emod_of_nonneg hc] at h; omega
      · omega
    have h8 := Int.ediv_neg_of_neg_of_pos hx0 hd
    exact ⟨⟨by omega, by omega⟩, h6, h7⟩
  · obtain ⟨e1, e2⟩ := tm_pos hd h
    exact ⟨⟨by omega, by omega⟩, h6, h7⟩

set_option maxRecDepth 100000 in
set_option maxHeartbeats 2000000 in
theorem floor_any (x y : Int) (hx : I64 x) (hy : I64 y) (w : World) : Calls Tryz.prog 102 #[.agg #[.int .i64 x, .int .i64 y]] w fun e w' => e = .returned (.int .i64 (floorP (x, y))) ∧ Below w.heap.size w w' := by
  have HR := Lib.hid (fun W => rightq_any x y hx hy W)
  have HA1 := Lib.hid (show rightR (x, y) = true → floorP (x, y) = x / y from fun h => by unfold floorP; rw [if_pos h])
  have HA0 := Lib.hid (show rightR (x, y) = false → floorP (x, y) = 0 from fun h => by unfold floorP; rw [if_neg (by rw [h]; decide)])
  have HPY := Lib.hid (fun (h : rightR (x, y) = true) => right_pos h)
  obtain ⟨AP, hAP⟩ : ∃ AP, AP = floorP (x, y) := ⟨_, rfl⟩
  obtain ⟨rb, hrb⟩ : ∃ rb, rb = rightR (x, y) := ⟨_, rfl⟩
  rw [← hAP] at HA1 HA0 ⊢
  rw [← hrb] at HA1 HA0 HR HPY
  have H1 := Lib.hid (heap_alloc_new w (.cells #[.int .i64 x, .int .i64 y] 24))
  have HB := Lib.hid (below_one w (.cells #[.int .i64 x, .int .i64 y] 24))
  clear hAP hrb
  go_enter Tryz.func102, Tryz.ntmps102
  go_upto_region 1 with fail
  generalize w.alloc (.cells #[.int .i64 x, .int .i64 y] 24) = w1 at *
  obtain ⟨k1, k2, _, _⟩ := cell_two H1.out
  go_wp2_with fail
  refine (HR.out _).mono ?_
  rintro e w2 ⟨rfl, hb⟩
  have H2 := Lib.hid (heap_keep H1.out hb)
  have HB2 := Lib.hid (HB.out.trans (hb.mono HB.out.size))
  clear hb H1 HB k1 k2
  obtain ⟨k1, k2, _, _⟩ := cell_two H2.out
  cases rb with
  | false =>
    have HE := Lib.hid (HA0.out (by simp))
    clear HA0 HA1
    go_wp2
    go_ret
    exact ⟨by rw [HE.out]; rfl, HB2.out⟩
  | true =>
    have py := HPY.out (by simp)
    have HE := Lib.hid (HA1.out (by simp))
    have hy0 : ¬ y = 0 := by omega
    have hy1 : (y == 0) = false := by simp [hy0]
    have hy2 : (y == -1) = false := by simp; omega
    obtain ⟨⟨r1, r2⟩, r3, r4⟩ := tdiv_range hx py
    obtain ⟨⟨s1, s2⟩, s3, s4⟩ := div_range hx py
    have g1 : IntKind.i64.wrap (x.tdiv y) = x.tdiv y := IntWalk.i64_in _ (by omega)
    have g2 : IntKind.i64.wrap (x.tmod y) = x.tmod y := IntWalk.i64_in _ (by obtain ⟨_, _⟩ := hy; omega)
    by_cases hm : x.tmod y < 0
    · obtain ⟨e1, e2⟩ := tm_neg py hm
      have d1 : decide (x.tmod y < 0) = true := decide_eq_true hm
      have g3 : IntKind.i64.wrap (x.tdiv y - 1) = x.tdiv y - 1 := IntWalk.i64_in _ (by omega)
      have HE2 := Lib.hid (show AP = x.tdiv y - 1 by rw [HE.out, e1])
      clear HE HA0 HA1 e1 e2 r1 r2 r3 r4 s1 s2 s3 s4
      go_wp2
      go_ret
      exact ⟨by rw [HE2.out]; rfl, HB2.out⟩
    · obtain ⟨e1, e2⟩ := tm_pos py hm
      have d1 : decide (x.tmod y < 0) = false := decide_eq_false hm
      have HE2 := Lib.hid (show AP = x.tdiv y by rw [HE.out, e1])
      clear HE HA0 HA1 e1 e2 r1 r2 r3 r4 s1 s2 s3 s4
      go_wp2
      go_ret
      exact ⟨by rw [HE2.out]; rfl, HB2.out⟩

theorem ceil_step {x d : Int} (hx : I64 x) (hd : 0 < d) (h : 0 < x.tmod d) : I64 (x.tdiv d + 1) := by
  obtain ⟨⟨h1, h2⟩, h3, h4⟩ := tdiv_range hx hd
  refine ⟨by omega, ?_⟩
  have h5 := Int.mul_tdiv_add_tmod x d
  obtain ⟨g1, g2⟩ := hx
  by_cases hq : x.tdiv d ≤ 0
  · omega
  · have : 2 * x.tdiv d ≤ d * x.tdiv d := Int.mul_le_mul_of_nonneg_right (by omega) (by omega)
    omega
set_option maxRecDepth 100000 in
set_option maxHeartbeats 1000000 in
theorem rof2_any (n : Int) (w : World) : Calls Tryz.prog 25 #[.int .i64 n] w fun e w' => e = .returned (.agg #[.int .i64 n, .int .i64 1]) ∧ Below w.heap.size w w' := by
  go_enter Tryz.func25, Tryz.ntmps25
  go_wp2
  simp [bodyPost, results, Tryz.results25, go_sem]
  first | exact below_one w _ | exact ⟨rfl, below_one w _⟩
theorem part_zero {x y : Int} (h : rightR (x, y) = true) (h0 : x % y = 0) : y = 1 := by
  obtain ⟨h1, h2⟩ := of_decide_eq_true h
  have hd : y ∣ x := Int.dvd_of_emod_eq_zero h0
  have h3 : y.natAbs ∣ x.natAbs := Int.natAbs_dvd_natAbs.2 hd
  have h4 : Nat.gcd x.natAbs y.natAbs = y.natAbs := Nat.gcd_eq_right h3
  have h2 : Nat.gcd x.natAbs y.natAbs = 1 := h2
  have h1 : 0 < y := h1
  omega

set_option maxRecDepth 100000 in
set_option maxHeartbeats 2000000 in
theorem frac_any (x y : Int) (hx : I64 x) (hy : I64 y) (w : World) : Calls Tryz.prog 103 #[.agg #[.int .i64 x, .int .i64 y]] w fun e w' => e = .returned (rtV (partP (x, y))) ∧ Below w.heap.size w w' := by
  have HR := Lib.hid (fun W => rightq_any x y hx hy W)
  have HA1 := Lib.hid (show rightR (x, y) = true → partP (x, y) = (x % y, y) from fun h => by unfold partP; rw [if_pos h])
  have HA0 := Lib.hid (show rightR (x, y) = false → partP (x, y) = (0, 0) from fun h => by unfold partP; rw [if_neg (by rw [h]; decide)])
  have HPY := Lib.hid (fun (h : rightR (x, y) = true) => right_pos h)
  have HP0 := Lib.hid (fun (h : rightR (x, y) = true) (h0 : x % y = 0) => part_zero h h0)
  obtain ⟨AP, hAP⟩ : ∃ AP, AP = partP (x, y) := ⟨_, rfl⟩
  obtain ⟨rb, hrb⟩ : ∃ rb, rb = rightR (x, y) := ⟨_, rfl⟩
  rw [← hAP] at HA1 HA0 ⊢
  rw [← hrb] at HA1 HA0 HR HPY HP0
  obtain ⟨q1, q2⟩ := two_fr w (.cells #[.int .i64 x, .int .i64 y] 24) (.cells #[.int .i64 0, .int .i64 0] 24)
  have H1 := Lib.hid q1
  have H0 := Lib.hid q2
  have HB := Lib.hid (below_two w (.cells #[.int .i64 x, .int .i64 y] 24) (.cells #[.int .i64 0, .int .i64 0] 24))
  have hle : w.heap.size ≤ w.heap.size + 1 := by omega
  clear hAP hrb q1 q2
  go_enter Tryz.func103, Tryz.ntmps103
  go_upto_region 1 with fail
  generalize (w.alloc (.cells #[.int .i64 x, .int .i64 y] 24)).alloc (.cells #[.int .i64 0, .int .i64 0] 24) = w1 at *
  obtain ⟨k1, k2, _, _⟩ := cell_two H1.out
  go_wp2_with fail
  refine (HR.out _).mono ?_
  rintro e w2 ⟨rfl, hb⟩
  have H2 := Lib.hid (heap_keep H1.out hb)
  have H02 := Lib.hid (heap_keep H0.out hb)
  have HB2 := Lib.hid (HB.out.trans (hb.mono HB.out.size))
  clear hb H1 H0 HB k1 k2
  obtain ⟨k1, k2, _, _⟩ := cell_two H2.out
  obtain ⟨k3, k4, k5, k6⟩ := cell_two H02.out
  cases rb with
  | false =>
    have HE := Lib.hid (HA0.out (by simp))
    have T1 := Lib.hid (rat_cells H02.out (.int .i64 0) (.int .i64 0))
    have T2 := Lib.hid ((HB2.out.setCell (p := ⟨w.heap.size + 1, 0, none⟩) hle (.int .i64 0)).setCell (p := ⟨w.heap.size + 1, 1, none⟩) hle (.int .i64 0))
    clear HA0 HA1
    go_wp2
    refine bodyPost_ret (results_cell_row (fn := Tryz.f103) rfl _ _ (w.heap.size + 1) _ _ _ _ rfl T1.out Tryz.underlying24 rfl (by kernel_rfl)) rfl ?_
    exact ⟨by rw [HE.out]; rfl, T2.out⟩
  | true =>
    have py := HPY.out (by simp)
    have HE := Lib.hid (HA1.out (by simp))
    have hy0 : ¬ y = 0 := by omega
    have hy1 : (y == 0) = false := by simp [hy0]
    have hy2 : (y == -1) = false := by simp; omega
    obtain ⟨r0, r3, r4⟩ := tdiv_range hx py
    obtain ⟨s0, s3, s4⟩ := div_range hx py
    have g2 : IntKind.i64.wrap (x.tmod y) = x.tmod y := IntWalk.i64_in _ (by obtain ⟨_, _⟩ := hy; omega)
    by_cases hm : x.tmod y < 0
    · obtain ⟨e1, e2⟩ := tm_neg py hm
      have d1 : decide (x.tmod y < 0) = true := decide_eq_true hm
      have g3 : IntKind.i64.wrap (x.tmod y + y) = x.tmod y + y := IntWalk.i64_in _ (by obtain ⟨_, _⟩ := hy; omega)
      have hz : (x.tmod y + y == 0) = false := by simp; omega
      have HE2 := Lib.hid (show AP = (x.tmod y + y, y) by rw [HE.out, e2])
      have T1 := Lib.hid (rat_cells H02.out (.int .i64 (x.tmod y + y)) (.int .i64 y))
      have T2 := Lib.hid ((HB2.out.setCell (p := ⟨w.heap.size + 1, 0, none⟩) hle (.int .i64 (x.tmod y + y))).setCell (p := ⟨w.heap.size + 1, 1, none⟩) hle (.int .i64 y))
      clear HE HA0 HA1 e1 e2 r0 r3 r4 s0 s3 s4
      go_wp2
      refine bodyPost_ret (results_cell_row (fn := Tryz.f103) rfl _ _ (w.heap.size + 1) _ _ _ _ rfl T1.out Tryz.underlying24 rfl (by kernel_rfl)) rfl ?_
      exact ⟨by rw [HE2.out]; rfl, T2.out⟩
    · obtain ⟨e1, e2⟩ := tm_pos py hm
      have d1 : decide (x.tmod y < 0) = false := decide_eq_false hm
      by_cases hz : x.tmod y = 0
      · have hz1 : (x.tmod y == 0) = true := by simp [hz]
        have y1 := HP0.out (by simp) (by omega)
        have HE2 := Lib.hid (show AP = (0, 1) by rw [HE.out, ← e2, hz, y1])
        clear HE HA0 HA1 e1 e2 r0 r3 r4 s0 s3 s4 y1 HP0
        go_wp2_with fail
        refine (rof2_any 0 _).mono ?_
        rintro e w3 ⟨rfl, hb⟩
        have H03 := Lib.hid (heap_keep H02.out hb)
        have HB3 := Lib.hid (HB2.out.trans (hb.mono HB2.out.size))
        have T1 := Lib.hid (rat_cells H03.out (.int .i64 0) (.int .i64 1))
        have T2 := Lib.hid ((HB3.out.setCell (p := ⟨w.heap.size + 1, 0, none⟩) hle (.int .i64 0)).setCell (p := ⟨w.heap.size + 1, 1, none⟩) hle (.int .i64 1))
        clear hb k1 k2 k3 k4 k5 k6
        obtain ⟨k3, k4, k5, k6⟩ := cell_two H03.out
        go_wp2
        refine bodyPost_ret (results_cell_row (fn := Tryz.f103) rfl _ _ (w.heap.size + 1) _ _ _ _ rfl T1.out Tryz.underlying24 rfl (by kernel_rfl)) rfl ?_
        exact ⟨by rw [HE2.out]; rfl, T2.out⟩
      · have hz1 : (x.tmod y == 0) = false := by simp [hz]
        have HE2 := Lib.hid (show AP = (x.tmod y, y) by rw [HE.out, e2])
        have T1 := Lib.hid (rat_cells H02.out (.int .i64 (x.tmod y)) (.int .i64 y))
        have T2 := Lib.hid ((HB2.out.setCell (p := ⟨w.heap.size + 1, 0, none⟩) hle (.int .i64 (x.tmod y))).setCell (p := ⟨w.heap.size + 1, 1, none⟩) hle (.int .i64 y))
        clear HE HA0 HA1 e1 e2 r0 r3 r4 s0 s3 s4
        go_wp2
        refine bodyPost_ret (results_cell_row (fn := Tryz.f103) rfl _ _ (w.heap.size + 1) _ _ _ _ rfl T1.out Tryz.underlying24 rfl (by kernel_rfl)) rfl ?_
        exact ⟨by rw [HE2.out]; rfl, T2.out⟩

end Go.Proofs.YtmelblnflalanaaGreat

/- A region that draws its order, by ONE invariant that hangs on what has come up: each operation is run once. -/
namespace Go.Proofs.YtmelblnflalanaaGreat
open Go Go.RowKit
set_option linter.unusedVariables false
set_option linter.unusedSimpArgs false

/-- The frame, these slots anew. -/
def overA (a0 : Act) : List Nat → (Nat → Value) → Act
  | [], _ => a0
  | d :: ds, vals => (overA a0 ds vals).put (some d) (vals d)

theorem overA_size (a0 : Act) (vals : Nat → Value) : ∀ ds, (overA a0 ds vals).tmps.size = a0.tmps.size
  | [] => rfl
  | d :: ds => by simp only [overA, Act.put, Array.size_setIfInBounds]; exact overA_size a0 vals ds
theorem overA_defers (a0 : Act) (vals : Nat → Value) : ∀ ds, (overA a0 ds vals).defers = a0.defers
  | [] => rfl
  | d :: ds => by simp only [overA, Act.put]; exact overA_defers a0 vals ds
theorem getD_put (xs : Array Value) (d k : Nat) (v u : Value) (hk : k < xs.size) : (xs.setIfInBounds d v).getD k u = if k = d then v else xs.getD k u := by
  by_cases h : k = d
  · subst h; rw [if_pos rfl]; simp [Array.getD, hk]
  · rw [if_neg h]
    simp only [Array.getD_eq_getD_getElem?]
    rw [Array.getElem?_setIfInBounds_ne (Ne.symm h)]
theorem overA_get (a0 : Act) (vals : Nat → Value) (k : Nat) (u : Value) (hk : k < a0.tmps.size) : ∀ ds : List Nat, (overA a0 ds vals).tmps.getD k u = if k ∈ ds then vals k else a0.tmps.getD k u
  | [] => by simp [overA]
  | d :: ds => by
    show ((overA a0 ds vals).tmps.setIfInBounds d (vals d)).getD k u = _
    rw [getD_put _ _ _ _ _ (by rw [overA_size]; exact hk)]
    by_cases h : k = d
    · subst h; simp
    · rw [if_neg h, overA_get a0 vals k u hk ds]
      by_cases h2 : k ∈ ds
      · rw [if_pos h2, if_pos (List.mem_cons_of_mem _ h2)]
      · rw [if_neg h2, if_neg (fun h3 => by rcases List.mem_cons.1 h3 with h4 | h4 <;> contradiction)]
theorem act_same {a b : Act} (hd : a.defers = b.defers) (hs : a.tmps.size = b.tmps.size) (h : ∀ k, k < a.tmps.size → a.tmps.getD k undef = b.tmps.getD k undef) : a = b := by
  cases a with
  | mk ta da =>
    cases b with
    | mk tb db =>
      simp only at hd hs h
      subst hd
      congr 1
      apply Array.ext hs
      intro k h1 h2
      have := h k h1
      simp only [Array.getD, h1, h2, dif_pos] at this
      exact this
theorem overA_put (a0 : Act) (vals : Nat → Value) (ds : List Nat) (d : Nat) (hd : d ∈ ds) (v : Value) :
    (overA a0 ds vals).put (some d) v = overA a0 ds (fun k => if k = d then v else vals k) := by
  have hs : ((overA a0 ds vals).put (some d) v).tmps.size = a0.tmps.size := by simp only [Act.put, Array.size_setIfInBounds]; exact overA_size _ _ _
  refine act_same ?_ ?_ (fun k hk => ?_)
  · simp only [Act.put]; rw [overA_defers, overA_defers]
  · rw [hs, overA_size]
  · rw [hs] at hk
    show ((overA a0 ds vals).tmps.setIfInBounds d v).getD k undef = _
    rw [getD_put _ _ _ _ _ (by rw [overA_size]; exact hk), overA_get _ _ _ _ hk, overA_get _ _ _ _ hk]
    by_cases h : k = d
    · subst h; rw [if_pos rfl, if_pos hd, if_pos rfl]
    · simp only [if_neg h]
theorem overA_start (a0 : Act) (ds : List Nat) : overA a0 ds (fun d => a0.tmps.getD d undef) = a0 := by
  refine act_same (overA_defers _ _ _) (overA_size _ _ _) (fun k hk => ?_)
  rw [overA_size] at hk
  rw [overA_get _ _ _ _ hk]
  split <;> rfl
theorem overA_eval (a0 : Act) (vals : Nat → Value) (ds : List Nat) (d : Nat) (hd : d ∈ ds) (hk : d < a0.tmps.size) : (overA a0 ds vals).eval (.tmp d) = vals d := by
  show (overA a0 ds vals).tmps.getD d undef = _
  rw [overA_get _ _ _ _ hk, if_pos hd]

/-- Which ones an operation waits for, one after another. -/
def needsOf (md : Region.Mode) (ops : Array Oper) (i : Nat) : List Nat :=
  match ops[i]? with
  | some o => (o.after.toList.filter (Region.binds md)).map (·.on)
  | none => []
def depsB (md : Region.Mode) (ops : Array Oper) (needs : List (List Nat)) : Bool :=
  (List.range ops.size).all fun i => ((needs.getD i []).all fun j => decide (j ∈ needsOf md ops i)) && (needsOf md ops i).all fun j => decide (j < i)

theorem filter_less {α : Type} {p q : α → Bool} : ∀ {l : List α}, (∀ x ∈ l, p x = true → q x = true) → (∃ x ∈ l, q x = true ∧ p x = false) → (l.filter p).length < (l.filter q).length
  | [], _, ⟨x, hx, _⟩ => by cases hx
  | y :: l, h, ⟨x, hx, hq, hp⟩ => by
    have hle : ∀ (l : List α), (∀ x ∈ l, p x = true → q x = true) → (l.filter p).length ≤ (l.filter q).length := fun l => by
      induction l with
      | nil => intro _; simp
      | cons z l ih =>
        intro hz
        have h1 := ih (fun x hx => hz x (List.mem_cons_of_mem _ hx))
        have h2 := hz z (List.mem_cons_self ..)
        cases hpz : p z with
        | true => rw [List.filter_cons_of_pos hpz, List.filter_cons_of_pos (h2 hpz)]; simp only [List.length_cons]; omega
        | false =>
          rw [List.filter_cons_of_neg (by simp [hpz])]
          cases hqz : q z with
          | true => rw [List.filter_cons_of_pos hqz]; simp only [List.length_cons]; omega
          | false => rw [List.filter_cons_of_neg (by simp [hqz])]; exact h1
    have hy := h y (List.mem_cons_self ..)
    rcases List.mem_cons.1 hx with rfl | hx'
    · rw [List.filter_cons_of_neg (by simp [hp]), List.filter_cons_of_pos hq]
      have := hle l (fun x hx => h x (List.mem_cons_of_mem _ hx))
      simp only [List.length_cons]; omega
    · have ih := filter_less (p := p) (q := q) (l := l) (fun x hx => h x (List.mem_cons_of_mem _ hx)) ⟨x, hx', hq, hp⟩
      cases hpy : p y with
      | true => rw [List.filter_cons_of_pos hpy, List.filter_cons_of_pos (hy hpy)]; simp only [List.length_cons]; omega
      | false =>
        rw [List.filter_cons_of_neg (by simp [hpy])]
        cases hqy : q y with
        | true => rw [List.filter_cons_of_pos hqy]; simp only [List.length_cons]; omega
        | false => rw [List.filter_cons_of_neg (by simp [hqy])]; exact ih

section
variable {P : Program} {ops : Array Oper} {Q : Exit → Act → World → Prop} {md : Region.Mode}

theorem getD_in_range {l : Array Bool} {i : Nat} (h : i < l.size) : l.getD i true = l.getD i false := by simp [Array.getD, h]

theorem all_up {needs : List (List Nat)} (hB : depsB md ops needs = true) {listed : Array Bool} (hs : listed.size = ops.size) (h : Region.ready md ops listed = []) : ∀ i, i < ops.size → listed.getD i false = true := by
  intro i
  induction i using Nat.strongRecOn with
  | _ i ih =>
    intro hi
    cases hl : listed.getD i false with
    | true => rfl
    | false =>
      exfalso
      have hb := (List.all_eq_true.1 hB) i (List.mem_range.2 hi)
      simp only [Bool.and_eq_true] at hb
      have hm : i ∈ Region.ready md ops listed := by
        refine mem_ready.2 ⟨by rw [getD_in_range (by rw [hs]; exact hi)]; exact hl, ops[i], by simp [hi], fun e he hbd => ?_⟩
        have hj : e.on ∈ needsOf md ops i := by
          unfold needsOf
          simp only [Array.getElem?_eq_getElem hi]
          exact List.mem_map.2 ⟨e, List.mem_filter.2 ⟨by simpa using he, hbd⟩, rfl⟩
        have hlt := of_decide_eq_true ((List.all_eq_true.1 hb.2) _ hj)
        exact ih _ hlt (by omega)
      rw [h] at hm
      cases hm

theorem wpAny_inv {needs : List (List Nat)} (hB : depsB md ops needs = true) {a0 : Act} {slots : List Nat} {J : (Nat → Bool) → (Nat → Value) → World → Prop}
    (hstep : ∀ i, i < ops.size → ∀ L vals w, J L vals w → L i = false → (∀ j ∈ needs.getD i [], L j = true) → ∀ K : Act → World → Prop,
      (∀ vals' w', J (fun k => k == i || L k) vals' w' → K (overA a0 slots vals') w') → wpOp P ops Q i K (overA a0 slots vals) w)
    (hend : ∀ L vals w, J L vals w → (∀ i, i < ops.size → L i = true) → Q .normal (overA a0 slots vals) w) :
    ∀ (fuel : Nat) (listed : Array Bool) (vals : Nat → Value) (w : World), listed.size = ops.size →
      ((List.range ops.size).filter fun i => !listed.getD i false).length ≤ fuel → J (fun k => listed.getD k false) vals w → wpAny P md ops Q fuel listed (overA a0 slots vals) w := by
  intro fuel
  induction fuel with
  | zero =>
    intro listed vals w hs hc hJ
    have hall : ∀ i, i < ops.size → listed.getD i false = true := fun i hi => by
      cases hl : listed.getD i false with
      | true => rfl
      | false =>
        have : i ∈ (List.range ops.size).filter fun i => !listed.getD i false := List.mem_filter.2 ⟨List.mem_range.2 hi, by simp [hl]⟩
        have := List.length_pos_of_mem this
        omega
    refine ⟨?_, hend _ _ _ hJ hall⟩
    refine List.eq_nil_iff_forall_not_mem.2 (fun i hi => ?_)
    obtain ⟨hu, o, ho, _⟩ := mem_ready.1 hi
    have hlt : i < ops.size := (Array.getElem?_eq_some_iff.1 ho).1
    rw [getD_in_range (by rw [hs]; exact hlt), hall i hlt] at hu
    cases hu
  | succ fuel ih =>
    intro listed vals w hs hc hJ
    refine ⟨fun h => hend _ _ _ hJ (all_up hB hs h), fun i hi => ?_⟩
    obtain ⟨hu, o, ho, hall⟩ := mem_ready.1 hi
    have hlt : i < ops.size := (Array.getElem?_eq_some_iff.1 ho).1
    have hls : i < listed.size := by rw [hs]; exact hlt
    rw [getD_in_range hls] at hu
    have hb := (List.all_eq_true.1 hB) i (List.mem_range.2 hlt)
    simp only [Bool.and_eq_true] at hb
    refine hstep i hlt _ vals w hJ hu (fun j hj => ?_) _ (fun vals' w' hJ' => ?_)
    · replace hj := of_decide_eq_true ((List.all_eq_true.1 hb.1) _ hj)
      unfold needsOf at hj
      rw [ho] at hj
      obtain ⟨e, he, rfl⟩ := List.mem_map.1 hj
      obtain ⟨he1, he2⟩ := List.mem_filter.1 he
      exact hall e (by simpa using he1) he2
    · refine ih _ vals' w' (by simp [hs]) ?_ ?_
      · have hlt2 := filter_less (p := fun k => !(listed.setIfInBounds i true).getD k false) (q := fun k => !listed.getD k false) (l := List.range ops.size) (fun x hx hp => by
            by_cases hxi : i = x
            · subst hxi; simp [Array.getD, hls] at hp
            · rw [getD_set_ne false hxi] at hp; exact hp)
          ⟨i, List.mem_range.2 hlt, by simp only [hu]; rfl, by simp [Array.getD, hls]⟩
        omega
      · have : (fun k => (listed.setIfInBounds i true).getD k false) = (fun k => k == i || listed.getD k false) := funext fun k => by
          by_cases hk : i = k
          · subst hk; simp [Array.getD, hls]
          · rw [getD_set_ne false hk]; simp [Ne.symm hk]
        rw [this]
        exact hJ'

theorem getD_all_false (n k : Nat) : (Array.replicate n false).getD k false = false := by
  simp only [Array.getD_eq_getD_getElem?, Array.getElem?_replicate]
  split <;> rfl

/-- THE RULE. -/
theorem wp_region_inv {id : Nat} {a0 : Act} {w0 : World} (hm : P.follows .mixedOrders = true) (slots : List Nat) (needs : List (List Nat)) (J : (Nat → Bool) → (Nat → Value) → World → Prop)
    (hB : depsB .any ops needs = true) (h0 : J (fun _ => false) (fun d => a0.tmps.getD d undef) w0.drew)
    (hstep : ∀ i, i < ops.size → ∀ L vals w, J L vals w → L i = false → (∀ j ∈ needs.getD i [], L j = true) → ∀ K : Act → World → Prop,
      (∀ vals' w', J (fun k => k == i || L k) vals' w' → K (overA a0 slots vals') w') → wpOp P ops Q i K (overA a0 slots vals) w)
    (hend : ∀ L vals w, J L vals w → (∀ i, i < ops.size → L i = true) → Q .normal (overA a0 slots vals) w) :
    (Code.region id ops true).wp P Q a0 w0 := by
  have h := wpAny_inv (P := P) (Q := Q) hB hstep hend ops.size (Array.replicate ops.size false) (fun d => a0.tmps.getD d undef) w0.drew (by simp)
    (Nat.le_trans (List.length_filter_le _ _) (by simp))
    (by
      have : (fun k => (Array.replicate ops.size false).getD k false) = (fun _ => false) := funext fun k => getD_all_false _ k
      rw [this]; exact h0)
  rw [overA_start] at h
  exact wp_region_any hm h

end

/-! ### The operations, one kind after another -/
section
variable {P : Program} {ops : Array Oper} {Q : Exit → Act → World → Prop}
theorem wpOp_plain {i : Nat} {o : Oper} {K : Act → World → Prop} {a : Act} {w : World} (ho : ops[i]? = some o) (hg : o.guard = none) (h : o.wp P a w K Q) : wpOp P ops Q i K a w := by
  unfold wpOp
  rw [ho]
  simp only [Region.wanted, hg, if_true]
  exact .inl h

/-- THE RULE, the frame behind a variable: a step puts a value into a listed slot, or none. -/
theorem wp_region_tab {id : Nat} {a0 : Act} {w0 : World} (hm : P.follows .mixedOrders = true) (slots : List Nat) (needs : List (List Nat)) (J : (Nat → Bool) → (Nat → Value) → World → Prop)
    (hB : depsB .any ops needs = true) (hsl : slots.all (fun d => decide (d < a0.tmps.size)) = true) (h0 : J (fun _ => false) (fun d => a0.tmps.getD d undef) w0.drew)
    (hstep : ∀ i, i < ops.size → ∀ (a : Act) L vals w, (∀ d, d ∈ slots → a.eval (.tmp d) = vals d) → J L vals w → L i = false → (∀ j ∈ needs.getD i [], L j = true) → ∀ K : Act → World → Prop,
      (∀ d x w', d ∈ slots → J (fun k => k == i || L k) (fun k => if k = d then x else vals k) w' → K (a.put (some d) x) w') → (∀ w', J (fun k => k == i || L k) vals w' → K a w') → wpOp P ops Q i K a w)
    (hend : ∀ L vals w, J L vals w → (∀ i, i < ops.size → L i = true) → Q .normal (overA a0 slots vals) w) :
    (Code.region id ops true).wp P Q a0 w0 := by
  refine wp_region_inv hm slots needs J hB h0 (fun i hi L vals w hJ hL hn K hK => ?_) hend
  refine hstep i hi (overA a0 slots vals) L vals w (fun d hd => overA_eval _ _ _ _ hd (of_decide_eq_true (List.all_eq_true.1 hsl d hd))) hJ hL hn K (fun d x w' hd hJ' => ?_) (fun w' hJ' => hK _ _ hJ')
  rw [overA_put _ _ _ _ hd]
  exact hK _ _ hJ'

theorem op_move {i : Nat} {o : Oper} {K : Act → World → Prop} {a : Act} {w : World} {d : Nat} {s : Operand} (ho : ops[i]? = some o) (hg : o.guard = none) (hop : o.op = .move s) (hd : o.dst = some d)
    {v : Value} (hx : a.eval s = v) (h : K (a.put (some d) v) w) : wpOp P ops Q i K a w :=
  wpOp_plain ho hg (BigFrame.wp_move _ hop (by rw [hx, hd]; exact h))

theorem op_load {i : Nat} {o : Oper} {K : Act → World → Prop} {a : Act} {w : World} {d g : Nat} {x : Operand} {ty t : TypeId} {cs : Array Value} {td : TypeDesc} (ho : ops[i]? = some o) (hg : o.guard = none) (hop : o.op = .load ty x) (hd : o.dst = some d)
    (hu : P.underlying ty = some td) (hdd : (match td with | .struct _ | .array _ _ => true | _ => false) = true) (hi : (P.info? ty).map (·.size) = some cs.size)
    (hx : a.eval x = .pointer (some ⟨g, 0, none⟩)) (hw : w.heap[g]? = some (.cells cs t)) (h : K (a.put (some d) (.agg cs)) w) : wpOp P ops Q i K a w :=
  wpOp_plain ho hg (wp_load_row ty x hop g hx t cs (0, 0) td hw hu hdd hi (by rw [hd]; exact h))

theorem op_store {i : Nat} {o : Oper} {K : Act → World → Prop} {a : Act} {w : World} {g : Nat} {x y : Operand} {ty t : TypeId} {old cs : Array Value} (ho : ops[i]? = some o) (hg : o.guard = none) (hop : o.op = .store ty x y) (hd : o.dst = none)
    (hi : (P.info? ty).map (·.size) = some cs.size) (hold : old.size = cs.size) (h1 : cs.all (·.oneCell') = true)
    (hx : a.eval x = .pointer (some ⟨g, 0, none⟩)) (hy : a.eval y = .agg cs) (hw : w.heap[g]? = some (.cells old t)) (h : K a (w.setRow g cs)) : wpOp P ops Q i K a w :=
  wpOp_plain ho hg (wp_store_row ty x y hop g cs hx hy t old hw hi hold h1 (by rw [hd]; exact h))

theorem op_call {i : Nat} {o : Oper} {K : Act → World → Prop} {a : Act} {w : World} {d : Nat} {f : FuncId} {args : Array Value} {v : Value} (ho : ops[i]? = some o) (hg : o.guard = none)
    (hd : o.dst = some d) (hx : (execOp a.eval o).run P w = .ok (.enter f args) w)
    {R : World → Prop} (hc : Calls P f args w fun e w' => e = .returned v ∧ R w') (h : ∀ w', R w' → K (a.put (some d) v) w') : wpOp P ops Q i K a w := by
  refine wpOp_plain ho hg ?_
  unfold Oper.wp
  rw [hx, Oper.upon_enter]
  refine hc.mono ?_
  rintro e w' ⟨rfl, hr⟩
  rw [hd]
  exact h w' hr

/-- Whatever puts a value into its slot: the run of the operation is shown beside. -/
theorem op_value {i : Nat} {o : Oper} {K : Act → World → Prop} {a : Act} {w w' : World} {d : Nat} {v : Value} (ho : ops[i]? = some o) (hg : o.guard = none)
    (hd : o.dst = some d) (hx : (execOp a.eval o).run P w = .ok (.value v) w') (h : K (a.put (some d) v) w') : wpOp P ops Q i K a w := by
  refine wpOp_plain ho hg ?_
  unfold Oper.wp
  rw [hx, Oper.upon_value, hd]
  exact h

theorem enter_run {f : FuncId} {fn : Func} {c : Code} (hf : P.funcs[f]? = some fn) (hname : (fn.name == "runtime.NumGoroutine") = false) (hb : fn.body = some c) (args : Array Value) (w : World) :
    (callFunc f args).run P w = .ok (.enter f args) w := by
  have h1 : fn.name ≠ "runtime.NumGoroutine" := by simpa using hname
  simp [callFunc, hf, h1, hb]
theorem op_go {i : Nat} {o : Oper} {K : Act → World → Prop} {a : Act} {w : World} {d : Nat} {f : FuncId} {xs : Array Operand} {ats : Array TypeId} {args : Array Value} {fn : Func} {c : Code} {v : Value} (ho : ops[i]? = some o) (hg : o.guard = none)
    (hop : o.op = .call { callee := .value (.func f), args := xs, argTypes := ats }) (hd : o.dst = some d) (hf : P.funcs[f]? = some fn) (hn : (fn.name == "runtime.NumGoroutine") = false) (hb : fn.body = some c)
    (hx : xs.map a.eval = args) {R : World → Prop} (hc : Calls P f args w fun e w' => e = .returned v ∧ R w') (h : ∀ w', R w' → K (a.put (some d) v) w') : wpOp P ops Q i K a w := by
  refine op_call ho hg hd ?_ hc h
  have e : execOp a.eval o = callFunc f (#[] ++ xs.map a.eval ++ #[]) := by
    obtain ⟨dst, op, ty, pos, after, guard⟩ := o
    simp only at hop
    subst hop
    rfl
  rw [e, hx, show #[] ++ args ++ #[] = args by simp]
  exact enter_run hf hn hb args w
end

theorem blk_keep {w w' : World} {g : Nat} {o : Obj} (h : w.heap[g]? = some o) (hb : Below w.heap.size w w') : w'.heap[g]? = some o := (hb.block _ (Array.getElem?_eq_some_iff.1 h).1).trans h

/-! ### What is kept of a region's slots and of its own blocks -/
/-- The slots: those of the operations that have come up (number, slot, value), and those that are only read. -/
structure TabR (tbl : List (Nat × Nat × Value)) (base : List (Nat × Value)) (L : Nat → Bool) (vals : Nat → Value) : Prop where
  t : ∀ t ∈ tbl, L t.1 = true → vals t.2.1 = t.2.2
  b : ∀ b ∈ base, vals b.1 = b.2
section
variable {tbl : List (Nat × Nat × Value)} {base : List (Nat × Value)} {L : Nat → Bool} {vals : Nat → Value}
theorem TabR.start (h : ∀ b ∈ base, vals b.1 = b.2) : TabR tbl base (fun _ => false) vals := ⟨fun t _ h => Bool.noConfusion h, h⟩
theorem TabR.val (h : TabR tbl base L vals) (j : Nat) {t : Nat × Nat × Value} (ht : tbl[j]? = some t) (hL : L t.1 = true) : vals t.2.1 = t.2.2 := h.t t (List.mem_of_getElem? ht) hL
theorem TabR.rd (h : TabR tbl base L vals) (j : Nat) {b : Nat × Value} (hb : base[j]? = some b) : vals b.1 = b.2 := h.b b (List.mem_of_getElem? hb)
theorem TabR.put (h : TabR tbl base L vals) {i d : Nat} {x : Value} (h1 : ∀ t ∈ tbl, (t.1 = i ∨ t.2.1 = d) → t = (i, d, x)) (h2 : ∀ b ∈ base, b.1 ≠ d) : TabR tbl base (fun k => k == i || L k) (fun k => if k = d then x else vals k) := by
  refine ⟨fun t ht hL => ?_, fun b hb => ?_⟩
  · by_cases hd : t.1 = i ∨ t.2.1 = d
    · obtain rfl := h1 t ht hd
      simp
    · have h3 : t.1 ≠ i := fun e => hd (.inl e)
      have h4 : t.2.1 ≠ d := fun e => hd (.inr e)
      show (if t.2.1 = d then x else vals t.2.1) = t.2.2
      rw [if_neg h4]
      exact h.t t ht (by simpa [h3] using hL)
  · show (if b.1 = d then x else vals b.1) = b.2
    rw [if_neg (h2 b hb)]
    exact h.b b hb
theorem TabR.skip (h : TabR tbl base L vals) {i : Nat} (h1 : ∀ t ∈ tbl, t.1 ≠ i) : TabR tbl base (fun k => k == i || L k) vals :=
  ⟨fun t ht hL => h.t t ht (by simpa [h1 t ht] using hL), h.b⟩
end
/-- A block that the region makes: the operation that makes it, its slot, the operation that fills it, what it holds ahead and behind. -/
structure BlkR where
  i : Nat
  d : Nat
  s : Nat
  old : Array Value
  new : Array Value
  T : TypeId
structure BlksR (blks : List BlkR) (B : Nat) (L : Nat → Bool) (vals : Nat → Value) (w : World) : Prop where
  le : B ≤ w.heap.size
  m : ∀ b ∈ blks, L b.i = true → ∃ g, vals b.d = .pointer (some ⟨g, 0, none⟩) ∧ B ≤ g ∧ w.heap[g]? = some (.cells (if L b.s = true then b.new else b.old) b.T)
  ne : ∀ b ∈ blks, ∀ c ∈ blks, b.i ≠ c.i → L b.i = true → L c.i = true → vals b.d ≠ vals c.d
  so : ∀ b ∈ blks, L b.s = true → L b.i = true
section
variable {blks : List BlkR} {B : Nat} {L : Nat → Bool} {vals : Nat → Value} {w w' : World}
theorem BlksR.start (vals : Nat → Value) (hB : B ≤ w.heap.size) : BlksR blks B (fun _ => false) vals w := ⟨hB, fun _ _ h => Bool.noConfusion h, fun _ _ _ _ _ h => Bool.noConfusion h, fun _ _ h => Bool.noConfusion h⟩
theorem BlksR.keep (h : BlksR blks B L vals w) (hb : Below w.heap.size w w') {i d : Nat} {x : Value} (h1 : ∀ b ∈ blks, b.i ≠ i ∧ b.s ≠ i ∧ b.d ≠ d) : BlksR blks B (fun k => k == i || L k) (fun k => if k = d then x else vals k) w' := by
  suffices hg : ∀ (L' : Nat → Bool) (vals' : Nat → Value), (∀ k, L' k = (k == i || L k)) → (∀ k, vals' k = if k = d then x else vals k) → BlksR blks B L' vals' w' from hg _ _ (fun _ => rfl) (fun _ => rfl)
  intro L' vals' eL eV
  have e : ∀ b ∈ blks, L' b.i = L b.i ∧ L' b.s = L b.s ∧ vals' b.d = vals b.d := fun b hb => by
    obtain ⟨h2, h3, h4⟩ := h1 b hb
    rw [eL, eL, eV]
    simp [h2, h3, h4]
  refine ⟨Nat.le_trans h.le hb.size, fun b hbm hL => ?_, fun b hbm c hcm hne hL hL2 => ?_, fun b hbm hL => ?_⟩
  · obtain ⟨e1, e2, e3⟩ := e b hbm
    rw [e1] at hL
    obtain ⟨g, g1, g2, g3⟩ := h.m b hbm hL
    exact ⟨g, by rw [e3]; exact g1, g2, by rw [e2]; exact blk_keep g3 hb⟩
  · rw [(e b hbm).1] at hL
    rw [(e c hcm).1] at hL2
    rw [(e b hbm).2.2, (e c hcm).2.2]
    exact h.ne b hbm c hcm hne hL hL2
  · rw [(e b hbm).2.1] at hL
    rw [(e b hbm).1]
    exact h.so b hbm hL
/-- An operation without a slot that leaves the region's blocks alone. -/
theorem BlksR.skip (h : BlksR blks B L vals w) (hs : B ≤ w'.heap.size) (hk : ∀ g o, B ≤ g → w.heap[g]? = some o → w'.heap[g]? = some o) {i : Nat} (h1 : ∀ b ∈ blks, b.i ≠ i ∧ b.s ≠ i) : BlksR blks B (fun k => k == i || L k) vals w' := by
  suffices hg : ∀ (L' : Nat → Bool), (∀ k, L' k = (k == i || L k)) → BlksR blks B L' vals w' from hg _ (fun _ => rfl)
  intro L' eL
  have e : ∀ b ∈ blks, L' b.i = L b.i ∧ L' b.s = L b.s := fun b hb => by
    obtain ⟨h2, h3⟩ := h1 b hb
    rw [eL, eL]
    simp [h2, h3]
  refine ⟨hs, fun b hbm hL => ?_, fun b hbm c hcm hne hL hL2 => ?_, fun b hbm hL => ?_⟩
  · obtain ⟨e1, e2⟩ := e b hbm
    rw [e1] at hL
    obtain ⟨g, g1, g2, g3⟩ := h.m b hbm hL
    exact ⟨g, g1, g2, by rw [e2]; exact hk g _ g2 g3⟩
  · rw [(e b hbm).1] at hL
    rw [(e c hcm).1] at hL2
    exact h.ne b hbm c hcm hne hL hL2
  · rw [(e b hbm).2] at hL
    rw [(e b hbm).1]
    exact h.so b hbm hL
theorem BlksR.make (h : BlksR blks B L vals w) {b : BlkR} (hbm : b ∈ blks) (hL0 : L b.i = false) (h1 : ∀ c ∈ blks, (c.i = b.i ∨ c.d = b.d) → c = b) (h2 : ∀ c ∈ blks, c.s ≠ b.i) :
    BlksR blks B (fun k => k == b.i || L k) (fun k => if k = b.d then .pointer (some ⟨w.heap.size, 0, none⟩) else vals k) (w.alloc (.cells b.old b.T)) := by
  suffices hg : ∀ (L' : Nat → Bool) (vals' : Nat → Value), (∀ k, L' k = (k == b.i || L k)) → (∀ k, vals' k = if k = b.d then .pointer (some ⟨w.heap.size, 0, none⟩) else vals k) → BlksR blks B L' vals' (w.alloc (.cells b.old b.T)) from hg _ _ (fun _ => rfl) (fun _ => rfl)
  intro L' vals' eL eV
  have hb0 : Below w.heap.size w (w.alloc (.cells b.old b.T)) := (Below.refl _ _).alloc (Nat.le_refl _) _
  have es : ∀ c ∈ blks, L' c.s = L c.s := fun c hc => by rw [eL]; simp [h2 c hc]
  have eo : ∀ c ∈ blks, c ≠ b → L' c.i = L c.i ∧ vals' c.d = vals c.d := fun c hc hne => by
    have h3 : c.i ≠ b.i := fun e => hne (h1 c hc (.inl e))
    have h4 : c.d ≠ b.d := fun e => hne (h1 c hc (.inr e))
    rw [eL, eV]
    simp [h3, h4]
  have ed : vals' b.d = .pointer (some ⟨w.heap.size, 0, none⟩) := by rw [eV, if_pos rfl]
  have far : ∀ c ∈ blks, L c.i = true → vals c.d ≠ .pointer (some ⟨w.heap.size, 0, none⟩) := fun c hc hL he => by
    obtain ⟨g, g1, _, g3⟩ := h.m c hc hL
    rw [g1] at he
    simp only [Value.pointer.injEq, Option.some.injEq, Addr.mk.injEq, and_true] at he
    subst he
    have := (Array.getElem?_eq_some_iff.1 g3).1
    omega
  refine ⟨Nat.le_trans h.le hb0.size, fun c hc hL => ?_, fun c hc c' hc' hne hL hL2 => ?_, fun c hc hL => ?_⟩
  · rw [es c hc]
    by_cases hcb : c = b
    · subst hcb
      refine ⟨w.heap.size, ed, h.le, ?_⟩
      have hs0 : L c.s ≠ true := fun e => by rw [h.so c hc e] at hL0; cases hL0
      rw [if_neg hs0]
      exact heap_alloc_new _ _
    · obtain ⟨e1, e2⟩ := eo c hc hcb
      rw [e1] at hL
      obtain ⟨g, g1, g2, g3⟩ := h.m c hc hL
      exact ⟨g, by rw [e2]; exact g1, g2, blk_keep g3 hb0⟩
  · by_cases hcb : c = b
    · subst hcb
      have hcb' : c' ≠ c := fun e => hne (by rw [e])
      rw [ed, (eo c' hc' hcb').2]
      rw [(eo c' hc' hcb').1] at hL2
      exact fun e => far c' hc' hL2 e.symm
    · rw [(eo c hc hcb).1] at hL
      rw [(eo c hc hcb).2]
      by_cases hcb' : c' = b
      · subst hcb'
        rw [ed]
        exact far c hc hL
      · rw [(eo c' hc' hcb').1] at hL2
        rw [(eo c' hc' hcb').2]
        exact h.ne c hc c' hc' hne hL hL2
  · rw [es c hc] at hL
    rw [eL, h.so c hc hL]
    simp
theorem BlksR.fill (h : BlksR blks B L vals w) {b : BlkR} (hbm : b ∈ blks) (hLi : L b.i = true) (h1 : ∀ c ∈ blks, c.s = b.s → c = b) (h2 : ∀ c ∈ blks, c.i ≠ b.s) (h3 : ∀ c ∈ blks, c.i = b.i → c = b) {g : Nat} (hg : vals b.d = .pointer (some ⟨g, 0, none⟩)) :
    BlksR blks B (fun k => k == b.s || L k) vals (w.setRow g b.new) := by
  suffices hw : ∀ (L' : Nat → Bool), (∀ k, L' k = (k == b.s || L k)) → BlksR blks B L' vals (w.setRow g b.new) from hw _ (fun _ => rfl)
  intro L' eL
  have ei : ∀ c ∈ blks, L' c.i = L c.i := fun c hc => by rw [eL]; simp [h2 c hc]
  have eo : ∀ c ∈ blks, c ≠ b → L' c.s = L c.s := fun c hc hne => by
    have : c.s ≠ b.s := fun e => hne (h1 c hc e)
    rw [eL]; simp [this]
  refine ⟨by simpa [World.setRow] using h.le, fun c hc hL => ?_, fun c hc c' hc' hne hL hL2 => ?_, fun c hc hL => ?_⟩
  · rw [ei c hc] at hL
    obtain ⟨g', g1, g2, g3⟩ := h.m c hc hL
    by_cases hcb : c = b
    · subst hcb
      rw [hg] at g1
      simp only [Value.pointer.injEq, Option.some.injEq, Addr.mk.injEq, and_true] at g1
      subst g1
      refine ⟨g, hg, g2, ?_⟩
      rw [if_pos (by rw [eL]; simp)]
      exact setRow_heap _ _ _ _ _ _ g3
    · refine ⟨g', g1, g2, ?_⟩
      rw [eo c hc hcb]
      have hn : g' ≠ g := fun e => by
        subst e
        exact h.ne c hc b hbm (fun e => hcb (h3 c hc e)) hL hLi (by rw [g1, hg])
      rw [setRow_other _ _ _ _ hn]
      exact g3
  · rw [ei c hc] at hL
    rw [ei c' hc'] at hL2
    exact h.ne c hc c' hc' hne hL hL2
  · rw [ei c hc]
    by_cases hcb : c = b
    · subst hcb; exact hLi
    · rw [eo c hc hcb] at hL
      exact h.so c hc hL
theorem BlksR.blk (h : BlksR blks B L vals w) (j : Nat) {b : BlkR} (hb : blks[j]? = some b) (hL : L b.i = true) : ∃ g, vals b.d = .pointer (some ⟨g, 0, none⟩) ∧ B ≤ g ∧ w.heap[g]? = some (.cells (if L b.s = true then b.new else b.old) b.T) := h.m b (List.mem_of_getElem? hb) hL
theorem BlksR.new (h : BlksR blks B L vals w) (j : Nat) {b : BlkR} (hb : blks[j]? = some b) (hL0 : L b.i = false) (h1 : ∀ c ∈ blks, (c.i = b.i ∨ c.d = b.d) → c = b) (h2 : ∀ c ∈ blks, c.s ≠ b.i) :
    BlksR blks B (fun k => k == b.i || L k) (fun k => if k = b.d then .pointer (some ⟨w.heap.size, 0, none⟩) else vals k) (w.alloc (.cells b.old b.T)) := h.make (List.mem_of_getElem? hb) hL0 h1 h2
theorem BlksR.st (h : BlksR blks B L vals w) (j : Nat) {b : BlkR} (hb : blks[j]? = some b) (hLi : L b.i = true) (h1 : ∀ c ∈ blks, c.s = b.s → c = b) (h2 : ∀ c ∈ blks, c.i ≠ b.s) (h3 : ∀ c ∈ blks, c.i = b.i → c = b) {g : Nat} (hg : vals b.d = .pointer (some ⟨g, 0, none⟩)) :
    BlksR blks B (fun k => k == b.s || L k) vals (w.setRow g b.new) := h.fill (List.mem_of_getElem? hb) hLi h1 h2 h3 hg
end

end Go.Proofs.YtmelblnflalanaaGreat

/- A fraction as a text, as rat prints it. -/
namespace Go.Proofs.YtmelblnflalanaaGreat
open Go Go.RowKit
set_option linter.unusedVariables false
set_option linter.unusedSimpArgs false

/-- The library's table of powers of ten lies as its package laid it. -/
def TabQ (w : World) : Prop := Lib.TabIs Tryz.prog w "internal/strconv.uint64pow10" .u64 Lib.pow10Tab
theorem TabQ.below {w w' : World} (h : TabQ w) (hb : Below w.heap.size w w') : TabQ w' := Lib.tabBelow_of_tabIs h w' hb
/-- A fraction's text. -/
def printR (r : Int × Int) : List UInt8 := if rightR r = true then (if r.2 = 1 then Lib.itoa r.1 else Lib.itoa r.1 ++ 47 :: Lib.itoa r.2) else []

theorem bytes_add (a b : List UInt8) : (⟨a.toArray⟩ : ByteArray) ++ ⟨b.toArray⟩ = ⟨(a ++ b).toArray⟩ := ByteArray.ext (by simp [ByteArray.data_append])

/-- A fraction in a block, and the table. -/
structure Pq (w0 : World) (x y : Int) (wr : World) : Prop where
  below : Below w0.heap.size w0 wr
  ha : wr.heap[w0.heap.size]? = some (.cells #[.int .i64 x, .int .i64 y] 24)
  tab : TabQ wr
section
variable {w0 wr w' : World} {x y : Int}
theorem Pq.step (h : Pq w0 x y wr) (hb : Below wr.heap.size wr w') : Pq w0 x y w' := ⟨h.below.trans (hb.mono h.below.size), heap_keep h.ha hb, h.tab.below hb⟩
theorem Pq.drew (h : Pq w0 x y wr) : Pq w0 x y wr.drew := h.step (Below.drew (Below.refl _ _))
end
def tb5 (g : Nat) (x y : Int) : List (Nat × Nat × Value) :=
  [(0, 14, .pointer (some ⟨g, 0, none⟩)), (1, 15, .int .i64 x), (2, 16, .string ⟨(Lib.itoa x).toArray⟩), (3, 17, .string ⟨(Lib.itoa x ++ [47]).toArray⟩), (4, 18, .pointer (some ⟨g, 1, none⟩)), (5, 19, .int .i64 y), (6, 20, .string ⟨(Lib.itoa y).toArray⟩), (7, 21, .string ⟨(Lib.itoa x ++ 47 :: Lib.itoa y).toArray⟩), (8, 2, .string ⟨(Lib.itoa x ++ 47 :: Lib.itoa y).toArray⟩)]
def bs5 (g : Nat) : List (Nat × Value) := [(1, .pointer (some ⟨g, 0, none⟩))]

end Go.Proofs.YtmelblnflalanaaGreat

/- The simplest fraction between two, by the steps that rat's inner goes: in plain numbers. -/
namespace Go.Proofs.YtmelblnflalanaaGreat
open Go Go.RowKit
set_option linter.unusedVariables false
set_option linter.unusedSimpArgs false

/-- What inner tells from a row of steps, what is left above lo and (if it is open) below hi; -1: the steps do not suffice. -/
def innerP : Nat → Int → Int → Int → Int → Int × Int → Int × Int → Bool → (Int × Int) × Int
  | 0, _, _, _, _, _, _, _ => ((0, 0), -1)
  | g + 1, p, q, pp, qq, lo, hi, op =>
    if floorP lo = 9223372036854775807 then ((0, 0), 4)
    else if (op && decide (0 ≤ cmpP (floorP lo + 1, 1) hi)) = true then
      (if (fitsI (floorP lo * p + pp) && fitsI (floorP lo * q + qq)) = true then
        innerP g (floorP lo * p + pp) (floorP lo * q + qq) p q ((subP hi (floorP lo, 1)).1.2, (subP hi (floorP lo, 1)).1.1) (if (partP lo).1 = 0 then hi else ((partP lo).2, (partP lo).1)) (!decide ((partP lo).1 = 0))
      else ((0, 0), 4))
    else if (fitsI ((floorP lo + 1) * p + pp) && fitsI ((floorP lo + 1) * q + qq)) = true then (((floorP lo + 1) * p + pp, (floorP lo + 1) * q + qq), 0)
    else ((0, 0), 4)

theorem inner_none {g : Nat} {p q pp qq n : Int} {lo hi : Int × Int} {op : Bool} (hn : n = floorP lo) (h : n = 9223372036854775807) : innerP (g + 1) p q pp qq lo hi op = ((0, 0), 4) := by
  unfold innerP; rw [← hn, if_pos h]
theorem inner_last {g : Nat} {p q pp qq n : Int} {lo hi : Int × Int} {op : Bool} (hn : n = floorP lo) (h : ¬ n = 9223372036854775807) (h2 : op = false ∨ cmpP (n + 1, 1) hi < 0) :
    innerP (g + 1) p q pp qq lo hi op = if (fitsI ((n + 1) * p + pp) && fitsI ((n + 1) * q + qq)) = true then (((n + 1) * p + pp, (n + 1) * q + qq), 0) else ((0, 0), 4) := by
  unfold innerP
  rw [← hn, if_neg h, if_neg]
  rcases h2 with rfl | h2
  · simp
  · rw [show decide (0 ≤ cmpP (n + 1, 1) hi) = false from decide_eq_false (by omega), Bool.and_false]; decide
theorem inner_on {g : Nat} {p q pp qq n : Int} {lo hi : Int × Int} (hn : n = floorP lo) (h : ¬ n = 9223372036854775807) (h2 : 0 ≤ cmpP (n + 1, 1) hi) :
    innerP (g + 1) p q pp qq lo hi true = if (fitsI (n * p + pp) && fitsI (n * q + qq)) = true then
        innerP g (n * p + pp) (n * q + qq) p q ((subP hi (n, 1)).1.2, (subP hi (n, 1)).1.1) (if (partP lo).1 = 0 then hi else ((partP lo).2, (partP lo).1)) (!decide ((partP lo).1 = 0))
      else ((0, 0), 4) := by
  rw [innerP, ← hn, if_neg h, if_pos (by rw [decide_eq_true h2]; rfl)]

/-! ### ranges -/
theorem zero64 : I64 0 := ⟨by decide, by decide⟩
theorem fits64 {x : Int} (h : fitsI x = true) : I64 x := of_decide_eq_true (p := -9223372036854775808 ≤ x ∧ x ≤ 9223372036854775807) h
theorem floor64 {r : Int × Int} (h : I64 r.1) : I64 (floorP r) := by
  unfold floorP
  by_cases hr : rightR r = true
  · rw [if_pos hr]; exact (div_range h (right_pos (a := r.1) (b := r.2) hr)).1
  · rw [if_neg hr]; exact zero64
theorem part64 {r : Int × Int} (h : I64 r.1) (h2 : I64 r.2) : I64 (partP r).1 ∧ I64 (partP r).2 := by
  unfold partP
  by_cases hr : rightR r = true
  · rw [if_pos hr]
    obtain ⟨_, h3, h4⟩ := div_range h (right_pos (a := r.1) (b := r.2) hr)
    exact ⟨⟨by show _ ≤ r.1 % r.2; omega, by show r.1 % r.2 ≤ _; obtain ⟨_, _⟩ := h2; omega⟩, h2⟩
  · rw [if_neg hr]; exact ⟨zero64, zero64⟩
theorem frac64 (X D : Int) : I64 (fracP X D).1.1 ∧ I64 (fracP X D).1.2 := by
  unfold fracP
  by_cases hc : fitsI (sgnI (decide (X < 0) != decide (D < 0)) (X.natAbs / Nat.gcd X.natAbs D.natAbs)) = true ∧ D.natAbs / Nat.gcd X.natAbs D.natAbs ≤ 9223372036854775807
  · rw [if_pos hc]; exact ⟨fits64 hc.1, ⟨by show _ ≤ ((D.natAbs / Nat.gcd X.natAbs D.natAbs : Nat) : Int); have := Int.natCast_nonneg (D.natAbs / Nat.gcd X.natAbs D.natAbs); omega, by show ((D.natAbs / Nat.gcd X.natAbs D.natAbs : Nat) : Int) ≤ _; omega⟩⟩
  · rw [if_neg hc]; exact ⟨zero64, zero64⟩
theorem subP64 (a b : Int × Int) : I64 (subP a b).1.1 ∧ I64 (subP a b).1.2 := by
  unfold subP
  split
  · exact frac64 _ _
  · exact ⟨zero64, zero64⟩
theorem cmp_three (a b : Int × Int) : cmpP a b = -1 ∨ cmpP a b = 0 ∨ cmpP a b = 1 := by
  unfold cmpP cmpQI
  repeat' split
  all_goals omega
/-- All that a row of steps holds are numbers of 64 bits. -/
def In64 (p q pp qq : Int) (lo hi : Int × Int) : Prop := I64 p ∧ I64 q ∧ I64 pp ∧ I64 qq ∧ I64 lo.1 ∧ I64 lo.2 ∧ I64 hi.1 ∧ I64 hi.2
theorem In64.next {p q pp qq n : Int} {lo hi : Int × Int} (h : In64 p q pp qq lo hi) (hf : (fitsI (n * p + pp) && fitsI (n * q + qq)) = true) :
    In64 (n * p + pp) (n * q + qq) p q ((subP hi (n, 1)).1.2, (subP hi (n, 1)).1.1) (if (partP lo).1 = 0 then hi else ((partP lo).2, (partP lo).1)) := by
  obtain ⟨h1, h2, h3, h4, h5, h6, h7, h8⟩ := h
  obtain ⟨f1, f2⟩ := Bool.and_eq_true_iff.1 hf
  obtain ⟨s1, s2⟩ := subP64 hi (n, 1)
  obtain ⟨p1, p2⟩ := part64 h5 h6
  refine ⟨fits64 f1, fits64 f2, h1, h2, s2, s1, ?_, ?_⟩
  · split
    · exact h7
    · exact p2
  · split
    · exact h8
    · exact p1
theorem inner_third_is : innerP 3 1 0 0 1 (1, 3) (1, 2) true = ((2, 5), 0) := by decide +kernel

end Go.Proofs.YtmelblnflalanaaGreat

/- Fractions in blocks, and the library's table: what a law of rat keeps. -/
namespace Go.Proofs.YtmelblnflalanaaGreat
open Go Go.RowKit
set_option linter.unusedVariables false
set_option linter.unusedSimpArgs false

structure RtL (w0 : World) (L : List (Nat × Int × Int)) (wr : World) : Prop where
  below : Below w0.heap.size w0 wr
  l : ∀ t ∈ L, wr.heap[t.1]? = some (.cells #[.int .i64 t.2.1, .int .i64 t.2.2] 24)
  tab : TabQ wr
section
variable {w0 wr w' : World} {L : List (Nat × Int × Int)}
theorem RtL.start (h : TabQ w0) : RtL w0 [] w0 := ⟨Below.refl _ _, (fun _ h => by cases h), h⟩
theorem RtL.step (h : RtL w0 L wr) (hb : Below wr.heap.size wr w') : RtL w0 L w' := ⟨h.below.trans (hb.mono h.below.size), fun t ht => heap_keep (h.l t ht) hb, h.tab.below hb⟩
theorem RtL.drew (h : RtL w0 L wr) : RtL w0 L wr.drew := h.step (Below.drew (Below.refl _ _))
theorem RtL.new (h : RtL w0 L wr) (x y : Int) : RtL w0 (L ++ [(wr.heap.size, x, y)]) (wr.alloc (.cells #[.int .i64 x, .int .i64 y] 24)) := by
  have h2 := h.step (below_one wr (.cells #[.int .i64 x, .int .i64 y] 24))
  refine ⟨h2.below, fun t ht => ?_, h2.tab⟩
  rcases List.mem_append.1 ht with ht | ht
  · exact h2.l t ht
  · obtain rfl := List.mem_singleton.1 ht
    exact heap_alloc_new _ _
theorem RtL.cells (h : RtL w0 L wr) (j : Nat) {t : Nat × Int × Int} (ht : L[j]? = some t) : wr.cell? ⟨t.1, 0, none⟩ = some (.int .i64 t.2.1) ∧ wr.cell? ⟨t.1, 1, none⟩ = some (.int .i64 t.2.2) := by
  obtain ⟨a, b, _, _⟩ := cell_two (h.l t (List.mem_of_getElem? ht))
  exact ⟨a, b⟩
theorem RtL.one (h : RtL w0 [] w0) (x y : Int) : RtL w0 [(w0.heap.size, x, y)] (w0.alloc (.cells #[.int .i64 x, .int .i64 y] 24)) := h.new x y
theorem RtL.two (h : RtL w0 [] w0) (x y u v : Int) : RtL w0 [(w0.heap.size, x, y), (w0.heap.size + 1, u, v)] ((w0.alloc (.cells #[.int .i64 x, .int .i64 y] 24)).alloc (.cells #[.int .i64 u, .int .i64 v] 24)) := by
  have := (h.one x y).new u v
  rw [show (w0.alloc (.cells #[.int .i64 x, .int .i64 y] 24)).heap.size = w0.heap.size + 1 by simp] at this
  exact this
theorem RtL.three (h : RtL w0 [] w0) (x y u v p q : Int) : RtL w0 [(w0.heap.size, x, y), (w0.heap.size + 1, u, v), (w0.heap.size + 1 + 1, p, q)] (((w0.alloc (.cells #[.int .i64 x, .int .i64 y] 24)).alloc (.cells #[.int .i64 u, .int .i64 v] 24)).alloc (.cells #[.int .i64 p, .int .i64 q] 24)) := by
  have := (h.two x y u v).new p q
  rw [show ((w0.alloc (.cells #[.int .i64 x, .int .i64 y] 24)).alloc (.cells #[.int .i64 u, .int .i64 v] 24)).heap.size = w0.heap.size + 1 + 1 by simp] at this
  exact this
end
theorem addP64 (a b : Int × Int) : I64 (addP a b).1.1 ∧ I64 (addP a b).1.2 := by
  unfold addP
  split
  · exact frac64 _ _
  · exact ⟨zero64, zero64⟩
theorem mulP64 (a b : Int × Int) : I64 (mulP a b).1.1 ∧ I64 (mulP a b).1.2 := by
  unfold mulP
  split
  · exact frac64 _ _
  · exact ⟨zero64, zero64⟩
theorem divP64 (a b : Int × Int) : I64 (divP a b).1.1 ∧ I64 (divP a b).1.2 := by
  unfold divP
  split
  · split
    · exact ⟨zero64, zero64⟩
    · exact frac64 _ _
  · exact ⟨zero64, zero64⟩
theorem fits_of {x : Int} (h : I64 x) : fitsI x = true := decide_eq_true (p := -9223372036854775808 ≤ x ∧ x ≤ 9223372036854775807) h

end Go.Proofs.YtmelblnflalanaaGreat

/- Fractions in a row in memory: a copy with marked room behind its end; it is as it was. -/
namespace Go.Proofs.YtmelblnflalanaaGreat
open Go Go.RowKit
set_option linter.unusedVariables false
set_option linter.unusedSimpArgs false

/-- A row of fractions lies there. -/
def RatsA (w : World) (A : Option Addr) (l : List (Int × Int)) : Prop :=
  ∀ j, j < l.length → ∃ b off, A = some ⟨b, off, none⟩ ∧ w.cell? ⟨b, off + j * 2, none⟩ = some (.int .i64 (l.getD j (0, 0)).1) ∧ w.cell? ⟨b, off + j * 2 + 1, none⟩ = some (.int .i64 (l.getD j (0, 0)).2)
theorem RatsA.below {w w' : World} {A : Option Addr} {l : List (Int × Int)} (h : RatsA w A l) (hb : Below w.heap.size w w') : RatsA w' A l := fun j hj => by
  obtain ⟨b, off, rfl, h1, h2⟩ := h j hj
  have hlt : ∀ o v, w.cell? ⟨b, o, none⟩ = some v → w'.cell? ⟨b, o, none⟩ = some v := fun o v hv => by
    have hl : b < w.heap.size := by
      rcases Nat.lt_or_ge b w.heap.size with h' | h'
      · exact h'
      · exfalso
        simp only [World.cell?] at hv
        rw [Array.getElem?_eq_none h'] at hv
        cases hv
    simp only [World.cell?] at hv ⊢
    rw [hb.block b hl]
    exact hv
  exact ⟨b, off, rfl, hlt _ _ h1, hlt _ _ h2⟩
/-- Block g begins with N fractions. -/
def QRow (w : World) (g : Nat) (e : TypeId) (N : Nat) (f : Nat → Int × Int) : Prop :=
  ∃ cur : Array Value, w.heap[g]? = some (.cells cur e (0, 0)) ∧ cur.size = N * 2 ∧ ∀ j, j < N → cur[j * 2]? = some (.int .i64 (f j).1) ∧ cur[j * 2 + 1]? = some (.int .i64 (f j).2)
section
variable {w w' : World} {g : Nat} {e : TypeId} {N : Nat} {f : Nat → Int × Int}
theorem QRow.lt (h : QRow w g e N f) : g < w.heap.size := by obtain ⟨cur, h1, _⟩ := h; exact (Array.getElem?_eq_some_iff.1 h1).1
theorem QRow.cell (h : QRow w g e N f) (j : Nat) (hj : j < N) : w.cell? ⟨g, j * 2, none⟩ = some (.int .i64 (f j).1) ∧ w.cell? ⟨g, j * 2 + 1, none⟩ = some (.int .i64 (f j).2) := by
  obtain ⟨cur, h1, _, h2⟩ := h
  obtain ⟨a, b⟩ := h2 j hj
  exact ⟨by simp [World.cell?, h1, a], by simp [World.cell?, h1, b]⟩
theorem QRow.frozen (h : QRow w g e N f) (o : Nat) : w.frozen? ⟨g, o, none⟩ = false := by
  obtain ⟨cur, h1, _⟩ := h
  simp [World.frozen?, h1]
theorem QRow.later (h : QRow w g e N f) (hb : Below w.heap.size w w') : QRow w' g e N f := by
  have hlt := h.lt
  obtain ⟨cur, h1, h2⟩ := h
  exact ⟨cur, (hb.block g hlt).trans h1, h2⟩
theorem QRow.drewN (h : QRow w g e N f) (q : Nat) : QRow (w.drewN q) g e N f := h
theorem QRow.congr {f' : Nat → Int × Int} (h : QRow w g e N f) (hf : ∀ j, j < N → f j = f' j) : QRow w g e N f' := by
  obtain ⟨cur, h1, h2, h3⟩ := h
  exact ⟨cur, h1, h2, fun j hj => by rw [← hf j hj]; exact h3 j hj⟩
theorem QRow.set (h : QRow w g e N f) (p : Nat) (hp : p < N) (x y : Int) :
    QRow ((w.setCell ⟨g, p * 2, none⟩ (.int .i64 x)).setCell ⟨g, p * 2 + 1, none⟩ (.int .i64 y)) g e N (fun j => if j = p then (x, y) else f j) := by
  obtain ⟨cur, h1, h2, h3⟩ := h
  refine ⟨(cur.setIfInBounds (p * 2) (.int .i64 x)).setIfInBounds (p * 2 + 1) (.int .i64 y), ?_, by simpa using h2, fun j hj => ?_⟩
  · simp [World.setCell, Array.getElem?_modify, h1]
  · obtain ⟨a, b⟩ := h3 j hj
    by_cases e : j = p
    · subst e
      simp only [if_true]
      refine ⟨?_, ?_⟩
      · rw [Array.getElem?_setIfInBounds, if_neg (by omega), Array.getElem?_setIfInBounds, if_pos rfl, if_pos (by omega)]
      · rw [Array.getElem?_setIfInBounds, if_pos rfl, if_pos (by simp; omega)]
    · simp only [if_neg e]
      refine ⟨?_, ?_⟩ <;>
        rw [Array.getElem?_setIfInBounds, if_neg (by omega), Array.getElem?_setIfInBounds, if_neg (by omega)] <;> assumption
theorem QRow.rats (h : QRow w g e N f) (l : List (Int × Int)) (hl : l.length ≤ N) (hf : ∀ j, j < l.length → f j = l.getD j (0, 0)) : RatsA w (some ⟨g, 0, none⟩) l := fun j hj => by
  obtain ⟨a, b⟩ := h.cell j (by omega)
  rw [hf j hj] at a b
  exact ⟨g, 0, rfl, by rw [Nat.zero_add]; exact a, by rw [Nat.zero_add]; exact b⟩
end
theorem infoQ : (Tryz.prog.info? 24).map (fun i => (i.zero, i.size, i.bytes)) = some (some (.agg #[.int .i64 0, .int .i64 0]), 2, 16) := by kernel_rfl
theorem info_partsQ {o : Option TypeInfo} {z : Value} {n b : Nat} (h : o.map (fun i => (i.zero, i.size, i.bytes)) = some (some z, n, b)) : ∃ i, o = some i ∧ i.zero = some z ∧ i.size = n ∧ i.bytes = b := by
  cases o with
  | none => cases h
  | some i =>
    simp only [Option.map_some, Option.some.injEq, Prod.mk.injEq] at h
    exact ⟨i, rfl, h.1, h.2.1, h.2.2⟩
theorem qrow_made (w : World) (e : TypeId) (N : Nat) : QRow (w.alloc (.cells (madeCells #[.int .i64 0, .int .i64 0] (N * 2)) e)) w.heap.size e N (fun _ => (0, 0)) := by
  refine ⟨_, heap_alloc_new _ _, by simp [madeCells], fun j hj => ?_⟩
  have h0 : j * 2 < N * 2 := by omega
  have h1 : j * 2 + 1 < N * 2 := by omega
  have e0 : j * 2 % 2 = 0 := by omega
  have e1 : (j * 2 + 1) % 2 = 1 := by omega
  simp [madeCells, h0, h1, e0, e1]

/-- The copy, and its marks. -/
def handQ (l : List (Int × Int)) (j : Nat) : Int × Int := if j < l.length then l.getD j (0, 0) else (-700 - j + l.length, 77)
/-- The first p places of it. -/
def handQp (l : List (Int × Int)) (p j : Nat) : Int × Int := if j < p then handQ l j else (0, 0)
def HandQ (w0 : World) (l : List (Int × Int)) (p : Nat) (wr : World) : Prop := Below w0.heap.size w0 wr ∧ QRow wr w0.heap.size 24 (l.length + 9) (handQp l p)
theorem HandQ.next {w0 wr : World} {l : List (Int × Int)} {p : Nat} (h : HandQ w0 l p wr) (hp : p < l.length + 9) (x y : Int) (hx : handQ l p = (x, y)) :
    HandQ w0 l (p + 1) ((wr.setCell ⟨w0.heap.size, p * 2, none⟩ (.int .i64 x)).setCell ⟨w0.heap.size, p * 2 + 1, none⟩ (.int .i64 y)) := by
  refine ⟨(h.1.setCell (p := ⟨w0.heap.size, _, none⟩) (Nat.le_refl _) _).setCell (p := ⟨w0.heap.size, _, none⟩) (Nat.le_refl _) _, (h.2.set p hp x y).congr fun j hj => ?_⟩
  unfold handQp
  by_cases e : j = p
  · subst e; rw [if_pos rfl, if_pos (by omega), hx]
  · rw [if_neg e]
    by_cases e2 : j < p
    · rw [if_pos e2, if_pos (by omega)]
    · rw [if_neg e2, if_neg (by omega)]

set_option maxHeartbeats 1000000 in
set_option maxRecDepth 100000 in
theorem handrats_any (A : Option Addr) (c : Nat) (l : List (Int × Int)) (w : World) (hI : RatsA w A l) (hmax : l.length ≤ 8796093022000) :
    Calls Tryz.prog 4 #[.slice A l.length c] w fun e w' => e = .returned (.slice (some ⟨w.heap.size, 0, none⟩) l.length (l.length + 9)) ∧ HandQ w l (l.length + 9) w' := by
  have HI := Lib.hid hI
  obtain ⟨i0, hi1, hz0, hz1, hz2⟩ := info_partsQ infoQ
  have hmk := fun w => run_make (P := Tryz.prog) w 22 24 i0 (.agg #[.int .i64 0, .int .i64 0]) Tryz.underlying22 hi1 hz0 .i64 .i64 ((l.length : Int) + 9) ((l.length : Int) + 9) (by omega) (Int.le_refl _) (by rw [hz2]; omega) (by omega)
  rw [hz1, show ((l.length : Int) + 9).toNat = l.length + 9 by omega] at hmk
  have HS := Lib.hid (show HandQ w l 0 (w.alloc (.cells (madeCells #[.int .i64 0, .int .i64 0] ((l.length + 9) * 2)) 24)) from ⟨(Below.refl _ _).alloc (Nat.le_refl _) _, (qrow_made w _ _).congr fun j _ => by unfold handQp; rw [if_neg (by omega)]⟩)
  clear hI hi1 hz0 hz1 hz2
  go_enter Tryz.func4, Tryz.ntmps4
  go_wp2
  generalize w.alloc (.cells (madeCells #[.int .i64 0, .int .i64 0] ((l.length + 9) * 2)) 24) = w1 at *
  go_loopg [4] l.length (fun g v wr => ∃ p : Nat, v = .int .i64 p ∧ Hid (HandQ w l p wr) ∧ Hid (p ≤ l.length ∧ g + p = l.length))
  case atStart => exact ⟨0, by simp, HS.out, by omega, by omega⟩
  case round =>
    clear HS
    obtain ⟨p, rfl, HR, HG⟩ := hrel
    by_cases hp : p < l.length
    · obtain ⟨b, off, rfl, c1, c2⟩ := HI.out.below HR.out.1 p hp
      obtain ⟨x, hx⟩ : ∃ x, x = l.getD p (0, 0) := ⟨_, rfl⟩
      rw [← hx] at c1 c2
      have HX := Lib.hid hx
      clear hx
      obtain ⟨xi, xj⟩ := x
      simp only at c1 c2
      obtain ⟨d1, d2⟩ := HR.out.2.cell p (by omega)
      have f1 := HR.out.2.frozen (p * 2)
      have f2 := HR.out.2.frozen (p * 2 + 1)
      have hpi : (p : Int) < (l.length : Int) + 9 := by omega
      have hlt := HR.out.2.lt
      have HN := Lib.hid (HR.out.next (by omega) xi xj (by unfold handQ; rw [if_pos hp, HX.out]))
      go_wp2
      go_roundg (gk - 1)
      case measure => have h := HG.out; omega
      case rel => exact ⟨p + 1, by go_num, HN.out, by omega, by have h := HG.out; omega⟩
    · have e : p = l.length := by have := HG.out.1; omega
      subst e
      have HR0 := Lib.hid HR.out
      clear HR HG
      go_wp2
      go_loopg [5] 9 (fun g v wr => ∃ p : Nat, v = .int .i64 p ∧ Hid (HandQ w l p wr) ∧ Hid (l.length ≤ p ∧ p ≤ l.length + 9 ∧ g + p = l.length + 9))
      case atStart => exact ⟨l.length, by simp, HR0.out, by omega, by omega, by omega⟩
      case round =>
        clear HR0
        obtain ⟨p, rfl, HR, HG⟩ := hrel
        by_cases hp : p < l.length + 9
        · obtain ⟨d1, d2⟩ := HR.out.2.cell p hp
          have f1 := HR.out.2.frozen (p * 2)
          have f2 := HR.out.2.frozen (p * 2 + 1)
          have hpi : (p : Int) < (l.length : Int) + 9 := by omega
          have hlt := HR.out.2.lt
          have g1 : IntKind.i64.wrap (-700 - (p : Int)) = -700 - (p : Int) := IntWalk.i64_in _ (by omega)
          have g2 : IntKind.i64.wrap (-700 - (p : Int) + (l.length : Int)) = -700 - (p : Int) + (l.length : Int) := IntWalk.i64_in _ (by omega)
          have HN := Lib.hid (HR.out.next hp (-700 - (p : Int) + (l.length : Int)) 77 (by unfold handQ; rw [if_neg (by have := HG.out.1; omega)]))
          go_wp2
          go_roundg (gk - 1)
          case measure => have h := HG.out; omega
          case rel => exact ⟨p + 1, by go_num, HN.out, by have h := HG.out; omega, by omega, by have h := HG.out; omega⟩
        · have e : p = l.length + 9 := by have := HG.out; omega
          subst e
          have hpi : ¬ (((l.length + 9 : Nat) : Int) < (l.length : Int) + 9) := by omega
          go_wp2
          go_ret
          exact ⟨by first | rfl | (congr 2; omega), HR.out⟩
theorem HandQ.rats {w0 w : World} {l : List (Int × Int)} (h : HandQ w0 l (l.length + 9) w) : RatsA w (some ⟨w0.heap.size, 0, none⟩) l :=
  h.2.rats l (by omega) fun j hj => by unfold handQp handQ; rw [if_pos (by omega), if_pos hj]
theorem HandQ.step {w0 w w' : World} {l : List (Int × Int)} {p : Nat} (h : HandQ w0 l p w) (hb : Below w.heap.size w w') : HandQ w0 l p w' := ⟨h.1.trans (hb.mono h.1.size), h.2.later hb⟩

set_option maxRecDepth 100000 in
set_option maxHeartbeats 1000000 in
theorem samerats_eq (A : Option Addr) (c : Nat) (B : Option Addr) (d : Nat) (l : List (Int × Int)) (w : World) (hI : RatsA w A l) (hI' : RatsA w B l) (hmax : l.length ≤ 8796093022000) :
    Calls Tryz.prog 13 #[.slice A l.length c, .slice B l.length d] w fun e w' => e = .returned (.bool true) ∧ Below w.heap.size w w' := by
  have HI := Lib.hid hI
  have HI' := Lib.hid hI'
  have t1 : ((l.length : Int) != (l.length : Int)) = false := by simp
  clear hI hI'
  go_enter Tryz.func13, Tryz.ntmps13
  go_wp2
  go_loopg [5] l.length (fun g v wr => ∃ p : Nat, v = .int .i64 p ∧ Hid (Below w.heap.size w wr) ∧ Hid (p ≤ l.length ∧ g + p = l.length))
  case atStart => exact ⟨0, by simp, Lib.hid (Below.refl _ _), by omega, by omega⟩
  case round =>
    obtain ⟨p, rfl, HB, HG⟩ := hrel
    by_cases hp : p < l.length
    · obtain ⟨b, off, rfl, c1, c2⟩ := HI.out.below HB.out p hp
      obtain ⟨b', off', rfl, d1, d2⟩ := HI'.out.below HB.out p hp
      have hpi : (p : Int) < (l.length : Int) := by omega
      obtain ⟨x, hx⟩ : ∃ x, x = l.getD p (0, 0) := ⟨_, rfl⟩
      rw [← hx] at c1 c2 d1 d2
      clear hx
      obtain ⟨xi, xj⟩ := x
      simp only at c1 c2 d1 d2
      go_wp2_with fail
      go_quiet (fail)
      go_wp2
      go_roundg (gk - 1)
      case measure => have h := HG.out; omega
      case rel => exact ⟨p + 1, by go_num, Lib.hid (belowN HB.out _), by omega, by have h := HG.out; omega⟩
    · have e : p = l.length := by have := HG.out.1; omega
      subst e
      go_wp2
      go_ret
      exact ⟨rfl, HB.out⟩

set_option maxRecDepth 100000 in
set_option maxHeartbeats 1000000 in
theorem keptrats_any (B : Option Addr) (d : Nat) (l : List (Int × Int)) (w0 : World) (w : World) (hh : HandQ w0 l (l.length + 9) w) (hI : RatsA w B l) (hmax : l.length ≤ 8796093022000) :
    Calls Tryz.prog 14 #[.slice (some ⟨w0.heap.size, 0, none⟩) l.length (l.length + 9), .slice B l.length d] w fun e w' => e = .returned (.bool true) ∧ Below w.heap.size w w' := by
  have HH := Lib.hid hh
  have HS := Lib.hid (samerats_eq (some ⟨w0.heap.size, 0, none⟩) (l.length + 9) B d l w hh.rats hI hmax)
  clear hh hI
  go_enter Tryz.func14, Tryz.ntmps14
  go_wp2_with fail
  refine HS.out.mono ?_
  rintro e w1 ⟨rfl, hb⟩
  have HT := Lib.hid (HH.out.2.later hb)
  have HB := Lib.hid hb
  clear HS HH hb
  go_wp2
  go_loopg [6] 9 (fun g v wr => ∃ p : Nat, v = .int .i64 p ∧ w1 = wr ∧ Hid (l.length ≤ p ∧ p ≤ l.length + 9 ∧ g + p = l.length + 9))
  case atStart => exact ⟨l.length, by simp, rfl, by omega, by omega, by omega⟩
  case round =>
    obtain ⟨p, rfl, rfl, HG⟩ := hrel
    by_cases hp : p < l.length + 9
    · obtain ⟨c1, c2⟩ := HT.out.cell p hp
      have hf : handQp l (l.length + 9) p = (-700 - (p : Int) + (l.length : Int), 77) := by
        unfold handQp handQ; rw [if_pos hp, if_neg (by have := HG.out.1; omega)]
      rw [hf] at c1 c2
      simp only at c1 c2
      have hpi : (p : Int) < (l.length : Int) + 9 := by omega
      have g1 : IntKind.i64.wrap (-700 - (p : Int)) = -700 - (p : Int) := IntWalk.i64_in _ (by omega)
      have g2 : IntKind.i64.wrap (-700 - (p : Int) + (l.length : Int)) = -700 - (p : Int) + (l.length : Int) := IntWalk.i64_in _ (by omega)
      clear hf
      go_wp2
      go_roundg (gk - 1)
      case measure => have h := HG.out; omega
      case rel => exact ⟨p + 1, by go_num, rfl, by have h := HG.out; omega, by omega, by have h := HG.out; omega⟩
    · have e : p = l.length + 9 := by have := HG.out; omega
      subst e
      have hpi : ¬ (((l.length + 9 : Nat) : Int) < (l.length : Int) + 9) := by omega
      go_wp2
      go_ret
      exact ⟨rfl, HB.out⟩

end Go.Proofs.YtmelblnflalanaaGreat

/- Which valuations may be one, as point tells it. -/
namespace Go.Proofs.YtmelblnflalanaaGreat
open Go Go.RowKit
set_option linter.unusedVariables false
set_option linter.unusedSimpArgs false

def All64v (l : List (Int × Int)) : Prop := ∀ j, j < l.length → I64 (l.getD j (0, 0)).1 ∧ I64 (l.getD j (0, 0)).2
/-- A number that a valuation may not hold. -/
def badQ (r : Int × Int) : Bool := !rightR r || decide (r.1 < 0)

set_option maxRecDepth 100000 in
set_option maxHeartbeats 1000000 in
theorem right1_any (x y : Int) (hx : I64 x) (hy : I64 y) (w : World) : Calls Tryz.prog 53 #[.agg #[.int .i64 x, .int .i64 y]] w fun e w' => e = .returned (.bool (badQ (x, y))) ∧ Below w.heap.size w w' := by
  have HR := Lib.hid (fun W => rightq_any x y hx hy W)
  have HE : badQ (x, y) = (!rightR (x, y) || decide (x < 0)) := rfl
  rw [HE]
  obtain ⟨rb, hrb⟩ : ∃ q, q = rightR (x, y) := ⟨_, rfl⟩
  rw [← hrb] at HR ⊢
  have K := Lib.hid ((Blx.start w).new #[.int .i64 x, .int .i64 y] 24)
  clear HE hrb hx hy
  go_enter Tryz.func53, Tryz.ntmps53
  go_upto_block 0 with fail
  generalize w.alloc (.cells #[.int .i64 x, .int .i64 y] 24) = w1 at *
  obtain ⟨k1, k2, _, _⟩ := K.out.cells2 0 rfl
  go_wp2_with fail
  refine (HR.out _).mono ?_
  rintro e w2 ⟨rfl, hb⟩
  replace K := Lib.hid (K.out.step hb)
  obtain ⟨k1, k2, _, _⟩ := K.out.cells2 0 rfl
  cases rb with
  | false =>
    go_wp2
    go_ret
    exact ⟨rfl, K.out.below⟩
  | true =>
    go_wp2
    go_ret
    exact ⟨rfl, K.out.below⟩

/-- The first place from p on of a number that a valuation may not hold; -1: there is none. -/
def badFrom (l : List (Int × Int)) : Nat → Nat → Int
  | 0, _ => -1
  | g + 1, p => if badQ (l.getD p (0, 0)) = true then p else badFrom l g (p + 1)

set_option maxRecDepth 100000 in
set_option maxHeartbeats 2000000 in
theorem index_bad (A : Option Addr) (c : Nat) (l : List (Int × Int)) (w : World) (hI : RatsA w A l) (hmax : l.length ≤ 8796093022000) (h64 : All64v l) :
    Calls Tryz.prog 84 #[.slice A l.length c, .func (.func 53) #[] #[]] w fun e w' => e = .returned (.int .i64 (badFrom l l.length 0)) ∧ Below w.heap.size w w' := by
  have HI := Lib.hid hI
  have H64 := Lib.hid h64
  have HL := Lib.hid hmax
  have HB0 := Lib.hid (Below.refl w.heap.size w)
  obtain ⟨R, hR⟩ : ∃ q, q = badFrom l l.length 0 := ⟨_, rfl⟩
  rw [← hR]
  have HR := Lib.hid hR
  clear hR hI h64 hmax
  go_enter Tryz.func84, Tryz.ntmps84
  go_wp2
  go_loopg [8] l.length (fun g s8 wr => ∃ i : Nat, s8 = .int .i64 i ∧ Hid (Below w.heap.size w wr) ∧ Hid (i ≤ l.length ∧ g + i = l.length ∧ R = badFrom l g i))
  case atStart => exact ⟨0, by simp, HB0, Lib.hid ⟨by omega, by omega, HR.out⟩⟩
  case round =>
    clear HB0 HR
    obtain ⟨i, rfl, HB, HG⟩ := hrel
    by_cases hp : i < l.length
    · have hpi : (i : Int) < (l.length : Int) := by omega
      obtain ⟨b, off, rfl, d1, d2⟩ := HI.out.below HB.out i hp
      have x64 := H64.out i hp
      have HST : Hid (R = if badQ (l.getD i (0, 0)) = true then (i : Int) else badFrom l (l.length - (i + 1)) (i + 1)) := Lib.hid (by
        have h := HG.out.2.2
        rw [show gk = (l.length - (i + 1)) + 1 by have := HG.out.2.1; omega] at h
        exact h)
      obtain ⟨x, hx⟩ : ∃ q, q = l.getD i (0, 0) := ⟨_, rfl⟩
      rw [← hx] at d1 d2 x64 HST
      obtain ⟨x1, x2⟩ := x
      have HRI := Lib.hid (fun W => right1_any x1 x2 x64.1 x64.2 W)
      obtain ⟨rb, hrb⟩ : ∃ q, q = badQ (x1, x2) := ⟨_, rfl⟩
      rw [← hrb] at HRI HST
      have w5 : IntKind.i64.wrap ((i : Int) + 1) = ((i + 1 : Nat) : Int) := by rw [IntWalk.i64_in _ (by have := HL.out; omega)]; omega
      clear hx hrb x64
      go_wp2_with fail
      refine (HRI.out _).mono ?_
      rintro e w5 ⟨rfl, hb⟩
      replace HB := Lib.hid (HB.out.trans (hb.mono HB.out.size))
      clear hb d1 d2 HRI
      cases rb with
      | true =>
        rw [if_pos rfl] at HST
        go_wp2
        go_ret
        exact ⟨by rw [HST.out]; rfl, HB.out⟩
      | false =>
        rw [if_neg (by decide)] at HST
        go_wp2
        go_roundg (gk - 1)
        case measure => have h := HG.out.2.1; omega
        case rel => exact ⟨i + 1, by go_num, HB, Lib.hid ⟨by omega, by have h := HG.out.2.1; omega, by rw [show gk - 1 = l.length - (i + 1) by have h := HG.out.2.1; omega]; exact HST.out⟩⟩
    · have hpi : ¬ (i : Int) < (l.length : Int) := by omega
      have HE : Hid (R = -1) := Lib.hid (by
        have h := HG.out.2.2
        rw [show gk = 0 by have := HG.out.2.1; omega] at h
        exact h)
      go_wp2
      go_ret
      exact ⟨by rw [HE.out]; rfl, HB.out⟩

theorem bad_none (l : List (Int × Int)) : ∀ g p, p + g = l.length → (decide (0 ≤ badFrom l g p) = true ↔ ¬ ∀ q, p ≤ q → q < l.length → badQ (l.getD q (0, 0)) = false)
  | 0, p, h => by
    refine ⟨fun a => by simp [badFrom] at a, fun a => absurd (fun q h1 h2 => absurd h2 (by omega)) a⟩
  | g + 1, p, h => by
    unfold badFrom
    by_cases e : badQ (l.getD p (0, 0)) = true
    · rw [if_pos e]
      refine ⟨fun _ a => ?_, fun _ => decide_eq_true (by omega)⟩
      have := a p (Nat.le_refl _) (by omega)
      rw [e] at this; cases this
    · rw [if_neg e, bad_none l g (p + 1) (by omega)]
      have e : badQ (l.getD p (0, 0)) = false := by simpa using e
      refine not_congr ⟨fun a q h1 h2 => ?_, fun a q h1 h2 => a q (by omega) h2⟩
      by_cases ep : q = p
      · rw [ep]; exact e
      · exact a q (by omega) h2
theorem bad_right (l : List (Int × Int)) : (decide (l.length ≤ 8) && !decide (0 ≤ badFrom l l.length 0)) = rightV l := by
  unfold rightV
  congr 1
  rw [Bool.eq_iff_iff, Bool.not_eq_true', Bool.eq_false_iff, ne_eq, bad_none l l.length 0 (by omega), Classical.not_not, List.all_eq_true]
  constructor
  · intro h x hx
    obtain ⟨j, hj, rfl⟩ := List.getElem_of_mem hx
    have := h j (Nat.zero_le _) hj
    rw [List.getD_eq_getElem?_getD, List.getElem?_eq_getElem hj] at this
    have h2 : badQ l[j] = false := this
    unfold badQ at h2
    rw [Bool.or_eq_false_iff, Bool.not_eq_false', decide_eq_false_iff_not] at h2
    rw [h2.1, Bool.true_and]
    exact decide_eq_true (by omega)
  · intro h j _ hj
    have := h l[j] (List.getElem_mem hj)
    rw [List.getD_eq_getElem?_getD, List.getElem?_eq_getElem hj]
    show badQ l[j] = false
    rw [Bool.and_eq_true_iff, decide_eq_true_iff] at this
    unfold badQ
    rw [this.1, Bool.not_true, Bool.false_or]
    exact decide_eq_false (by omega)

set_option maxRecDepth 100000 in
set_option maxHeartbeats 1000000 in
theorem contains_bad (A : Option Addr) (c : Nat) (l : List (Int × Int)) (w : World) (hI : RatsA w A l) (hmax : l.length ≤ 8796093022000) (h64 : All64v l) :
    Calls Tryz.prog 52 #[.slice A l.length c, .func (.func 53) #[] #[]] w fun e w' => e = .returned (.bool (decide (0 ≤ badFrom l l.length 0))) ∧ Below w.heap.size w w' := by
  have HI := Lib.hid (fun W (hb : Below w.heap.size w W) => index_bad A c l W (hI.below hb) hmax h64)
  have HB0 := Lib.hid (Below.refl w.heap.size w)
  obtain ⟨k, hk⟩ : ∃ q, q = badFrom l l.length 0 := ⟨_, rfl⟩
  rw [← hk] at HI ⊢
  clear hI h64 hmax hk
  go_enter Tryz.func52, Tryz.ntmps52
  go_wp2_with fail
  refine (HI.out _ HB0.out).mono ?_
  rintro e w2 ⟨rfl, hb⟩
  have HB := Lib.hid hb
  clear hb HI
  go_wp2
  go_ret
  exact ⟨rfl, HB.out⟩

set_option maxRecDepth 100000 in
set_option maxHeartbeats 1000000 in
theorem right_val (A : Option Addr) (c : Nat) (l : List (Int × Int)) (w : World) (hI : RatsA w A l) (hmax : l.length ≤ 8796093022000) (h64 : All64v l) :
    Calls Tryz.prog 18 #[.slice A l.length c] w fun e w' => e = .returned (.bool (rightV l)) ∧ Below w.heap.size w w' := by
  have HI := Lib.hid (fun W (hb : Below w.heap.size w W) => contains_bad A c l W (hI.below hb) hmax h64)
  rw [← bad_right]
  obtain ⟨z, hz⟩ : ∃ q, q = decide (0 ≤ badFrom l l.length 0) := ⟨_, rfl⟩
  rw [← hz] at HI ⊢
  have HB0 := Lib.hid (Below.refl w.heap.size w)
  clear hI h64 hmax hz
  by_cases h8 : l.length ≤ 8
  · have h8i : ((l.length : Nat) : Int) ≤ 8 := by omega
    have d8 : decide (l.length ≤ 8) = true := decide_eq_true h8
    rw [d8]
    clear d8 h8
    go_enter Tryz.func18, Tryz.ntmps18
    go_wp2_with fail
    refine (HI.out _ HB0.out).mono ?_
    rintro e w2 ⟨rfl, hb⟩
    have HB := Lib.hid hb
    clear hb HI
    go_wp2
    go_ret
    exact ⟨rfl, HB.out⟩
  · have h8i : ¬ ((l.length : Nat) : Int) ≤ 8 := by omega
    have d8 : decide (l.length ≤ 8) = false := decide_eq_false h8
    rw [d8]
    clear h8 d8
    go_enter Tryz.func18, Tryz.ntmps18
    go_wp2
    go_ret
    exact ⟨rfl, HB0.out⟩

end Go.Proofs.YtmelblnflalanaaGreat
