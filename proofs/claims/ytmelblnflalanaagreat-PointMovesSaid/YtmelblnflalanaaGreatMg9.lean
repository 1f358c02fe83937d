/- Texts of ours, laid together: R1, Uc, Oa, De, Dy, Db, Dc, Dd, Do, Ob, Oc, Od, Oe, Mab, Mcl. -/
import Derived.Test.YtmelblnflalanaaGreatProg
import Derived.Lib.Hide
import Derived.Deep.LoopGhost
import Derived.Deep.QuietTactic
import Derived.BigQuiet
import Derived.BigRegion
import Derived.StillTailTactics
import Derived.KernelRfl
import Derived.Deep.RegionWith
import Derived.Test.YtmelblnflalanaaGreatMg8
/- The document's answers for bounds. -/
namespace Go.Proofs.YtmelblnflalanaaGreat
open Go Go.RowKit
set_option linter.unusedVariables false
set_option linter.unusedSimpArgs false

theorem tmod_two (b : Int) : b.tmod 2 = 0 ↔ b % 2 = 0 := by
  constructor
  · intro h; have := Int.dvd_of_tmod_eq_zero h; omega
  · intro h; exact Int.tmod_eq_zero_of_dvd (by omega)
theorem tdiv_even {b : Int} (h : b % 2 = 0) : b.tdiv 2 = b / 2 := Int.tdiv_eq_ediv_of_dvd (by omega)

set_option maxRecDepth 100000 in
set_option maxHeartbeats 1000000 in
theorem number_any (b : Int) (w : World) (h0 : -2147483648 ≤ b) (h1 : b ≤ 2147483647) : Calls Tryz.prog 105 #[.int .i32 b] w fun e w' => e = .returned (.int .i64 (b / 2)) ∧ w' = w := by
  by_cases hb : b % 2 = 0
  · have t0 : b.tmod 2 = 0 := (tmod_two b).2 hb
    have t1 : b.tdiv 2 = b / 2 := tdiv_even hb
    obtain ⟨q, hq⟩ : ∃ q, q = b / 2 := ⟨_, rfl⟩
    rw [← hq] at t1 ⊢
    have hq1 : -1073741824 ≤ q := by omega
    have hq2 : q ≤ 1073741823 := by omega
    clear hq hb
    go_enter Tryz.func105, Tryz.ntmps105
    go_wp2
    go_ret
    exact ⟨rfl, rfl⟩
  · have t0 : (b.tmod 2 == 0) = false := by simp; exact fun h => hb ((tmod_two b).1 h)
    have t0' : (b.tmod 2 != 0) = true := by simp; exact fun h => hb ((tmod_two b).1 h)
    have t1 : (b - 1).tdiv 2 = b / 2 := by rw [tdiv_even (by omega)]; omega
    obtain ⟨q, hq⟩ : ∃ q, q = b / 2 := ⟨_, rfl⟩
    rw [← hq] at t1 ⊢
    have hq1 : -1073741824 ≤ q := by omega
    have hq2 : q ≤ 1073741823 := by omega
    have hq3 : b - 1 = 2 * q := by omega
    have HQ := Lib.hid hq3
    clear hq hb hq3
    go_enter Tryz.func105, Tryz.ntmps105
    go_wp2
    go_ret
    exact ⟨by simp [t1], rfl⟩

theorem number_w (b : Int) (w : World) (h0 : -2147483648 ≤ b) (h1 : b ≤ 2147483647) : Calls Tryz.prog 105 #[.int .i32 b] w fun e w' => e = .returned (.int .i64 (b / 2)) ∧ w = w' :=
  (number_any b w h0 h1).mono fun _ _ k => ⟨k.1, k.2.symm⟩

set_option maxRecDepth 100000 in
set_option maxHeartbeats 1000000 in
theorem rright_any (b : Int) (w : World) (h0 : -2147483648 ≤ b) (h1 : b ≤ 2147483647) : Calls Tryz.prog 104 #[.int .i32 b] w fun e w' => e = .returned (.bool (rightB b)) ∧ w = w' := by
  by_cases e0 : b = 2147483647
  · subst e0
    go_enter Tryz.func104, Tryz.ntmps104
    go_wp2
    go_ret
    exact ⟨rfl, rfl⟩
  · have t0 : (b == 2147483647) = false := by simp [e0]
    by_cases e1 : -536870912 ≤ b
    · have d1 : decide ((-268435456 : Int) ≤ b / 2) = true := decide_eq_true (by omega)
      by_cases e2 : b ≤ 536870913
      · have d2 : decide (b / 2 ≤ 268435456) = true := decide_eq_true (by omega)
        have hr : rightB b = true := by unfold rightB; exact decide_eq_true (.inr ⟨e1, e2⟩)
        rw [hr]
        clear hr
        go_enter Tryz.func104, Tryz.ntmps104
        go_wp2_with (go_at_call 105; refine (number_w _ _ (by omega) (by omega)).mono ?_; rintro e w' ⟨rfl, rfl⟩)
        go_ret
        exact ⟨by simp [*], rfl⟩
      · have d2 : decide (b / 2 ≤ 268435456) = false := decide_eq_false (by omega)
        have hr : rightB b = false := by unfold rightB; exact decide_eq_false (by omega)
        rw [hr]
        clear hr
        go_enter Tryz.func104, Tryz.ntmps104
        go_wp2_with (go_at_call 105; refine (number_w _ _ (by omega) (by omega)).mono ?_; rintro e w' ⟨rfl, rfl⟩)
        go_ret
        exact ⟨by simp [*], rfl⟩
    · have d1 : decide ((-268435456 : Int) ≤ b / 2) = false := decide_eq_false (by omega)
      have hr : rightB b = false := by unfold rightB; exact decide_eq_false (by omega)
      rw [hr]
      clear hr
      go_enter Tryz.func104, Tryz.ntmps104
      go_wp2_with (go_at_call 105; refine (number_w _ _ (by omega) (by omega)).mono ?_; rintro e w' ⟨rfl, rfl⟩)
      go_ret
      exact ⟨by simp [*], rfl⟩


theorem rright_yes (b : Int) (w : World) (h : rightB b = true) (h0 : -2147483648 ≤ b) (h1 : b ≤ 2147483647) : Calls Tryz.prog 104 #[.int .i32 b] w fun e w' => e = .returned (.bool true) ∧ w = w' :=
  (rright_any b w h0 h1).mono fun _ _ k => ⟨by rw [k.1, h], k.2⟩
theorem rright_no (b : Int) (w : World) (h : rightB b = false) (h0 : -2147483648 ≤ b) (h1 : b ≤ 2147483647) : Calls Tryz.prog 104 #[.int .i32 b] w fun e w' => e = .returned (.bool false) ∧ w = w' :=
  (rright_any b w h0 h1).mono fun _ _ k => ⟨by rw [k.1, h], k.2⟩

set_option maxRecDepth 100000 in
set_option maxHeartbeats 1000000 in
theorem rvalue_yes (b : Int) (w : World) (h : someB b = true) :
    Calls Tryz.prog 66 #[.int .i32 b] w fun e w' => e = .returned (.tuple #[.int .i64 (b / 2), .bool (decide (b % 2 = 1)), .bool true]) ∧ w = w' := by
  obtain ⟨hr, hn⟩ : rightB b = true ∧ b ≠ 2147483647 := by simpa [someB] using h
  have hb := rightB_bd hr hn
  have t0 : (b == 2147483647) = false := by simp [hn]
  have HR := Lib.hid hr
  have HN := Lib.hid (fun w => number_w b w (by omega) (by omega))
  obtain ⟨q, hq⟩ : ∃ q, q = b / 2 := ⟨_, rfl⟩
  rw [← hq] at HN ⊢
  have hq1 : -268435456 ≤ q := by omega
  have hq2 : q ≤ 268435456 := by omega
  have hb0 := hb.1
  have hb1 := hb.2
  clear h hr hn hb
  by_cases e : b % 2 = 1
  · rw [decide_eq_true e]
    have t1 : (b == 2 * q) = false := by simp; omega
    have t2 : (b != 2 * q) = true := by simp; omega
    clear hq e
    go_enter Tryz.func66, Tryz.ntmps66
    go_wp2_with (first | (go_at_call 104; refine (rright_yes b _ HR.out (by omega) (by omega)).mono ?_; rintro e w' ⟨rfl, rfl⟩) | (go_at_call 105; refine (HN.out _).mono ?_; rintro e w' ⟨rfl, rfl⟩))
    go_ret3
    exact ⟨by simp [t1, t2], rfl⟩
  · rw [decide_eq_false e]
    have t1 : (b == 2 * q) = true := by simp; omega
    have t2 : (b != 2 * q) = false := by simp; omega
    clear hq e
    go_enter Tryz.func66, Tryz.ntmps66
    go_wp2_with (first | (go_at_call 104; refine (rright_yes b _ HR.out (by omega) (by omega)).mono ?_; rintro e w' ⟨rfl, rfl⟩) | (go_at_call 105; refine (HN.out _).mono ?_; rintro e w' ⟨rfl, rfl⟩))
    go_ret3
    exact ⟨by simp [t1, t2], rfl⟩
set_option maxRecDepth 100000 in
set_option maxHeartbeats 1000000 in
theorem rvalue_no (b : Int) (w : World) (h : someB b = false) (h0 : -2147483648 ≤ b) (h1 : b ≤ 2147483647) :
    Calls Tryz.prog 66 #[.int .i32 b] w fun e w' => e = .returned (.tuple #[.int .i64 0, .bool false, .bool false]) ∧ w = w' := by
  by_cases hn : b = 2147483647
  · subst hn
    clear h
    go_enter Tryz.func66, Tryz.ntmps66
    go_wp2
    go_ret3
    exact ⟨rfl, rfl⟩
  · have t0 : (b == 2147483647) = false := by simp [hn]
    have hr : rightB b = false := by simpa [someB, hn] using h
    have HR := Lib.hid hr
    clear h hn hr
    go_enter Tryz.func66, Tryz.ntmps66
    go_wp2_with (go_at_call 104; refine (rright_no b _ HR.out (by omega) (by omega)).mono ?_; rintro e w' ⟨rfl, rfl⟩)
    go_ret3
    exact ⟨rfl, rfl⟩


end Go.Proofs.YtmelblnflalanaaGreat

/- A clock's value, and whether a difference keeps a bound, as the document's layer of points tells them. -/
namespace Go.Proofs.YtmelblnflalanaaGreat
open Go Go.RowKit
set_option linter.unusedVariables false
set_option linter.unusedSimpArgs false

set_option maxRecDepth 100000 in
set_option maxHeartbeats 2000000 in
theorem dzero_any (w : World) : Calls Tryz.prog 70 #[] w fun e w' => e = .returned (.agg #[.int .i64 0, .int .i64 1]) ∧ Below w.heap.size w w' := by
  go_enter Tryz.func70, Tryz.ntmps70
  go_wp2
  simp [bodyPost, results, Tryz.results70, go_sem]
  first | exact below_one w _ | exact ⟨rfl, below_one w _⟩
set_option maxRecDepth 100000 in
set_option maxHeartbeats 1000000 in
theorem dclock_any (A : Option Addr) (c : Nat) (l : List (Int × Int)) (i : Nat) (hi : i ≤ l.length) (hmax : l.length ≤ 8796093022000) (w : World) (hI : RatsA w A l) :
    Calls Tryz.prog 32 #[.slice A l.length c, .int .i64 i] w fun e w' => e = .returned (.agg #[.int .i64 (clockV l i).1, .int .i64 (clockV l i).2]) ∧ Below w.heap.size w w' := by
  have K := Lib.hid ((Blx.start w).new #[.int .i64 0, .int .i64 0] 24)
  by_cases h0 : i = 0
  · subst h0
    have HO := Lib.hid (fun W => dzero_any W)
    rw [show clockV l 0 = (0, 1) from rfl]
    clear hI hi hmax
    go_enter Tryz.func32, Tryz.ntmps32
    go_upto_block 0 with fail
    generalize w.alloc (.cells #[.int .i64 0, .int .i64 0] 24) = w1 at *
    go_wp2_with fail
    refine (HO.out _).mono ?_
    rintro e w2 ⟨rfl, hb⟩
    replace K := Lib.hid (K.out.step hb)
    clear hb
    obtain ⟨k1, k2, k3, k4⟩ := K.out.cells2 0 rfl
    replace K := Lib.hid ((K.out.set 0 rfl 0 (.int .i64 0)).set 0 rfl 1 (.int .i64 1))
    go_wp2
    refine bodyPost_ret (results_cell_row (fn := Tryz.f32) rfl _ _ w.heap.size _ _ _ _ rfl (K.out.l _ (List.mem_singleton.2 rfl)) Tryz.underlying24 rfl (by kernel_rfl)) rfl ?_
    exact ⟨rfl, K.out.below⟩
  · have e0 : ((i : Int) == 0) = false := by simp; omega
    have HI := Lib.hid hI
    obtain ⟨b, off, rfl, d1, d2⟩ := HI.out.below K.out.below (i - 1) (by omega)
    rw [show clockV l i = l.getD (i - 1) (0, 0) by unfold clockV; rw [if_neg h0]]
    obtain ⟨x, hx⟩ : ∃ q, q = l.getD (i - 1) (0, 0) := ⟨_, rfl⟩
    rw [← hx] at d1 d2 ⊢
    obtain ⟨x1, x2⟩ := x
    have f1 : IntKind.i64.wrap ((i : Int) - 1) = ((i - 1 : Nat) : Int) := by rw [IntWalk.i64_in _ (by omega)]; omega
    have f2 : ((i - 1 : Nat) : Int) < (l.length : Int) := by omega
    clear hx hI HI hi h0
    go_enter Tryz.func32, Tryz.ntmps32
    go_wp2
    refine bodyPost_ret (results_cell_row (fn := Tryz.f32) rfl _ _ w.heap.size _ _ _ _ rfl (heap_alloc_new _ _) Tryz.underlying24 rfl (by kernel_rfl)) rfl ?_
    exact ⟨rfl, below_one _ _⟩


def tbDkA (x1 x2 y1 y2 f g k n : Int) (rc : Bool) (g1 g2 : Nat) : List (Nat × Nat × Value) :=
  [(0, 22, .agg #[.int .i64 x1, .int .i64 x2]), (1, 23, .int .i64 f), (2, 24, .agg #[.int .i64 y1, .int .i64 y2]), (3, 25, .int .i64 g), (4, 26, .int .i64 k), (5, 10, .int .i64 k)]
def bsDkA (x1 x2 y1 y2 f g k n : Int) (rc : Bool) (g1 g2 : Nat) : List (Nat × Value) := [(3, .pointer (some ⟨g1, 0, none⟩)), (4, .pointer (some ⟨g2, 0, none⟩)), (7, .int .i64 n), (8, .bool rc)]

def tbDkB (x1 x2 y1 y2 p1 p2 q1 q2 c k n : Int) (rc : Bool) (g1 g2 : Nat) : List (Nat × Nat × Value) :=
  [(0, 27, .agg #[.int .i64 x1, .int .i64 x2]), (1, 28, .agg #[.int .i64 p1, .int .i64 p2]), (2, 29, .agg #[.int .i64 y1, .int .i64 y2]), (3, 30, .agg #[.int .i64 q1, .int .i64 q2]), (4, 31, .int .i64 c), (5, 11, .int .i64 c)]
def bsDkB (x1 x2 y1 y2 p1 p2 q1 q2 c k n : Int) (rc : Bool) (g1 g2 : Nat) : List (Nat × Value) := [(3, .pointer (some ⟨g1, 0, none⟩)), (4, .pointer (some ⟨g2, 0, none⟩)), (10, .int .i64 k), (7, .int .i64 n), (8, .bool rc)]

set_option maxRecDepth 100000 in
set_option maxHeartbeats 8000000 in
theorem dkeeps_any (x1 x2 y1 y2 b : Int) (hx1 : I64 x1) (hx2 : I64 x2) (hy1 : I64 y1) (hy2 : I64 y2) (hx : rightR (x1, x2) = true) (hy : rightR (y1, y2) = true) (h0 : 0 ≤ x1) (h1 : 0 ≤ y1) (hb : rightB b = true) (w : World) :
    Calls Tryz.prog 31 #[.agg #[.int .i64 x1, .int .i64 x2], .agg #[.int .i64 y1, .int .i64 y2], .int .i32 b] w fun e w' => e = .returned (.bool (keepsQ (x1, x2) (y1, y2) b)) ∧ Below w.heap.size w w' := by
  have K := Lib.hid (((Blx.start w).new #[.int .i64 x1, .int .i64 x2] 24).new #[.int .i64 y1, .int .i64 y2] 24)
  rw [show (w.alloc (.cells #[.int .i64 x1, .int .i64 x2] 24)).heap.size = w.heap.size + 1 by simp] at K
  by_cases hn : b = 2147483647
  · subst hn
    rw [keepsq_inf]
    have HV := Lib.hid (fun W => rvalue_no 2147483647 W (by decide) (by decide) (by decide))
    clear hx hy h0 h1 hb hx1 hx2 hy1 hy2
    go_enter Tryz.func31, Tryz.ntmps31
    go_upto_block 0 with fail
    generalize (w.alloc (.cells #[.int .i64 x1, .int .i64 x2] 24)).alloc (.cells #[.int .i64 y1, .int .i64 y2] 24) = wa at *
    go_wp2_with fail
    refine (HV.out _).mono ?_
    rintro e w' ⟨rfl, rfl⟩
    go_wp2
    go_ret
    exact ⟨rfl, K.out.below⟩
  · have hs : someB b = true := by unfold someB; rw [hb]; simp [hn]
    have HV := Lib.hid (fun W => rvalue_yes b W hs)
    have hbd := rightB_bd hb hn
    have HFX := Lib.hid (fun W => dfloor_any x1 x2 hx1 hx2 W)
    have HFY := Lib.hid (fun W => dfloor_any y1 y2 hy1 hy2 W)
    have HPX := Lib.hid (fun W => dfrac_any x1 x2 hx1 hx2 W)
    have HPY := Lib.hid (fun W => dfrac_any y1 y2 hy1 hy2 W)
    have px := part64 (r := (x1, x2)) hx1 hx2
    have py := part64 (r := (y1, y2)) hy1 hy2
    have f64 := floor64 (r := (x1, x2)) hx1
    have g64 := floor64 (r := (y1, y2)) hy1
    have fp := floor_pos hx h0
    have gp := floor_pos hy h1
    have HKP := Lib.hid (keeps_parts hx hy hn)
    obtain ⟨f, hf⟩ : ∃ q, q = floorP (x1, x2) := ⟨_, rfl⟩
    obtain ⟨g, hg⟩ : ∃ q, q = floorP (y1, y2) := ⟨_, rfl⟩
    obtain ⟨p, hp⟩ : ∃ q, q = partP (x1, x2) := ⟨_, rfl⟩
    obtain ⟨q, hq⟩ : ∃ z, z = partP (y1, y2) := ⟨_, rfl⟩
    rw [← hf] at HFX fp f64 HKP
    rw [← hg] at HFY gp g64 HKP
    rw [← hp] at HPX px HKP
    rw [← hq] at HPY py HKP
    obtain ⟨p1, p2⟩ := p
    obtain ⟨q1, q2⟩ := q
    unfold rtV at HPX HPY
    have HC := Lib.hid (fun W => dcompare_any p1 p2 q1 q2 px.1 px.2 py.1 py.2 W)
    obtain ⟨c, hc⟩ : ∃ z, z = cmpP (p1, p2) (q1, q2) := ⟨_, rfl⟩
    rw [← hc] at HC HKP
    obtain ⟨k, hk⟩ : ∃ z, z = f - g := ⟨_, rfl⟩
    have w1 : IntKind.i64.wrap (f - g) = k := by
      obtain ⟨_, _⟩ := f64
      obtain ⟨_, _⟩ := g64
      rw [IntWalk.i64_in _ (by omega)]; exact hk.symm
    rw [← hk] at HKP
    obtain ⟨R, hR⟩ : ∃ q, q = keepsQ (x1, x2) (y1, y2) b := ⟨_, rfl⟩
    rw [← hR] at HKP ⊢
    obtain ⟨n, hnn⟩ : ∃ q, q = b / 2 := ⟨_, rfl⟩
    obtain ⟨rc, hrc⟩ : ∃ q, q = decide (b % 2 = 1) := ⟨_, rfl⟩
    rw [← hnn, ← hrc] at HV HKP
    have w2 : IntKind.i64.wrap n = n := IntWalk.i64_in _ (by omega)
    clear hx hy h0 h1 hb hx1 hx2 hy1 hy2 hbd hn hs hR hnn hrc hf hg hp hq hc hk f64 g64 px py fp gp
    go_enter Tryz.func31, Tryz.ntmps31
    go_upto_block 0 with fail
    generalize (w.alloc (.cells #[.int .i64 x1, .int .i64 x2] 24)).alloc (.cells #[.int .i64 y1, .int .i64 y2] 24) = wa at *
    simp only [List.cons_append, List.nil_append] at K
    go_wp2_with fail
    refine (HV.out _).mono ?_
    rintro e w' ⟨rfl, rfl⟩
    go_upto_region 4 with fail
    refine wp_region_tab (by kernel_rfl) [3, 4, 7, 8, 22, 23, 24, 25, 26, 10] [[], [0], [], [1, 2], [1, 3], [0, 1, 2, 3, 4]]
      (fun L vals wx => Blx w [(w.heap.size, #[.int .i64 x1, .int .i64 x2], 24), (w.heap.size + 1, #[.int .i64 y1, .int .i64 y2], 24)] wx ∧ TabR (tbDkA x1 x2 y1 y2 f g k n rc w.heap.size (w.heap.size + 1)) (bsDkA x1 x2 y1 y2 f g k n rc w.heap.size (w.heap.size + 1)) L vals) (by kernel_rfl) rfl ?_ ?_ ?_
    · exact ⟨K.out.drew, TabR.start (by simp [bsDkA])⟩
    · intro i hi a L vals wx E hJ hLi hn K hK hK0
      obtain ⟨hI, hT⟩ := hJ
      match i, hi with
      | 0, _ => exact op_loadG rfl rfl rfl rfl Tryz.underlying24 rfl (by kernel_rfl) ((E 3 (by decide)).trans (hT.rd 0 rfl)) (hI.l (w.heap.size, #[.int .i64 x1, .int .i64 x2], 24) (by simp)) (hK 22 _ _ (by decide) ⟨hI, hT.set 0 rfl (by kernel_rfl) (by kernel_rfl)⟩)
      | 1, _ =>
        have e1 := (E 22 (by decide)).trans (hT.val 0 rfl (hn 0 (by decide)))
        exact op_goG rfl rfl rfl rfl Tryz.func67 (by kernel_rfl) rfl (by simp only [List.map_toArray, List.map_cons, List.map_nil, e1]) (HFX.out _) (fun w' hb => hK 23 _ _ (by decide) ⟨hI.step hb, hT.set 1 rfl (by kernel_rfl) (by kernel_rfl)⟩)
      | 2, _ => exact op_loadG rfl rfl rfl rfl Tryz.underlying24 rfl (by kernel_rfl) ((E 4 (by decide)).trans (hT.rd 1 rfl)) (hI.l (w.heap.size + 1, #[.int .i64 y1, .int .i64 y2], 24) (by simp)) (hK 24 _ _ (by decide) ⟨hI, hT.set 2 rfl (by kernel_rfl) (by kernel_rfl)⟩)
      | 3, _ =>
        have e1 := (E 24 (by decide)).trans (hT.val 2 rfl (hn 2 (by decide)))
        exact op_goG rfl rfl rfl rfl Tryz.func67 (by kernel_rfl) rfl (by simp only [List.map_toArray, List.map_cons, List.map_nil, e1]) (HFY.out _) (fun w' hb => hK 25 _ _ (by decide) ⟨hI.step hb, hT.set 3 rfl (by kernel_rfl) (by kernel_rfl)⟩)
      | 4, _ =>
        have e1 := (E 23 (by decide)).trans (hT.val 1 rfl (hn 1 (by decide)))
        have e2 := (E 25 (by decide)).trans (hT.val 3 rfl (hn 3 (by decide)))
        refine op_valueG (w' := wx) (v := .int .i64 k) rfl rfl rfl ?_ (hK 26 _ _ (by decide) ⟨hI, hT.set 4 rfl (by kernel_rfl) (by kernel_rfl)⟩)
        clear hK hK0 hT E
        revert e1 e2
        generalize a.eval = ρ
        intro e1 e2
        go_simp
      | 5, _ => exact op_assignG rfl rfl rfl rfl ((E 26 (by decide)).trans (hT.val 4 rfl (hn 4 (by decide)))) (hK 10 _ _ (by decide) ⟨hI, hT.set 5 rfl (by kernel_rfl) (by kernel_rfl)⟩)
      | k + 6, h => exact absurd (show k + 6 < 6 from h) (by omega)
    · intro L vals wx hJ hall
      obtain ⟨hI, hT⟩ := hJ
      have HI := Lib.hid hI
      have v3 : vals 3 = .pointer (some ⟨w.heap.size, 0, none⟩) := hT.rd 0 rfl
      have v4 : vals 4 = .pointer (some ⟨(w.heap.size + 1), 0, none⟩) := hT.rd 1 rfl
      have v7 : vals 7 = .int .i64 n := hT.rd 2 rfl
      have v8 : vals 8 = .bool rc := hT.rd 3 rfl
      have v10 : vals 10 = .int .i64 k := hT.val 5 rfl (hall 5 (by decide))
      simp only [overA, Act.put, List.setIfInBounds_toArray, List.set_cons_zero, List.set_cons_succ]
      rw [v3, v4, v7, v8, v10]
      clear hI hT hall v3 v4 v7 v8 v10
      replace K := HI
      clear HI
      generalize wx = wb at *
      go_upto_region 5 with fail
      refine wp_region_tab (by kernel_rfl) [3, 4, 10, 7, 8, 27, 28, 29, 30, 31, 11] [[], [0], [], [1, 2], [1, 3], [0, 1, 2, 3, 4]]
        (fun L vals wx => Blx w [(w.heap.size, #[.int .i64 x1, .int .i64 x2], 24), (w.heap.size + 1, #[.int .i64 y1, .int .i64 y2], 24)] wx ∧ TabR (tbDkB x1 x2 y1 y2 p1 p2 q1 q2 c k n rc w.heap.size (w.heap.size + 1)) (bsDkB x1 x2 y1 y2 p1 p2 q1 q2 c k n rc w.heap.size (w.heap.size + 1)) L vals) (by kernel_rfl) rfl ?_ ?_ ?_
      · exact ⟨K.out.drew, TabR.start (by simp [bsDkB])⟩
      · intro i hi a L vals wx E hJ hLi hn K hK hK0
        obtain ⟨hI, hT⟩ := hJ
        match i, hi with
        | 0, _ => exact op_loadG rfl rfl rfl rfl Tryz.underlying24 rfl (by kernel_rfl) ((E 3 (by decide)).trans (hT.rd 0 rfl)) (hI.l (w.heap.size, #[.int .i64 x1, .int .i64 x2], 24) (by simp)) (hK 27 _ _ (by decide) ⟨hI, hT.set 0 rfl (by kernel_rfl) (by kernel_rfl)⟩)
        | 1, _ =>
          have e1 := (E 27 (by decide)).trans (hT.val 0 rfl (hn 0 (by decide)))
          exact op_goG rfl rfl rfl rfl Tryz.func69 (by kernel_rfl) rfl (by simp only [List.map_toArray, List.map_cons, List.map_nil, e1]) (HPX.out _) (fun w' hb => hK 28 _ _ (by decide) ⟨hI.step hb, hT.set 1 rfl (by kernel_rfl) (by kernel_rfl)⟩)
        | 2, _ => exact op_loadG rfl rfl rfl rfl Tryz.underlying24 rfl (by kernel_rfl) ((E 4 (by decide)).trans (hT.rd 1 rfl)) (hI.l (w.heap.size + 1, #[.int .i64 y1, .int .i64 y2], 24) (by simp)) (hK 29 _ _ (by decide) ⟨hI, hT.set 2 rfl (by kernel_rfl) (by kernel_rfl)⟩)
        | 3, _ =>
          have e1 := (E 29 (by decide)).trans (hT.val 2 rfl (hn 2 (by decide)))
          exact op_goG rfl rfl rfl rfl Tryz.func69 (by kernel_rfl) rfl (by simp only [List.map_toArray, List.map_cons, List.map_nil, e1]) (HPY.out _) (fun w' hb => hK 30 _ _ (by decide) ⟨hI.step hb, hT.set 3 rfl (by kernel_rfl) (by kernel_rfl)⟩)
        | 4, _ =>
          have e1 := (E 28 (by decide)).trans (hT.val 1 rfl (hn 1 (by decide)))
          have e2 := (E 30 (by decide)).trans (hT.val 3 rfl (hn 3 (by decide)))
          exact op_goG rfl rfl rfl rfl Tryz.func68 (by kernel_rfl) rfl (by simp only [List.map_toArray, List.map_cons, List.map_nil, e1, e2]) (HC.out _) (fun w' hb => hK 31 _ _ (by decide) ⟨hI.step hb, hT.set 4 rfl (by kernel_rfl) (by kernel_rfl)⟩)
        | 5, _ => exact op_assignG rfl rfl rfl rfl ((E 31 (by decide)).trans (hT.val 4 rfl (hn 4 (by decide)))) (hK 11 _ _ (by decide) ⟨hI, hT.set 5 rfl (by kernel_rfl) (by kernel_rfl)⟩)
        | k + 6, h => exact absurd (show k + 6 < 6 from h) (by omega)
      · intro L vals wx hJ hall
        obtain ⟨hI, hT⟩ := hJ
        have HI := Lib.hid hI
        have v3 : vals 3 = .pointer (some ⟨w.heap.size, 0, none⟩) := hT.rd 0 rfl
        have v4 : vals 4 = .pointer (some ⟨(w.heap.size + 1), 0, none⟩) := hT.rd 1 rfl
        have v10 : vals 10 = .int .i64 k := hT.rd 2 rfl
        have v7 : vals 7 = .int .i64 n := hT.rd 3 rfl
        have v8 : vals 8 = .bool rc := hT.rd 4 rfl
        have v11 : vals 11 = .int .i64 c := hT.val 5 rfl (hall 5 (by decide))
        simp only [overA, Act.put, List.setIfInBounds_toArray, List.set_cons_zero, List.set_cons_succ]
        rw [v3, v4, v10, v7, v8, v11]
        clear hI hT hall v3 v4 v10 v7 v8 v11
        clear HFX HFY HPX HPY HC K
        by_cases ck : k = n
        · subst ck
          have t0 : (k != k) = false := by simp
          by_cases c0 : c < 0
          · have d0 : decide (c < 0) = true := decide_eq_true c0
            have HE : Hid (R = true) := Lib.hid (by rw [HKP.out, if_pos rfl, d0]; rfl)
            go_wp2
            go_ret
            exact ⟨by rw [HE.out]; rfl, HI.out.below⟩
          · have d0 : decide (c < 0) = false := decide_eq_false c0
            by_cases c1 : c = 0
            · have e1 : (c == 0) = true := by simp [c1]
              have HE : Hid (R = rc) := Lib.hid (by rw [HKP.out, if_pos rfl, d0, decide_eq_true c1]; rfl)
              go_wp2
              go_ret
              exact ⟨by rw [HE.out]; rfl, HI.out.below⟩
            · have e1 : (c == 0) = false := by simp [c1]
              have HE : Hid (R = false) := Lib.hid (by rw [HKP.out, if_pos rfl, d0, decide_eq_false c1]; rfl)
              go_wp2
              go_ret
              exact ⟨by rw [HE.out]; rfl, HI.out.below⟩
        · have t0 : (k != n) = true := by simp [ck]
          have HE : Hid (R = decide (k < n)) := Lib.hid (by rw [HKP.out, if_neg ck])
          clear ck
          go_wp2
          go_ret
          exact ⟨by rw [HE.out]; rfl, HI.out.below⟩

end Go.Proofs.YtmelblnflalanaaGreat

/- Cells of a zone under way: less, forget; is it a clock? -/
namespace Go.Proofs.YtmelblnflalanaaGreat
open Go Go.RowKit
set_option linter.unusedVariables false
set_option linter.unusedSimpArgs false
attribute [local go_sem] min_ints max_ints

/-- A cell made stricter. -/
def lessM (m : Mat) (i j : Nat) (x : Int) : Mat := upd m i j (min (m i j) x)

/-- A clock that nothing is said of, behind the first p cells. -/
def forgetUp (x : Nat) (m : Mat) : Nat → Mat
  | 0 => m
  | p + 1 => if p = x then forgetUp x m p else upd (upd (forgetUp x m p) x p 2147483647) p x (upd (forgetUp x m p) x p 2147483647 p 0)
end Go.Proofs.YtmelblnflalanaaGreat

/- What is asked of zones: Dim, Empty, Cell, Cells, Includes. -/
namespace Go.Proofs.YtmelblnflalanaaGreat
open Go.RowKit
set_option linter.unusedVariables false
set_option linter.unusedSimpArgs false
attribute [local go_sem] min_ints max_ints

set_option maxHeartbeats 400000 in
theorem dim_nil (w : World) : Calls Tryz.prog 77 #[.pointer none] w fun e w' => e = .returned (.int .i64 0) ∧ w = w' := by
  go_enter Tryz.func77, Tryz.ntmps77
  go_wp2
  go_ret
  exact ⟨rfl, rfl⟩
set_option maxHeartbeats 400000 in
theorem dim_zone (b n : Nat) (m : Mat) (w : World) (h : MatAt w b 173 .i32 n m) : Calls Tryz.prog 77 #[.pointer (some ⟨b, 0, none⟩)] w fun e w' => e = .returned (.int .i64 n) ∧ w = w' := by
  have h0 := h.head
  clear h
  go_enter Tryz.func77, Tryz.ntmps77
  go_wp2
  go_ret
  exact ⟨rfl, rfl⟩
set_option maxHeartbeats 400000 in
theorem empty_nil (w : World) : Calls Tryz.prog 76 #[.pointer none] w fun e w' => e = .returned (.bool false) ∧ w = w' := by
  go_enter Tryz.func76, Tryz.ntmps76
  go_wp2
  go_ret
  exact ⟨rfl, rfl⟩
set_option maxHeartbeats 400000 in
theorem empty_zone (b n : Nat) (m : Mat) (w : World) (h : MatAt w b 173 .i32 n m) : Calls Tryz.prog 76 #[.pointer (some ⟨b, 0, none⟩)] w fun e w' => e = .returned (.bool (decide (m 0 0 < 1))) ∧ w = w' := by
  have h0 := h.cell 0 0 (by omega) (by omega)
  simp only [Nat.zero_mul, Nat.add_zero] at h0
  clear h
  go_enter Tryz.func76, Tryz.ntmps76
  go_wp2
  go_ret
  exact ⟨rfl, rfl⟩

/-- What Cell answers. -/
def cellP (n : Nat) (m : Mat) (i j : Int) : Int × Int := if 0 ≤ i ∧ i ≤ n ∧ 0 ≤ j ∧ j ≤ n then (m i.toNat j.toNat, 0) else (0, 12)
set_option maxHeartbeats 400000 in
theorem cell_nil (i j : Int) (w : World) : Calls Tryz.prog 79 #[.pointer none, .int .i64 i, .int .i64 j] w fun e w' => e = .returned (.tuple #[.int .i32 0, .int .i64 1]) ∧ w = w' := by
  go_enter Tryz.func79, Tryz.ntmps79
  go_wp2
  go_ret2
  exact ⟨rfl, rfl⟩
set_option maxRecDepth 100000 in
set_option maxHeartbeats 1000000 in
theorem cell_zone (b n : Nat) (m : Mat) (i j : Int) (w : World) (hn : n ≤ 8) (h : MatAt w b 173 .i32 n m) :
    Calls Tryz.prog 79 #[.pointer (some ⟨b, 0, none⟩), .int .i64 i, .int .i64 j] w fun e w' => e = .returned (.tuple #[.int .i32 (cellP n m i j).1, .int .i64 (cellP n m i j).2]) ∧ w = w' := by
  have h0 := h.head
  have H := Lib.hid h
  clear h
  by_cases a1 : i < 0
  · have hz : cellP n m i j = (0, 12) := by unfold cellP; rw [if_neg (by omega)]
    rw [hz]
    clear hz
    have d1 : decide (i < 0) = true := decide_eq_true a1
    go_enter Tryz.func79, Tryz.ntmps79
    go_wp2
    go_ret2
    exact ⟨rfl, rfl⟩
  · have d1 : decide (i < 0) = false := decide_eq_false a1
    by_cases a2 : (n : Int) < i
    · have hz : cellP n m i j = (0, 12) := by unfold cellP; rw [if_neg (by omega)]
      rw [hz]
      clear hz
      have d2 : decide ((n : Int) < i) = true := decide_eq_true a2
      go_enter Tryz.func79, Tryz.ntmps79
      go_wp2
      go_ret2
      exact ⟨rfl, rfl⟩
    · have d2 : decide ((n : Int) < i) = false := decide_eq_false a2
      by_cases a3 : j < 0
      · have hz : cellP n m i j = (0, 12) := by unfold cellP; rw [if_neg (by omega)]
        rw [hz]
        clear hz
        have d3 : decide (j < 0) = true := decide_eq_true a3
        go_enter Tryz.func79, Tryz.ntmps79
        go_wp2
        go_ret2
        exact ⟨rfl, rfl⟩
      · have d3 : decide (j < 0) = false := decide_eq_false a3
        by_cases a4 : (n : Int) < j
        · have hz : cellP n m i j = (0, 12) := by unfold cellP; rw [if_neg (by omega)]
          rw [hz]
          clear hz
          have d4 : decide ((n : Int) < j) = true := decide_eq_true a4
          go_enter Tryz.func79, Tryz.ntmps79
          go_wp2
          go_ret2
          exact ⟨rfl, rfl⟩
        · have d4 : decide ((n : Int) < j) = false := decide_eq_false a4
          obtain ⟨p, rfl⟩ : ∃ p : Nat, i = p := ⟨i.toNat, by omega⟩
          obtain ⟨q, rfl⟩ : ∃ q : Nat, j = q := ⟨j.toNat, by omega⟩
          have hz : cellP n m p q = (m p q, 0) := by unfold cellP; rw [if_pos (by omega)]; rfl
          rw [hz]
          clear hz
          have hc := H.out.cell p q (by omega) (by omega)
          go_enter Tryz.func79, Tryz.ntmps79
          go_wp2
          go_ret2
          exact ⟨rfl, rfl⟩

theorem infoB : (Tryz.prog.info? 70).map (fun i => (i.zero, i.size, i.bytes)) = some (some (.int .i32 0), 1, 4) := by kernel_rfl
theorem addr_add (g o j : Nat) : (⟨g, o, none⟩ : Addr).add j = ⟨g, o + j, none⟩ := by unfold Addr.add; split <;> simp_all

theorem slice_row (g o n : Nat) (hn : n ≤ 8) (w : World) :
    (Instr.sliceAt 168 (.pointer (some ⟨g, o, none⟩)) none (some (.int .i64 ((n : Int) + 1))) none).run Tryz.prog w = .ok (.slice (some ⟨g, o, none⟩) (n + 1) 9) w := by
  have hl : Tryz.prog.arrayLen 168 = 9 := by kernel_rfl
  have hu : Tryz.prog.underlying 168 = some (.array (Tryz.prog.arrayLen 168) (Tryz.prog.elem 168)) := by kernel_rfl
  have hs : (sizeOf (Tryz.prog.elem 168)).run Tryz.prog w = .ok 1 w := by kernel_rfl
  rw [run_sliceAt_array_h w _ _ hu .i64 _ (by omega) (by rw [hl]; omega), hs, hl]
  have e : ((n : Int) + 1).toNat = n + 1 := by omega
  simp [slicedAt, e, Addr.add]

theorem own_drew {w : World} {base : Nat} {e : TypeId} {size n : Nat} {v : Value} {xs : List Value} (h : w.ownsRow base e size v n xs) : w.drew.ownsRow base e size v n xs := h
theorem row_cells {w : World} {b n N : Nat} {T : TypeId} {k : IntKind} {m : Mat} (h : MatAt w b T k N m) {i : Nat} (hi : i < 9) (hn : n ≤ 8) :
    ∀ j u, ((List.range (n + 1)).map (fun c => Value.int k (m i c)))[j]? = some u → w.cell? ((⟨b, 1 + i * 9, none⟩ : Addr).add j) = some u := by
  intro j u hu
  rw [addr_add]
  rw [List.getElem?_map] at hu
  by_cases hj : j < n + 1
  · simp [hj] at hu
    subst hu
    exact h.cell i j hi (by omega)
  · simp [hj] at hu

/-- The rows that all has gathered. -/
def AllR (w0 : World) (b n : Nat) (m : Mat) (i : Nat) (v : Value) (wr : World) : Prop :=
  Below w0.heap.size w0 wr ∧ wr.ownsRow w0.heap.size 70 1 v (i * (n + 1)) (vals .i32 (rowsL n m i)) ∧ i ≤ n + 1

set_option maxRecDepth 100000 in
set_option maxHeartbeats 1000000 in
theorem all_any (b n : Nat) (m : Mat) (w : World) (hn : n ≤ 8) (h : MatAt w b 173 .i32 n m) :
    Calls Tryz.prog 108 #[.pointer (some ⟨b, 0, none⟩)] w fun e w' => ∃ v, e = .returned v ∧ AllR w b n m (n + 1) v w' := by
  have h0 := h.head
  have H := Lib.hid h
  clear h
  obtain ⟨i0, hi, hz0, hz1, hz2⟩ := info_parts infoB
  have HI := Lib.hid (And.intro hi (And.intro hz0 (And.intro hz1 hz2)))
  clear hi hz0 hz1 hz2
  have HS := Lib.hid (show AllR w b n m 0 (.slice none 0 0) w from ⟨Below.refl _ _, by simpa [rowsL, vals] using World.ownsRow_nil w _ _ _, by omega⟩)
  go_enter Tryz.func108, Tryz.ntmps108
  go_wp2
  go_loopg [3, 10] (n + 1) (fun g v x wr => ∃ i : Nat, x = .int .i64 i ∧ AllR w b n m i v wr ∧ Hid (g + i = n + 1))
  case atStart => exact ⟨0, by simp, HS.out, by show _ = _; omega⟩
  case round =>
    clear HS h0
    obtain ⟨i, rfl, HA, HG⟩ := hrel
    have HR := Lib.hid HA
    have hm := H.out.later HA.1
    have h0 := hm.head
    have HM := Lib.hid hm
    clear HA hm
    by_cases hi : i < n + 1
    · have hii : (i : Int) < (n : Int) + 1 := by omega
      have i9 : (i : Int) < 9 := by omega
      have n9 : (n : Int) + 1 ≤ 9 := by omega
      have g1 : IntKind.i64.wrap ((n : Int) + 1) = (n : Int) + 1 := IntWalk.i64_in _ (by omega)
      have D0 := Lib.hid (show wr.drew.cell? _ = _ from h0)
      have hin : i * (n + 1) ≤ 8 * 9 := Nat.mul_le_mul (by omega) (by omega)
      have hsl := slice_row b (1 + i * 9) n hn
      go_wp2_with fail
      refine wp_region_still_tail 12 (by kernel_rfl) (by kernel_rfl) ?_
      simp only [List.take_succ_cons, List.take_zero, List.drop_succ_cons, List.drop_zero]
      change wpStill _ _ wr.drew _ _ _
      generalize wr.drew = w2 at *
      have d0 := D0.out
      clear D0
      repeat still_step
      refine wpStill_nil ?_
      go_wp2_with (at_builtin; refine wpList_append_own _ rfl _ _ 115 rfl w.heap.size 70 i0 (.int .i32 0) 1 4 Tryz.underlying115 HI.out.1 HI.out.2.1 HI.out.2.2.1 HI.out.2.2.2 rfl (by decide) _ _ _ rfl (own_drew HR.out.2.1) ⟨b, 1 + i * 9, none⟩ (n + 1) 9 ((List.range (n + 1)).map (fun c => Value.int .i32 (m i c))) rfl (by simp) (row_cells HM.out.drew (by omega) hn) (by intro u hu; obtain ⟨c, _, rfl⟩ := List.mem_map.1 hu; rfl) ?c3 ?c4 ?c5 ?_)
      case c3 => unfold maxLen; omega
      case c4 => omega
      case c5 => exact HR.out.1.size
      intro v' w3 hown hgrow _
      have HN := Lib.hid (show AllR w b n m (i + 1) v' w3 from by
        refine ⟨(Below.drew HR.out.1).grown hgrow HR.out.1.size (fun k hk => ?_), ?_, by omega⟩
        · exact (HR.out.2.1.lt k hk).1
        · have e : (i + 1) * (n + 1) = i * (n + 1) + (n + 1) := by rw [Nat.add_mul]; omega
          rw [e]
          have e2 : vals .i32 (rowsL n m (i + 1)) = vals .i32 (rowsL n m i) ++ (List.range (n + 1)).map (fun c => Value.int .i32 (m i c)) := by
            simp [vals, rowsL]
          rw [e2, List.range_succ, List.map_append]; exact hown)
      clear hown hgrow
      go_wp2
      go_roundg (gk - 1)
      case measure => have h := HG.out; omega
      case rel => exact ⟨i + 1, by go_num, HN.out, by have h := HG.out; show _ = _; omega⟩
    · have hii : ¬ (i : Int) < (n : Int) + 1 := by omega
      have e : i = n + 1 := by have := HR.out.2.2; omega
      subst e
      go_wp2
      go_ret
      exact ⟨_, rfl, HR.out⟩

/-- A slice that cells tells: all of them, in new memory. -/
theorem AllR.own {w0 wr : World} {b n : Nat} {m : Mat} {v : Value} (h : AllR w0 b n m (n + 1) v wr) : OwnI wr w0.heap.size 70 .i32 v (flat n m) := by
  unfold OwnI
  rw [flat_length]; exact h.2.1

theorem cells_nil (w : World) : Calls Tryz.prog 78 #[.pointer none] w fun e w' => e = .returned (.slice none 0 0) ∧ w = w' := by
  go_enter Tryz.func78, Tryz.ntmps78
  go_wp2
  go_ret
  exact ⟨rfl, rfl⟩
set_option maxRecDepth 100000 in
set_option maxHeartbeats 1000000 in
theorem cells_zone (b n : Nat) (m : Mat) (w : World) (hn : n ≤ 8) (h : MatAt w b 173 .i32 n m) :
    Calls Tryz.prog 78 #[.pointer (some ⟨b, 0, none⟩)] w fun e w' => ∃ v, e = .returned v ∧ Below w.heap.size w w' ∧ OwnI w' w.heap.size 70 .i32 v (flat n m) := by
  go_enter Tryz.func78, Tryz.ntmps78
  go_wp2_with fail
  refine (all_any b n m _ hn h).mono ?_
  rintro e w1 ⟨v, rfl, hA⟩
  have HA := Lib.hid hA
  clear hA h
  go_wp2
  go_ret
  exact ⟨v, rfl, HA.out.1, HA.out.own⟩

/-! ### are two of as many clocks? -/
def alikeP (z o : Option (Nat × Mat)) : Bool := match z, o with
  | some (n, _), some (k, _) => decide (n = k)
  | _, _ => false
end Go.Proofs.YtmelblnflalanaaGreat

/- What is asked of the program's zones, or of nil. -/
namespace Go.Proofs.YtmelblnflalanaaGreat
open Go Go.RowKit
set_option linter.unusedVariables false
set_option linter.unusedSimpArgs false

/-- The number of a zone's clocks. -/
def dimP (z : Option (Nat × Mat)) : Int := match z with | some (n, _) => n | none => 0
/-- All cells of a zone. -/
def cellsP (z : Option (Nat × Mat)) : List Int := match z with | some (n, m) => flat n m | none => []

/-- Has a zone no valuation? -/
def emptyP (z : Option (Nat × Mat)) : Bool := match z with | some (_, m) => decide (m 0 0 < 1) | none => false
/-- What Cell answers of a zone, or of nil. -/
def cellZ (z : Option (Nat × Mat)) (i j : Int) : Int × Int := match z with | some (n, m) => cellP n m i j | none => (0, 1)
theorem cell_any (v : Value) (z : Option (Nat × Mat)) (i j : Int) (w : World) (h : ZoneV 173 w v z) :
    Calls Tryz.prog 79 #[v, .int .i64 i, .int .i64 j] w fun e w' => e = .returned (.tuple #[.int .i32 (cellZ z i j).1, .int .i64 (cellZ z i j).2]) ∧ w = w' := by
  match z, h with
  | none, h =>
    have h : v = .pointer none := h
    subst h
    exact cell_nil i j w
  | some (n, m), ⟨b, e, hn, _, hm⟩ =>
    subst e
    exact cell_zone b n m i j w hn hm

/-- A slice in new memory, or nil: what Cells tells. -/
def TellsL (w0 : World) (xs : List Int) (e : Ending) (w' : World) : Prop := ∃ v, e = .returned v ∧ Below w0.heap.size w0 w' ∧ OwnI w' w0.heap.size 70 .i32 v xs
theorem tells_nil (w0 w' : World) (h : w0 = w') : TellsL w0 [] (.returned (.slice none 0 0)) w' := by
  subst h
  exact ⟨_, rfl, Below.refl _ _, by unfold OwnI; simpa [vals] using World.ownsRow_nil _ _ _ _⟩
theorem cells_any (v : Value) (z : Option (Nat × Mat)) (w : World) (h : ZoneV 173 w v z) : Calls Tryz.prog 78 #[v] w (TellsL w (cellsP z)) := by
  match z, h with
  | none, h =>
    have h : v = .pointer none := h
    subst h
    refine (cells_nil w).mono ?_
    rintro e w' ⟨rfl, hw⟩
    exact tells_nil w w' hw
  | some (n, m), ⟨b, e, hn, _, hm⟩ =>
    subst e
    exact cells_zone b n m w hn hm

/-- The zone that Of tells of. -/
def zOf (n : Int) (cells : List Int) : Option (Nat × Mat) := (ofP n cells).1.map fun m => (n.toNat, m)
theorem cellsP_short (z : Option (Nat × Mat)) (h : ∀ n m, z = some (n, m) → n ≤ 8) : (cellsP z).length ≤ 81 := by
  match z with
  | none => simp [cellsP]
  | some (n, m) =>
    have hn := h n m rfl
    show (flat n m).length ≤ 81
    rw [flat_length]
    have := Nat.mul_le_mul (show n + 1 ≤ 9 by omega) (show n + 1 ≤ 9 by omega)
    omega


end Go.Proofs.YtmelblnflalanaaGreat

/- How the program adds wide bounds and closes a wide matrix. -/
namespace Go.Proofs.YtmelblnflalanaaGreat
open Go.RowKit
set_option linter.unusedVariables false
set_option linter.unusedSimpArgs false
attribute [local go_sem] min_ints max_ints

theorem mul_bits (a b : Int) : 0 ≤ (a % 2) * (b % 2) ∧ (a % 2) * (b % 2) ≤ 1 := by
  rcases two_cases a b with ⟨h, _⟩ | ⟨h, _⟩ <;> rw [h] <;> omega

set_option maxRecDepth 100000 in
set_option maxHeartbeats 1000000 in
theorem sum_fin (a b : Int) (w : World) (ha1 : -1152921504606846976 ≤ a) (ha2 : a ≤ 1152921504606846976) (hb1 : -1152921504606846976 ≤ b) (hb2 : b ≤ 1152921504606846976) :
    Calls Tryz.prog 113 #[.int .i64 a, .int .i64 b] w fun e w' => e = .returned (.int .i64 (wsum a b)) ∧ w = w' := by
  have t1 : (a == 4611686018427387904) = false := by simp; omega
  have t2 : (b == 4611686018427387904) = false := by simp; omega
  obtain ⟨p, hp, hp0, hp1, hp2⟩ : ∃ p, Go.bits .and .i64 (Go.bits .and .i64 a b) 1 = p ∧ 0 ≤ p ∧ p ≤ 1 ∧ p = (a % 2) * (b % 2) := ⟨_, i64_and_and1 a b, (mul_bits a b).1, (mul_bits a b).2, rfl⟩
  have HP := Lib.hid hp2
  clear hp2
  obtain ⟨x, hx, hx0, hx1, hx2⟩ : ∃ x, Go.bits .andNot .i64 a 1 = x ∧ a - 1 ≤ x ∧ x ≤ a ∧ x = a - a % 2 := ⟨_, i64_andNot1 a (by omega) (by omega), by omega, by omega, rfl⟩
  have HX := Lib.hid hx2
  clear hx2
  obtain ⟨y, hy, hy0, hy1, hy2⟩ : ∃ y, Go.bits .andNot .i64 b 1 = y ∧ b - 1 ≤ y ∧ y ≤ b ∧ y = b - b % 2 := ⟨_, i64_andNot1 b (by omega) (by omega), by omega, by omega, rfl⟩
  have HY := Lib.hid hy2
  clear hy2
  have HR : wsum a b = x + y + p := by
    unfold wsum none62
    rw [if_neg (by omega), HP.out, HX.out, HY.out]
  rw [HR]
  clear HR
  go_enter Tryz.func113, Tryz.ntmps113
  go_wp2
  go_ret
  exact ⟨rfl, rfl⟩

set_option maxRecDepth 100000 in
set_option maxHeartbeats 1000000 in
theorem sum_none_left (b : Int) (w : World) :
    Calls Tryz.prog 113 #[.int .i64 4611686018427387904, .int .i64 b] w fun e w' => e = .returned (.int .i64 4611686018427387904) ∧ w = w' := by
  go_enter Tryz.func113, Tryz.ntmps113
  go_wp2
  go_ret
  exact ⟨rfl, rfl⟩

set_option maxRecDepth 100000 in
set_option maxHeartbeats 1000000 in
theorem sum_none_right (a : Int) (w : World) :
    Calls Tryz.prog 113 #[.int .i64 a, .int .i64 4611686018427387904] w fun e w' => e = .returned (.int .i64 4611686018427387904) ∧ w = w' := by
  by_cases h : a = 4611686018427387904
  · subst h; exact sum_none_left _ _
  · have t1 : (a == 4611686018427387904) = false := by simp; omega
    clear h
    go_enter Tryz.func113, Tryz.ntmps113
    go_wp2
    go_ret
    exact ⟨rfl, rfl⟩

theorem dsum_any (a b : Int) (w : World) (ha : Bd 1152921504606846976 a) (hb : Bd 1152921504606846976 b) :
    Calls Tryz.prog 113 #[.int .i64 a, .int .i64 b] w fun e w' => e = .returned (.int .i64 (wsum a b)) ∧ w = w' := by
  rcases ha with rfl | ha
  · have : wsum none62 b = 4611686018427387904 := by simp [wsum, none62]
    rw [this]; exact sum_none_left _ _
  · rcases hb with rfl | hb
    · have : wsum a none62 = 4611686018427387904 := by simp [wsum, none62]
      rw [this]; exact sum_none_right _ _
    · exact sum_fin a b w ha.1 ha.2 hb.1 hb.2

theorem sum_still (a b : Int) (w : World) (ha : Bd 1152921504606846976 a) (hb : Bd 1152921504606846976 b) :
    Calls Tryz.prog 113 #[.int .i64 a, .int .i64 b] w fun e w' => e = .returned (.int .i64 (wsum a b)) ∧ w' = w :=
  (dsum_any a b w ha hb).mono fun _ _ h => ⟨h.1, h.2.symm⟩

/-- The machine's matrix is cur; nothing else was touched. -/
def CloseAt (w0 : World) (b n : Nat) (cur : Mat) (wr : World) : Prop := Only b w0 wr ∧ MatAt wr b 166 .i64 n cur

def OuterR (w0 : World) (b n : Nat) (m0 : Mat) (g k : Nat) (m : Mat) (wr : World) : Prop := CloseAt w0 b n m wr ∧ RoundOk n m0 k m ∧ g + k = n + 1
def MidR (w0 : World) (b n : Nat) (m : Mat) (k g i : Nat) (cur : Mat) (wr : World) : Prop :=
  CloseAt w0 b n cur wr ∧ InnerOk n (1073741824 * 4 ^ k) m k i 0 cur ∧ (∀ a, a < i → 1 ≤ fw k n m a a) ∧ i ≤ n + 1 ∧ g + i = n + 1
def InnR (w0 : World) (b n : Nat) (m : Mat) (k i g j : Nat) (cur : Mat) (wr : World) : Prop :=
  CloseAt w0 b n cur wr ∧ InnerOk n (1073741824 * 4 ^ k) m k i j cur ∧ j ≤ n + 1 ∧ g + j = n + 1

theorem CloseAt.step {w0 wr : World} {b n : Nat} {cur : Mat} (h : CloseAt w0 b n cur wr) {i j : Nat} (hi : i < 9) (hj : j < 9) (v : Int) :
    CloseAt w0 b n (upd cur i j v) (wr.setCell ⟨b, 1 + i * 9 + j, none⟩ (.int .i64 v)).drew :=
  ⟨(h.1.setCell _ _).drew, h.2.set i j hi hj v⟩

theorem InnR.bounds {w0 wr : World} {b n : Nat} {m m0 cur : Mat} {k i g j : Nat} (h : InnR w0 b n m k i g j cur wr) (hr : RoundOk n m0 k m) (hn : n ≤ 8) (hk : k ≤ n) (hi : i ≤ n) (hj : j ≤ n) :
    Bd 1152921504606846976 (cur i j) ∧ Bd 1152921504606846976 (cur i k) ∧ Bd 1152921504606846976 (cur k j) := by
  have h4 := pow2_le (show k ≤ 9 by omega)
  have h1 := one_le_pow2 k
  have := h.2.1.bounds hr.fit (by omega) hk hi hj
  exact ⟨this.1.mono (by omega), this.2.1.mono (by omega), this.2.2.mono (by omega)⟩

theorem InnR.step {w0 wr : World} {b n : Nat} {m m0 cur : Mat} {k i g j : Nat} (h : InnR w0 b n m k i g j cur wr) (hr : RoundOk n m0 k m) (hn : n ≤ 8) (hk : k ≤ n) (hi : i ≤ n) (hj : j ≤ n) :
    InnR w0 b n m k i (g - 1) (j + 1) (upd cur i j (min (cur i j) (wsum (cur i k) (cur k j)))) (wr.setCell ⟨b, 1 + i * 9 + j, none⟩ (.int .i64 (min (cur i j) (wsum (cur i k) (cur k j))))).drew := by
  have h1 := one_le_pow2 k
  have := h.2.2.2
  exact ⟨h.1.step (by omega) (by omega) _, h.2.1.step hr.fit (by omega) hk hi hj, by omega, by omega⟩

theorem InnR.next {w0 wr : World} {b n : Nat} {m cur : Mat} {k i g j : Nat} (h : InnR w0 b n m k i g j cur wr) (hj : ¬ j < n + 1) (hd : 1 ≤ cur i i) (hi : i ≤ n) (hall : ∀ a, a < i → 1 ≤ fw k n m a a) :
    MidR w0 b n m k (n - i) (i + 1) cur wr := by
  have e : j = n + 1 := by have := h.2.2.1; omega
  subst e
  obtain ⟨h1, h2, h3⟩ := (h.2.1.row hi).2 hd
  refine ⟨h.1, h3, fun a ha => ?_, by omega, by omega⟩
  by_cases e : a = i
  · subst e; exact h2
  · exact hall a (by omega)

theorem InnR.fail {w0 wr : World} {b n : Nat} {m m0 cur : Mat} {k i g j : Nat} (h : InnR w0 b n m k i g j cur wr) (hr : RoundOk n m0 k m) (hj : ¬ j < n + 1) (hd : cur i i < 1) (hk : k ≤ n) (hi : i ≤ n) : closed n m0 = none := by
  have e : j = n + 1 := by have := h.2.2.1; omega
  subst e
  exact hr.fail hk hi ((h.2.1.row hi).1 hd)

theorem MidR.next {w0 wr : World} {b n : Nat} {m m0 cur : Mat} {k i g : Nat} (h : MidR w0 b n m k g i cur wr) (hr : RoundOk n m0 k m) (hi : ¬ i < n + 1) (hk : k ≤ n) :
    OuterR w0 b n m0 (n - k) (k + 1) cur wr := by
  have e : i = n + 1 := by have := h.2.2.2.1; omega
  subst e
  exact ⟨h.1, hr.next hk h.2.1 (fun a ha => h.2.2.1 a (by omega)), by omega⟩

/-- What close answers. -/
def CloseEnds (w0 : World) (b n : Nat) (m0 : Mat) (e : Ending) (w' : World) : Prop :=
  Only b w0 w' ∧ ((closed n m0 = none ∧ e = .returned (.bool false)) ∨ ∃ m', closed n m0 = some m' ∧ e = .returned (.bool true) ∧ MatAt w' b 166 .i64 n m')

set_option maxRecDepth 100000 in
set_option maxHeartbeats 2000000 in
theorem close_any (b n : Nat) (m0 : Mat) (w : World) (hn : n ≤ 8) (h : MatAt w b 166 .i64 n m0) (hf : Fit n 1073741824 m0) :
    Calls Tryz.prog 106 #[.pointer (some ⟨b, 0, none⟩)] w (CloseEnds w b n m0) := by
  have H0 := Lib.hid (show OuterR w b n m0 (n + 1) 0 m0 w from ⟨⟨Only.refl _ _, h⟩, RoundOk.start hf, by omega⟩)
  have h0 := h.head
  clear h hf
  go_enter Tryz.func106, Tryz.ntmps106
  go_wp2
  go_loopg [11] (n + 1) (fun g v wr => ∃ k : Nat, ∃ m, v = .int .i64 k ∧ OuterR w b n m0 g k m wr)
  case atStart => exact ⟨0, m0, by simp, H0.out⟩
  case round =>
    clear H0 h0
    obtain ⟨k, m, rfl, H⟩ := hrel
    have HK := Lib.hid H
    have h0 := H.1.2.head
    clear H
    by_cases hk : k < n + 1
    · have hkk : (k : Int) < (n : Int) + 1 := by omega
      have H1 := Lib.hid (show MidR w b n m k (n + 1) 0 m wr from ⟨HK.out.1, HK.out.2.1.inner (by omega), fun a ha => by omega, by omega, by omega⟩)
      go_wp2
      go_loopg [19] (n + 1) (fun g v wr => ∃ i : Nat, ∃ cur, v = .int .i64 i ∧ MidR w b n m k g i cur wr)
      case atStart => exact ⟨0, m, by simp, H1.out⟩
      case round =>
        clear H1 h0
        obtain ⟨i, cur, rfl, H⟩ := hrel
        have HI := Lib.hid H
        have h0 := H.1.2.head
        clear H
        by_cases hi : i < n + 1
        · have hii : (i : Int) < (n : Int) + 1 := by omega
          have H1 := Lib.hid (show InnR w b n m k i (n + 1) 0 cur wr from ⟨HI.out.1, HI.out.2.1, by omega, by omega⟩)
          go_wp2
          go_loopg [27] (n + 1) (fun g v wr => ∃ j : Nat, ∃ cur, v = .int .i64 j ∧ InnR w b n m k i g j cur wr)
          case atStart => exact ⟨0, cur, by simp, H1.out⟩
          case round =>
            clear H1 h0
            obtain ⟨j, cur, rfl, H⟩ := hrel
            have HJ := Lib.hid H
            by_cases hj : j < n + 1
            · have hjj : (j : Int) < (n : Int) + 1 := by omega
              have c1 := H.1.2.cell i j (by omega) (by omega)
              have c2 := H.1.2.cell i k (by omega) (by omega)
              have c3 := H.1.2.cell k j (by omega) (by omega)
              have f1 := H.1.2.frozen (1 + i * 9 + j)
              clear H
              have HB := Lib.hid (HJ.out.bounds HK.out.2.1 hn (by omega) (by omega) (by omega))
              have HS := Lib.hid (HJ.out.step HK.out.2.1 hn (by omega) (by omega) (by omega))
              have i9 : (i : Int) < 9 := by omega
              have j9 : (j : Int) < 9 := by omega
              have k9 : (k : Int) < 9 := by omega
              have C1 := Lib.hid (show wr.drew.cell? _ = _ from c1)
              have C2 := Lib.hid (show wr.drew.cell? _ = _ from c2)
              have C3 := Lib.hid (show wr.drew.cell? _ = _ from c3)
              go_wp2
              refine wp_region_still_tail 33 (by kernel_rfl) (by kernel_rfl) ?_
              simp only [List.take_succ_cons, List.take_zero, List.drop_succ_cons, List.drop_zero]
              change wpStill _ _ wr.drew _ _ _
              generalize wr.drew = w2 at *
              have d1 := C1.out
              have d2 := C2.out
              have d3 := C3.out
              clear C1 C2 C3
              repeat still_step
              still_call (sum_still _ _ _ HB.out.2.1 HB.out.2.2)
              repeat still_step
              refine wpStill_nil ?_
              go_wp2
              go_roundg (gk - 1)
              case measure => have := HJ.out.2.2.2; omega
              case rel => exact ⟨j + 1, _, by go_num, HS.out⟩
            · have hjj : ¬ (j : Int) < (n : Int) + 1 := by omega
              have c1 := H.1.2.cell i i (by omega) (by omega)
              have h0 := H.1.2.head
              clear H
              by_cases hd : cur i i < 1
              · go_wp2
                go_ret
                exact ⟨HJ.out.1.1, .inl ⟨HJ.out.fail HK.out.2.1 hj hd (by omega) (by omega), rfl⟩⟩
              · go_wp2
                go_roundg (n - i)
                case measure => have := HI.out.2.2.2.2; omega
                case rel =>
                  exact ⟨i + 1, _, by go_num, HJ.out.next hj (by omega) (by omega) HI.out.2.2.1⟩
        · have hii : ¬ (i : Int) < (n : Int) + 1 := by omega
          go_wp2
          go_roundg (n - k)
          case measure => have := HK.out.2.2; omega
          case rel =>
            exact ⟨k + 1, _, by go_num, HI.out.next HK.out.2.1 hi (by omega)⟩
    · have hkk : ¬ (k : Int) < (n : Int) + 1 := by omega
      go_wp2
      go_ret
      have e : k = n + 1 := by have := HK.out.2.1.le; omega
      subst e
      exact ⟨HK.out.1.1, .inr ⟨m, HK.out.2.1.done, rfl, HK.out.1.2⟩⟩

end Go.Proofs.YtmelblnflalanaaGreat

/- What zone makes of a wide matrix: the zone, or the error. -/
namespace Go.Proofs.YtmelblnflalanaaGreat
open Go.RowKit
set_option linter.unusedVariables false
set_option linter.unusedSimpArgs false
attribute [local go_sem] min_ints max_ints


theorem zero_matrix (n : Nat) : (Tryz.zeroCells171).setIfInBounds 0 (Value.int .i64 n) = matCells .i32 n (fun _ _ => 0) := rfl

theorem size_matrix : (Tryz.prog.info? 171).map (·.size) = some 82 := by kernel_rfl

theorem zone_lay (n : Nat) (m : Mat) : Array.foldl (fun (cs : Array Value) (x : Value × Nat) => cs.setIfInBounds x.snd x.fst) Tryz.zeroCells173 (matCells .i32 n m).zipIdx 0 82 = matCells .i32 n m := by
  have h := lay_whole (matCells .i32 n m) Tryz.zeroCells173 (by rw [matCells_size]; rfl)
  rw [matCells_size] at h
  exact h

/-- The narrow matrix while it is filled. -/
def FillR (w1 : World) (b b2 n : Nat) (m : Mat) (g i j : Nat) (wr : World) : Prop :=
  Only b2 w1 wr ∧ MatAt wr b 166 .i64 n m ∧ MatAt wr b2 171 .i32 n (filled (narM n m) i j) ∧ (∀ a c, a < i ∨ (a = i ∧ c < j) → c ≤ n → inR (m a c)) ∧ i ≤ n + 1 ∧ j ≤ n + 1

theorem FillR.step {w1 wr : World} {b b2 n : Nat} {m : Mat} {g g' i j : Nat} (h : FillR w1 b b2 n m g i j wr) (hn : n ≤ 8) (hb : b ≠ b2) (hi : i < n + 1) (hj : j < n + 1) (hr : inR (m i j)) (v : Int) (hv : v = nar (m i j)) :
    FillR w1 b b2 n m g' i (j + 1) (wr.setCell ⟨b2, 1 + i * 9 + j, none⟩ (.int .i32 v)) := by
  have e : nar (m i j) = narM n m i j := by unfold narM; rw [if_pos (by omega)]
  have h3 := h.2.2.1.set i j (by omega) (by omega) v
  rw [hv, e, upd_filled] at h3
  rw [hv, e]
  refine ⟨h.1.setCell _ _, h.2.1.only ((Only.refl _ _).setCell _ _) hb, h3, fun a c hac hc => ?_, h.2.2.2.2.1, by omega⟩
  by_cases e : a = i ∧ c = j
  · obtain ⟨rfl, rfl⟩ := e; exact hr
  · exact h.2.2.2.1 a c (by omega) hc
theorem FillR.row {w1 wr : World} {b b2 n : Nat} {m : Mat} {g g' i j : Nat} (h : FillR w1 b b2 n m g i j wr) (hi : i < n + 1) (hj : ¬ j < n + 1) : FillR w1 b b2 n m g' (i + 1) 0 wr := by
  have e : j = n + 1 := by have := h.2.2.2.2.2; omega
  subst e
  refine ⟨h.1, h.2.1, by rw [filled_row (narM_inside n m)]; exact h.2.2.1, fun a c hac hc => h.2.2.2.1 a c (by omega) hc, by omega, by omega⟩
theorem FillR.done {w1 wr : World} {b b2 n : Nat} {m : Mat} {g i : Nat} (h : FillR w1 b b2 n m g i 0 wr) (hi : ¬ i < n + 1) :
    Only b2 w1 wr ∧ MatAt wr b2 171 .i32 n (narM n m) ∧ allR n m := by
  have e : i = n + 1 := by have := h.2.2.2.2.1; omega
  subst e
  refine ⟨h.1, ?_, fun a ha c hc => h.2.2.2.1 a c (by omega) hc⟩
  have := h.2.2.1
  rw [filled_done (narM_inside n m)] at this
  exact this

/-- What zone answers: v and the number of the error. -/
def ZoneEnds (w0 : World) (b n : Nat) (m0 : Mat) (e : Ending) (w' : World) : Prop :=
  Only b w0 w' ∧ ∃ v, e = .returned (.tuple #[v, .int .i64 (zoneP n m0).2]) ∧ ZoneV 173 w' v ((zoneP n m0).1.map fun m => (n, m))

theorem zone_made {w1 : World} {c n : Nat} {m : Mat} (h : MatAt w1 c 171 .i32 n m) : MatAt (w1.alloc (.cells (matCells .i32 n m) 173)) w1.heap.size 173 .i32 n m := by
  unfold MatAt; exact heap_alloc_new _ _

set_option maxRecDepth 100000 in
set_option maxHeartbeats 2000000 in
theorem zone_any (b n : Nat) (m0 : Mat) (w : World) (hn : n ≤ 8) (h : MatAt w b 166 .i64 n m0) (hf : Fit n 1073741824 m0) :
    Calls Tryz.prog 75 #[.pointer (some ⟨b, 0, none⟩)] w (ZoneEnds w b n m0) := by
  have h0 := h.head
  have hlt := h.lt
  have HF := Lib.hid hf
  have HM := Lib.hid (show MatAt (w.alloc (.cells (matCells .i32 n (fun _ _ => 0)) 171)) w.heap.size 171 .i32 n (fun _ _ => 0) from by unfold MatAt; exact heap_alloc_new _ _)
  have HB := Lib.hid (h.alloc (.cells (matCells .i32 n (fun _ _ => 0)) 171))
  clear h hf
  have hz0 := zero_matrix n
  go_enter Tryz.func75, Tryz.ntmps75
  go_wp2_with fail
  refine (close_any b n m0 _ hn HB.out HF.out).mono ?_
  rintro e w1 ⟨ho, hcl⟩
  have HO := Lib.hid ho
  have hsz : w.heap.size < w1.heap.size := by have := ho.size; simp at this; omega
  have hM1 : MatAt w1 w.heap.size 171 .i32 n (fun _ _ => 0) := HM.out.only ho (by omega)
  have HM1 := Lib.hid hM1
  clear ho hz0
  rcases hcl with ⟨hc, rfl⟩ | ⟨m', hc, rfl, hm⟩
  · have HC := Lib.hid hc
    have hb := zone_lay n (fun _ _ => 0)
    have hs := matCells_size .i32 n (fun _ _ => 0)
    clear hc hM1
    go_wp2_with (refine wpList_load_row rfl 171 _ rfl w.heap.size rfl 171 _ (0, 0) _ HM1.out Tryz.underlying171 rfl (by rw [matCells_size]; exact size_matrix) ?_)
    go_ret2
    have hz : zoneP n m0 = (some (fun _ _ => 0), 0) := by unfold zoneP; rw [HC.out]
    exact ⟨(((Only.refl _ _).alloc _).trans HO.out).alloc _, .pointer (some ⟨w1.heap.size, 0, none⟩), by rw [hz]; rfl, by rw [hz]; exact ⟨_, rfl, hn, right_zero n, zone_made HM1.out⟩⟩
  · have HC := Lib.hid hc
    have h0 := hm.head
    have HS := Lib.hid (show FillR w1 b w.heap.size n m' (n + 1) 0 0 w1 from ⟨Only.refl _ _, hm, by rw [filled_zero]; exact HM1.out, fun a c h => by omega, by omega, by omega⟩)
    clear hc hm hM1
    go_wp2
    go_loopg [27] (n + 1) (fun g v wr => ∃ i : Nat, v = .int .i64 i ∧ FillR w1 b w.heap.size n m' g i 0 wr ∧ g + i = n + 1)
    case atStart => exact ⟨0, by simp, HS.out, by omega⟩
    case round =>
      clear HS h0
      obtain ⟨i, rfl, H, hg⟩ := hrel
      have HG := Lib.hid hg
      have HI := Lib.hid H
      have h0 := H.2.1.head
      clear H hg
      by_cases hi : i < n + 1
      · have hii : (i : Int) < (n : Int) + 1 := by omega
        go_wp2
        go_loopg [35] (n + 1) (fun g v wr => ∃ j : Nat, v = .int .i64 j ∧ FillR w1 b w.heap.size n m' g i j wr ∧ g + j = n + 1)
        case atStart => exact ⟨0, by simp, HI.out, by omega⟩
        case round =>
          clear HI h0
          obtain ⟨j, rfl, H, hg⟩ := hrel
          have HG2 := Lib.hid hg
          have HJ := Lib.hid H
          clear hg
          by_cases hj : j < n + 1
          · have hjj : (j : Int) < (n : Int) + 1 := by omega
            have c1 := H.2.1.cell i j (by omega) (by omega)
            have f1 := H.2.2.1.frozen (1 + i * 9 + j)
            have hb2 : w.heap.size < wr.heap.size := H.2.2.1.lt
            obtain ⟨old, ho⟩ : ∃ old, wr.cell? ⟨w.heap.size, 1 + i * 9 + j, none⟩ = some (.int .i32 old) := ⟨_, H.2.2.1.cell i j (by omega) (by omega)⟩
            clear H
            obtain ⟨x, hx⟩ : ∃ x, x = m' i j := ⟨_, rfl⟩
            rw [← hx] at c1
            have HX := Lib.hid hx
            clear hx
            by_cases h1 : x = none62
            · have hx : x = 4611686018427387904 := h1
              have HX1 := Lib.hid h1
              clear h1
              subst hx
              go_wp2
              go_roundg (gk - 1)
              case measure => have := HG2.out; omega
              case rel => exact ⟨j + 1, by go_num, HJ.out.step hn (by omega) hi hj (.inl (by rw [← HX.out]; rfl)) _ (by rw [← HX.out]; rfl), by have := HG2.out; omega⟩
            · have t1 : (x == 4611686018427387904) = false := by simpa [none62] using h1
              have H1 := Lib.hid h1
              clear h1
              by_cases h2 : x < -536870912
              · have d2 : decide (x < -536870912) = true := decide_eq_true h2
                go_wp2
                go_ret2
                have hall : ¬ allR n m' := fun ha => by have := ha i (by omega) j (by omega); rw [← HX.out] at this; rcases this with h | h; exact H1.out h; omega
                have hz : zoneP n m0 = (none, 10) := by unfold zoneP; rw [HC.out]; simp only; rw [if_neg hall]
                exact ⟨(((Only.refl _ _).alloc _).trans HO.out).andThen HJ.out.1 (Nat.le_refl _), .pointer none, by rw [hz]; rfl, by rw [hz]; rfl⟩
              · have d2 : decide (x < -536870912) = false := decide_eq_false h2
                by_cases h3 : 536870913 < x
                · go_wp2
                  go_ret2
                  have hall : ¬ allR n m' := fun ha => by have := ha i (by omega) j (by omega); rw [← HX.out] at this; rcases this with h | h; exact H1.out h; omega
                  have hz : zoneP n m0 = (none, 10) := by unfold zoneP; rw [HC.out]; simp only; rw [if_neg hall]
                  exact ⟨(((Only.refl _ _).alloc _).trans HO.out).andThen HJ.out.1 (Nat.le_refl _), .pointer none, by rw [hz]; rfl, by rw [hz]; rfl⟩
                · go_wp2
                  go_roundg (gk - 1)
                  case measure => have := HG2.out; omega
                  case rel => exact ⟨j + 1, by go_num, HJ.out.step hn (by omega) hi hj (by rw [← HX.out]; exact .inr (by omega)) _ (by rw [← HX.out]; unfold nar; rw [if_neg H1.out]), by have := HG2.out; omega⟩
          · have hjj : ¬ (j : Int) < (n : Int) + 1 := by omega
            go_wp2
            go_roundg (n - i)
            case measure => have := HG.out; omega
            case rel => exact ⟨i + 1, by go_num, HJ.out.row hi hj, by omega⟩
      · have hii : ¬ (i : Int) < (n : Int) + 1 := by omega
        obtain ⟨hO2, hM2, hall⟩ := HI.out.done hi
        have HO2 := Lib.hid hO2
        have HM2 := Lib.hid hM2
        have HA := Lib.hid hall
        have hb := zone_lay n (narM n m')
        have hs := matCells_size .i32 n (narM n m')
        clear hO2 hM2 hall h0
        go_wp2_with (refine wpList_load_row rfl 171 _ rfl w.heap.size rfl 171 _ (0, 0) _ HM2.out Tryz.underlying171 rfl (by rw [matCells_size]; exact size_matrix) ?_)
        go_ret2
        have hz : zoneP n m0 = (some (narM n m'), 0) := by unfold zoneP; rw [HC.out]; simp only; rw [if_pos HA.out]
        exact ⟨((((Only.refl _ _).alloc _).trans HO.out).andThen HO2.out (Nat.le_refl _)).alloc _, .pointer (some ⟨wr.heap.size, 0, none⟩), by rw [hz]; rfl, by rw [hz]; exact ⟨_, rfl, hn, narM_right HA.out, zone_made HM2.out⟩⟩

end Go.Proofs.YtmelblnflalanaaGreat

/- Of, Limits, Universe, Zero: the zone of bounds, or the error. -/
namespace Go.Proofs.YtmelblnflalanaaGreat
open Go.RowKit
set_option linter.unusedVariables false
set_option linter.unusedSimpArgs false
attribute [local go_sem] min_ints max_ints

theorem few_yes (n : Int) (w : World) (h : 0 ≤ n ∧ n ≤ 8) : Calls Tryz.prog 71 #[.int .i64 n] w fun e w' => e = .returned (.bool true) ∧ w = w' :=
  (few_any n w).mono fun _ _ k => ⟨by rw [k.1, decide_eq_true h], k.2⟩
theorem few_no (n : Int) (w : World) (h : ¬ (0 ≤ n ∧ n ≤ 8)) : Calls Tryz.prog 71 #[.int .i64 n] w fun e w' => e = .returned (.bool false) ∧ w = w' :=
  (few_any n w).mono fun _ _ k => ⟨by rw [k.1, decide_eq_false h], k.2⟩

/-- A function that makes a zone ends with this answer. -/
def MakesZ (w0 : World) (n : Nat) (r : Option Mat × Int) (e : Ending) (w' : World) : Prop :=
  Below w0.heap.size w0 w' ∧ ∃ v, e = .returned (.tuple #[v, .int .i64 r.2]) ∧ ZoneV 173 w' v (r.1.map fun m => (n, m))

/-- The wide matrix while it is filled: it lies in the first new block. -/
def KeepR (w0 : World) (n : Nat) (m : Mat) (wr : World) : Prop :=
  Below w0.heap.size w0 wr ∧ MatAt wr w0.heap.size 166 .i64 n m ∧ Fit n 1073741824 m

theorem KeepR.step {w0 wr w' : World} {n : Nat} {m : Mat} (h : KeepR w0 n m wr) {i j : Nat} {b : Int} (ho : Only w0.heap.size wr w') (hm : MatAt w' w0.heap.size 166 .i64 n (keepM m i j b)) (hb : rightB b = true) :
    KeepR w0 n (keepM m i j b) w' :=
  ⟨h.1.trans (ho.below (Nat.le_refl _) h.1.size), hm, keepM_fit h.2.2 _ _ hb⟩
theorem KeepR.alloc {w0 wr : World} {n : Nat} {m : Mat} (h : KeepR w0 n m wr) (o : Obj) : KeepR w0 n m (wr.alloc o) := ⟨h.1.alloc h.1.size o, h.2.1.alloc o, h.2.2⟩

theorem of_makes {w0 wr w1 : World} {n : Nat} {m : Mat} {e : Ending} (h : KeepR w0 n m wr) (hz : ZoneEnds wr w0.heap.size n m e w1) : MakesZ w0 n (zoneP n m) e w1 :=
  ⟨h.1.trans (hz.1.below (Nat.le_refl _) h.1.size), hz.2⟩


theorem limOk_parts {n : Nat} {x : Int × Int × Int} (h : limOk n x = true) : (0 ≤ x.1 ∧ x.1 ≤ n ∧ 0 ≤ x.2.1 ∧ x.2.1 ≤ n) ∧ rightB x.2.2 = true := by
  simpa [limOk] using h

set_option maxRecDepth 100000 in
set_option maxHeartbeats 2000000 in
theorem limits_yes (n : Nat) (A : Option Addr) (c : Nat) (l : List (Int × Int × Int)) (w : World) (hn : n ≤ 8) (hI : Lims w A l) (hmax : l.length ≤ 4611686018427387904)
    (hk : ∀ q, q < l.length → -2147483648 ≤ (l.getD q (0, 0, 0)).2.2 ∧ (l.getD q (0, 0, 0)).2.2 ≤ 2147483647) :
    Calls Tryz.prog 33 #[.int .i64 n, .slice A l.length c] w (MakesZ w n (limP n l)) := by
  have HI := Lib.hid hI
  have HK := Lib.hid hk
  clear hI hk
  go_enter Tryz.func33, Tryz.ntmps33
  go_wp2_with fail
  refine (few_yes _ _ (by omega)).mono ?_
  rintro e w' ⟨rfl, rfl⟩
  go_wp2_with fail
  refine (open_any n _ hn).mono ?_
  rintro e w1 ⟨rfl, hb1, hm1⟩
  have HS := Lib.hid (show KeepR w n (limUp n l 0) w1 from ⟨hb1, hm1, openM_fit n⟩)
  clear hb1 hm1
  go_wp2
  go_loopg [16] l.length (fun g v wr => ∃ p : Nat, v = .int .i64 p ∧ KeepR w n (limUp n l p) wr ∧ Hid (p ≤ l.length ∧ g + p = l.length ∧ ∀ q, q < p → limOk n (l.getD q (0, 0, 0)) = true))
  case atStart => exact ⟨0, by simp, HS.out, by omega, by omega, fun q h => by omega⟩
  case round =>
    clear HS
    obtain ⟨p, rfl, H, HG⟩ := hrel
    have HR := Lib.hid H
    clear H
    by_cases hp : p < l.length
    · obtain ⟨b, off, rfl, c1, c2, c3⟩ := HI.out.below HR.out.1 p hp
      have hb := HK.out p hp
      obtain ⟨x, hx⟩ : ∃ x, x = l.getD p (0, 0, 0) := ⟨_, rfl⟩
      rw [← hx] at c1 c2 c3 hb
      have HX := Lib.hid hx
      clear hx
      obtain ⟨xi, xj, xb⟩ := x
      obtain ⟨hb0, hb1⟩ := hb
      simp only at c1 c2 c3 hb0 hb1
      by_cases hr : limOk n (xi, xj, xb) = true
      · obtain ⟨⟨i0, i1, j0, j1⟩, hrr⟩ := limOk_parts hr
        simp only at i0 i1 j0 j1 hrr
        have HRR := Lib.hid hrr
        have HOK := Lib.hid hr
        clear hr hrr
        go_wp2_with fail
        refine (right_yes _ _ HRR.out).mono ?_
        rintro e w' ⟨rfl, rfl⟩
        go_wp2_with fail
        refine (keep_any _ _ _ xi.toNat xj.toNat n _ _ _ (by omega) (by omega) (by exact HR.out.2.1.alloc _) (by omega) (by omega) hb0 hb1).mono ?_
        rintro e w2 ⟨rfl, ho, hm2⟩
        have HN := Lib.hid (show KeepR w n (limUp n l (p + 1)) w2 from by
          have hx : l.getD p (0, 0, 0) = (xi, xj, xb) := HX.out.symm
          have e : limUp n l (p + 1) = keepM (limUp n l p) xi.toNat xj.toNat xb := by
            show keepM (limUp n l p) (l.getD p (0, 0, 0)).1.toNat (l.getD p (0, 0, 0)).2.1.toNat (l.getD p (0, 0, 0)).2.2 = _
            rw [hx]
          rw [e]
          exact (HR.out.alloc _).step ho hm2 HRR.out)
        clear ho hm2
        go_wp2
        go_roundg (gk - 1)
        case measure => have := HG.out; omega
        case rel =>
          refine ⟨p + 1, by go_num, HN.out, by omega, by have := HG.out.2.1; omega, fun q hq => ?_⟩
          by_cases e : q = p
          · subst e; rw [← HX.out]; exact HOK.out
          · exact HG.out.2.2 q (by omega)
      · have hall : l.all (limOk n) = false := by
          rw [Bool.eq_false_iff]
          intro ha
          have := (all_getD l (limOk n) (0, 0, 0)).1 ha p hp
          rw [← HX.out] at this
          exact hr this
        have hz : limP n l = (none, 7) := by
          unfold limP; rw [if_pos (by omega)]; simp only [Int.toNat_natCast]; rw [hall]; rfl
        have HZ := Lib.hid hz
        have HR2 := Lib.hid hr
        clear hr hz hall
        have hend : ∀ w2, Below wr.heap.size wr w2 → MakesZ w n (limP n l) (.returned (.tuple #[.pointer none, .int .i64 7])) w2 := fun w2 h2 => by
          rw [HZ.out]; exact ⟨HR.out.1.trans (h2.mono HR.out.1.size), .pointer none, rfl, rfl⟩
        have HE := Lib.hid hend
        clear hend
        by_cases a1 : xi < 0
        · have d1 : decide (xi < 0) = true := decide_eq_true a1
          go_wp2
          go_ret2
          exact HE.out _ ((Below.refl _ _).alloc (Nat.le_refl _) _)
        · have d1 : decide (xi < 0) = false := decide_eq_false a1
          by_cases a2 : (n : Int) < xi
          · have d2 : decide ((n : Int) < xi) = true := decide_eq_true a2
            go_wp2
            go_ret2
            exact HE.out _ ((Below.refl _ _).alloc (Nat.le_refl _) _)
          · have d2 : decide ((n : Int) < xi) = false := decide_eq_false a2
            by_cases a3 : xj < 0
            · have d3 : decide (xj < 0) = true := decide_eq_true a3
              go_wp2
              go_ret2
              exact HE.out _ ((Below.refl _ _).alloc (Nat.le_refl _) _)
            · have d3 : decide (xj < 0) = false := decide_eq_false a3
              by_cases a4 : (n : Int) < xj
              · have d4 : decide ((n : Int) < xj) = true := decide_eq_true a4
                go_wp2
                go_ret2
                exact HE.out _ ((Below.refl _ _).alloc (Nat.le_refl _) _)
              · have d4 : decide ((n : Int) < xj) = false := decide_eq_false a4
                have hrf : rightB xb = false := by
                  rw [Bool.eq_false_iff]
                  intro h
                  exact HR2.out (by simp only [limOk, h, Bool.and_true, decide_eq_true_eq]; omega)
                have HRR := Lib.hid hrf
                clear hrf
                go_wp2_with fail
                refine (right_no _ _ HRR.out).mono ?_
                rintro e w' ⟨rfl, rfl⟩
                go_wp2
                go_ret2
                exact HE.out _ ((Below.refl _ _).alloc (Nat.le_refl _) _)
    · have e : p = l.length := by have := HG.out.1; omega
      go_wp2_with fail
      refine (zone_any _ n _ _ hn HR.out.2.1 HR.out.2.2).mono ?_
      rintro e w2 hz
      have HZ := Lib.hid hz
      obtain ⟨ho, v, rfl, hv⟩ := hz
      clear ho hv
      subst e
      go_wp2
      go_ret2
      have hall : l.all (limOk n) = true := (all_getD l (limOk n) (0, 0, 0)).2 HG.out.2.2
      have hz : limP n l = zoneP n (limUp n l l.length) := by
        unfold limP; rw [if_pos (by omega)]; simp only [Int.toNat_natCast]; rw [if_pos hall]
      rw [hz]
      exact of_makes HR.out HZ.out

set_option maxRecDepth 100000 in
set_option maxHeartbeats 1000000 in
theorem limits_clock (n : Int) (v : Value) (l : List (Int × Int × Int)) (w : World) (hn : ¬ (0 ≤ n ∧ n ≤ 8)) :
    Calls Tryz.prog 33 #[.int .i64 n, v] w (MakesZ w n.toNat (limP n l)) := by
  have hz : limP n l = (none, 12) := by unfold limP; rw [if_neg hn]
  rw [hz]
  clear hz
  have HN := Lib.hid hn
  clear hn
  go_enter Tryz.func33, Tryz.ntmps33
  go_wp2_with fail
  refine (few_no _ _ HN.out).mono ?_
  rintro e w' ⟨rfl, rfl⟩
  go_wp2
  go_ret2
  exact ⟨Below.refl _ _, .pointer none, rfl, rfl⟩

/-- Limits, whatever it is given. -/
theorem limits_any (n : Int) (A : Option Addr) (c : Nat) (l : List (Int × Int × Int)) (w : World) (hI : Lims w A l) (hmax : l.length ≤ 4611686018427387904)
    (hk : ∀ q, q < l.length → -2147483648 ≤ (l.getD q (0, 0, 0)).2.2 ∧ (l.getD q (0, 0, 0)).2.2 ≤ 2147483647) :
    Calls Tryz.prog 33 #[.int .i64 n, .slice A l.length c] w (MakesZ w n.toNat (limP n l)) := by
  by_cases hn : 0 ≤ n ∧ n ≤ 8
  · obtain ⟨k, rfl⟩ : ∃ k : Nat, n = k := ⟨n.toNat, by omega⟩
    exact limits_yes k A c l w (by omega) hI hmax hk
  · exact limits_clock n _ l w hn

/-- The limits of Zero. -/
def zeroUp (n : Nat) : Nat → Mat
  | 0 => openM n
  | p + 1 => keepM (zeroUp n p) p 0 1
theorem zeroUp_fit (n : Nat) : ∀ p, Fit n 1073741824 (zeroUp n p)
  | 0 => openM_fit n
  | p + 1 => keepM_fit (zeroUp_fit n p) _ _ (by decide)
/-- What Zero answers. -/
def zerP (n : Int) : Option Mat × Int := if 0 ≤ n ∧ n ≤ 8 then zoneP n.toNat (zeroUp n.toNat (n.toNat + 1)) else (none, 12)

end Go.Proofs.YtmelblnflalanaaGreat

/- Of: the zone of bounds, or the error. -/
namespace Go.Proofs.YtmelblnflalanaaGreat
open Go Go.RowKit
set_option linter.unusedVariables false
set_option linter.unusedSimpArgs false


theorem w64_div (p n : Nat) (hp : p ≤ 1000000) : wrap64 ((p : Int) / ((n : Int) + 1)) = ((p / (n + 1) : Nat) : Int) := by
  rw [idx_div]
  have : p / (n + 1) ≤ p := Nat.div_le_self _ _
  generalize p / (n + 1) = q at this ⊢
  exact IntWalk.wrap64_in _ ⟨by omega, by omega⟩
theorem w64_mod (p n : Nat) (hp : p ≤ 1000000) : wrap64 ((p : Int) % ((n : Int) + 1)) = ((p % (n + 1) : Nat) : Int) := by
  rw [idx_mod]
  have : p % (n + 1) ≤ p := Nat.mod_le _ _
  generalize p % (n + 1) = q at this ⊢
  exact IntWalk.wrap64_in _ ⟨by omega, by omega⟩

end Go.Proofs.YtmelblnflalanaaGreat

/- The cells of a zone, opened. -/
namespace Go.Proofs.YtmelblnflalanaaGreat
open Go Go.RowKit
set_option linter.unusedVariables false
set_option linter.unusedSimpArgs false
attribute [local go_sem] min_ints max_ints

/-- How many clocks a zone has; none: 0. -/
def dimN (z : Option (Nat × Mat)) : Nat := match z with | some (n, _) => n | none => 0
/-- The first p cells of a row, as a matrix. -/
def fillUp (n : Nat) (l : List Int) (p : Nat) : Mat := fun i j => if i < n + 1 ∧ j < n + 1 ∧ i * (n + 1) + j < p then l.getD (i * (n + 1) + j) 0 else 0
theorem fillUp_zero (n : Nat) (l : List Int) : fillUp n l 0 = fun _ _ => 0 := by
  funext i j
  unfold fillUp
  rw [if_neg (by omega)]
theorem fillUp_next (n : Nat) (l : List Int) (p : Nat) (hp : p < (n + 1) * (n + 1)) : fillUp n l (p + 1) = upd (fillUp n l p) (p / (n + 1)) (p % (n + 1)) (l.getD p 0) := by
  have h1 : p / (n + 1) < n + 1 := Nat.div_lt_of_lt_mul hp
  have h2 := Nat.mod_lt p (show 0 < n + 1 by omega)
  have h3 := Nat.div_add_mod p (n + 1)
  rw [Nat.mul_comm] at h3
  funext i j
  unfold fillUp upd
  by_cases e : i = p / (n + 1) ∧ j = p % (n + 1)
  · obtain ⟨e1, e2⟩ := e
    have e3 : i * (n + 1) + j = p := by rw [e1, e2]; exact h3
    rw [if_pos ⟨by omega, by omega, by omega⟩, if_pos ⟨e1, e2⟩, e3]
  · rw [if_neg e]
    show _ = (if i < n + 1 ∧ j < n + 1 ∧ i * (n + 1) + j < p then l.getD (i * (n + 1) + j) 0 else 0)
    by_cases c : i < n + 1 ∧ j < n + 1
    · have hne : i * (n + 1) + j ≠ p := fun e' => e (by
        rw [← e']
        refine ⟨?_, ?_⟩
        · rw [Nat.mul_comm, Nat.mul_add_div (by omega), Nat.div_eq_of_lt c.2]; rfl
        · rw [Nat.mul_comm, Nat.mul_add_mod, Nat.mod_eq_of_lt c.2])
      by_cases d : i * (n + 1) + j < p
      · rw [if_pos ⟨c.1, c.2, by omega⟩, if_pos ⟨c.1, c.2, d⟩]
      · rw [if_neg (by omega), if_neg (by omega)]
    · rw [if_neg (by omega), if_neg (by omega)]

theorem odim_any (v : Value) (z : Option (Nat × Mat)) (w : World) (h : ZoneV 173 w v z) : Calls Tryz.prog 77 #[v] w fun e w' => e = .returned (.int .i64 (dimN z)) ∧ w = w' := by
  match z, h with
  | none, h =>
    have h : v = .pointer none := h
    subst h
    exact dim_nil w
  | some (n, m), ⟨b, e, hn, _, hm⟩ =>
    subst e
    exact dim_zone b n m w hm

end Go.Proofs.YtmelblnflalanaaGreat

/- The zone of cells under way. -/
namespace Go.Proofs.YtmelblnflalanaaGreat
open Go Go.RowKit
set_option linter.unusedVariables false
set_option linter.unusedSimpArgs false
attribute [local go_sem] min_ints max_ints

/-- The rows that shut has gathered. -/
def ShutR (w0 : World) (n : Nat) (m : Mat) (i : Nat) (v : Value) (wr : World) : Prop :=
  Below w0.heap.size w0 wr ∧ wr.ownsRow w0.heap.size 70 1 v (i * (n + 1)) (vals .i32 (rowsL n m i)) ∧ i ≤ n + 1

theorem ShutR.own {w0 wr : World} {n : Nat} {m : Mat} {v : Value} (h : ShutR w0 n m (n + 1) v wr) : OwnI wr w0.heap.size 70 .i32 v (flat n m) := by
  unfold OwnI
  rw [flat_length]
  exact h.2.1

end Go.Proofs.YtmelblnflalanaaGreat

/- When time passes. -/
namespace Go.Proofs.YtmelblnflalanaaGreat
open Go Go.RowKit
set_option linter.unusedVariables false
set_option linter.unusedSimpArgs false
attribute [local go_sem] min_ints max_ints

/-- All cells are numbers of 32 bits. -/
def Rng (n : Nat) (m : Mat) : Prop := ∀ i j, i < n + 1 → j < n + 1 → -2147483648 ≤ m i j ∧ m i j ≤ 2147483647
theorem rng_upd {n : Nat} {m : Mat} (h : Rng n m) (a b : Nat) (x : Int) (h0 : -2147483648 ≤ x) (h1 : x ≤ 2147483647) : Rng n (upd m a b x) := fun i j hi hj => by
  unfold upd
  by_cases e : i = a ∧ j = b
  · rw [if_pos e]; exact ⟨h0, h1⟩
  · rw [if_neg e]; exact h i j hi hj
/-- The opened cells of a zone. -/
def openW (z : Option (Nat × Mat)) : Mat := fillUp (dimN z) (cellsP z) (cellsP z).length
theorem openW_in {n : Nat} {m : Mat} {i j : Nat} (hi : i < n + 1) (hj : j < n + 1) : openW (some (n, m)) i j = m i j := by
  show fillUp n (flat n m) (flat n m).length i j = m i j
  unfold fillUp
  have hlt : i * (n + 1) + j < (n + 1) * (n + 1) := by
    have := Nat.mul_le_mul_right (n + 1) (show i ≤ n by omega)
    have e : (n + 1) * (n + 1) = n * (n + 1) + (n + 1) := by rw [Nat.add_mul]; omega
    omega
  rw [if_pos ⟨hi, hj, by rw [flat_length]; exact hlt⟩, flat_at m hi hj]
theorem rng_open {n : Nat} {m : Mat} (h : RightM n m) : Rng n (openW (some (n, m))) := fun i j hi hj => by
  rw [openW_in hi hj]
  have := h i j (by omega) (by omega)
  unfold rightB at this
  have := of_decide_eq_true this
  omega

/-- No bound on how great the first p clocks are. -/
def upUp (m : Mat) : Nat → Mat
  | 0 => m
  | p + 1 => if p = 0 then upUp m p else upd (upUp m p) p 0 2147483647
theorem rng_up {n : Nat} {m : Mat} (h : Rng n m) : ∀ p, Rng n (upUp m p)
  | 0 => h
  | p + 1 => by
    unfold upUp
    split
    · exact rng_up h p
    · exact rng_upd (rng_up h p) _ _ _ (by decide) (by decide)
/-- The cells behind Up. -/
def upW (z : Option (Nat × Mat)) : Mat := if emptyP z then openW z else upUp (openW z) (dimN z + 1)

theorem oempty_any (b n : Nat) (m : Mat) (w : World) (hm : MatAt w b 173 .i32 n m) : Calls Tryz.prog 76 #[.pointer (some ⟨b, 0, none⟩)] w fun e w' => e = .returned (.bool (emptyP (some (n, m)))) ∧ w = w' := empty_zone b n m w hm

end Go.Proofs.YtmelblnflalanaaGreat

/- All from which time leads to a zone. -/
namespace Go.Proofs.YtmelblnflalanaaGreat
open Go Go.RowKit
set_option linter.unusedVariables false
set_option linter.unusedSimpArgs false
attribute [local go_sem] min_ints max_ints

theorem rng_less {n : Nat} {m : Mat} (h : Rng n m) (a b : Nat) (ha : a < n + 1) (hb : b < n + 1) (x : Int) (h0 : -2147483648 ≤ x) (h1 : x ≤ 2147483647) : Rng n (lessM m a b x) := by
  have := h a b ha hb
  unfold lessM
  exact rng_upd h a b _ (by omega) (by omega)
/-- Column i made as strict as the first j cells. -/
def downIn (m : Mat) (i : Nat) : Nat → Mat
  | 0 => m
  | j + 1 => if j = 0 then downIn m i j else lessM (downIn m i j) 0 i (downIn m i j j i)
def downUp (n : Nat) (m : Mat) : Nat → Mat
  | 0 => m
  | i + 1 => if i = 0 then downUp n m i else downIn (upd (downUp n m i) 0 i 1) i (n + 1)
theorem rng_downIn {n : Nat} {m : Mat} (h : Rng n m) (i : Nat) (hi : i < n + 1) : ∀ j, j ≤ n + 1 → Rng n (downIn m i j)
  | 0, _ => h
  | j + 1, hj => by
    have := rng_downIn h i hi j (by omega)
    unfold downIn
    split
    · exact this
    · exact rng_less this 0 i (by omega) hi _ (this j i (by omega) hi).1 (this j i (by omega) hi).2
theorem rng_down {n : Nat} {m : Mat} (h : Rng n m) : ∀ i, i ≤ n + 1 → Rng n (downUp n m i)
  | 0, _ => h
  | i + 1, hi => by
    have := rng_down h i (by omega)
    unfold downUp
    split
    · exact this
    · exact rng_downIn (rng_upd this _ _ _ (by decide) (by decide)) i (by omega) _ (Nat.le_refl _)
/-- The cells behind Down. -/
def downW (z : Option (Nat × Mat)) : Mat := if emptyP z then openW z else downUp (dimN z) (openW z) (dimN z + 1)

end Go.Proofs.YtmelblnflalanaaGreat

/- The closed form hangs on the cells of the clocks alone; the program's wide matrix and the document's have the same ones. -/
namespace Go.Proofs.YtmelblnflalanaaGreat
set_option linter.unusedVariables false

/-- The same cells of clocks 0 to n. -/
def Agree (n : Nat) (m o : Mat) : Prop := ∀ i j, i ≤ n → j ≤ n → m i j = o i j
theorem Agree.fwd {n : Nat} {m o : Mat} (h : Agree n m o) {k : Nat} (hk : k ≤ n) : Agree n (fw k n m) (fw k n o) := fun i j hi hj => by
  unfold fw; rw [if_pos ⟨hi, hj⟩, if_pos ⟨hi, hj⟩, h i j hi hj, h i k hi hk, h k j hk hj]
theorem closeP_agree {n : Nat} : ∀ s k m o, Agree n m o → k + s ≤ n + 1 → (closeP n s k m = none ∧ closeP n s k o = none) ∨ ∃ m' o', closeP n s k m = some m' ∧ closeP n s k o = some o' ∧ Agree n m' o'
  | 0, k, m, o, h, _ => .inr ⟨m, o, rfl, rfl, h⟩
  | s + 1, k, m, o, h, hk => by
    have hf := h.fwd (k := k) (by omega)
    simp only [closeP]
    by_cases hd : ∀ i, i ≤ n → 1 ≤ fw k n m i i
    · have hd' : ∀ i, i ≤ n → 1 ≤ fw k n o i i := fun i hi => by rw [← hf i i hi hi]; exact hd i hi
      rw [if_pos hd, if_pos hd']
      exact closeP_agree s (k + 1) _ _ hf (by omega)
    · have hd' : ¬ ∀ i, i ≤ n → 1 ≤ fw k n o i i := fun h' => hd fun i hi => by rw [hf i i hi hi]; exact h' i hi
      rw [if_neg hd, if_neg hd']
      exact .inl ⟨rfl, rfl⟩
theorem closed_agree {n : Nat} {m o : Mat} (h : Agree n m o) : (closed n m = none ∧ closed n o = none) ∨ ∃ m' o', closed n m = some m' ∧ closed n o = some o' ∧ Agree n m' o' :=
  closeP_agree (n + 1) 0 m o h (by omega)
theorem narM_agree {n : Nat} {m o : Mat} (h : Agree n m o) : narM n m = narM n o := by
  funext i j; unfold narM
  by_cases hij : i ≤ n ∧ j ≤ n
  · rw [if_pos hij, if_pos hij, h i j hij.1 hij.2]
  · rw [if_neg hij, if_neg hij]
theorem zoneP_agree {n : Nat} {m o : Mat} (h : Agree n m o) : zoneP n m = zoneP n o := by
  unfold zoneP
  rcases closed_agree h with ⟨h1, h2⟩ | ⟨m', o', h1, h2, h3⟩
  · rw [h1, h2]
  · rw [h1, h2]
    simp only
    by_cases ha : allR n m'
    · have hb : allR n o' := fun i hi j hj => by rw [← h3 i j hi hj]; exact ha i hi j hj
      rw [if_pos ha, if_pos hb, narM_agree h3]
    · have hb : ¬ allR n o' := fun hb => ha fun i hi j hj => by rw [h3 i j hi hj]; exact hb i hi j hj
      rw [if_neg ha, if_neg hb]

/-- The wide matrix of a row of bounds. -/
def widM (n : Nat) (cells : List Int) : Mat := fun i j => wid (cells.getD (i * (n + 1) + j) 0)
theorem widUp_flat {n : Nat} {cells : List Int} : widUp cells ((n + 1) * (n + 1)) = flat n (widM n cells) := by
  apply list_ext0 (by rw [widUp_length, flat_length])
  intro p hp
  rw [widUp_length] at hp
  rw [widUp_getD _ _ _ hp, flat_getD _ _ _ hp]
  show _ = wid (cells.getD (p / (n + 1) * (n + 1) + p % (n + 1)) 0)
  rw [Nat.mul_comm, Nat.div_add_mod]
theorem widM_bd {n : Nat} {cells : List Int} (h : ∀ q, q < (n + 1) * (n + 1) → rightB (cells.getD q 0) = true) : ∀ i j, i ≤ n → j ≤ n → Bd 1073741824 (widM n cells i j) := fun i j hi hj => by
  have hr := h (i * (n + 1) + j) (at_lt (by omega) (by omega))
  unfold widM wid
  by_cases e : cells.getD (i * (n + 1) + j) 0 = 2147483647
  · rw [if_pos e]; exact .inl rfl
  · rw [if_neg e]
    have := rightB_bd hr e
    exact .inr (by omega)

/-- What keeping the first p cells leaves of a cell. -/
theorem keepUp_cell (n : Nat) (cells : List Int) (i j : Nat) (hi : i ≤ n) (hj : j ≤ n) (hr : ∀ q, q < (n + 1) * (n + 1) → rightB (cells.getD q 0) = true) : ∀ p, p ≤ (n + 1) * (n + 1) →
    keepUp n cells p i j = if i * (n + 1) + j < p then (if i = j ∨ i = 0 then min 1 (wid (cells.getD (i * (n + 1) + j) 0)) else wid (cells.getD (i * (n + 1) + j) 0)) else openM n i j
  | 0, _ => by rw [if_neg (by omega)]; rfl
  | p + 1, hp => by
    have ih := keepUp_cell n cells i j hi hj hr p (by omega)
    have hrp := hr p (by omega)
    show keepM (keepUp n cells p) (p / (n + 1)) (p % (n + 1)) (cells.getD p 0) i j = _
    have hopen : openM n i j = if i = j ∨ i = 0 then 1 else none62 := by unfold openM; rw [if_pos ⟨hi, hj⟩]
    by_cases e : i * (n + 1) + j = p
    · have h1 := (at_row (i := i) (show j < n + 1 by omega)).1
      have h2 := (at_row (i := i) (show j < n + 1 by omega)).2
      rw [e] at h1 h2
      rw [if_neg (by omega)] at ih
      rw [if_pos (by omega), h1, h2, e]
      unfold keepM
      by_cases hinf : cells.getD p 0 = 2147483647
      · rw [if_pos hinf, ih, hopen]
        have hw : wid (cells.getD p 0) = none62 := by unfold wid; rw [if_pos hinf]
        rw [hw]
        by_cases hd : i = j ∨ i = 0
        · rw [if_pos hd, if_pos hd]; decide
        · rw [if_neg hd, if_neg hd]
      · rw [if_neg hinf]
        have hw : wid (cells.getD p 0) = cells.getD p 0 := by unfold wid; rw [if_neg hinf]
        have hb := rightB_bd hrp hinf
        rw [hw]
        unfold upd
        rw [if_pos ⟨rfl, rfl⟩, ih, hopen]
        by_cases hd : i = j ∨ i = 0
        · rw [if_pos hd, if_pos hd]
        · rw [if_neg hd, if_neg hd, Int.min_def]
          unfold none62
          rw [if_neg (by omega)]
    · have hne : ¬ (i = p / (n + 1) ∧ j = p % (n + 1)) := fun h => e (by rw [h.1, h.2, Nat.mul_comm]; exact Nat.div_add_mod _ _)
      have hk : keepM (keepUp n cells p) (p / (n + 1)) (p % (n + 1)) (cells.getD p 0) i j = keepUp n cells p i j := by
        unfold keepM
        split
        · rfl
        · unfold upd; rw [if_neg hne]
      rw [hk, ih]
      by_cases hlt : i * (n + 1) + j < p
      · rw [if_pos hlt, if_pos (show i * (n + 1) + j < p + 1 by omega)]
      · rw [if_neg hlt, if_neg (show ¬ i * (n + 1) + j < p + 1 by omega)]

/-- The program's wide matrix is the document's. -/
theorem keep_wide {n : Nat} {cells : List Int} (hr : ∀ q, q < (n + 1) * (n + 1) → rightB (cells.getD q 0) = true) : Agree n (clUp (widM n cells) (n + 1)) (keepUp n cells ((n + 1) * (n + 1))) := fun i j hi hj => by
  rw [keepUp_cell n cells i j hi hj hr _ (Nat.le_refl _), if_pos (at_lt (by omega) (by omega))]
  unfold clUp
  by_cases hd : i = j ∨ i = 0
  · rw [if_pos (by omega), if_pos hd, Int.min_comm]; rfl
  · rw [if_neg (by omega), if_neg hd]; rfl

end Go.Proofs.YtmelblnflalanaaGreat

/- The diagonal of a closed form, and the shape of every zone. -/
namespace Go.Proofs.YtmelblnflalanaaGreat
set_option linter.unusedVariables false
set_option linter.unusedSimpArgs false

theorem fw_diag {k n : Nat} {m : Mat} (h : ∀ i, i ≤ n → m i i ≤ 1) : ∀ i, i ≤ n → fw k n m i i ≤ 1 := fun i hi => by
  unfold fw
  rw [if_pos ⟨hi, hi⟩]
  have := h i hi
  omega
theorem closeP_diag {n : Nat} : ∀ s k m m', (∀ i, i ≤ n → m i i ≤ 1) → closeP n s k m = some m' → ∀ i, i ≤ n → m' i i ≤ 1
  | 0, k, m, m', h, e => by
    simp [closeP] at e
    subst e
    exact h
  | s + 1, k, m, m', h, e => by
    unfold closeP at e
    split at e
    · exact closeP_diag s (k + 1) _ m' (fw_diag h) e
    · cases e
theorem closeP_low {n : Nat} : ∀ s k m m', closeP n (s + 1) k m = some m' → ∀ i, i ≤ n → 1 ≤ m' i i
  | 0, k, m, m', e => by
    unfold closeP at e
    split at e
    · simp [closeP] at e
      subst e
      assumption
    · cases e
  | s + 1, k, m, m', e => by
    unfold closeP at e
    split at e
    · exact closeP_low s (k + 1) _ m' e
    · cases e
/-- On the diagonal of a closed form stands 0, reached. -/
theorem closed_diag {n : Nat} {m m' : Mat} (h : ∀ i, i ≤ n → m i i ≤ 1) (e : closed n m = some m') : ∀ i, i ≤ n → m' i i = 1 := fun i hi => by
  have h1 := closeP_diag _ _ _ _ h e i hi
  have h2 := closeP_low _ _ _ _ e i hi
  omega

/-- The shape of a zone: nothing outside; empty: all 0; else 1 on the diagonal. -/
structure Shape (n : Nat) (m : Mat) : Prop where
  inside : Inside n m
  cases : m = (fun _ _ => 0) ∨ ∀ i, i ≤ n → m i i = 1
theorem zoneP_shape {n : Nat} {m z : Mat} (h : ∀ i, i ≤ n → m i i ≤ 1) (e : (zoneP n m).1 = some z) : Shape n z := by
  unfold zoneP at e
  split at e
  · simp at e
    subst e
    exact ⟨fun _ _ _ => rfl, .inl rfl⟩
  · rename_i m' hm
    split at e
    · simp at e
      subst e
      refine ⟨narM_inside _ _, .inr fun i hi => ?_⟩
      unfold narM
      rw [if_pos ⟨hi, hi⟩, closed_diag h hm i hi]
      decide
    · cases e
theorem ofP_shape {n : Int} {cells : List Int} {z : Mat} (e : (ofP n cells).1 = some z) : 0 ≤ n ∧ n ≤ 8 ∧ Shape n.toNat z := by
  unfold ofP at e
  split at e
  · rename_i hn
    refine ⟨hn.1, hn.2, ?_⟩
    split at e
    · split at e
      · rename_i hr
        have hr' := (all_getD cells rightB 0).1 hr
        exact zoneP_shape (fun i hi => (keepUp_fit _ _ _ hr').diag i hi) e
      · cases e
    · cases e
  · cases e
theorem limP_shape {n : Int} {l : List (Int × Int × Int)} {z : Mat} (e : (limP n l).1 = some z) : 0 ≤ n ∧ n ≤ 8 ∧ Shape n.toNat z := by
  unfold limP at e
  split at e
  · rename_i hn
    refine ⟨hn.1, hn.2, ?_⟩
    split at e
    · rename_i hr
      have hr' := (all_getD l (limOk n.toNat) (0, 0, 0)).1 hr
      exact zoneP_shape (fun i hi => (limUp_fit _ _ _ hr').diag i hi) e
    · cases e
  · cases e
/-- Two that hold the same within are the same. -/
theorem inside_ext {n : Nat} {m o : Mat} (hm : Inside n m) (ho : Inside n o) (h : ∀ i j, i ≤ n → j ≤ n → m i j = o i j) : m = o := by
  funext a c
  by_cases hb : a ≤ n ∧ c ≤ n
  · exact h a c hb.1 hb.2
  · rw [hm a c (by omega), ho a c (by omega)]

end Go.Proofs.YtmelblnflalanaaGreat
