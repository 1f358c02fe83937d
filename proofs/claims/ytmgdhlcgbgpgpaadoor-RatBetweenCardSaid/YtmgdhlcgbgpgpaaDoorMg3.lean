/- Texts of ours, laid together: Vl, Vm, Vd, Vn, Vo, Vp. -/
import Derived.Sort.AtCall
import Derived.Deep.DeepCutAuto
import Derived.Test.YtmgdhlcgbgpgpaaDoorMg2
/- Opposites and numbers of 128 bits with a sign, and the fraction of two. -/
namespace Go.Proofs.YtmgdhlcgbgpgpaaDoor
open Go Go.RowKit
set_option linter.unusedVariables false
set_option linter.unusedSimpArgs false

theorem sum_wd (X Y : Int) : sumW X.natAbs Y.natAbs (decide (X < 0)) (decide (Y < 0)) = wdV (X + Y) := by
  rw [wd_sg]
  unfold sumW
  by_cases hx : X < 0 <;> by_cases hy : Y < 0
  · rw [decide_eq_true hx, decide_eq_true hy, if_pos rfl, decide_eq_true (by omega), show (X + Y).natAbs = X.natAbs + Y.natAbs by omega]
  · rw [decide_eq_true hx, decide_eq_false hy, if_neg (by decide)]
    by_cases h : X.natAbs < Y.natAbs
    · rw [if_pos h, decide_eq_false (by omega), show (X + Y).natAbs = Y.natAbs - X.natAbs by omega]
    · by_cases h' : X.natAbs = Y.natAbs
      · rw [if_neg h, if_pos h', decide_eq_false (by omega), show (X + Y).natAbs = 0 by omega]
      · rw [if_neg h, if_neg h', decide_eq_true (by omega), show (X + Y).natAbs = X.natAbs - Y.natAbs by omega]
  · rw [decide_eq_false hx, decide_eq_true hy, if_neg (by decide)]
    by_cases h : X.natAbs < Y.natAbs
    · rw [if_pos h, decide_eq_true (by omega), show (X + Y).natAbs = Y.natAbs - X.natAbs by omega]
    · by_cases h' : X.natAbs = Y.natAbs
      · rw [if_neg h, if_pos h', decide_eq_false (by omega), show (X + Y).natAbs = 0 by omega]
      · rw [if_neg h, if_neg h', decide_eq_false (by omega), show (X + Y).natAbs = X.natAbs - Y.natAbs by omega]
  · rw [decide_eq_false hx, decide_eq_false hy, if_pos rfl, decide_eq_false (by omega), show (X + Y).natAbs = X.natAbs + Y.natAbs by omega]
theorem sum_any (X Y : Int) (w : World) (hX : X.natAbs ≤ 85070591730234615865843651857942052864) (hY : Y.natAbs ≤ 85070591730234615865843651857942052864) :
    Calls Tryd.prog 58 #[wdV X, wdV Y] w fun e w' => e = .returned (wdV (X + Y)) ∧ Below w.heap.size w w' := by
  rw [← sum_wd]
  exact sum_sg _ _ _ _ w hX hY

set_option maxRecDepth 100000 in
set_option maxHeartbeats 2000000 in
theorem number_sg (n : Nat) (s : Bool) (hn : n < 340282366920938463463374607431768211456) (w : World) :
    Calls Tryd.prog 73 #[sgV n s] w fun e w' => e = .returned (.tuple #[.int .i64 (if fitsI (sgnI s n) = true then sgnI s n else 0), .bool (fitsI (sgnI s n))]) ∧ Below w.heap.size w w' := by
  have HB := Lib.hid (below_one w (.cells #[.int .u64 (hiN n), .int .u64 (loN n), .bool s] 54))
  unfold sgV
  by_cases h1 : 18446744073709551616 ≤ n
  · have e : fitsI (sgnI s n) = false := by cases s <;> exact decide_eq_false (by simp [sgnI]; omega)
    rw [e, if_neg (by decide)]
    have g1 : 0 < hiN n := by unfold hiN; omega
    have g2 : decide (0 < hiN n) = true := decide_eq_true g1
    generalize hiN n = a at *
    generalize loN n = b at *
    go_enter Tryd.func73, Tryd.ntmps73
    go_wp2
    go_ret2
    exact ⟨rfl, HB.out⟩
  · have g1 : hiN n = 0 := small_hi (by omega)
    have g2 : loN n = (n : Int) := small_lo (by omega)
    rw [g1, g2]
    rw [g1, g2] at HB
    clear g1 g2
    by_cases h2 : 9223372036854775808 < n
    · have e : fitsI (sgnI s n) = false := by cases s <;> exact decide_eq_false (by simp [sgnI]; omega)
      rw [e, if_neg (by decide)]
      have g3 : (9223372036854775808 : Int) < n := by omega
      have g4 : decide ((9223372036854775808 : Int) < n) = true := decide_eq_true g3
      go_enter Tryd.func73, Tryd.ntmps73
      go_wp2
      go_ret2
      exact ⟨rfl, HB.out⟩
    · have g3 : ¬ (9223372036854775808 : Int) < n := by omega
      have g4 : decide ((9223372036854775808 : Int) < n) = false := decide_eq_false g3
      have g5 : IntKind.i64.wrap (IntKind.u64.wrap (-(n : Int))) = -(n : Int) := by rw [IntKind.wrap_u64, IntKind.wrap_i64]; omega
      cases s with
      | true =>
        have e : fitsI (sgnI true n) = true := decide_eq_true (by simp [sgnI]; omega)
        rw [e, if_pos rfl]
        by_cases h3 : n = 9223372036854775808
        · subst h3
          go_enter Tryd.func73, Tryd.ntmps73
          go_wp2
          go_ret2
          exact ⟨by simp [sgnI]; rw [IntKind.wrap_u64]; unfold wrap64; omega, HB.out⟩
        · have g6 : ((n : Int) == 9223372036854775808) = false := by simp; omega
          go_enter Tryd.func73, Tryd.ntmps73
          go_wp2
          go_ret2
          exact ⟨by first | rfl | simp [sgnI], HB.out⟩
      | false =>
        by_cases h3 : n = 9223372036854775808
        · have e : fitsI (sgnI false n) = false := decide_eq_false (by simp [sgnI]; omega)
          rw [e, if_neg (by decide)]
          subst h3
          go_enter Tryd.func73, Tryd.ntmps73
          go_wp2
          go_ret2
          exact ⟨rfl, HB.out⟩
        · have e : fitsI (sgnI false n) = true := decide_eq_true (by simp [sgnI]; omega)
          rw [e, if_pos rfl]
          have g6 : ((n : Int) == 9223372036854775808) = false := by simp; omega
          have g7 : IntKind.i64.wrap (n : Int) = (n : Int) := IntWalk.i64_in _ (by omega)
          go_enter Tryd.func73, Tryd.ntmps73
          go_wp2
          go_ret2
          exact ⟨by first | rfl | simp [sgnI], HB.out⟩

/-- One number with a sign in a block, and one that is still 0. -/
structure W1r (w0 : World) (a : Nat) (sa : Bool) (wr : World) : Prop where
  below : Below w0.heap.size w0 wr
  ha : wr.heap[w0.heap.size]? = some (.cells #[.int .u64 (hiN a), .int .u64 (loN a), .bool sa] 54)
  h0 : wr.heap[w0.heap.size + 1]? = some (.cells #[.int .u64 0, .int .u64 0, .bool false] 54)
theorem W1r.step {w0 wr w' : World} {a : Nat} {sa : Bool} (h : W1r w0 a sa wr) (hb : Below wr.heap.size wr w') : W1r w0 a sa w' :=
  ⟨h.below.trans (hb.mono h.below.size), heap_keep h.ha hb, heap_keep h.h0 hb⟩
theorem W1r.drew {w0 wr : World} {a : Nat} {sa : Bool} (h : W1r w0 a sa wr) : W1r w0 a sa wr.drew := ⟨Below.drew h.below, h.ha, h.h0⟩
theorem W1r.one {w0 wr : World} {a : Nat} {sa : Bool} (h : W1r w0 a sa wr) :
    wr.cell? ⟨w0.heap.size, 0, none⟩ = some (.int .u64 (hiN a)) ∧ wr.cell? ⟨w0.heap.size, 1, none⟩ = some (.int .u64 (loN a)) ∧ wr.cell? ⟨w0.heap.size, 2, none⟩ = some (.bool sa) := by
  obtain ⟨a1, a2, a3, _⟩ := cell_three h.ha
  exact ⟨a1, a2, a3⟩
theorem W1r.zero {w0 wr : World} {a : Nat} {sa : Bool} (h : W1r w0 a sa wr) :
    wr.cell? ⟨w0.heap.size + 1, 0, none⟩ = some (.int .u64 0) ∧ wr.cell? ⟨w0.heap.size + 1, 1, none⟩ = some (.int .u64 0) ∧ wr.cell? ⟨w0.heap.size + 1, 2, none⟩ = some (.bool false) ∧
    wr.frozen? ⟨w0.heap.size + 1, 0, none⟩ = false ∧ wr.frozen? ⟨w0.heap.size + 1, 1, none⟩ = false ∧ wr.frozen? ⟨w0.heap.size + 1, 2, none⟩ = false := by
  obtain ⟨c1, c2, c3, _⟩ := cell_three h.h0
  obtain ⟨f1, f2, f3⟩ := three_frozen h.h0
  exact ⟨c1, c2, c3, f1, f2, f3⟩
theorem W1r.told {w0 wr : World} {a : Nat} {sa : Bool} (h : W1r w0 a sa wr) (x y z : Value) :
    (((wr.setCell ⟨w0.heap.size + 1, 0, none⟩ x).setCell ⟨w0.heap.size + 1, 1, none⟩ y).setCell ⟨w0.heap.size + 1, 2, none⟩ z).heap[w0.heap.size + 1]? = some (.cells #[x, y, z] 54) ∧
    Below w0.heap.size w0 (((wr.setCell ⟨w0.heap.size + 1, 0, none⟩ x).setCell ⟨w0.heap.size + 1, 1, none⟩ y).setCell ⟨w0.heap.size + 1, 2, none⟩ z) := by
  have hl : w0.heap.size ≤ w0.heap.size + 1 := by omega
  exact ⟨three_set h.h0 x y z, ((h.below.setCell (p := ⟨w0.heap.size + 1, 0, none⟩) hl _).setCell (p := ⟨w0.heap.size + 1, 1, none⟩) hl _).setCell (p := ⟨w0.heap.size + 1, 2, none⟩) hl _⟩
theorem W1r.oneT {w0 wr : World} {a : Nat} {sa : Bool} (h : W1r w0 a sa wr) (x y z : Value) :
    (((wr.setCell ⟨w0.heap.size + 1, 0, none⟩ x).setCell ⟨w0.heap.size + 1, 1, none⟩ y).setCell ⟨w0.heap.size + 1, 2, none⟩ z).cell? ⟨w0.heap.size, 0, none⟩ = some (.int .u64 (hiN a)) ∧ (((wr.setCell ⟨w0.heap.size + 1, 0, none⟩ x).setCell ⟨w0.heap.size + 1, 1, none⟩ y).setCell ⟨w0.heap.size + 1, 2, none⟩ z).cell? ⟨w0.heap.size, 1, none⟩ = some (.int .u64 (loN a)) ∧ (((wr.setCell ⟨w0.heap.size + 1, 0, none⟩ x).setCell ⟨w0.heap.size + 1, 1, none⟩ y).setCell ⟨w0.heap.size + 1, 2, none⟩ z).cell? ⟨w0.heap.size, 2, none⟩ = some (.bool sa) := by
  have e1 := heap_other (c := 2) (g := w0.heap.size + 1) z (heap_other (c := 1) (g := w0.heap.size + 1) y (heap_other (c := 0) (g := w0.heap.size + 1) x h.ha (by omega)) (by omega)) (by omega)
  obtain ⟨a1, a2, a3, _⟩ := cell_three e1
  exact ⟨a1, a2, a3⟩
theorem W1r.made (w : World) (a : Nat) (sa : Bool) : W1r w a sa ((w.alloc (.cells #[.int .u64 (hiN a), .int .u64 (loN a), .bool sa] 54)).alloc (.cells #[.int .u64 0, .int .u64 0, .bool false] 54)) := by
  obtain ⟨h1, h2⟩ := two_fr w (.cells #[.int .u64 (hiN a), .int .u64 (loN a), .bool sa] 54) (.cells #[.int .u64 0, .int .u64 0, .bool false] 54)
  exact ⟨below_two _ _ _, h1, h2⟩

set_option maxRecDepth 100000 in
set_option maxHeartbeats 4000000 in
theorem opposite_sg (a : Nat) (s : Bool) (w : World) : Calls Tryd.prog 59 #[sgV a s] w fun e w' => e = .returned (sgV a (!s && !decide (a = 0))) ∧ Below w.heap.size w w' := by
  have HS : Hid (∀ W, Calls Tryd.prog 60 #[.agg #[.int .u64 (hiN a), .int .u64 (loN a)]] W fun e w' => e = .returned (.bool (decide (a = 0))) ∧ Below W.heap.size W w') := Lib.hid (fun W => szero_any a W)
  have HW0 := Lib.hid (W1r.made w a s)
  obtain ⟨z, hz⟩ : ∃ z, decide (a = 0) = z := ⟨_, rfl⟩
  rw [hz] at HS
  rw [hz]
  clear hz
  unfold sgV
  go_enter Tryd.func59, Tryd.ntmps59
  go_upto_region 1 with fail
  generalize (w.alloc (.cells #[.int .u64 (hiN a), .int .u64 (loN a), .bool s] 54)).alloc (.cells #[.int .u64 0, .int .u64 0, .bool false] 54) = w1 at *
  have kb := HW0.out.drew
  cases s with
  | true =>
    obtain ⟨k1, k2, k3⟩ := HW0.out.one
    obtain ⟨k7, k8, k9, k10, k11, k12⟩ := HW0.out.zero
    obtain ⟨t1, t2⟩ := HW0.out.told (.int .u64 (hiN a)) (.int .u64 (loN a)) (.bool false)
    have T1 := Lib.hid t1
    have T2 := Lib.hid (Below.drew t2)
    clear t1 t2 kb
    go_region
    go_wp2
    refine bodyPost_ret (results_cell_row (fn := Tryd.f59) rfl _ _ (w.heap.size + 1) _ _ _ _ rfl T1.out Tryd.underlying54 rfl (by kernel_rfl)) rfl ?_
    exact ⟨rfl, T2.out⟩
  | false =>
    go_region_held3 (fun wr => wr.cell? ⟨w.heap.size, 0, none⟩ = some (.int .u64 (hiN a)) ∧ wr.cell? ⟨w.heap.size, 1, none⟩ = some (.int .u64 (loN a)) ∧ wr.cell? ⟨w.heap.size, 2, none⟩ = some (.bool false))
      (first | exact kb.one | exact kb.oneT _ _ _ | go_keep)
      (first | (go_at_call 60; refine (HS.out _).mono ?_; rintro e w3 ⟨rfl, hb⟩; have kb := kb.step hb; clear hb; have kc := kb.zero; obtain ⟨k7, k8, k9, k10, k11, k12⟩ := kc))
    obtain ⟨t1, t2⟩ := kb.told (.int .u64 (hiN a)) (.int .u64 (loN a)) (.bool (!z))
    have T1 := Lib.hid t1
    have T2 := Lib.hid t2
    clear t1 t2 k7 k8 k9 k10 k11 k12
    go_wp2
    refine bodyPost_ret (results_cell_row (fn := Tryd.f59) rfl _ _ (w.heap.size + 1) _ _ _ _ rfl T1.out Tryd.underlying54 rfl (by kernel_rfl)) rfl ?_
    exact ⟨by simp, T2.out⟩
theorem opposite_any (X : Int) (w : World) : Calls Tryd.prog 59 #[wdV X] w fun e w' => e = .returned (wdV (-X)) ∧ Below w.heap.size w w' := by
  have e : wdV (-X) = sgV X.natAbs (!decide (X < 0) && !decide (X.natAbs = 0)) := by
    rw [wd_sg, Int.natAbs_neg]
    congr 1
    rcases Int.lt_trichotomy X 0 with h | h | h
    · rw [decide_eq_true h, decide_eq_false (by omega)]; rfl
    · subst h; rfl
    · rw [decide_eq_false (show ¬ X < 0 by omega), decide_eq_true (show -X < 0 by omega), decide_eq_false (show ¬ X.natAbs = 0 by omega)]; rfl
  rw [e]
  exact opposite_sg _ _ w

end Go.Proofs.YtmgdhlcgbgpgpaaDoor

/- The fraction of two numbers with a sign, as rat makes it. -/
namespace Go.Proofs.YtmgdhlcgbgpgpaaDoor
open Go Go.RowKit
set_option linter.unusedVariables false
set_option linter.unusedSimpArgs false

def rtV (r : Int × Int) : Value := .agg #[.int .i64 r.1, .int .i64 r.2]
theorem cell_two2 {wr : World} {g : Nat} {a b : Value} {T : TypeId} (h : wr.heap[g]? = some (.cells #[a, b] T)) : wr.cell? ⟨g, 0, none⟩ = some a ∧ wr.cell? ⟨g, 1, none⟩ = some b ∧ wr.frozen? ⟨g, 0, none⟩ = false ∧ wr.frozen? ⟨g, 1, none⟩ = false := cell_two h
theorem rat_cells {wr : World} {g : Nat} {a b : Value} {T : TypeId} (h : wr.heap[g]? = some (.cells #[a, b] T)) (x y : Value) : ((wr.setCell ⟨g, 0, none⟩ x).setCell ⟨g, 1, none⟩ y).heap[g]? = some (.cells #[x, y] T) := by
  simp only [World.setCell, Array.getElem?_modify, if_true, h, Option.map_some]; rfl
/-- What made makes of a fraction's sizes. -/
def madeP (n d : Nat) (s : Bool) : (Int × Int) × Int := if fitsI (sgnI s n) = true ∧ fitsI (sgnI false d) = true then ((sgnI s n, sgnI false d), 0) else ((0, 0), 20)
theorem made_is (X D : Int) : madeP (X.natAbs / Nat.gcd X.natAbs D.natAbs) (D.natAbs / Nat.gcd X.natAbs D.natAbs) ((decide (X < 0) != decide (D < 0)) && !decide (X.natAbs / Nat.gcd X.natAbs D.natAbs = 0)) = fracP X D := by
  unfold madeP fracP
  generalize X.natAbs / Nat.gcd X.natAbs D.natAbs = n
  generalize D.natAbs / Nat.gcd X.natAbs D.natAbs = d
  generalize (decide (X < 0) != decide (D < 0)) = s
  have e : sgnI (s && !decide (n = 0)) n = sgnI s n := by
    by_cases h : n = 0
    · subst h; cases s <;> rfl
    · rw [decide_eq_false h]; simp
  have e2 : (fitsI (sgnI false d) = true) ↔ d ≤ 9223372036854775807 := by
    show decide (_ ∧ _) = true ↔ _
    rw [decide_eq_true_iff]
    show (-9223372036854775808 ≤ (d : Int) ∧ (d : Int) ≤ 9223372036854775807) ↔ _
    omega
  rw [e]
  by_cases h1 : fitsI (sgnI s n) = true
  · by_cases h2 : d ≤ 9223372036854775807
    · rw [if_pos ⟨h1, e2.2 h2⟩, if_pos ⟨h1, h2⟩]; rfl
    · rw [if_neg (fun h => h2 (e2.1 h.2)), if_neg (fun h => h2 h.2)]
  · rw [if_neg (fun h => h1 h.1), if_neg (fun h => h1 h.1)]

set_option maxRecDepth 100000 in
set_option maxHeartbeats 8000000 in
theorem made_sg (a b : Nat) (sa sb : Bool) (w : World) (ha : a ≤ 170141183460469231731687303715884105728) (hb0 : 0 < b) (hb : b ≤ 170141183460469231731687303715884105728) :
    Calls Tryd.prog 46 #[sgV a sa, sgV b sb] w fun e w' => e = .returned (.tuple #[rtV (madeP (a / Nat.gcd a b) (b / Nat.gcd a b) ((sa != sb) && !decide (a / Nat.gcd a b = 0))).1, .int .i64 (madeP (a / Nat.gcd a b) (b / Nat.gcd a b) ((sa != sb) && !decide (a / Nat.gcd a b = 0))).2]) ∧ Below w.heap.size w w' := by
  have hg : 0 < Nat.gcd a b := Nat.gcd_pos_of_pos_right _ hb0
  have hgb : Nat.gcd a b ≤ b := Nat.le_of_dvd hb0 (Nat.gcd_dvd_right _ _)
  have HC : Hid (∀ W, Calls Tryd.prog 71 #[.agg #[.int .u64 (hiN a), .int .u64 (loN a)], .agg #[.int .u64 (hiN b), .int .u64 (loN b)]] W fun e w' => e = .returned (.agg #[.int .u64 (hiN (Nat.gcd a b)), .int .u64 (loN (Nat.gcd a b))]) ∧ Below W.heap.size W w') := Lib.hid (fun W => common_any a b ha hb W)
  obtain ⟨G, hG⟩ : ∃ G, G = Nat.gcd a b := ⟨_, rfl⟩
  rw [← hG] at hg hgb HC ⊢
  clear hG
  have HO1 : Hid (∀ W, Calls Tryd.prog 72 #[.agg #[.int .u64 (hiN a), .int .u64 (loN a)], .agg #[.int .u64 (hiN G), .int .u64 (loN G)]] W fun e w' => e = .returned (.tuple #[.agg #[.int .u64 (hiN (a / G)), .int .u64 (loN (a / G))], .agg #[.int .u64 (hiN (a % G)), .int .u64 (loN (a % G))]]) ∧ Below W.heap.size W w') := Lib.hid (fun W => over_any a G (by omega) hg (by omega) W)
  have HO2 : Hid (∀ W, Calls Tryd.prog 72 #[.agg #[.int .u64 (hiN b), .int .u64 (loN b)], .agg #[.int .u64 (hiN G), .int .u64 (loN G)]] W fun e w' => e = .returned (.tuple #[.agg #[.int .u64 (hiN (b / G)), .int .u64 (loN (b / G))], .agg #[.int .u64 (hiN (b % G)), .int .u64 (loN (b % G))]]) ∧ Below W.heap.size W w') := Lib.hid (fun W => over_any b G (by omega) hg (by omega) W)
  have hn1 : a / G ≤ a := Nat.div_le_self _ _
  have hd1 : b / G ≤ b := Nat.div_le_self _ _
  obtain ⟨n, hn⟩ : ∃ n, n = a / G := ⟨_, rfl⟩
  obtain ⟨d, hd⟩ : ∃ d, d = b / G := ⟨_, rfl⟩
  obtain ⟨m1, hm1⟩ : ∃ m, m = a % G := ⟨_, rfl⟩
  obtain ⟨m2, hm2⟩ : ∃ m, m = b % G := ⟨_, rfl⟩
  rw [← hn] at HO1 hn1 ⊢
  rw [← hd] at HO2 hd1 ⊢
  rw [← hm1] at HO1
  rw [← hm2] at HO2
  clear hn hd hm1 hm2
  have HZ : Hid (∀ W, Calls Tryd.prog 60 #[.agg #[.int .u64 (hiN n), .int .u64 (loN n)]] W fun e w' => e = .returned (.bool (decide (n = 0))) ∧ Below W.heap.size W w') := Lib.hid (fun W => szero_any n W)
  obtain ⟨z, hz⟩ : ∃ z, decide (n = 0) = z := ⟨_, rfl⟩
  obtain ⟨sx, hsx⟩ : ∃ sx, (!(sa == sb)) = sx := ⟨_, rfl⟩
  rw [hz] at HZ
  rw [hz, show (sa != sb) = sx from hsx]
  clear hz
  obtain ⟨sg, hsg⟩ : ∃ sg, (sx && !z) = sg := ⟨_, rfl⟩
  rw [hsg]
  have HN1 : Hid (∀ W, Calls Tryd.prog 73 #[.agg #[.int .u64 (hiN n), .int .u64 (loN n), .bool sg]] W fun e w' => e = .returned (.tuple #[.int .i64 (if fitsI (sgnI sg n) = true then sgnI sg n else 0), .bool (fitsI (sgnI sg n))]) ∧ Below W.heap.size W w') := Lib.hid (fun W => number_sg n sg (by omega) W)
  have HN2 : Hid (∀ W, Calls Tryd.prog 73 #[.agg #[.int .u64 (hiN d), .int .u64 (loN d), .bool false]] W fun e w' => e = .returned (.tuple #[.int .i64 (if fitsI (sgnI false d) = true then sgnI false d else 0), .bool (fitsI (sgnI false d))]) ∧ Below W.heap.size W w') := Lib.hid (fun W => number_sg d false (by omega) W)
  have HMP := Lib.hid (show madeP n d sg = if fitsI (sgnI sg n) = true ∧ fitsI (sgnI false d) = true then ((sgnI sg n, sgnI false d), 0) else ((0, 0), 20) from rfl)
  obtain ⟨f1, hf1⟩ : ∃ f, f = fitsI (sgnI sg n) := ⟨_, rfl⟩
  obtain ⟨f2, hf2⟩ : ∃ f, f = fitsI (sgnI false d) := ⟨_, rfl⟩
  obtain ⟨x, hx⟩ : ∃ x, x = sgnI sg n := ⟨_, rfl⟩
  obtain ⟨y, hy⟩ : ∃ y, y = sgnI false d := ⟨_, rfl⟩
  rw [← hf1, ← hx] at HN1
  rw [← hf2, ← hy] at HN2
  rw [← hf1, ← hf2, ← hx, ← hy] at HMP
  obtain ⟨MP, hMP⟩ : ∃ MP, MP = madeP n d sg := ⟨_, rfl⟩
  rw [← hMP]
  have HM := Lib.hid (hMP.trans HMP.out)
  clear hMP
  obtain ⟨x1, hx1⟩ : ∃ t, t = if f1 = true then x else 0 := ⟨_, rfl⟩
  obtain ⟨y1, hy1⟩ : ∃ t, t = if f2 = true then y else 0 := ⟨_, rfl⟩
  rw [← hx1] at HN1
  rw [← hy1] at HN2
  have HX1 := Lib.hid hx1
  have HY1 := Lib.hid hy1
  clear hf1 hf2 hx hy HMP hg hgb hn1 hd1 ha hb0 hb hx1 hy1
  have hz3 : ∀ (w : World) (o : Obj), (w.alloc o).heap.size = w.heap.size + 1 := fun w o => by simp
  obtain ⟨q1, q2⟩ := two_fr w (.cells #[.int .u64 (hiN a), .int .u64 (loN a), .bool sa] 54) (.cells #[.int .u64 (hiN b), .int .u64 (loN b), .bool sb] 54)
  have q3 := heap_alloc_new ((w.alloc (.cells #[.int .u64 (hiN a), .int .u64 (loN a), .bool sa] 54)).alloc (.cells #[.int .u64 (hiN b), .int .u64 (loN b), .bool sb] 54)) (.cells #[.int .i64 0, .int .i64 0] 23)
  simp only [hz3] at q3
  have H2 := Lib.hid ((heap_alloc_old _ (.cells #[.int .i64 0, .int .i64 0] 23) (heap_lt2 q1)).trans q1)
  have H3 := Lib.hid ((heap_alloc_old _ (.cells #[.int .i64 0, .int .i64 0] 23) (heap_lt2 q2)).trans q2)
  have H4 := Lib.hid q3
  have HB := Lib.hid (below_three w (.cells #[.int .u64 (hiN a), .int .u64 (loN a), .bool sa] 54) (.cells #[.int .u64 (hiN b), .int .u64 (loN b), .bool sb] 54) (.cells #[.int .i64 0, .int .i64 0] 23))
  clear q1 q2 q3 hz3
  unfold sgV
  go_enter Tryd.func46, Tryd.ntmps46
  go_upto_region 1 with fail
  generalize ((w.alloc (.cells #[.int .u64 (hiN a), .int .u64 (loN a), .bool sa] 54)).alloc (.cells #[.int .u64 (hiN b), .int .u64 (loN b), .bool sb] 54)).alloc (.cells #[.int .i64 0, .int .i64 0] 23) = w1 at *
  obtain ⟨g4, hg4⟩ : ∃ g, g = w.heap.size + 1 + 1 := ⟨_, rfl⟩
  rw [← hg4] at H4 ⊢
  obtain ⟨g3, hg3⟩ : ∃ g, g = w.heap.size + 1 := ⟨_, rfl⟩
  rw [← hg3] at H3 ⊢
  have hle : w.heap.size ≤ g4 := by omega
  clear hg4 hg3
  obtain ⟨k20, k21, k22, _⟩ := cell_three H2.out
  obtain ⟨k30, k31, k32, _⟩ := cell_three H3.out
  go_wp2_with fail
  refine (HC.out _).mono ?_
  rintro e w2 ⟨rfl, hb⟩
  clear k20 k21 k22 k30 k31 k32
  have H2' := Lib.hid (heap_keep H2.out hb)
  have H3' := Lib.hid (heap_keep H3.out hb)
  have H4' := Lib.hid (heap_keep H4.out hb)
  have HB' := Lib.hid (HB.out.trans (hb.mono HB.out.size))
  clear HB H2 H3 H4
  have H2 := H2'
  have H3 := H3'
  have H4 := H4'
  have HB := HB'
  clear HB' H2' H3' H4'
  clear hb
  go_upto_region 2 with fail
  have hb := below_one w2 (.cells #[.int .u64 (hiN G), .int .u64 (loN G)] 52)
  have q := heap_alloc_new w2 (.cells #[.int .u64 (hiN G), .int .u64 (loN G)] 52)
  have H6 := Lib.hid q
  have H2' := Lib.hid (heap_keep H2.out hb)
  have H3' := Lib.hid (heap_keep H3.out hb)
  have H4' := Lib.hid (heap_keep H4.out hb)
  have HB' := Lib.hid (HB.out.trans (hb.mono HB.out.size))
  clear HB H2 H3 H4
  have H2 := H2'
  have H3 := H3'
  have H4 := H4'
  have HB := HB'
  clear HB' H2' H3' H4'
  generalize w2.alloc (.cells #[.int .u64 (hiN G), .int .u64 (loN G)] 52) = w3 at *
  obtain ⟨g6, hg6⟩ : ∃ g, g = w2.heap.size := ⟨_, rfl⟩
  rw [← hg6] at H6 ⊢
  clear hb q hg6
  obtain ⟨k20, k21, k22, _⟩ := cell_three H2.out
  obtain ⟨k60, k61, k62, k63⟩ := cell_two2 H6.out
  go_wp2_with fail
  refine (HO1.out _).mono ?_
  rintro e w4 ⟨rfl, hb⟩
  clear k20 k21 k22 k60 k61 k62 k63
  have H2' := Lib.hid (heap_keep H2.out hb)
  have H3' := Lib.hid (heap_keep H3.out hb)
  have H4' := Lib.hid (heap_keep H4.out hb)
  have H6' := Lib.hid (heap_keep H6.out hb)
  have HB' := Lib.hid (HB.out.trans (hb.mono HB.out.size))
  clear HB H2 H3 H4 H6
  have H2 := H2'
  have H3 := H3'
  have H4 := H4'
  have H6 := H6'
  have HB := HB'
  clear HB' H2' H3' H4' H6'
  clear hb
  have HF := Lib.hid (two_fr w4 (.cells #[.int .u64 0, .int .u64 0] 52) (.cells #[.int .u64 0, .int .u64 0] 52))
  go_upto_region 3 with (first | (refine wpList_store_row rfl 52 _ _ rfl w4.heap.size _ rfl rfl 52 _ HF.out.1 (by kernel_rfl) rfl (by kernel_rfl) ?_) | (refine wpList_store_row rfl 52 _ _ rfl (w4.heap.size + 1) _ rfl rfl 52 _ (second_fr _ HF.out.2) (by kernel_rfl) rfl (by kernel_rfl) ?_))
  obtain ⟨hb, q, _⟩ := pair_st w4 52 52 #[.int .u64 0, .int .u64 0] #[.int .u64 0, .int .u64 0] #[.int .u64 (hiN n), .int .u64 (loN n)] #[.int .u64 (hiN m1), .int .u64 (loN m1)]
  have H7 := Lib.hid q
  have H2' := Lib.hid (heap_keep H2.out hb)
  have H3' := Lib.hid (heap_keep H3.out hb)
  have H4' := Lib.hid (heap_keep H4.out hb)
  have H6' := Lib.hid (heap_keep H6.out hb)
  have HB' := Lib.hid (HB.out.trans (hb.mono HB.out.size))
  clear HB H2 H3 H4 H6
  have H2 := H2'
  have H3 := H3'
  have H4 := H4'
  have H6 := H6'
  have HB := HB'
  clear HB' H2' H3' H4' H6'
  generalize (((w4.alloc (.cells #[.int .u64 0, .int .u64 0] 52)).alloc (.cells #[.int .u64 0, .int .u64 0] 52)).setRow w4.heap.size #[.int .u64 (hiN n), .int .u64 (loN n)]).setRow (w4.heap.size + 1) #[.int .u64 (hiN m1), .int .u64 (loN m1)] = w5 at *
  obtain ⟨g7, hg7⟩ : ∃ g, g = w4.heap.size := ⟨_, rfl⟩
  rw [← hg7] at H7 ⊢
  clear hb q hg7 HF
  obtain ⟨k30, k31, k32, _⟩ := cell_three H3.out
  obtain ⟨k60, k61, k62, k63⟩ := cell_two2 H6.out
  go_wp2_with fail
  refine (HO2.out _).mono ?_
  rintro e w6 ⟨rfl, hb⟩
  clear k30 k31 k32 k60 k61 k62 k63
  have H2' := Lib.hid (heap_keep H2.out hb)
  have H3' := Lib.hid (heap_keep H3.out hb)
  have H4' := Lib.hid (heap_keep H4.out hb)
  have H6' := Lib.hid (heap_keep H6.out hb)
  have H7' := Lib.hid (heap_keep H7.out hb)
  have HB' := Lib.hid (HB.out.trans (hb.mono HB.out.size))
  clear HB H2 H3 H4 H6 H7
  have H2 := H2'
  have H3 := H3'
  have H4 := H4'
  have H6 := H6'
  have H7 := H7'
  have HB := HB'
  clear HB' H2' H3' H4' H6' H7'
  clear hb
  have HF := Lib.hid (two_fr w6 (.cells #[.int .u64 0, .int .u64 0] 52) (.cells #[.int .u64 0, .int .u64 0] 52))
  go_upto_region 4 with (first | (refine wpList_store_row rfl 52 _ _ rfl w6.heap.size _ rfl rfl 52 _ HF.out.1 (by kernel_rfl) rfl (by kernel_rfl) ?_) | (refine wpList_store_row rfl 52 _ _ rfl (w6.heap.size + 1) _ rfl rfl 52 _ (second_fr _ HF.out.2) (by kernel_rfl) rfl (by kernel_rfl) ?_))
  obtain ⟨hb, q, _⟩ := pair_st w6 52 52 #[.int .u64 0, .int .u64 0] #[.int .u64 0, .int .u64 0] #[.int .u64 (hiN d), .int .u64 (loN d)] #[.int .u64 (hiN m2), .int .u64 (loN m2)]
  have H9 := Lib.hid q
  have H2' := Lib.hid (heap_keep H2.out hb)
  have H3' := Lib.hid (heap_keep H3.out hb)
  have H4' := Lib.hid (heap_keep H4.out hb)
  have H6' := Lib.hid (heap_keep H6.out hb)
  have H7' := Lib.hid (heap_keep H7.out hb)
  have HB' := Lib.hid (HB.out.trans (hb.mono HB.out.size))
  clear HB H2 H3 H4 H6 H7
  have H2 := H2'
  have H3 := H3'
  have H4 := H4'
  have H6 := H6'
  have H7 := H7'
  have HB := HB'
  clear HB' H2' H3' H4' H6' H7'
  generalize (((w6.alloc (.cells #[.int .u64 0, .int .u64 0] 52)).alloc (.cells #[.int .u64 0, .int .u64 0] 52)).setRow w6.heap.size #[.int .u64 (hiN d), .int .u64 (loN d)]).setRow (w6.heap.size + 1) #[.int .u64 (hiN m2), .int .u64 (loN m2)] = w7 at *
  obtain ⟨g9, hg9⟩ : ∃ g, g = w6.heap.size := ⟨_, rfl⟩
  rw [← hg9] at H9 ⊢
  clear hb q hg9 HF
  cases sx with
  | false =>
    obtain rfl : false = sg := hsg
    obtain ⟨k20, k21, k22, _⟩ := cell_three H2.out
    obtain ⟨k30, k31, k32, _⟩ := cell_three H3.out
    obtain ⟨k70, k71, k72, k73⟩ := cell_two2 H7.out
    obtain ⟨k90, k91, k92, k93⟩ := cell_two2 H9.out
    go_wp2_with fail
    refine (HN1.out _).mono ?_
    rintro e w8 ⟨rfl, hb⟩
    clear k20 k21 k22 k30 k31 k32 k70 k71 k72 k73 k90 k91 k92 k93
    have H2' := Lib.hid (heap_keep H2.out hb)
    have H3' := Lib.hid (heap_keep H3.out hb)
    have H4' := Lib.hid (heap_keep H4.out hb)
    have H6' := Lib.hid (heap_keep H6.out hb)
    have H7' := Lib.hid (heap_keep H7.out hb)
    have H9' := Lib.hid (heap_keep H9.out hb)
    have HB' := Lib.hid (HB.out.trans (hb.mono HB.out.size))
    clear HB H2 H3 H4 H6 H7 H9
    have H2 := H2'
    have H3 := H3'
    have H4 := H4'
    have H6 := H6'
    have H7 := H7'
    have H9 := H9'
    have HB := HB'
    clear HB' H2' H3' H4' H6' H7' H9'
    clear hb
    obtain ⟨k90, k91, k92, k93⟩ := cell_two2 H9.out
    go_wp2_with fail
    refine (HN2.out _).mono ?_
    rintro e w9 ⟨rfl, hb⟩
    clear k90 k91 k92 k93
    have H2' := Lib.hid (heap_keep H2.out hb)
    have H3' := Lib.hid (heap_keep H3.out hb)
    have H4' := Lib.hid (heap_keep H4.out hb)
    have H6' := Lib.hid (heap_keep H6.out hb)
    have H7' := Lib.hid (heap_keep H7.out hb)
    have H9' := Lib.hid (heap_keep H9.out hb)
    have HB' := Lib.hid (HB.out.trans (hb.mono HB.out.size))
    clear HB H2 H3 H4 H6 H7 H9
    have H2 := H2'
    have H3 := H3'
    have H4 := H4'
    have H6 := H6'
    have H7 := H7'
    have H9 := H9'
    have HB := HB'
    clear HB' H2' H3' H4' H6' H7' H9'
    clear hb
    cases f1 with
    | false =>
      obtain ⟨k40, k41, k42, k43⟩ := cell_two2 H4.out
      have T1 := Lib.hid (rat_cells H4.out (.int .i64 0) (.int .i64 0))
      have T2 := Lib.hid ((HB.out.setCell (p := ⟨g4, 0, none⟩) hle (.int .i64 0)).setCell (p := ⟨g4, 1, none⟩) hle (.int .i64 0))
      go_wp2
      refine bodyPost_ret (results_row_tmp (fn := Tryd.f46) rfl _ _ g4 _ _ _ _ rfl T1.out Tryd.underlying23 rfl (by kernel_rfl)) rfl ?_
      exact ⟨by rw [HM.out, if_neg (by simp)]; rfl, T2.out⟩
    | true =>
      cases f2 with
      | false =>
        obtain ⟨k40, k41, k42, k43⟩ := cell_two2 H4.out
        have T1 := Lib.hid (rat_cells H4.out (.int .i64 0) (.int .i64 0))
        have T2 := Lib.hid ((HB.out.setCell (p := ⟨g4, 0, none⟩) hle (.int .i64 0)).setCell (p := ⟨g4, 1, none⟩) hle (.int .i64 0))
        go_wp2
        refine bodyPost_ret (results_row_tmp (fn := Tryd.f46) rfl _ _ g4 _ _ _ _ rfl T1.out Tryd.underlying23 rfl (by kernel_rfl)) rfl ?_
        exact ⟨by rw [HM.out, if_neg (by simp)]; rfl, T2.out⟩
      | true =>
        obtain rfl : x1 = x := HX1.out.trans (if_pos rfl)
        obtain rfl : y1 = y := HY1.out.trans (if_pos rfl)
        obtain ⟨k40, k41, k42, k43⟩ := cell_two2 H4.out
        have T1 := Lib.hid (rat_cells H4.out (.int .i64 x1) (.int .i64 y1))
        have T2 := Lib.hid ((HB.out.setCell (p := ⟨g4, 0, none⟩) hle (.int .i64 x1)).setCell (p := ⟨g4, 1, none⟩) hle (.int .i64 y1))
        go_wp2
        refine bodyPost_ret (results_row_tmp (fn := Tryd.f46) rfl _ _ g4 _ _ _ _ rfl T1.out Tryd.underlying23 rfl (by kernel_rfl)) rfl ?_
        exact ⟨by rw [HM.out, if_pos (by simp)]; rfl, T2.out⟩
  | true =>
    obtain rfl : (!z) = sg := hsg
    obtain ⟨k20, k21, k22, _⟩ := cell_three H2.out
    obtain ⟨k30, k31, k32, _⟩ := cell_three H3.out
    obtain ⟨k70, k71, k72, k73⟩ := cell_two2 H7.out
    obtain ⟨k90, k91, k92, k93⟩ := cell_two2 H9.out
    go_wp2_with fail
    refine (HZ.out _).mono ?_
    rintro e w8 ⟨rfl, hb⟩
    clear k20 k21 k22 k30 k31 k32 k70 k71 k72 k73 k90 k91 k92 k93
    have H2' := Lib.hid (heap_keep H2.out hb)
    have H3' := Lib.hid (heap_keep H3.out hb)
    have H4' := Lib.hid (heap_keep H4.out hb)
    have H6' := Lib.hid (heap_keep H6.out hb)
    have H7' := Lib.hid (heap_keep H7.out hb)
    have H9' := Lib.hid (heap_keep H9.out hb)
    have HB' := Lib.hid (HB.out.trans (hb.mono HB.out.size))
    clear HB H2 H3 H4 H6 H7 H9
    have H2 := H2'
    have H3 := H3'
    have H4 := H4'
    have H6 := H6'
    have H7 := H7'
    have H9 := H9'
    have HB := HB'
    clear HB' H2' H3' H4' H6' H7' H9'
    clear hb
    obtain ⟨k70, k71, k72, k73⟩ := cell_two2 H7.out
    go_wp2_with fail
    refine (HN1.out _).mono ?_
    rintro e w9 ⟨rfl, hb⟩
    clear k70 k71 k72 k73
    have H2' := Lib.hid (heap_keep H2.out hb)
    have H3' := Lib.hid (heap_keep H3.out hb)
    have H4' := Lib.hid (heap_keep H4.out hb)
    have H6' := Lib.hid (heap_keep H6.out hb)
    have H7' := Lib.hid (heap_keep H7.out hb)
    have H9' := Lib.hid (heap_keep H9.out hb)
    have HB' := Lib.hid (HB.out.trans (hb.mono HB.out.size))
    clear HB H2 H3 H4 H6 H7 H9
    have H2 := H2'
    have H3 := H3'
    have H4 := H4'
    have H6 := H6'
    have H7 := H7'
    have H9 := H9'
    have HB := HB'
    clear HB' H2' H3' H4' H6' H7' H9'
    clear hb
    obtain ⟨k90, k91, k92, k93⟩ := cell_two2 H9.out
    go_wp2_with fail
    refine (HN2.out _).mono ?_
    rintro e w10 ⟨rfl, hb⟩
    clear k90 k91 k92 k93
    have H2' := Lib.hid (heap_keep H2.out hb)
    have H3' := Lib.hid (heap_keep H3.out hb)
    have H4' := Lib.hid (heap_keep H4.out hb)
    have H6' := Lib.hid (heap_keep H6.out hb)
    have H7' := Lib.hid (heap_keep H7.out hb)
    have H9' := Lib.hid (heap_keep H9.out hb)
    have HB' := Lib.hid (HB.out.trans (hb.mono HB.out.size))
    clear HB H2 H3 H4 H6 H7 H9
    have H2 := H2'
    have H3 := H3'
    have H4 := H4'
    have H6 := H6'
    have H7 := H7'
    have H9 := H9'
    have HB := HB'
    clear HB' H2' H3' H4' H6' H7' H9'
    clear hb
    cases f1 with
    | false =>
      obtain ⟨k40, k41, k42, k43⟩ := cell_two2 H4.out
      have T1 := Lib.hid (rat_cells H4.out (.int .i64 0) (.int .i64 0))
      have T2 := Lib.hid ((HB.out.setCell (p := ⟨g4, 0, none⟩) hle (.int .i64 0)).setCell (p := ⟨g4, 1, none⟩) hle (.int .i64 0))
      go_wp2
      refine bodyPost_ret (results_row_tmp (fn := Tryd.f46) rfl _ _ g4 _ _ _ _ rfl T1.out Tryd.underlying23 rfl (by kernel_rfl)) rfl ?_
      exact ⟨by rw [HM.out, if_neg (by simp)]; rfl, T2.out⟩
    | true =>
      cases f2 with
      | false =>
        obtain ⟨k40, k41, k42, k43⟩ := cell_two2 H4.out
        have T1 := Lib.hid (rat_cells H4.out (.int .i64 0) (.int .i64 0))
        have T2 := Lib.hid ((HB.out.setCell (p := ⟨g4, 0, none⟩) hle (.int .i64 0)).setCell (p := ⟨g4, 1, none⟩) hle (.int .i64 0))
        go_wp2
        refine bodyPost_ret (results_row_tmp (fn := Tryd.f46) rfl _ _ g4 _ _ _ _ rfl T1.out Tryd.underlying23 rfl (by kernel_rfl)) rfl ?_
        exact ⟨by rw [HM.out, if_neg (by simp)]; rfl, T2.out⟩
      | true =>
        obtain rfl : x1 = x := HX1.out.trans (if_pos rfl)
        obtain rfl : y1 = y := HY1.out.trans (if_pos rfl)
        obtain ⟨k40, k41, k42, k43⟩ := cell_two2 H4.out
        have T1 := Lib.hid (rat_cells H4.out (.int .i64 x1) (.int .i64 y1))
        have T2 := Lib.hid ((HB.out.setCell (p := ⟨g4, 0, none⟩) hle (.int .i64 x1)).setCell (p := ⟨g4, 1, none⟩) hle (.int .i64 y1))
        go_wp2
        refine bodyPost_ret (results_row_tmp (fn := Tryd.f46) rfl _ _ g4 _ _ _ _ rfl T1.out Tryd.underlying23 rfl (by kernel_rfl)) rfl ?_
        exact ⟨by rw [HM.out, if_pos (by simp)]; rfl, T2.out⟩

theorem made_any (X D : Int) (w : World) (hX : X.natAbs ≤ 170141183460469231731687303715884105728) (hD0 : D ≠ 0) (hD : D.natAbs ≤ 170141183460469231731687303715884105728) :
    Calls Tryd.prog 46 #[wdV X, wdV D] w fun e w' => e = .returned (.tuple #[rtV (fracP X D).1, .int .i64 (fracP X D).2]) ∧ Below w.heap.size w w' := by
  rw [← made_is]
  exact made_sg _ _ _ _ w hX (by omega) hD

end Go.Proofs.YtmgdhlcgbgpgpaaDoor

/- What RatTurns, RatOrders and RatParts say: plain. -/
namespace Go.Proofs.YtmgdhlcgbgpgpaaDoor
set_option linter.unusedVariables false
set_option linter.unusedSimpArgs false

/-- A right fraction that can be held. -/
def Held (r : Int × Int) : Prop := rightR r = true ∧ fitsI r.1 = true ∧ r.2 ≤ 9223372036854775807
theorem Held.pos {r : Int × Int} (h : Held r) : 0 < r.2 := (of_decide_eq_true h.1).1
theorem frac_held {X D : Int} (hD : D ≠ 0) (h : (fracP X D).2 = 0) : Held (fracP X D).1 := frac_right hD h
theorem add_comm (a b : Int × Int) : addP a b = addP b a := by
  unfold addP
  rw [Bool.and_comm, Int.add_comm, Int.mul_comm a.2]
theorem mul_comm (a b : Int × Int) : mulP a b = mulP b a := by
  unfold mulP
  rw [Bool.and_comm, Int.mul_comm a.1, Int.mul_comm a.2]
theorem two_right {a b : Int × Int} {x y : (Int × Int) × Int} (h : (if (rightR a && rightR b) = true then x else ((0, 0), 7)).2 = 0) : rightR a = true ∧ rightR b = true := by
  by_cases c : (rightR a && rightR b) = true
  · exact Bool.and_eq_true_iff.1 c
  · rw [if_neg c] at h; exact absurd h (by decide)
theorem den_pos {a b : Int × Int} (ha : rightR a = true) (hb : rightR b = true) : a.2 * b.2 ≠ 0 := by
  have h1 := (of_decide_eq_true ha).1
  have h2 := (of_decide_eq_true hb).1
  have := Int.mul_pos h1 h2
  omega
/-- What is added and taken off is what was there. -/
theorem sub_back {a b : Int × Int} (ha : fitsI a.1 = true ∧ a.2 ≤ 9223372036854775807) (h : (addP a b).2 = 0) : subP (addP a b).1 b = (a, 0) := by
  obtain ⟨r1, r2⟩ := two_right (y := ((0, 0), 0)) (show (if (rightR a && rightR b) = true then fracP (a.1 * b.2 + b.1 * a.2) (a.2 * b.2) else ((0, 0), 7)).2 = 0 from h)
  have e : addP a b = fracP (a.1 * b.2 + b.1 * a.2) (a.2 * b.2) := by unfold addP; rw [if_pos (by rw [r1, r2]; rfl)]
  rw [e] at h ⊢
  have hd := den_pos r1 r2
  have hs := frac_held hd h
  have hv := frac_value hd h
  obtain ⟨s, hs'⟩ : ∃ s, s = (fracP (a.1 * b.2 + b.1 * a.2) (a.2 * b.2)).1 := ⟨_, rfl⟩
  rw [← hs'] at hs hv ⊢
  unfold subP
  rw [if_pos (by rw [hs.1, r2]; rfl)]
  have p1 := (of_decide_eq_true r2).1
  refine frac_of_right (by have := Int.mul_pos hs.pos p1; omega) r1 ha.1 ha.2 ?_
  calc (s.1 * b.2 - b.1 * s.2) * a.2 = s.1 * (a.2 * b.2) - b.1 * a.2 * s.2 := by rw [Int.sub_mul]; congr 1 <;> ac_rfl
    _ = (a.1 * b.2 + b.1 * a.2) * s.2 - b.1 * a.2 * s.2 := by rw [hv]
    _ = a.1 * (s.2 * b.2) := by rw [Int.add_mul, Int.add_sub_cancel]; ac_rfl
theorem div_back {a b : Int × Int} (ha : fitsI a.1 = true ∧ a.2 ≤ 9223372036854775807) (hb : b.1 ≠ 0) (h : (mulP a b).2 = 0) : divP (mulP a b).1 b = (a, 0) := by
  obtain ⟨r1, r2⟩ := two_right (y := ((0, 0), 0)) (show (if (rightR a && rightR b) = true then fracP (a.1 * b.1) (a.2 * b.2) else ((0, 0), 7)).2 = 0 from h)
  have e : mulP a b = fracP (a.1 * b.1) (a.2 * b.2) := by unfold mulP; rw [if_pos (by rw [r1, r2]; rfl)]
  rw [e] at h ⊢
  have hd := den_pos r1 r2
  have hs := frac_held hd h
  have hv := frac_value hd h
  obtain ⟨s, hs'⟩ : ∃ s, s = (fracP (a.1 * b.1) (a.2 * b.2)).1 := ⟨_, rfl⟩
  rw [← hs'] at hs hv ⊢
  unfold divP
  rw [if_pos (by rw [hs.1, r2]; rfl), if_neg hb]
  refine frac_of_right (fun e => by
    rcases Int.mul_eq_zero.1 e with e | e
    · have := hs.pos; omega
    · exact hb e) r1 ha.1 ha.2 ?_
  calc s.1 * b.2 * a.2 = s.1 * (a.2 * b.2) := by ac_rfl
    _ = a.1 * b.1 * s.2 := hv
    _ = a.1 * (s.2 * b.1) := by ac_rfl

/-! ### the order -/
theorem cmp_cases (x : Int) : (x < 0 ∧ cmpI x = -1) ∨ (x = 0 ∧ cmpI x = 0) ∨ (0 < x ∧ cmpI x = 1) := by
  unfold cmpI
  by_cases h : x < 0
  · exact .inl ⟨h, by rw [if_pos h]⟩
  · by_cases h0 : x = 0
    · exact .inr (.inl ⟨h0, by rw [if_neg h, if_pos h0]⟩)
    · exact .inr (.inr ⟨by omega, by rw [if_neg h, if_neg h0]⟩)
theorem cmp_neg (a b : Int × Int) : cmpP a b = -cmpP b a := by
  unfold cmpP
  rw [Bool.and_comm]
  by_cases h : (rightR b && rightR a) = true
  · rw [if_pos h, if_pos h]
    have e : b.1 * a.2 - a.1 * b.2 = -(a.1 * b.2 - b.1 * a.2) := by omega
    rw [e]
    rcases cmp_cases (a.1 * b.2 - b.1 * a.2) with ⟨h1, h2⟩ | ⟨h1, h2⟩ | ⟨h1, h2⟩ <;> rcases cmp_cases (-(a.1 * b.2 - b.1 * a.2)) with ⟨h3, h4⟩ | ⟨h3, h4⟩ | ⟨h3, h4⟩ <;> omega
  · rw [if_neg h, if_neg h]; rfl
theorem cmp_right {a b : Int × Int} (ha : Held a) (hb : Held b) : cmpP a b = cmpI (a.1 * b.2 - b.1 * a.2) := by unfold cmpP; rw [if_pos (by rw [ha.1, hb.1]; rfl)]
theorem cmp_zero {a b : Int × Int} (ha : Held a) (hb : Held b) : cmpP a b = 0 ↔ a = b := by
  rw [cmp_right ha hb]
  constructor
  · intro h
    rcases cmp_cases (a.1 * b.2 - b.1 * a.2) with ⟨h1, h2⟩ | ⟨h1, h2⟩ | ⟨h1, h2⟩
    · omega
    · exact right_unique ha.1 hb.1 ha.2.1 ha.2.2 hb.2.1 hb.2.2 (by omega)
    · omega
  · intro h; subst h; rw [Int.sub_self]; rfl
theorem lt_trans3 {a b c : Int × Int} (ha : Held a) (hb : Held b) (hc : Held c) (h1 : a.1 * b.2 < b.1 * a.2) (h2 : b.1 * c.2 < c.1 * b.2) : a.1 * c.2 < c.1 * a.2 := by
  have e1 : a.1 * b.2 * c.2 < b.1 * a.2 * c.2 := Int.mul_lt_mul_of_pos_right h1 hc.pos
  have e2 : b.1 * c.2 * a.2 < c.1 * b.2 * a.2 := Int.mul_lt_mul_of_pos_right h2 ha.pos
  have e3 : b.1 * a.2 * c.2 = b.1 * c.2 * a.2 := by ac_rfl
  have e4 : (a.1 * c.2) * b.2 < (c.1 * a.2) * b.2 := by
    have f1 : a.1 * b.2 * c.2 = (a.1 * c.2) * b.2 := by ac_rfl
    have f2 : c.1 * b.2 * a.2 = (c.1 * a.2) * b.2 := by ac_rfl
    rw [← f1, ← f2]
    omega
  exact Int.lt_of_mul_lt_mul_right e4 (Int.le_of_lt hb.pos)
/-- Of three the order is one. -/
theorem orders_law {a b c : Int × Int} (ha : Held a) (hb : Held b) (hc : Held c) :
    0 < cmpP a b ∨ 0 < cmpP b c ∨ cmpP a c = cmpP a b + cmpP b c ∨ (cmpP a c = -1 ∧ cmpP a b + cmpP b c = -2) := by
  have hx := cmp_zero ha hb
  have hy := cmp_zero hb hc
  rw [cmp_right ha hb, cmp_right hb hc, cmp_right ha hc] at *
  rcases cmp_cases (a.1 * b.2 - b.1 * a.2) with ⟨h1, h2⟩ | ⟨h1, h2⟩ | ⟨h1, h2⟩
  · rcases cmp_cases (b.1 * c.2 - c.1 * b.2) with ⟨h3, h4⟩ | ⟨h3, h4⟩ | ⟨h3, h4⟩
    · right; right; right
      have := lt_trans3 ha hb hc (by omega) (by omega)
      rcases cmp_cases (a.1 * c.2 - c.1 * a.2) with ⟨h5, h6⟩ | ⟨h5, h6⟩ | ⟨h5, h6⟩ <;> omega
    · obtain rfl := hy.1 h4
      right; right; left; rw [h4]; omega
    · right; left; omega
  · obtain rfl := hx.1 h2
    right; right; left; rw [h2]; omega
  · left; omega
theorem less_law {a b : Int × Int} (ha : Held a) (hb : Held b) (h : (subP a b).2 = 0) : ((subP a b).1.1 < 0 ↔ cmpP a b < 0) ∧ ((subP a b).1.1 = 0 ↔ cmpP a b = 0) := by
  have e : subP a b = fracP (a.1 * b.2 - b.1 * a.2) (a.2 * b.2) := by unfold subP; rw [if_pos (by rw [ha.1, hb.1]; rfl)]
  rw [e] at h ⊢
  have hd := Int.mul_pos ha.pos hb.pos
  have hv := frac_value (by omega) h
  have hs := (frac_held (by omega) h).pos
  rw [cmp_right ha hb]
  generalize fracP (a.1 * b.2 - b.1 * a.2) (a.2 * b.2) = f at *
  generalize a.2 * b.2 = D at *
  generalize a.1 * b.2 - b.1 * a.2 = X at *
  have k1 : f.1.1 < 0 ↔ X < 0 := by
    constructor
    · intro h1
      have h2 := Int.mul_neg_of_neg_of_pos h1 hd
      rw [hv] at h2
      by_cases h3 : X < 0
      · exact h3
      · have := Int.mul_nonneg (show 0 ≤ X by omega) (Int.le_of_lt hs); omega
    · intro h1
      have h2 := Int.mul_neg_of_neg_of_pos h1 hs
      rw [← hv] at h2
      by_cases h3 : f.1.1 < 0
      · exact h3
      · have := Int.mul_nonneg (show 0 ≤ f.1.1 by omega) (Int.le_of_lt hd); omega
  have k2 : f.1.1 = 0 ↔ X = 0 := by
    constructor
    · intro h1
      rw [h1, Int.zero_mul] at hv
      rcases Int.mul_eq_zero.1 hv.symm with h | h
      · exact h
      · omega
    · intro h1
      rw [h1, Int.zero_mul] at hv
      rcases Int.mul_eq_zero.1 hv with h | h
      · exact h
      · omega
  rcases cmp_cases X with ⟨h1, h2⟩ | ⟨h1, h2⟩ | ⟨h1, h2⟩ <;> rw [h2] <;> constructor <;> first | (rw [k1]; omega) | (rw [k2]; omega)

/-! ### whole numbers below and above -/
def floorP (r : Int × Int) : Int := if rightR r = true then r.1 / r.2 else 0
def ceilP (r : Int × Int) : Int := if rightR r = true then (if r.1 % r.2 = 0 then r.1 / r.2 else r.1 / r.2 + 1) else 0
def partP (r : Int × Int) : Int × Int := if rightR r = true then (r.1 % r.2, r.2) else (0, 0)
/-- Go's division and the floor. -/
theorem tdiv_floor (x d : Int) (hd : 0 < d) : (x.tmod d < 0 → x.tdiv d - 1 = x / d ∧ x.tmod d + d = x % d) ∧ (¬ x.tmod d < 0 → x.tdiv d = x / d ∧ x.tmod d = x % d) := by
  have h1 := Int.mul_tdiv_add_tmod x d
  have h2 := Int.mul_ediv_add_emod x d
  have h3 := Int.emod_nonneg x (show d ≠ 0 by omega)
  have h4 := Int.emod_lt_of_pos x hd
  have key : ∀ q m : Int, d * q + m = x → 0 ≤ m → m < d → q = x / d ∧ m = x % d := fun q m hq h0 h1 => by
    have e1 : x / d = q := by rw [← hq, Int.add_comm, Int.add_mul_ediv_left _ _ (by omega), Int.ediv_eq_zero_of_lt h0 h1, Int.zero_add]
    have e2 : x % d = m := by rw [← hq, Int.add_comm, Int.add_mul_emod_self_left, Int.emod_eq_of_lt h0 h1]
    exact ⟨e1.symm, e2.symm⟩
  have h5 : x.tmod d < d := Int.tmod_lt_of_pos x hd
  have h6 : -d < x.tmod d := by
    have := Int.tmod_lt_of_pos (-x) hd
    rw [Int.neg_tmod] at this
    omega
  constructor
  · intro hm
    exact key (x.tdiv d - 1) (x.tmod d + d) (by rw [Int.mul_sub, Int.mul_one]; omega) (by omega) (by omega)
  · intro hm
    exact key (x.tdiv d) (x.tmod d) h1 (by omega) h5
theorem floor_part {r : Int × Int} (h : Held r) : addP (floorP r, 1) (partP r) = (r, 0) ∧ 0 ≤ (partP r).1 ∧ (partP r).1 < (partP r).2 ∧ ceilP r = if (partP r).1 = 0 then floorP r else floorP r + 1 := by
  have hp := h.pos
  have hf : floorP r = r.1 / r.2 := by unfold floorP; rw [if_pos h.1]
  have hc : partP r = (r.1 % r.2, r.2) := by unfold partP; rw [if_pos h.1]
  have h3 := Int.emod_nonneg r.1 (show r.2 ≠ 0 by omega)
  have h4 := Int.emod_lt_of_pos r.1 hp
  have g1 : Nat.gcd (r.1 % r.2).natAbs r.2.natAbs = 1 := by
    have h1 := (of_decide_eq_true h.1).2
    have h2 : Int.gcd (r.1 % r.2) r.2 = Int.gcd r.1 r.2 := by
      have e : r.1 = r.1 % r.2 + r.2 * (r.1 / r.2) := by have := Int.mul_ediv_add_emod r.1 r.2; omega
      have h := Int.gcd_add_mul_left_left r.2 (r.1 % r.2) (r.1 / r.2)
      rw [← e] at h
      exact h.symm
    exact h2.trans h1
  have r1 : rightR (r.1 / r.2, 1) = true := decide_eq_true ⟨by show (0 : Int) < 1; omega, by simp⟩
  have r2 : rightR (r.1 % r.2, r.2) = true := decide_eq_true ⟨hp, g1⟩
  rw [hf, hc]
  refine ⟨?_, h3, h4, ?_⟩
  · unfold addP
    rw [if_pos (by rw [r1, r2]; rfl)]
    have e : r.1 / r.2 * r.2 + r.1 % r.2 * 1 = r.1 := by rw [Int.mul_one, Int.mul_comm]; exact Int.mul_ediv_add_emod r.1 r.2
    show fracP (r.1 / r.2 * r.2 + r.1 % r.2 * 1) (1 * r.2) = (r, 0)
    rw [e, Int.one_mul]
    exact right_frac h.1 h.2.1 h.2.2
  · unfold ceilP
    rw [if_pos h.1]

end Go.Proofs.YtmgdhlcgbgpgpaaDoor

/- New, Right and both of rat. -/
namespace Go.Proofs.YtmgdhlcgbgpgpaaDoor
open Go Go.RowKit
set_option linter.unusedVariables false
set_option linter.unusedSimpArgs false

theorem abs_small {n : Int} (h : I64 n) : n.natAbs ≤ 170141183460469231731687303715884105728 := Nat.le_trans (abs64 h) (by omega)
set_option maxRecDepth 100000 in
set_option maxHeartbeats 2000000 in
theorem new_any (n d : Int) (hn : I64 n) (hd : I64 d) (w : World) : Calls Tryd.prog 12 #[.int .i64 n, .int .i64 d] w fun e w' => e = .returned (.tuple #[rtV (newP n d).1, .int .i64 (newP n d).2]) ∧ Below w.heap.size w w' := by
  have h1 := heap_alloc_new w (.cells #[.int .i64 0, .int .i64 0] 23)
  have H1 := Lib.hid h1
  have HB := Lib.hid (below_one w (.cells #[.int .i64 0, .int .i64 0] 23))
  have hle : w.heap.size ≤ w.heap.size := Nat.le_refl _
  clear h1
  by_cases h0 : d = 0
  · have e : newP n d = ((0, 0), 21) := by unfold newP; rw [if_pos h0]
    rw [e]
    subst h0
    clear e
    go_enter Tryd.func12, Tryd.ntmps12
    go_upto_region 1 with fail
    generalize w.alloc (.cells #[.int .i64 0, .int .i64 0] 23) = w1 at *
    obtain ⟨k1, k2, k3, k4⟩ := cell_two H1.out
    have T1 := Lib.hid (rat_cells H1.out (.int .i64 0) (.int .i64 0))
    have T2 := Lib.hid ((HB.out.setCell (p := ⟨w.heap.size, 0, none⟩) hle (.int .i64 0)).setCell (p := ⟨w.heap.size, 1, none⟩) hle (.int .i64 0))
    go_wp2
    refine bodyPost_ret (results_row_tmp (fn := Tryd.f12) rfl _ _ w.heap.size _ _ _ _ rfl T1.out Tryd.underlying23 rfl (by kernel_rfl)) rfl ?_
    exact ⟨rfl, T2.out⟩
  · have e : newP n d = fracP n d := by unfold newP; rw [if_neg h0]
    have e0 : (d == 0) = false := by simp [h0]
    have HO1 := Lib.hid (fun W => of_any2 n hn W)
    have HO2 := Lib.hid (fun W => of_any2 d hd W)
    rw [← of_is hn] at HO1
    rw [← of_is hd] at HO2
    have HM := Lib.hid (fun W => made_any n d W (abs_small hn) h0 (abs_small hd))
    rw [e]
    obtain ⟨M, hM⟩ : ∃ M, M = fracP n d := ⟨_, rfl⟩
    rw [← hM] at HM ⊢
    have HM : Hid (∀ W, Calls Tryd.prog 46 #[wdV n, wdV d] W fun e w' => e = .returned (.tuple #[.agg #[.int .i64 M.1.1, .int .i64 M.1.2], .int .i64 M.2]) ∧ Below W.heap.size W w') := HM
    clear e hM hn hd h0
    go_enter Tryd.func12, Tryd.ntmps12
    go_upto_region 1 with fail
    generalize w.alloc (.cells #[.int .i64 0, .int .i64 0] 23) = w1 at *
    go_wp2_with fail
    refine (HO1.out _).mono ?_
    rintro e w2 ⟨rfl, hb⟩
    have H2 := Lib.hid (heap_keep H1.out hb)
    have HB2 := Lib.hid (HB.out.trans (hb.mono HB.out.size))
    clear hb H1 HB
    go_wp2_with fail
    refine (HO2.out _).mono ?_
    rintro e w3 ⟨rfl, hb⟩
    have H3 := Lib.hid (heap_keep H2.out hb)
    have HB3 := Lib.hid (HB2.out.trans (hb.mono HB2.out.size))
    clear hb H2 HB2
    go_wp2_with fail
    refine (HM.out _).mono ?_
    rintro e w4 ⟨rfl, hb⟩
    have H4 := Lib.hid (heap_keep H3.out hb)
    have HB4 := Lib.hid (HB3.out.trans (hb.mono HB3.out.size))
    clear hb H3 HB3
    obtain ⟨k1, k2, k3, k4⟩ := cell_two H4.out
    have T1 := Lib.hid (rat_cells H4.out (.int .i64 M.1.1) (.int .i64 M.1.2))
    have T2 := Lib.hid ((HB4.out.setCell (p := ⟨w.heap.size, 0, none⟩) hle (.int .i64 M.1.1)).setCell (p := ⟨w.heap.size, 1, none⟩) hle (.int .i64 M.1.2))
    go_wp2
    refine bodyPost_ret (results_row_tmp (fn := Tryd.f12) rfl _ _ w.heap.size _ _ _ _ rfl T1.out Tryd.underlying23 rfl (by kernel_rfl)) rfl ?_
    exact ⟨rfl, T2.out⟩

/-- What Right tells of two words. -/
theorem right_is {x y : Int} (hx : I64 x) (hy : I64 y) : rightR (x, y) = if y < 1 then false else (decide ((newP x y).2 = 0) && (decide ((newP x y).1.1 = x) && decide ((newP x y).1.2 = y))) := by
  by_cases h : y < 1
  · rw [if_pos h]; exact decide_eq_false (fun h' => by have : (0 : Int) < y := h'.1; omega)
  · rw [if_neg h]
    have h0 : y ≠ 0 := by omega
    have e : newP x y = fracP x y := by unfold newP; rw [if_neg h0]
    rw [e, Bool.eq_iff_iff, Bool.and_eq_true, Bool.and_eq_true, decide_eq_true_iff, decide_eq_true_iff, decide_eq_true_iff]
    constructor
    · intro hr
      have h1 := right_frac (r := (x, y)) hr (decide_eq_true hx) hy.2
      rw [h1]
      exact ⟨rfl, rfl, rfl⟩
    · rintro ⟨h1, h2, h3⟩
      have h4 := (frac_right h0 h1).1
      have h5 : (fracP x y).1 = (x, y) := Prod.ext h2 h3
      rw [h5] at h4
      exact h4
set_option maxRecDepth 100000 in
set_option maxHeartbeats 2000000 in
theorem right_any (x y : Int) (hx : I64 x) (hy : I64 y) (w : World) : Calls Tryd.prog 17 #[.agg #[.int .i64 x, .int .i64 y]] w fun e w' => e = .returned (.bool (rightR (x, y))) ∧ Below w.heap.size w w' := by
  rw [right_is hx hy]
  have HN := Lib.hid (fun W => new_any x y hx hy W)
  have h1 := heap_alloc_new w (.cells #[.int .i64 x, .int .i64 y] 23)
  have H1 := Lib.hid h1
  have HB := Lib.hid (below_one w (.cells #[.int .i64 x, .int .i64 y] 23))
  clear h1
  by_cases h : y < 1
  · rw [if_pos h]
    have hd : decide (y < 1) = true := decide_eq_true h
    go_enter Tryd.func17, Tryd.ntmps17
    go_wp2
    go_ret
    exact ⟨rfl, HB.out⟩
  · rw [if_neg h]
    have hd : decide (y < 1) = false := decide_eq_false h
    obtain ⟨M, hM⟩ : ∃ M, M = newP x y := ⟨_, rfl⟩
    rw [← hM] at HN ⊢
    have HN : Hid (∀ W, Calls Tryd.prog 12 #[.int .i64 x, .int .i64 y] W fun e w' => e = .returned (.tuple #[.agg #[.int .i64 M.1.1, .int .i64 M.1.2], .int .i64 M.2]) ∧ Below W.heap.size W w') := HN
    clear hM
    obtain ⟨⟨m1, m2⟩, m3⟩ := M
    obtain ⟨R, hR⟩ : ∃ R, R = (decide (m3 = 0) && (decide (m1 = x) && decide (m2 = y))) := ⟨_, rfl⟩
    have HR := Lib.hid hR
    rw [← hR]
    clear hR
    go_enter Tryd.func17, Tryd.ntmps17
    go_upto_region 1 with fail
    generalize w.alloc (.cells #[.int .i64 x, .int .i64 y] 23) = w1 at *
    obtain ⟨k1, k2, _, _⟩ := cell_two H1.out
    go_wp2_with fail
    refine (HN.out _).mono ?_
    rintro e w2 ⟨rfl, hb⟩
    have H2 := Lib.hid (heap_keep H1.out hb)
    have HB2 := Lib.hid (HB.out.trans (hb.mono HB.out.size))
    clear hb H1 HB k1 k2
    go_upto_region 4 with fail
    have HB3 := Lib.hid (HB2.out.alloc HB2.out.size (.cells #[.int .i64 m1, .int .i64 m2] 23))
    have H3 := Lib.hid (heap_keep H2.out (below_one w2 (.cells #[.int .i64 m1, .int .i64 m2] 23)))
    have H4 := Lib.hid (heap_alloc_new w2 (.cells #[.int .i64 m1, .int .i64 m2] 23))
    generalize w2.alloc (.cells #[.int .i64 m1, .int .i64 m2] 23) = w3 at *
    obtain ⟨k1, k2, _, _⟩ := cell_two H3.out
    obtain ⟨k3, k4, _, _⟩ := cell_two H4.out
    clear H2 HB2 H3 H4
    by_cases e3 : m3 = 0
    · have f3 : (m3 == 0) = true := by simp [e3]
      by_cases e1 : m1 = x
      · have f1 : (m1 == x) = true := by simp [e1]
        by_cases e2 : m2 = y
        · have f2 : (m2 == y) = true := by simp [e2]
          have HR2 := Lib.hid (show R = true by rw [HR.out, e1, e2, e3]; simp)
          clear HR
          go_wp2
          go_ret
          exact ⟨by rw [HR2.out]; first | rfl | simp [e1, e2], HB3.out⟩
        · have f2 : (m2 == y) = false := by simp [e2]
          have HR2 := Lib.hid (show R = false by rw [HR.out]; simp [e2])
          clear HR
          go_wp2
          go_ret
          exact ⟨by rw [HR2.out]; first | rfl | simp [e1, e2], HB3.out⟩
      · have f1 : (m1 == x) = false := by simp [e1]
        have HR2 := Lib.hid (show R = false by rw [HR.out]; simp [e1])
        clear HR
        go_wp2
        go_ret
        exact ⟨by rw [HR2.out]; first | rfl | simp [e1], HB3.out⟩
    · have f3 : (m3 == 0) = false := by simp [e3]
      have HR2 := Lib.hid (show R = false by rw [HR.out]; simp [e3])
      clear HR
      go_wp2
      go_ret
      exact ⟨by rw [HR2.out]; rfl, HB3.out⟩

set_option maxRecDepth 100000 in
set_option maxHeartbeats 2000000 in
theorem both_any (x1 x2 y1 y2 : Int) (hx1 : I64 x1) (hx2 : I64 x2) (hy1 : I64 y1) (hy2 : I64 y2) (w : World) :
    Calls Tryd.prog 51 #[.agg #[.int .i64 x1, .int .i64 x2], .agg #[.int .i64 y1, .int .i64 y2]] w fun e w' => e = .returned (.bool (rightR (x1, x2) && rightR (y1, y2))) ∧ Below w.heap.size w w' := by
  have HA := Lib.hid (fun W => right_any x1 x2 hx1 hx2 W)
  have HC := Lib.hid (fun W => right_any y1 y2 hy1 hy2 W)
  obtain ⟨ra, hra⟩ : ∃ ra, ra = rightR (x1, x2) := ⟨_, rfl⟩
  obtain ⟨rb, hrb⟩ : ∃ rb, rb = rightR (y1, y2) := ⟨_, rfl⟩
  rw [← hra] at HA ⊢
  rw [← hrb] at HC ⊢
  clear hra hrb hx1 hx2 hy1 hy2
  obtain ⟨q1, q2⟩ := two_fr w (.cells #[.int .i64 x1, .int .i64 x2] 23) (.cells #[.int .i64 y1, .int .i64 y2] 23)
  have H1 := Lib.hid q1
  have H2 := Lib.hid q2
  have HB := Lib.hid (below_two w (.cells #[.int .i64 x1, .int .i64 x2] 23) (.cells #[.int .i64 y1, .int .i64 y2] 23))
  clear q1 q2
  go_enter Tryd.func51, Tryd.ntmps51
  go_upto_region 1 with fail
  generalize (w.alloc (.cells #[.int .i64 x1, .int .i64 x2] 23)).alloc (.cells #[.int .i64 y1, .int .i64 y2] 23) = w1 at *
  obtain ⟨k1, k2, _, _⟩ := cell_two H1.out
  go_wp2_with fail
  refine (HA.out _).mono ?_
  rintro e w2 ⟨rfl, hb⟩
  have H3 := Lib.hid (heap_keep H2.out hb)
  have HB2 := Lib.hid (HB.out.trans (hb.mono HB.out.size))
  clear hb H1 H2 HB k1 k2
  obtain ⟨k1, k2, _, _⟩ := cell_two H3.out
  cases ra with
  | false =>
    go_wp2
    go_ret
    exact ⟨rfl, HB2.out⟩
  | true =>
    go_wp2_with fail
    refine (HC.out _).mono ?_
    rintro e w3 ⟨rfl, hb⟩
    have HB3 := Lib.hid (HB2.out.trans (hb.mono HB2.out.size))
    clear hb k1 k2
    go_wp2
    go_ret
    exact ⟨by simp, HB3.out⟩

end Go.Proofs.YtmgdhlcgbgpgpaaDoor

/- Sums, differences, products and quotients of fractions, as rat makes them. -/
namespace Go.Proofs.YtmgdhlcgbgpgpaaDoor
open Go Go.RowKit
set_option linter.unusedVariables false
set_option linter.unusedSimpArgs false

/-- Two fractions in blocks, and a third that is still 0. -/
structure Rb (w0 : World) (x1 x2 y1 y2 : Int) (wr : World) : Prop where
  below : Below w0.heap.size w0 wr
  ha : wr.heap[w0.heap.size]? = some (.cells #[.int .i64 x1, .int .i64 x2] 23)
  hb : wr.heap[w0.heap.size + 1]? = some (.cells #[.int .i64 y1, .int .i64 y2] 23)
  h0 : wr.heap[w0.heap.size + 1 + 1]? = some (.cells #[.int .i64 0, .int .i64 0] 23)
section
variable {w0 wr w' : World} {x1 x2 y1 y2 : Int}
theorem Rb.step (h : Rb w0 x1 x2 y1 y2 wr) (hb : Below wr.heap.size wr w') : Rb w0 x1 x2 y1 y2 w' :=
  ⟨h.below.trans (hb.mono h.below.size), heap_keep h.ha hb, heap_keep h.hb hb, heap_keep h.h0 hb⟩
theorem Rb.drew (h : Rb w0 x1 x2 y1 y2 wr) : Rb w0 x1 x2 y1 y2 wr.drew := ⟨Below.drew h.below, h.ha, h.hb, h.h0⟩
theorem Rb.four (h : Rb w0 x1 x2 y1 y2 wr) : wr.cell? ⟨w0.heap.size, 0, none⟩ = some (.int .i64 x1) ∧ wr.cell? ⟨w0.heap.size, 1, none⟩ = some (.int .i64 x2) ∧ wr.cell? ⟨w0.heap.size + 1, 0, none⟩ = some (.int .i64 y1) ∧ wr.cell? ⟨w0.heap.size + 1, 1, none⟩ = some (.int .i64 y2) := by
  obtain ⟨a1, a2, _, _⟩ := cell_two h.ha
  obtain ⟨b1, b2, _, _⟩ := cell_two h.hb
  exact ⟨a1, a2, b1, b2⟩
theorem Rb.zero (h : Rb w0 x1 x2 y1 y2 wr) : wr.cell? ⟨w0.heap.size + 1 + 1, 0, none⟩ = some (.int .i64 0) ∧ wr.cell? ⟨w0.heap.size + 1 + 1, 1, none⟩ = some (.int .i64 0) ∧ wr.frozen? ⟨w0.heap.size + 1 + 1, 0, none⟩ = false ∧ wr.frozen? ⟨w0.heap.size + 1 + 1, 1, none⟩ = false := cell_two h.h0
theorem Rb.told (h : Rb w0 x1 x2 y1 y2 wr) (x y : Value) : ((wr.setCell ⟨w0.heap.size + 1 + 1, 0, none⟩ x).setCell ⟨w0.heap.size + 1 + 1, 1, none⟩ y).heap[w0.heap.size + 1 + 1]? = some (.cells #[x, y] 23) ∧
    Below w0.heap.size w0 ((wr.setCell ⟨w0.heap.size + 1 + 1, 0, none⟩ x).setCell ⟨w0.heap.size + 1 + 1, 1, none⟩ y) := by
  have hl : w0.heap.size ≤ w0.heap.size + 1 + 1 := by omega
  exact ⟨rat_cells h.h0 x y, (h.below.setCell (p := ⟨w0.heap.size + 1 + 1, 0, none⟩) hl _).setCell (p := ⟨w0.heap.size + 1 + 1, 1, none⟩) hl _⟩
theorem Rb.fourT (h : Rb w0 x1 x2 y1 y2 wr) (x y : Value) : ((wr.setCell ⟨w0.heap.size + 1 + 1, 0, none⟩ x).setCell ⟨w0.heap.size + 1 + 1, 1, none⟩ y).cell? ⟨w0.heap.size, 0, none⟩ = some (.int .i64 x1) ∧ ((wr.setCell ⟨w0.heap.size + 1 + 1, 0, none⟩ x).setCell ⟨w0.heap.size + 1 + 1, 1, none⟩ y).cell? ⟨w0.heap.size, 1, none⟩ = some (.int .i64 x2) ∧ ((wr.setCell ⟨w0.heap.size + 1 + 1, 0, none⟩ x).setCell ⟨w0.heap.size + 1 + 1, 1, none⟩ y).cell? ⟨w0.heap.size + 1, 0, none⟩ = some (.int .i64 y1) ∧ ((wr.setCell ⟨w0.heap.size + 1 + 1, 0, none⟩ x).setCell ⟨w0.heap.size + 1 + 1, 1, none⟩ y).cell? ⟨w0.heap.size + 1, 1, none⟩ = some (.int .i64 y2) := by
  have e1 := heap_other (c := 1) (g := w0.heap.size + 1 + 1) y (heap_other (c := 0) (g := w0.heap.size + 1 + 1) x h.ha (by omega)) (by omega)
  have e2 := heap_other (c := 1) (g := w0.heap.size + 1 + 1) y (heap_other (c := 0) (g := w0.heap.size + 1 + 1) x h.hb (by omega)) (by omega)
  obtain ⟨a1, a2, _, _⟩ := cell_two e1
  obtain ⟨b1, b2, _, _⟩ := cell_two e2
  exact ⟨a1, a2, b1, b2⟩
end
theorem Rb.made (w : World) (x1 x2 y1 y2 : Int) : Rb w x1 x2 y1 y2 (((w.alloc (.cells #[.int .i64 x1, .int .i64 x2] 23)).alloc (.cells #[.int .i64 y1, .int .i64 y2] 23)).alloc (.cells #[.int .i64 0, .int .i64 0] 23)) := by
  obtain ⟨h1, h2⟩ := two_fr w (.cells #[.int .i64 x1, .int .i64 x2] 23) (.cells #[.int .i64 y1, .int .i64 y2] 23)
  have hz : ∀ (w : World) (o : Obj), (w.alloc o).heap.size = w.heap.size + 1 := fun w o => by simp
  refine ⟨below_three _ _ _ _, (heap_alloc_old _ _ (heap_lt2 h1)).trans h1, (heap_alloc_old _ _ (heap_lt2 h2)).trans h2, ?_⟩
  have h := heap_alloc_new ((w.alloc (.cells #[.int .i64 x1, .int .i64 x2] 23)).alloc (.cells #[.int .i64 y1, .int .i64 y2] 23)) (.cells #[.int .i64 0, .int .i64 0] 23)
  simp only [hz] at h
  exact h
theorem prod_abs {a b : Int} (ha : I64 a) (hb : I64 b) : (a * b).natAbs ≤ 85070591730234615865843651857942052864 := by
  rw [Int.natAbs_mul]
  have h := Nat.mul_le_mul (abs64 ha) (abs64 hb)
  omega
theorem right_pos {a b : Int} (h : rightR (a, b) = true) : 0 < b := (of_decide_eq_true h).1

set_option maxRecDepth 100000 in
set_option maxHeartbeats 8000000 in
theorem add_any (x1 x2 y1 y2 : Int) (hx1 : I64 x1) (hx2 : I64 x2) (hy1 : I64 y1) (hy2 : I64 y2) (w : World) :
    Calls Tryd.prog 24 #[.agg #[.int .i64 x1, .int .i64 x2], .agg #[.int .i64 y1, .int .i64 y2]] w fun e w' => e = .returned (.tuple #[rtV (addP (x1, x2) (y1, y2)).1, .int .i64 (addP (x1, x2) (y1, y2)).2]) ∧ Below w.heap.size w w' := by
  have HBO := Lib.hid (fun W => both_any x1 x2 y1 y2 hx1 hx2 hy1 hy2 W)
  have HA1 := Lib.hid (show (rightR (x1, x2) && rightR (y1, y2)) = true → addP (x1, x2) (y1, y2) = fracP (x1 * y2 + y1 * x2) (x2 * y2) from fun h => by unfold addP; rw [if_pos h])
  have HA0 := Lib.hid (show (rightR (x1, x2) && rightR (y1, y2)) = false → addP (x1, x2) (y1, y2) = ((0, 0), 7) from fun h => by unfold addP; rw [if_neg (by rw [h]; decide)])
  have HPX := Lib.hid (fun (h : (rightR (x1, x2) && rightR (y1, y2)) = true) => right_pos (Bool.and_eq_true_iff.1 h).1)
  have HPY := Lib.hid (fun (h : (rightR (x1, x2) && rightR (y1, y2)) = true) => right_pos (Bool.and_eq_true_iff.1 h).2)
  obtain ⟨AP, hAP⟩ : ∃ AP, AP = addP (x1, x2) (y1, y2) := ⟨_, rfl⟩
  obtain ⟨rb, hrb⟩ : ∃ rb, rb = (rightR (x1, x2) && rightR (y1, y2)) := ⟨_, rfl⟩
  rw [← hAP] at HA1 HA0 ⊢
  rw [← hrb] at HA1 HA0 HBO HPX HPY
  clear hAP hrb
  have HW := Lib.hid (Rb.made w x1 x2 y1 y2)
  go_enter Tryd.func24, Tryd.ntmps24
  go_upto_region 1 with fail
  generalize ((w.alloc (.cells #[.int .i64 x1, .int .i64 x2] 23)).alloc (.cells #[.int .i64 y1, .int .i64 y2] 23)).alloc (.cells #[.int .i64 0, .int .i64 0] 23) = w1 at *
  obtain ⟨k1, k2, k3, k4⟩ := HW.out.four
  go_wp2_with fail
  refine (HBO.out _).mono ?_
  rintro e w2 ⟨rfl, hb⟩
  have HW2 := Lib.hid (HW.out.step hb)
  clear hb HW HBO k1 k2 k3 k4
  cases rb with
  | false =>
    obtain ⟨k7, k8, k9, k10⟩ := HW2.out.zero
    obtain ⟨t1, t2⟩ := HW2.out.told (.int .i64 0) (.int .i64 0)
    have T1 := Lib.hid t1
    have T2 := Lib.hid t2
    clear t1 t2
    go_wp2
    refine bodyPost_ret (results_row_tmp (fn := Tryd.f24) rfl _ _ (w.heap.size + 1 + 1) _ _ _ _ rfl T1.out Tryd.underlying23 rfl (by kernel_rfl)) rfl ?_
    exact ⟨by rw [HA0.out (by simp)]; rfl, T2.out⟩
  | true =>
    have px := HPX.out (by simp)
    have py := HPY.out (by simp)
    have HT1 := Lib.hid (fun W => times_any x1 y2 hx1 hy2 W)
    have HT2 := Lib.hid (fun W => times_any y1 x2 hy1 hx2 W)
    have HT3 := Lib.hid (fun W => times_any x2 y2 hx2 hy2 W)
    have HSU := Lib.hid (fun W => sum_any (x1 * y2) (y1 * x2) W (prod_abs hx1 hy2) (prod_abs hy1 hx2))
    have HMD := Lib.hid (fun W => made_any (x1 * y2 + y1 * x2) (x2 * y2) W (by have h1 := prod_abs hx1 hy2; have h2 := prod_abs hy1 hx2; omega) (by have := Int.mul_pos px py; omega) (Nat.le_trans (prod_abs hx2 hy2) (by omega)))
    have HE := Lib.hid (HA1.out (by simp))
    obtain ⟨M, hM⟩ : ∃ M, M = fracP (x1 * y2 + y1 * x2) (x2 * y2) := ⟨_, rfl⟩
    rw [← hM] at HE HMD
    have HMD : Hid (∀ W, Calls Tryd.prog 46 #[wdV (x1 * y2 + y1 * x2), wdV (x2 * y2)] W fun e w' => e = .returned (.tuple #[.agg #[.int .i64 M.1.1, .int .i64 M.1.2], .int .i64 M.2]) ∧ Below W.heap.size W w') := HMD
    clear hM HA1 HA0 HPX HPY px py hx1 hx2 hy1 hy2
    go_upto_region 3 with fail
    have kb := HW2.out.drew
    go_region_held3 (fun wr => wr.cell? ⟨w.heap.size, 0, none⟩ = some (.int .i64 x1) ∧ wr.cell? ⟨w.heap.size, 1, none⟩ = some (.int .i64 x2) ∧ wr.cell? ⟨w.heap.size + 1, 0, none⟩ = some (.int .i64 y1) ∧ wr.cell? ⟨w.heap.size + 1, 1, none⟩ = some (.int .i64 y2))
      (first | exact kb.four | exact kb.fourT _ _ | go_keep)
      (first | (go_at_call_of 57 x1; refine (HT1.out _).mono ?_; rintro e v1 ⟨rfl, hb⟩; have kb := kb.step hb; clear hb) | (go_at_call_of 57 y1; refine (HT2.out _).mono ?_; rintro e v2 ⟨rfl, hb⟩; have kb := kb.step hb; clear hb) | (go_at_call 57; refine (HT3.out _).mono ?_; rintro e v3 ⟨rfl, hb⟩; have kb := kb.step hb; clear hb) | (go_at_call 58; refine (HSU.out _).mono ?_; rintro e v7 ⟨rfl, hb⟩; have kb := kb.step hb; clear hb) | (go_at_call 46; refine (HMD.out _).mono ?_; rintro e v9 ⟨rfl, hb⟩; have kb := kb.step hb; clear hb; have kc := kb.zero; obtain ⟨k7, k8, k9, k10⟩ := kc))
    obtain ⟨t1, t2⟩ := kb.told (.int .i64 M.1.1) (.int .i64 M.1.2)
    have T1 := Lib.hid t1
    have T2 := Lib.hid t2
    clear t1 t2 k7 k8 k9 k10
    go_wp2
    refine bodyPost_ret (results_row_tmp (fn := Tryd.f24) rfl _ _ (w.heap.size + 1 + 1) _ _ _ _ rfl T1.out Tryd.underlying23 rfl (by kernel_rfl)) rfl ?_
    exact ⟨by rw [HE.out]; rfl, T2.out⟩

set_option maxRecDepth 100000 in
set_option maxHeartbeats 8000000 in
theorem sub_any (x1 x2 y1 y2 : Int) (hx1 : I64 x1) (hx2 : I64 x2) (hy1 : I64 y1) (hy2 : I64 y2) (w : World) :
    Calls Tryd.prog 22 #[.agg #[.int .i64 x1, .int .i64 x2], .agg #[.int .i64 y1, .int .i64 y2]] w fun e w' => e = .returned (.tuple #[rtV (subP (x1, x2) (y1, y2)).1, .int .i64 (subP (x1, x2) (y1, y2)).2]) ∧ Below w.heap.size w w' := by
  have HBO := Lib.hid (fun W => both_any x1 x2 y1 y2 hx1 hx2 hy1 hy2 W)
  have HA1 := Lib.hid (show (rightR (x1, x2) && rightR (y1, y2)) = true → subP (x1, x2) (y1, y2) = fracP (x1 * y2 - y1 * x2) (x2 * y2) from fun h => by unfold subP; rw [if_pos h])
  have HA0 := Lib.hid (show (rightR (x1, x2) && rightR (y1, y2)) = false → subP (x1, x2) (y1, y2) = ((0, 0), 7) from fun h => by unfold subP; rw [if_neg (by rw [h]; decide)])
  have HPX := Lib.hid (fun (h : (rightR (x1, x2) && rightR (y1, y2)) = true) => right_pos (Bool.and_eq_true_iff.1 h).1)
  have HPY := Lib.hid (fun (h : (rightR (x1, x2) && rightR (y1, y2)) = true) => right_pos (Bool.and_eq_true_iff.1 h).2)
  obtain ⟨AP, hAP⟩ : ∃ AP, AP = subP (x1, x2) (y1, y2) := ⟨_, rfl⟩
  obtain ⟨rb, hrb⟩ : ∃ rb, rb = (rightR (x1, x2) && rightR (y1, y2)) := ⟨_, rfl⟩
  rw [← hAP] at HA1 HA0 ⊢
  rw [← hrb] at HA1 HA0 HBO HPX HPY
  clear hAP hrb
  have HW := Lib.hid (Rb.made w x1 x2 y1 y2)
  go_enter Tryd.func22, Tryd.ntmps22
  go_upto_region 1 with fail
  generalize ((w.alloc (.cells #[.int .i64 x1, .int .i64 x2] 23)).alloc (.cells #[.int .i64 y1, .int .i64 y2] 23)).alloc (.cells #[.int .i64 0, .int .i64 0] 23) = w1 at *
  obtain ⟨k1, k2, k3, k4⟩ := HW.out.four
  go_wp2_with fail
  refine (HBO.out _).mono ?_
  rintro e w2 ⟨rfl, hb⟩
  have HW2 := Lib.hid (HW.out.step hb)
  clear hb HW HBO k1 k2 k3 k4
  cases rb with
  | false =>
    obtain ⟨k7, k8, k9, k10⟩ := HW2.out.zero
    obtain ⟨t1, t2⟩ := HW2.out.told (.int .i64 0) (.int .i64 0)
    have T1 := Lib.hid t1
    have T2 := Lib.hid t2
    clear t1 t2
    go_wp2
    refine bodyPost_ret (results_row_tmp (fn := Tryd.f22) rfl _ _ (w.heap.size + 1 + 1) _ _ _ _ rfl T1.out Tryd.underlying23 rfl (by kernel_rfl)) rfl ?_
    exact ⟨by rw [HA0.out (by simp)]; rfl, T2.out⟩
  | true =>
    have px := HPX.out (by simp)
    have py := HPY.out (by simp)
    have HT1 := Lib.hid (fun W => times_any x1 y2 hx1 hy2 W)
    have HT2 := Lib.hid (fun W => times_any y1 x2 hy1 hx2 W)
    have HT3 := Lib.hid (fun W => times_any x2 y2 hx2 hy2 W)
    have HOP := Lib.hid (fun W => opposite_any (y1 * x2) W)
    have HSU := Lib.hid (fun W => sum_any (x1 * y2) (-(y1 * x2)) W (prod_abs hx1 hy2) (by rw [Int.natAbs_neg]; exact prod_abs hy1 hx2))
    rw [show x1 * y2 + -(y1 * x2) = x1 * y2 - y1 * x2 from rfl] at HSU
    have HMD := Lib.hid (fun W => made_any (x1 * y2 - y1 * x2) (x2 * y2) W (by have h1 := prod_abs hx1 hy2; have h2 := prod_abs hy1 hx2; omega) (by have := Int.mul_pos px py; omega) (Nat.le_trans (prod_abs hx2 hy2) (by omega)))
    have HE := Lib.hid (HA1.out (by simp))
    obtain ⟨M, hM⟩ : ∃ M, M = fracP (x1 * y2 - y1 * x2) (x2 * y2) := ⟨_, rfl⟩
    rw [← hM] at HE HMD
    have HMD : Hid (∀ W, Calls Tryd.prog 46 #[wdV (x1 * y2 - y1 * x2), wdV (x2 * y2)] W fun e w' => e = .returned (.tuple #[.agg #[.int .i64 M.1.1, .int .i64 M.1.2], .int .i64 M.2]) ∧ Below W.heap.size W w') := HMD
    clear hM HA1 HA0 HPX HPY px py hx1 hx2 hy1 hy2
    go_upto_region 3 with fail
    have kb := HW2.out.drew
    go_region_held3 (fun wr => wr.cell? ⟨w.heap.size, 0, none⟩ = some (.int .i64 x1) ∧ wr.cell? ⟨w.heap.size, 1, none⟩ = some (.int .i64 x2) ∧ wr.cell? ⟨w.heap.size + 1, 0, none⟩ = some (.int .i64 y1) ∧ wr.cell? ⟨w.heap.size + 1, 1, none⟩ = some (.int .i64 y2))
      (first | exact kb.four | exact kb.fourT _ _ | go_keep)
      (first | (go_at_call_of 57 x1; refine (HT1.out _).mono ?_; rintro e v1 ⟨rfl, hb⟩; have kb := kb.step hb; clear hb) | (go_at_call_of 57 y1; refine (HT2.out _).mono ?_; rintro e v2 ⟨rfl, hb⟩; have kb := kb.step hb; clear hb) | (go_at_call 57; refine (HT3.out _).mono ?_; rintro e v3 ⟨rfl, hb⟩; have kb := kb.step hb; clear hb) | (go_at_call 58; refine (HSU.out _).mono ?_; rintro e v7 ⟨rfl, hb⟩; have kb := kb.step hb; clear hb) | (go_at_call 59; refine (HOP.out _).mono ?_; rintro e v8 ⟨rfl, hb⟩; have kb := kb.step hb; clear hb) | (go_at_call 46; refine (HMD.out _).mono ?_; rintro e v9 ⟨rfl, hb⟩; have kb := kb.step hb; clear hb; have kc := kb.zero; obtain ⟨k7, k8, k9, k10⟩ := kc))
    obtain ⟨t1, t2⟩ := kb.told (.int .i64 M.1.1) (.int .i64 M.1.2)
    have T1 := Lib.hid t1
    have T2 := Lib.hid t2
    clear t1 t2 k7 k8 k9 k10
    go_wp2
    refine bodyPost_ret (results_row_tmp (fn := Tryd.f22) rfl _ _ (w.heap.size + 1 + 1) _ _ _ _ rfl T1.out Tryd.underlying23 rfl (by kernel_rfl)) rfl ?_
    exact ⟨by rw [HE.out]; rfl, T2.out⟩

set_option maxRecDepth 100000 in
set_option maxHeartbeats 8000000 in
theorem mul_any (x1 x2 y1 y2 : Int) (hx1 : I64 x1) (hx2 : I64 x2) (hy1 : I64 y1) (hy2 : I64 y2) (w : World) :
    Calls Tryd.prog 29 #[.agg #[.int .i64 x1, .int .i64 x2], .agg #[.int .i64 y1, .int .i64 y2]] w fun e w' => e = .returned (.tuple #[rtV (mulP (x1, x2) (y1, y2)).1, .int .i64 (mulP (x1, x2) (y1, y2)).2]) ∧ Below w.heap.size w w' := by
  have HBO := Lib.hid (fun W => both_any x1 x2 y1 y2 hx1 hx2 hy1 hy2 W)
  have HA1 := Lib.hid (show (rightR (x1, x2) && rightR (y1, y2)) = true → mulP (x1, x2) (y1, y2) = fracP (x1 * y1) (x2 * y2) from fun h => by unfold mulP; rw [if_pos h])
  have HA0 := Lib.hid (show (rightR (x1, x2) && rightR (y1, y2)) = false → mulP (x1, x2) (y1, y2) = ((0, 0), 7) from fun h => by unfold mulP; rw [if_neg (by rw [h]; decide)])
  have HPX := Lib.hid (fun (h : (rightR (x1, x2) && rightR (y1, y2)) = true) => right_pos (Bool.and_eq_true_iff.1 h).1)
  have HPY := Lib.hid (fun (h : (rightR (x1, x2) && rightR (y1, y2)) = true) => right_pos (Bool.and_eq_true_iff.1 h).2)
  obtain ⟨AP, hAP⟩ : ∃ AP, AP = mulP (x1, x2) (y1, y2) := ⟨_, rfl⟩
  obtain ⟨rb, hrb⟩ : ∃ rb, rb = (rightR (x1, x2) && rightR (y1, y2)) := ⟨_, rfl⟩
  rw [← hAP] at HA1 HA0 ⊢
  rw [← hrb] at HA1 HA0 HBO HPX HPY
  clear hAP hrb
  have HW := Lib.hid (Rb.made w x1 x2 y1 y2)
  go_enter Tryd.func29, Tryd.ntmps29
  go_upto_region 1 with fail
  generalize ((w.alloc (.cells #[.int .i64 x1, .int .i64 x2] 23)).alloc (.cells #[.int .i64 y1, .int .i64 y2] 23)).alloc (.cells #[.int .i64 0, .int .i64 0] 23) = w1 at *
  obtain ⟨k1, k2, k3, k4⟩ := HW.out.four
  go_wp2_with fail
  refine (HBO.out _).mono ?_
  rintro e w2 ⟨rfl, hb⟩
  have HW2 := Lib.hid (HW.out.step hb)
  clear hb HW HBO k1 k2 k3 k4
  cases rb with
  | false =>
    obtain ⟨k7, k8, k9, k10⟩ := HW2.out.zero
    obtain ⟨t1, t2⟩ := HW2.out.told (.int .i64 0) (.int .i64 0)
    have T1 := Lib.hid t1
    have T2 := Lib.hid t2
    clear t1 t2
    go_wp2
    refine bodyPost_ret (results_row_tmp (fn := Tryd.f29) rfl _ _ (w.heap.size + 1 + 1) _ _ _ _ rfl T1.out Tryd.underlying23 rfl (by kernel_rfl)) rfl ?_
    exact ⟨by rw [HA0.out (by simp)]; rfl, T2.out⟩
  | true =>
    have px := HPX.out (by simp)
    have py := HPY.out (by simp)
    have HT1 := Lib.hid (fun W => times_any x1 y1 hx1 hy1 W)
    have HT2 := Lib.hid (fun W => times_any x2 y2 hx2 hy2 W)
    have HMD := Lib.hid (fun W => made_any (x1 * y1) (x2 * y2) W (Nat.le_trans (prod_abs hx1 hy1) (by omega)) (by have := Int.mul_pos px py; omega) (Nat.le_trans (prod_abs hx2 hy2) (by omega)))
    have HE := Lib.hid (HA1.out (by simp))
    obtain ⟨M, hM⟩ : ∃ M, M = fracP (x1 * y1) (x2 * y2) := ⟨_, rfl⟩
    rw [← hM] at HE HMD
    have HMD : Hid (∀ W, Calls Tryd.prog 46 #[wdV (x1 * y1), wdV (x2 * y2)] W fun e w' => e = .returned (.tuple #[.agg #[.int .i64 M.1.1, .int .i64 M.1.2], .int .i64 M.2]) ∧ Below W.heap.size W w') := HMD
    clear hM HA1 HA0 HPX HPY px py hx1 hx2 hy1 hy2
    go_upto_region 3 with fail
    have kb := HW2.out.drew
    go_region_held3 (fun wr => wr.cell? ⟨w.heap.size, 0, none⟩ = some (.int .i64 x1) ∧ wr.cell? ⟨w.heap.size, 1, none⟩ = some (.int .i64 x2) ∧ wr.cell? ⟨w.heap.size + 1, 0, none⟩ = some (.int .i64 y1) ∧ wr.cell? ⟨w.heap.size + 1, 1, none⟩ = some (.int .i64 y2))
      (first | exact kb.four | exact kb.fourT _ _ | go_keep)
      (first | (go_at_call_of 57 x1; refine (HT1.out _).mono ?_; rintro e v1 ⟨rfl, hb⟩; have kb := kb.step hb; clear hb) | (go_at_call 57; refine (HT2.out _).mono ?_; rintro e v2 ⟨rfl, hb⟩; have kb := kb.step hb; clear hb) | (go_at_call 46; refine (HMD.out _).mono ?_; rintro e v9 ⟨rfl, hb⟩; have kb := kb.step hb; clear hb; have kc := kb.zero; obtain ⟨k7, k8, k9, k10⟩ := kc))
    obtain ⟨t1, t2⟩ := kb.told (.int .i64 M.1.1) (.int .i64 M.1.2)
    have T1 := Lib.hid t1
    have T2 := Lib.hid t2
    clear t1 t2 k7 k8 k9 k10
    go_wp2
    refine bodyPost_ret (results_row_tmp (fn := Tryd.f29) rfl _ _ (w.heap.size + 1 + 1) _ _ _ _ rfl T1.out Tryd.underlying23 rfl (by kernel_rfl)) rfl ?_
    exact ⟨by rw [HE.out]; rfl, T2.out⟩

set_option maxRecDepth 100000 in
set_option maxHeartbeats 8000000 in
theorem div_any (x1 x2 y1 y2 : Int) (hx1 : I64 x1) (hx2 : I64 x2) (hy1 : I64 y1) (hy2 : I64 y2) (w : World) :
    Calls Tryd.prog 31 #[.agg #[.int .i64 x1, .int .i64 x2], .agg #[.int .i64 y1, .int .i64 y2]] w fun e w' => e = .returned (.tuple #[rtV (divP (x1, x2) (y1, y2)).1, .int .i64 (divP (x1, x2) (y1, y2)).2]) ∧ Below w.heap.size w w' := by
  have HBO := Lib.hid (fun W => both_any x1 x2 y1 y2 hx1 hx2 hy1 hy2 W)
  have HA1 := Lib.hid (show (rightR (x1, x2) && rightR (y1, y2)) = true → ¬ y1 = 0 → divP (x1, x2) (y1, y2) = fracP (x1 * y2) (x2 * y1) from fun h h' => by unfold divP; rw [if_pos h, if_neg h'])
  have HA3 := Lib.hid (show (rightR (x1, x2) && rightR (y1, y2)) = true → y1 = 0 → divP (x1, x2) (y1, y2) = ((0, 0), 21) from fun h h' => by unfold divP; rw [if_pos h, if_pos h'])
  have HA0 := Lib.hid (show (rightR (x1, x2) && rightR (y1, y2)) = false → divP (x1, x2) (y1, y2) = ((0, 0), 7) from fun h => by unfold divP; rw [if_neg (by rw [h]; decide)])
  have HPX := Lib.hid (fun (h : (rightR (x1, x2) && rightR (y1, y2)) = true) => right_pos (Bool.and_eq_true_iff.1 h).1)
  have HPY := Lib.hid (fun (h : (rightR (x1, x2) && rightR (y1, y2)) = true) => right_pos (Bool.and_eq_true_iff.1 h).2)
  obtain ⟨AP, hAP⟩ : ∃ AP, AP = divP (x1, x2) (y1, y2) := ⟨_, rfl⟩
  obtain ⟨rb, hrb⟩ : ∃ rb, rb = (rightR (x1, x2) && rightR (y1, y2)) := ⟨_, rfl⟩
  rw [← hAP] at HA1 HA0 ⊢
  rw [← hAP] at HA3
  rw [← hrb] at HA1 HA0 HBO HPX HPY
  rw [← hrb] at HA3
  clear hAP hrb
  have HW := Lib.hid (Rb.made w x1 x2 y1 y2)
  go_enter Tryd.func31, Tryd.ntmps31
  go_upto_region 1 with fail
  generalize ((w.alloc (.cells #[.int .i64 x1, .int .i64 x2] 23)).alloc (.cells #[.int .i64 y1, .int .i64 y2] 23)).alloc (.cells #[.int .i64 0, .int .i64 0] 23) = w1 at *
  obtain ⟨k1, k2, k3, k4⟩ := HW.out.four
  go_wp2_with fail
  refine (HBO.out _).mono ?_
  rintro e w2 ⟨rfl, hb⟩
  have HW2 := Lib.hid (HW.out.step hb)
  clear hb HW HBO k1 k2 k3 k4
  cases rb with
  | false =>
    obtain ⟨k7, k8, k9, k10⟩ := HW2.out.zero
    obtain ⟨t1, t2⟩ := HW2.out.told (.int .i64 0) (.int .i64 0)
    have T1 := Lib.hid t1
    have T2 := Lib.hid t2
    clear t1 t2
    go_wp2
    refine bodyPost_ret (results_row_tmp (fn := Tryd.f31) rfl _ _ (w.heap.size + 1 + 1) _ _ _ _ rfl T1.out Tryd.underlying23 rfl (by kernel_rfl)) rfl ?_
    exact ⟨by rw [HA0.out (by simp)]; rfl, T2.out⟩
  | true =>
    obtain ⟨k1, k2, k3, k4⟩ := HW2.out.four
    by_cases hy0 : y1 = 0
    · have e0 : (y1 == 0) = true := by simp [hy0]
      have HE := Lib.hid (HA3.out (by simp) hy0)
      clear HA3 HA1 HA0 hy0
      obtain ⟨k7, k8, k9, k10⟩ := HW2.out.zero
      obtain ⟨t1, t2⟩ := HW2.out.told (.int .i64 0) (.int .i64 0)
      have T1 := Lib.hid t1
      have T2 := Lib.hid t2
      clear t1 t2
      go_wp2
      refine bodyPost_ret (results_row_tmp (fn := Tryd.f31) rfl _ _ (w.heap.size + 1 + 1) _ _ _ _ rfl T1.out Tryd.underlying23 rfl (by kernel_rfl)) rfl ?_
      exact ⟨by rw [HE.out]; rfl, T2.out⟩
    · have e0 : (y1 == 0) = false := by simp [hy0]
      have px := HPX.out (by simp)
      have py := HPY.out (by simp)
      have HT1 := Lib.hid (fun W => times_any x1 y2 hx1 hy2 W)
      have HT2 := Lib.hid (fun W => times_any x2 y1 hx2 hy1 W)
      have HMD := Lib.hid (fun W => made_any (x1 * y2) (x2 * y1) W (Nat.le_trans (prod_abs hx1 hy2) (by omega)) (fun e => by rcases Int.mul_eq_zero.1 e with e | e <;> omega) (Nat.le_trans (prod_abs hx2 hy1) (by omega)))
      have HE := Lib.hid (HA1.out (by simp) hy0)
      obtain ⟨M, hM⟩ : ∃ M, M = fracP (x1 * y2) (x2 * y1) := ⟨_, rfl⟩
      rw [← hM] at HE HMD
      have HMD : Hid (∀ W, Calls Tryd.prog 46 #[wdV (x1 * y2), wdV (x2 * y1)] W fun e w' => e = .returned (.tuple #[.agg #[.int .i64 M.1.1, .int .i64 M.1.2], .int .i64 M.2]) ∧ Below W.heap.size W w') := HMD
      clear hM HA1 HA0 HPX HPY px py hx1 hx2 hy1 hy2 HA3 hy0 k1 k2 k3 k4
      obtain ⟨k1, k2, k3, k4⟩ := HW2.out.four
      go_upto_region 5 with fail
      clear k1 k2 k3 k4
      have kb := HW2.out.drew
      go_region_held3 (fun wr => wr.cell? ⟨w.heap.size, 0, none⟩ = some (.int .i64 x1) ∧ wr.cell? ⟨w.heap.size, 1, none⟩ = some (.int .i64 x2) ∧ wr.cell? ⟨w.heap.size + 1, 0, none⟩ = some (.int .i64 y1) ∧ wr.cell? ⟨w.heap.size + 1, 1, none⟩ = some (.int .i64 y2))
        (first | exact kb.four | exact kb.fourT _ _ | go_keep)
        (first | (go_at_call_of 57 x1; refine (HT1.out _).mono ?_; rintro e v1 ⟨rfl, hb⟩; have kb := kb.step hb; clear hb) | (go_at_call 57; refine (HT2.out _).mono ?_; rintro e v2 ⟨rfl, hb⟩; have kb := kb.step hb; clear hb) | (go_at_call 46; refine (HMD.out _).mono ?_; rintro e v9 ⟨rfl, hb⟩; have kb := kb.step hb; clear hb; have kc := kb.zero; obtain ⟨k7, k8, k9, k10⟩ := kc))
      obtain ⟨t1, t2⟩ := kb.told (.int .i64 M.1.1) (.int .i64 M.1.2)
      have T1 := Lib.hid t1
      have T2 := Lib.hid t2
      clear t1 t2 k7 k8 k9 k10
      go_wp2
      refine bodyPost_ret (results_row_tmp (fn := Tryd.f31) rfl _ _ (w.heap.size + 1 + 1) _ _ _ _ rfl T1.out Tryd.underlying23 rfl (by kernel_rfl)) rfl ?_
      exact ⟨by rw [HE.out]; rfl, T2.out⟩

end Go.Proofs.YtmgdhlcgbgpgpaaDoor

/- Which of two fractions is greater, as rat holds them. -/
namespace Go.Proofs.YtmgdhlcgbgpgpaaDoor
open Go Go.RowKit
set_option linter.unusedVariables false
set_option linter.unusedSimpArgs false

/-- Two fractions in blocks. -/
structure Rc2 (w0 : World) (x1 x2 y1 y2 : Int) (wr : World) : Prop where
  below : Below w0.heap.size w0 wr
  ha : wr.heap[w0.heap.size]? = some (.cells #[.int .i64 x1, .int .i64 x2] 23)
  hb : wr.heap[w0.heap.size + 1]? = some (.cells #[.int .i64 y1, .int .i64 y2] 23)
section
variable {w0 wr w' : World} {x1 x2 y1 y2 : Int}
theorem Rc2.step (h : Rc2 w0 x1 x2 y1 y2 wr) (hb : Below wr.heap.size wr w') : Rc2 w0 x1 x2 y1 y2 w' :=
  ⟨h.below.trans (hb.mono h.below.size), heap_keep h.ha hb, heap_keep h.hb hb⟩
theorem Rc2.drew (h : Rc2 w0 x1 x2 y1 y2 wr) : Rc2 w0 x1 x2 y1 y2 wr.drew := ⟨Below.drew h.below, h.ha, h.hb⟩
theorem Rc2.four (h : Rc2 w0 x1 x2 y1 y2 wr) : wr.cell? ⟨w0.heap.size, 0, none⟩ = some (.int .i64 x1) ∧ wr.cell? ⟨w0.heap.size, 1, none⟩ = some (.int .i64 x2) ∧ wr.cell? ⟨w0.heap.size + 1, 0, none⟩ = some (.int .i64 y1) ∧ wr.cell? ⟨w0.heap.size + 1, 1, none⟩ = some (.int .i64 y2) := by
  obtain ⟨a1, a2, _, _⟩ := cell_two h.ha
  obtain ⟨b1, b2, _, _⟩ := cell_two h.hb
  exact ⟨a1, a2, b1, b2⟩
end
theorem Rc2.fourX {w0 wr : World} {x1 x2 y1 y2 : Int} (h : Rc2 w0 x1 x2 y1 y2 wr) {g : Nat} (hg : w0.heap.size + 1 < g) (x y z : Value) :
    (((wr.setCell ⟨g, 0, none⟩ x).setCell ⟨g, 1, none⟩ y).setCell ⟨g, 2, none⟩ z).cell? ⟨w0.heap.size, 0, none⟩ = some (.int .i64 x1) ∧ (((wr.setCell ⟨g, 0, none⟩ x).setCell ⟨g, 1, none⟩ y).setCell ⟨g, 2, none⟩ z).cell? ⟨w0.heap.size, 1, none⟩ = some (.int .i64 x2) ∧
    (((wr.setCell ⟨g, 0, none⟩ x).setCell ⟨g, 1, none⟩ y).setCell ⟨g, 2, none⟩ z).cell? ⟨w0.heap.size + 1, 0, none⟩ = some (.int .i64 y1) ∧ (((wr.setCell ⟨g, 0, none⟩ x).setCell ⟨g, 1, none⟩ y).setCell ⟨g, 2, none⟩ z).cell? ⟨w0.heap.size + 1, 1, none⟩ = some (.int .i64 y2) := by
  have e1 := heap_other (c := 2) (g := g) z (heap_other (c := 1) (g := g) y (heap_other (c := 0) (g := g) x h.ha (by omega)) (by omega)) (by omega)
  have e2 := heap_other (c := 2) (g := g) z (heap_other (c := 1) (g := g) y (heap_other (c := 0) (g := g) x h.hb (by omega)) (by omega)) (by omega)
  obtain ⟨a1, a2, _, _⟩ := cell_two e1
  obtain ⟨b1, b2, _, _⟩ := cell_two e2
  exact ⟨a1, a2, b1, b2⟩
theorem Rc2.belowX {w0 wr : World} {x1 x2 y1 y2 : Int} (h : Rc2 w0 x1 x2 y1 y2 wr) {g : Nat} (hg : w0.heap.size + 1 < g) (x y z : Value) : Below w0.heap.size w0 (((wr.setCell ⟨g, 0, none⟩ x).setCell ⟨g, 1, none⟩ y).setCell ⟨g, 2, none⟩ z) := by
  have hl : w0.heap.size ≤ g := by omega
  exact ((h.below.setCell (p := ⟨g, 0, none⟩) hl _).setCell (p := ⟨g, 1, none⟩) hl _).setCell (p := ⟨g, 2, none⟩) hl _
theorem Rc2.made (w : World) (x1 x2 y1 y2 : Int) : Rc2 w x1 x2 y1 y2 ((w.alloc (.cells #[.int .i64 x1, .int .i64 x2] 23)).alloc (.cells #[.int .i64 y1, .int .i64 y2] 23)) := by
  obtain ⟨h1, h2⟩ := two_fr w (.cells #[.int .i64 x1, .int .i64 x2] 23) (.cells #[.int .i64 y1, .int .i64 y2] 23)
  exact ⟨below_two _ _ _, h1, h2⟩
theorem cmpI_neg {x : Int} (h : x < 0) : cmpI x = -1 := by unfold cmpI; rw [if_pos h]
theorem cmpI_zero : cmpI 0 = 0 := rfl
theorem cmpI_pos {x : Int} (h : 0 < x) : cmpI x = 1 := by unfold cmpI; rw [if_neg (by omega), if_neg (by omega)]

set_option maxRecDepth 100000 in
set_option maxHeartbeats 8000000 in
theorem compare_any (x1 x2 y1 y2 : Int) (hx1 : I64 x1) (hx2 : I64 x2) (hy1 : I64 y1) (hy2 : I64 y2) (w : World) :
    Calls Tryd.prog 21 #[.agg #[.int .i64 x1, .int .i64 x2], .agg #[.int .i64 y1, .int .i64 y2]] w fun e w' => e = .returned (.int .i64 (cmpP (x1, x2) (y1, y2))) ∧ Below w.heap.size w w' := by
  have HBO := Lib.hid (fun W => both_any x1 x2 y1 y2 hx1 hx2 hy1 hy2 W)
  have HA1 := Lib.hid (show (rightR (x1, x2) && rightR (y1, y2)) = true → cmpP (x1, x2) (y1, y2) = cmpI (x1 * y2 - y1 * x2) from fun h => by unfold cmpP; rw [if_pos h])
  have HA0 := Lib.hid (show (rightR (x1, x2) && rightR (y1, y2)) = false → cmpP (x1, x2) (y1, y2) = 0 from fun h => by unfold cmpP; rw [if_neg (by rw [h]; decide)])
  obtain ⟨AP, hAP⟩ : ∃ AP, AP = cmpP (x1, x2) (y1, y2) := ⟨_, rfl⟩
  obtain ⟨rb, hrb⟩ : ∃ rb, rb = (rightR (x1, x2) && rightR (y1, y2)) := ⟨_, rfl⟩
  rw [← hAP] at HA1 HA0 ⊢
  rw [← hrb] at HA1 HA0 HBO
  clear hAP hrb
  have HT1 := Lib.hid (fun W => times_any x1 y2 hx1 hy2 W)
  have HT2 := Lib.hid (fun W => times_any y1 x2 hy1 hx2 W)
  have HOP := Lib.hid (fun W => opposite_any (y1 * x2) W)
  have HSU := Lib.hid (fun W => sum_any (x1 * y2) (-(y1 * x2)) W (prod_abs hx1 hy2) (by rw [Int.natAbs_neg]; exact prod_abs hy1 hx2))
  rw [show x1 * y2 + -(y1 * x2) = x1 * y2 - y1 * x2 from rfl] at HSU
  obtain ⟨X, hX⟩ : ∃ X, X = x1 * y2 - y1 * x2 := ⟨_, rfl⟩
  rw [← hX] at HSU HA1
  have HSU : Hid (∀ W, Calls Tryd.prog 58 #[wdV (x1 * y2), wdV (-(y1 * x2))] W fun e w' => e = .returned (.agg #[.int .u64 (hiN X.natAbs), .int .u64 (loN X.natAbs), .bool (decide (X < 0))]) ∧ Below W.heap.size W w') := HSU
  have HSZ : Hid (∀ W, Calls Tryd.prog 60 #[.agg #[.int .u64 (hiN X.natAbs), .int .u64 (loN X.natAbs)]] W fun e w' => e = .returned (.bool (decide (X.natAbs = 0))) ∧ Below W.heap.size W w') := Lib.hid (fun W => szero_any X.natAbs W)
  have HW := Lib.hid (Rc2.made w x1 x2 y1 y2)
  clear hX hx1 hx2 hy1 hy2
  go_enter Tryd.func21, Tryd.ntmps21
  go_upto_region 1 with fail
  generalize (w.alloc (.cells #[.int .i64 x1, .int .i64 x2] 23)).alloc (.cells #[.int .i64 y1, .int .i64 y2] 23) = w1 at *
  obtain ⟨k1, k2, k3, k4⟩ := HW.out.four
  go_wp2_with fail
  refine (HBO.out _).mono ?_
  rintro e w2 ⟨rfl, hb⟩
  have HW2 := Lib.hid (HW.out.step hb)
  clear hb HW HBO k1 k2 k3 k4
  cases rb with
  | false =>
    go_wp2
    go_ret
    exact ⟨by rw [HA0.out (by simp)]; rfl, HW2.out.below⟩
  | true =>
    have HE := Lib.hid (HA1.out (by simp))
    clear HA1 HA0
    go_upto_region 3 with fail
    go_cut [5] (fun s5 wx => ∃ g : Nat, s5 = .pointer (some ⟨g, 0, none⟩) ∧ Hid (wx.heap[g]? = some (.cells #[.int .u64 (hiN X.natAbs), .int .u64 (loN X.natAbs), .bool (decide (X < 0))] 54)) ∧ Hid (Below w.heap.size w wx))
    case first =>
      have kb := HW2.out.drew
      go_region_held3 (fun wr => wr.cell? ⟨w.heap.size, 0, none⟩ = some (.int .i64 x1) ∧ wr.cell? ⟨w.heap.size, 1, none⟩ = some (.int .i64 x2) ∧ wr.cell? ⟨w.heap.size + 1, 0, none⟩ = some (.int .i64 y1) ∧ wr.cell? ⟨w.heap.size + 1, 1, none⟩ = some (.int .i64 y2))
        (first | exact kb.four | exact (kb.step (below_one v7 _)).four | exact kb.fourX hlt _ _ _ | exact (kb.step (below_one _ _)).four | go_keep)
        (first | (go_at_call_of 57 x1; refine (HT1.out _).mono ?_; rintro e v1 ⟨rfl, hb⟩; have hz := heap_keep hz hb; have kb := kb.step hb; obtain ⟨z1, z2, z3, z4⟩ := cell_three hz; obtain ⟨z5, z6, z7⟩ := three_frozen hz; clear hb) | (go_at_call_of 57 x1; refine (HT1.out _).mono ?_; rintro e v1 ⟨rfl, hb⟩; have kb := kb.step hb; clear hb) | (go_at_call_of 57 x1; refine (HT1.out _).mono ?_; rintro e v1 ⟨rfl, hb⟩; have hlt := heap_lt2 kb.hb; have hz := heap_keep (heap_alloc_new _ _) hb; have kb := (kb.step (below_one _ _)).step hb; obtain ⟨z1, z2, z3, z4⟩ := cell_three hz; obtain ⟨z5, z6, z7⟩ := three_frozen hz; clear hb) | (go_at_call_of 57 x1; refine (HT1.out _).mono ?_; rintro e v1 ⟨rfl, hb⟩; have hlt := heap_lt2 HW2.out.hb; have hz := heap_keep (w := (w2.alloc _).drew) (heap_alloc_new w2 _) hb; have kb := (HW2.out.step (below_one w2 _)).drew.step hb; obtain ⟨z1, z2, z3, z4⟩ := cell_three hz; obtain ⟨z5, z6, z7⟩ := three_frozen hz; clear hb) | (go_at_call_of 57 y1; refine (HT2.out _).mono ?_; rintro e v2 ⟨rfl, hb⟩; have hz := heap_keep hz hb; have kb := kb.step hb; obtain ⟨z1, z2, z3, z4⟩ := cell_three hz; obtain ⟨z5, z6, z7⟩ := three_frozen hz; clear hb) | (go_at_call_of 57 y1; refine (HT2.out _).mono ?_; rintro e v2 ⟨rfl, hb⟩; have kb := kb.step hb; clear hb) | (go_at_call_of 57 y1; refine (HT2.out _).mono ?_; rintro e v2 ⟨rfl, hb⟩; have hlt := heap_lt2 kb.hb; have hz := heap_keep (heap_alloc_new _ _) hb; have kb := (kb.step (below_one _ _)).step hb; obtain ⟨z1, z2, z3, z4⟩ := cell_three hz; obtain ⟨z5, z6, z7⟩ := three_frozen hz; clear hb) | (go_at_call_of 57 y1; refine (HT2.out _).mono ?_; rintro e v2 ⟨rfl, hb⟩; have hlt := heap_lt2 HW2.out.hb; have hz := heap_keep (w := (w2.alloc _).drew) (heap_alloc_new w2 _) hb; have kb := (HW2.out.step (below_one w2 _)).drew.step hb; obtain ⟨z1, z2, z3, z4⟩ := cell_three hz; obtain ⟨z5, z6, z7⟩ := three_frozen hz; clear hb) | (go_at_call 58; refine (HSU.out _).mono ?_; rintro e v7 ⟨rfl, hb⟩; have hz := heap_keep hz hb; have kb := kb.step hb; obtain ⟨z1, z2, z3, z4⟩ := cell_three hz; obtain ⟨z5, z6, z7⟩ := three_frozen hz; clear hb) | (go_at_call 58; refine (HSU.out _).mono ?_; rintro e v7 ⟨rfl, hb⟩; have kb := kb.step hb; clear hb) | (go_at_call 58; refine (HSU.out _).mono ?_; rintro e v7 ⟨rfl, hb⟩; have hlt := heap_lt2 kb.hb; have hz := heap_keep (heap_alloc_new _ _) hb; have kb := (kb.step (below_one _ _)).step hb; obtain ⟨z1, z2, z3, z4⟩ := cell_three hz; obtain ⟨z5, z6, z7⟩ := three_frozen hz; clear hb) | (go_at_call 59; refine (HOP.out _).mono ?_; rintro e v8 ⟨rfl, hb⟩; have hz := heap_keep hz hb; have kb := kb.step hb; obtain ⟨z1, z2, z3, z4⟩ := cell_three hz; obtain ⟨z5, z6, z7⟩ := three_frozen hz; clear hb) | (go_at_call 59; refine (HOP.out _).mono ?_; rintro e v8 ⟨rfl, hb⟩; have kb := kb.step hb; clear hb) | (go_at_call 59; refine (HOP.out _).mono ?_; rintro e v8 ⟨rfl, hb⟩; have hlt := heap_lt2 kb.hb; have hz := heap_keep (heap_alloc_new _ _) hb; have kb := (kb.step (below_one _ _)).step hb; obtain ⟨z1, z2, z3, z4⟩ := cell_three hz; obtain ⟨z5, z6, z7⟩ := three_frozen hz; clear hb))
      all_goals
        first
          | (have HX := Lib.hid (three_set hz (.int .u64 (hiN X.natAbs)) (.int .u64 (loN X.natAbs)) (.bool (decide (X < 0))))
             have HY := Lib.hid (kb.belowX hlt (.int .u64 (hiN X.natAbs)) (.int .u64 (loN X.natAbs)) (.bool (decide (X < 0))))
             go_wp2_with fail
             go_meet
             exact ⟨_, rfl, HX, HY⟩)
          | (have HX := Lib.hid (heap_alloc_new v7 (.cells #[.int .u64 (hiN X.natAbs), .int .u64 (loN X.natAbs), .bool (decide (X < 0))] 54))
             have HY := Lib.hid (kb.step (below_one v7 (.cells #[.int .u64 (hiN X.natAbs), .int .u64 (loN X.natAbs), .bool (decide (X < 0))] 54))).below
             go_wp2_with fail
             go_meet
             exact ⟨_, rfl, HX, HY⟩)
    case rest =>
      obtain ⟨g, rfl, H5, HB⟩ := hcut
      obtain ⟨c1, c2, c3, _⟩ := cell_three H5.out
      go_wp2_with fail
      refine (HSZ.out _).mono ?_
      rintro e w4 ⟨rfl, hb⟩
      have H6 := Lib.hid (heap_keep H5.out hb)
      have HB4 := Lib.hid (HB.out.trans (hb.mono HB.out.size))
      clear hb c1 c2 c3 H5 HB
      obtain ⟨c1, c2, c3, _⟩ := cell_three H6.out
      rcases Int.lt_trichotomy X 0 with hx | hx | hx
      · have d1 : decide (X.natAbs = 0) = false := decide_eq_false (by omega)
        have d2 : decide (X < 0) = true := decide_eq_true hx
        have HR := Lib.hid (HE.out.trans (cmpI_neg hx))
        rw [d1]
        rw [d2] at c3
        clear hx HE d1 d2
        go_wp2
        go_ret
        exact ⟨by rw [HR.out]; rfl, HB4.out⟩
      · have d1 : decide (X.natAbs = 0) = true := decide_eq_true (by omega)
        have HR := Lib.hid (show AP = 0 by rw [HE.out, hx]; rfl)
        rw [d1]
        clear hx HE d1
        go_wp2
        go_ret
        exact ⟨by rw [HR.out]; rfl, HB4.out⟩
      · have d1 : decide (X.natAbs = 0) = false := decide_eq_false (by omega)
        have d2 : decide (X < 0) = false := decide_eq_false (by omega)
        have HR := Lib.hid (HE.out.trans (cmpI_pos hx))
        rw [d1]
        rw [d2] at c3
        clear hx HE d1 d2
        go_wp2
        go_ret
        exact ⟨by rw [HR.out]; rfl, HB4.out⟩

end Go.Proofs.YtmgdhlcgbgpgpaaDoor
