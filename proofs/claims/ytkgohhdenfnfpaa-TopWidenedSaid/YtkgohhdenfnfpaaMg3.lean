/- Texts of ours, laid together: De, Dy, Db, Br, Dc, Dd, Do, Ob, Oc, Od, Oe, Pw. -/
import Derived.Deep.RegionWith
import Derived.Test.YtkgohhdenfnfpaaProg
import Derived.Lib.Hide
import Derived.Deep.LoopGhost
import Derived.Deep.QuietTactic
import Derived.BigQuiet
import Derived.BigRegion
import Derived.StillTailTactics
import Derived.KernelRfl
import Derived.Test.YtkgohhdenfnfpaaMg2
/- What is asked of zones: Dim, Empty, Cell, Cells, Includes. -/
namespace Go.Proofs.Ytkgohhdenfnfpaa
open Go.RowKit
set_option linter.unusedVariables false
set_option linter.unusedSimpArgs false
attribute [local go_sem] min_ints max_ints

set_option maxHeartbeats 400000 in
theorem dim_nil (w : World) : Calls Try.prog 17 #[.pointer none] w fun e w' => e = .returned (.int .i64 0) ∧ w = w' := by
  go_enter Try.func17, Try.ntmps17
  go_wp2
  go_ret
  exact ⟨rfl, rfl⟩
set_option maxHeartbeats 400000 in
theorem dim_zone (b n : Nat) (m : Mat) (w : World) (h : MatAt w b 62 .i32 n m) : Calls Try.prog 17 #[.pointer (some ⟨b, 0, none⟩)] w fun e w' => e = .returned (.int .i64 n) ∧ w = w' := by
  have h0 := h.head
  clear h
  go_enter Try.func17, Try.ntmps17
  go_wp2
  go_ret
  exact ⟨rfl, rfl⟩
set_option maxHeartbeats 400000 in
theorem empty_nil (w : World) : Calls Try.prog 6 #[.pointer none] w fun e w' => e = .returned (.bool false) ∧ w = w' := by
  go_enter Try.func6, Try.ntmps6
  go_wp2
  go_ret
  exact ⟨rfl, rfl⟩
set_option maxHeartbeats 400000 in
theorem empty_zone (b n : Nat) (m : Mat) (w : World) (h : MatAt w b 62 .i32 n m) : Calls Try.prog 6 #[.pointer (some ⟨b, 0, none⟩)] w fun e w' => e = .returned (.bool (decide (m 0 0 < 1))) ∧ w = w' := by
  have h0 := h.cell 0 0 (by omega) (by omega)
  simp only [Nat.zero_mul, Nat.add_zero] at h0
  clear h
  go_enter Try.func6, Try.ntmps6
  go_wp2
  go_ret
  exact ⟨rfl, rfl⟩

/-- What Cell answers. -/
def cellP (n : Nat) (m : Mat) (i j : Int) : Int × Int := if 0 ≤ i ∧ i ≤ n ∧ 0 ≤ j ∧ j ≤ n then (m i.toNat j.toNat, 0) else (0, 12)
set_option maxHeartbeats 400000 in
theorem cell_nil (i j : Int) (w : World) : Calls Try.prog 53 #[.pointer none, .int .i64 i, .int .i64 j] w fun e w' => e = .returned (.tuple #[.int .i32 0, .int .i64 1]) ∧ w = w' := by
  go_enter Try.func53, Try.ntmps53
  go_wp2
  go_ret2
  exact ⟨rfl, rfl⟩
set_option maxRecDepth 100000 in
set_option maxHeartbeats 1000000 in
theorem cell_zone (b n : Nat) (m : Mat) (i j : Int) (w : World) (hn : n ≤ 8) (h : MatAt w b 62 .i32 n m) :
    Calls Try.prog 53 #[.pointer (some ⟨b, 0, none⟩), .int .i64 i, .int .i64 j] w fun e w' => e = .returned (.tuple #[.int .i32 (cellP n m i j).1, .int .i64 (cellP n m i j).2]) ∧ w = w' := by
  have h0 := h.head
  have H := Lib.hid h
  clear h
  by_cases a1 : i < 0
  · have hz : cellP n m i j = (0, 12) := by unfold cellP; rw [if_neg (by omega)]
    rw [hz]
    clear hz
    have d1 : decide (i < 0) = true := decide_eq_true a1
    go_enter Try.func53, Try.ntmps53
    go_wp2
    go_ret2
    exact ⟨rfl, rfl⟩
  · have d1 : decide (i < 0) = false := decide_eq_false a1
    by_cases a2 : (n : Int) < i
    · have hz : cellP n m i j = (0, 12) := by unfold cellP; rw [if_neg (by omega)]
      rw [hz]
      clear hz
      have d2 : decide ((n : Int) < i) = true := decide_eq_true a2
      go_enter Try.func53, Try.ntmps53
      go_wp2
      go_ret2
      exact ⟨rfl, rfl⟩
    · have d2 : decide ((n : Int) < i) = false := decide_eq_false a2
      by_cases a3 : j < 0
      · have hz : cellP n m i j = (0, 12) := by unfold cellP; rw [if_neg (by omega)]
        rw [hz]
        clear hz
        have d3 : decide (j < 0) = true := decide_eq_true a3
        go_enter Try.func53, Try.ntmps53
        go_wp2
        go_ret2
        exact ⟨rfl, rfl⟩
      · have d3 : decide (j < 0) = false := decide_eq_false a3
        by_cases a4 : (n : Int) < j
        · have hz : cellP n m i j = (0, 12) := by unfold cellP; rw [if_neg (by omega)]
          rw [hz]
          clear hz
          have d4 : decide ((n : Int) < j) = true := decide_eq_true a4
          go_enter Try.func53, Try.ntmps53
          go_wp2
          go_ret2
          exact ⟨rfl, rfl⟩
        · have d4 : decide ((n : Int) < j) = false := decide_eq_false a4
          obtain ⟨p, rfl⟩ : ∃ p : Nat, i = p := ⟨i.toNat, by omega⟩
          obtain ⟨q, rfl⟩ : ∃ q : Nat, j = q := ⟨j.toNat, by omega⟩
          have hz : cellP n m p q = (m p q, 0) := by unfold cellP; rw [if_pos (by omega)]; rfl
          rw [hz]
          clear hz
          have hc := H.out.cell p q (by omega) (by omega)
          go_enter Try.func53, Try.ntmps53
          go_wp2
          go_ret2
          exact ⟨rfl, rfl⟩

theorem infoB : (Try.prog.info? 41).map (fun i => (i.zero, i.size, i.bytes)) = some (some (.int .i32 0), 1, 4) := by kernel_rfl
theorem addr_add (g o j : Nat) : (⟨g, o, none⟩ : Addr).add j = ⟨g, o + j, none⟩ := by unfold Addr.add; split <;> simp_all

theorem slice_row (g o n : Nat) (hn : n ≤ 8) (w : World) :
    (Instr.sliceAt 57 (.pointer (some ⟨g, o, none⟩)) none (some (.int .i64 ((n : Int) + 1))) none).run Try.prog w = .ok (.slice (some ⟨g, o, none⟩) (n + 1) 9) w := by
  have hl : Try.prog.arrayLen 57 = 9 := by kernel_rfl
  have hu : Try.prog.underlying 57 = some (.array (Try.prog.arrayLen 57) (Try.prog.elem 57)) := by kernel_rfl
  have hs : (sizeOf (Try.prog.elem 57)).run Try.prog w = .ok 1 w := by kernel_rfl
  rw [run_sliceAt_array_h w _ _ hu .i64 _ (by omega) (by rw [hl]; omega), hs, hl]
  have e : ((n : Int) + 1).toNat = n + 1 := by omega
  simp [slicedAt, e, Addr.add]

theorem own_drew {w : World} {base : Nat} {e : TypeId} {size n : Nat} {v : Value} {xs : List Value} (h : w.ownsRow base e size v n xs) : w.drew.ownsRow base e size v n xs := h
theorem row_cells {w : World} {b n N : Nat} {T : TypeId} {k : IntKind} {m : Mat} (h : MatAt w b T k N m) {i : Nat} (hi : i < 9) (hn : n ≤ 8) :
    ∀ j u, ((List.range (n + 1)).map (fun c => Value.int k (m i c)))[j]? = some u → w.cell? ((⟨b, 1 + i * 9, none⟩ : Addr).add j) = some u := by
  intro j u hu
  rw [addr_add]
  rw [List.getElem?_map] at hu
  by_cases hj : j < n + 1
  · simp [hj] at hu
    subst hu
    exact h.cell i j hi (by omega)
  · simp [hj] at hu

/-- The rows that all has gathered. -/
def AllR (w0 : World) (b n : Nat) (m : Mat) (i : Nat) (v : Value) (wr : World) : Prop :=
  Below w0.heap.size w0 wr ∧ wr.ownsRow w0.heap.size 41 1 v (i * (n + 1)) (vals .i32 (rowsL n m i)) ∧ i ≤ n + 1

set_option maxRecDepth 100000 in
set_option maxHeartbeats 1000000 in
theorem all_any (b n : Nat) (m : Mat) (w : World) (hn : n ≤ 8) (h : MatAt w b 62 .i32 n m) :
    Calls Try.prog 29 #[.pointer (some ⟨b, 0, none⟩)] w fun e w' => ∃ v, e = .returned v ∧ AllR w b n m (n + 1) v w' := by
  have h0 := h.head
  have H := Lib.hid h
  clear h
  obtain ⟨i0, hi, hz0, hz1, hz2⟩ := info_parts infoB
  have HI := Lib.hid (And.intro hi (And.intro hz0 (And.intro hz1 hz2)))
  clear hi hz0 hz1 hz2
  have HS := Lib.hid (show AllR w b n m 0 (.slice none 0 0) w from ⟨Below.refl _ _, by simpa [rowsL, vals] using World.ownsRow_nil w _ _ _, by omega⟩)
  go_enter Try.func29, Try.ntmps29
  go_wp2
  go_loopg [3, 10] (n + 1) (fun g v x wr => ∃ i : Nat, x = .int .i64 i ∧ AllR w b n m i v wr ∧ Hid (g + i = n + 1))
  case atStart => exact ⟨0, by simp, HS.out, by show _ = _; omega⟩
  case round =>
    clear HS h0
    obtain ⟨i, rfl, HA, HG⟩ := hrel
    have HR := Lib.hid HA
    have hm := H.out.later HA.1
    have h0 := hm.head
    have HM := Lib.hid hm
    clear HA hm
    by_cases hi : i < n + 1
    · have hii : (i : Int) < (n : Int) + 1 := by omega
      have i9 : (i : Int) < 9 := by omega
      have n9 : (n : Int) + 1 ≤ 9 := by omega
      have g1 : IntKind.i64.wrap ((n : Int) + 1) = (n : Int) + 1 := IntWalk.i64_in _ (by omega)
      have D0 := Lib.hid (show wr.drew.cell? _ = _ from h0)
      have hin : i * (n + 1) ≤ 8 * 9 := Nat.mul_le_mul (by omega) (by omega)
      have hsl := slice_row b (1 + i * 9) n hn
      go_wp2_with fail
      refine wp_region_still_tail 12 (by kernel_rfl) (by kernel_rfl) ?_
      simp only [List.take_succ_cons, List.take_zero, List.drop_succ_cons, List.drop_zero]
      change wpStill _ _ wr.drew _ _ _
      generalize wr.drew = w2 at *
      have d0 := D0.out
      clear D0
      repeat still_step
      refine wpStill_nil ?_
      go_wp2_with (at_builtin; refine wpList_append_own _ rfl _ _ 49 rfl w.heap.size 41 i0 (.int .i32 0) 1 4 Try.underlying49 HI.out.1 HI.out.2.1 HI.out.2.2.1 HI.out.2.2.2 rfl (by decide) _ _ _ rfl (own_drew HR.out.2.1) ⟨b, 1 + i * 9, none⟩ (n + 1) 9 ((List.range (n + 1)).map (fun c => Value.int .i32 (m i c))) rfl (by simp) (row_cells HM.out.drew (by omega) hn) (by intro u hu; obtain ⟨c, _, rfl⟩ := List.mem_map.1 hu; rfl) ?c3 ?c4 ?c5 ?_)
      case c3 => unfold maxLen; omega
      case c4 => omega
      case c5 => exact HR.out.1.size
      intro v' w3 hown hgrow _
      have HN := Lib.hid (show AllR w b n m (i + 1) v' w3 from by
        refine ⟨(Below.drew HR.out.1).grown hgrow HR.out.1.size (fun k hk => ?_), ?_, by omega⟩
        · exact (HR.out.2.1.lt k hk).1
        · have e : (i + 1) * (n + 1) = i * (n + 1) + (n + 1) := by rw [Nat.add_mul]; omega
          rw [e]
          have e2 : vals .i32 (rowsL n m (i + 1)) = vals .i32 (rowsL n m i) ++ (List.range (n + 1)).map (fun c => Value.int .i32 (m i c)) := by
            simp [vals, rowsL]
          rw [e2, List.range_succ, List.map_append]; exact hown)
      clear hown hgrow
      go_wp2
      go_roundg (gk - 1)
      case measure => have h := HG.out; omega
      case rel => exact ⟨i + 1, by go_num, HN.out, by have h := HG.out; show _ = _; omega⟩
    · have hii : ¬ (i : Int) < (n : Int) + 1 := by omega
      have e : i = n + 1 := by have := HR.out.2.2; omega
      subst e
      go_wp2
      go_ret
      exact ⟨_, rfl, HR.out⟩

/-- A slice that cells tells: all of them, in new memory. -/
theorem AllR.own {w0 wr : World} {b n : Nat} {m : Mat} {v : Value} (h : AllR w0 b n m (n + 1) v wr) : OwnI wr w0.heap.size 41 .i32 v (flat n m) := by
  unfold OwnI
  rw [flat_length]; exact h.2.1

theorem cells_nil (w : World) : Calls Try.prog 18 #[.pointer none] w fun e w' => e = .returned (.slice none 0 0) ∧ w = w' := by
  go_enter Try.func18, Try.ntmps18
  go_wp2
  go_ret
  exact ⟨rfl, rfl⟩
set_option maxRecDepth 100000 in
set_option maxHeartbeats 1000000 in
theorem cells_zone (b n : Nat) (m : Mat) (w : World) (hn : n ≤ 8) (h : MatAt w b 62 .i32 n m) :
    Calls Try.prog 18 #[.pointer (some ⟨b, 0, none⟩)] w fun e w' => ∃ v, e = .returned v ∧ Below w.heap.size w w' ∧ OwnI w' w.heap.size 41 .i32 v (flat n m) := by
  go_enter Try.func18, Try.ntmps18
  go_wp2_with fail
  refine (all_any b n m _ hn h).mono ?_
  rintro e w1 ⟨v, rfl, hA⟩
  have HA := Lib.hid hA
  clear hA h
  go_wp2
  go_ret
  exact ⟨v, rfl, HA.out.1, HA.out.own⟩

/-! ### are two of as many clocks? -/
def alikeP (z o : Option (Nat × Mat)) : Bool := match z, o with
  | some (n, _), some (k, _) => decide (n = k)
  | _, _ => false
theorem alike_nil (v : Value) (w : World) : Calls Try.prog 26 #[.pointer none, v] w fun e w' => e = .returned (.bool false) ∧ ∃ q, w' = w.drewN q := by
  go_enter Try.func26, Try.ntmps26
  go_wp2
  go_quiet (fail)
  go_wp2
  go_ret
  exact ⟨rfl, _, rfl⟩

set_option maxRecDepth 100000 in
theorem alike_none (b n : Nat) (m : Mat) (w : World) (h : MatAt w b 62 .i32 n m) : Calls Try.prog 26 #[.pointer (some ⟨b, 0, none⟩), .pointer none] w fun e w' => e = .returned (.bool false) ∧ ∃ q, w' = w.drewN q := by
  have h0 := h.head
  clear h
  go_enter Try.func26, Try.ntmps26
  go_wp2
  go_quiet (fail)
  go_wp2
  go_ret
  exact ⟨rfl, _, rfl⟩
set_option maxRecDepth 100000 in
theorem alike_two (b n c k : Nat) (m o : Mat) (w : World) (h : MatAt w b 62 .i32 n m) (h' : MatAt w c 62 .i32 k o) :
    Calls Try.prog 26 #[.pointer (some ⟨b, 0, none⟩), .pointer (some ⟨c, 0, none⟩)] w fun e w' => e = .returned (.bool (decide ((n : Int) = k))) ∧ ∃ q, w' = w.drewN q := by
  have h0 := h.head
  have h1 := h'.head
  clear h h'
  go_enter Try.func26, Try.ntmps26
  go_wp2
  go_quiet (fail)
  go_wp2
  go_ret
  exact ⟨by congr, _, rfl⟩

theorem alike_same (b c n : Nat) (m o : Mat) (w : World) (h : MatAt w b 62 .i32 n m) (h' : MatAt w c 62 .i32 n o) :
    Calls Try.prog 26 #[.pointer (some ⟨b, 0, none⟩), .pointer (some ⟨c, 0, none⟩)] w fun e w' => e = .returned (.bool true) ∧ ∃ q, w' = w.drewN q :=
  (alike_two b n c n m o w h h').mono fun _ _ k => ⟨by rw [k.1, decide_eq_true rfl], k.2⟩
theorem alike_other (b c n k : Nat) (m o : Mat) (w : World) (h : MatAt w b 62 .i32 n m) (h' : MatAt w c 62 .i32 k o) (hne : n ≠ k) :
    Calls Try.prog 26 #[.pointer (some ⟨b, 0, none⟩), .pointer (some ⟨c, 0, none⟩)] w fun e w' => e = .returned (.bool false) ∧ ∃ q, w' = w.drewN q :=
  (alike_two b n c k m o w h h').mono fun _ _ j => ⟨by rw [j.1, decide_eq_false (by omega)], j.2⟩

end Go.Proofs.Ytkgohhdenfnfpaa

/- What is asked of the program's zones, or of nil. -/
namespace Go.Proofs.Ytkgohhdenfnfpaa
open Go Go.RowKit
set_option linter.unusedVariables false
set_option linter.unusedSimpArgs false

/-- The number of a zone's clocks. -/
def dimP (z : Option (Nat × Mat)) : Int := match z with | some (n, _) => n | none => 0
/-- All cells of a zone. -/
def cellsP (z : Option (Nat × Mat)) : List Int := match z with | some (n, m) => flat n m | none => []

/-- Has a zone no valuation? -/
def emptyP (z : Option (Nat × Mat)) : Bool := match z with | some (_, m) => decide (m 0 0 < 1) | none => false
/-- What Cell answers of a zone, or of nil. -/
def cellZ (z : Option (Nat × Mat)) (i j : Int) : Int × Int := match z with | some (n, m) => cellP n m i j | none => (0, 1)
theorem cell_any (v : Value) (z : Option (Nat × Mat)) (i j : Int) (w : World) (h : ZoneV 62 w v z) :
    Calls Try.prog 53 #[v, .int .i64 i, .int .i64 j] w fun e w' => e = .returned (.tuple #[.int .i32 (cellZ z i j).1, .int .i64 (cellZ z i j).2]) ∧ w = w' := by
  match z, h with
  | none, h =>
    have h : v = .pointer none := h
    subst h
    exact cell_nil i j w
  | some (n, m), ⟨b, e, hn, _, hm⟩ =>
    subst e
    exact cell_zone b n m i j w hn hm

/-- A slice in new memory, or nil: what Cells tells. -/
def TellsL (w0 : World) (xs : List Int) (e : Ending) (w' : World) : Prop := ∃ v, e = .returned v ∧ Below w0.heap.size w0 w' ∧ OwnI w' w0.heap.size 41 .i32 v xs
theorem tells_nil (w0 w' : World) (h : w0 = w') : TellsL w0 [] (.returned (.slice none 0 0)) w' := by
  subst h
  exact ⟨_, rfl, Below.refl _ _, by unfold OwnI; simpa [vals] using World.ownsRow_nil _ _ _ _⟩
theorem cells_any (v : Value) (z : Option (Nat × Mat)) (w : World) (h : ZoneV 62 w v z) : Calls Try.prog 18 #[v] w (TellsL w (cellsP z)) := by
  match z, h with
  | none, h =>
    have h : v = .pointer none := h
    subst h
    refine (cells_nil w).mono ?_
    rintro e w' ⟨rfl, hw⟩
    exact tells_nil w w' hw
  | some (n, m), ⟨b, e, hn, _, hm⟩ =>
    subst e
    exact cells_zone b n m w hn hm

/-- The zone that Of tells of. -/
def zOf (n : Int) (cells : List Int) : Option (Nat × Mat) := (ofP n cells).1.map fun m => (n.toNat, m)
theorem cellsP_short (z : Option (Nat × Mat)) (h : ∀ n m, z = some (n, m) → n ≤ 8) : (cellsP z).length ≤ 81 := by
  match z with
  | none => simp [cellsP]
  | some (n, m) =>
    have hn := h n m rfl
    show (flat n m).length ≤ 81
    rw [flat_length]
    have := Nat.mul_le_mul (show n + 1 ≤ 9 by omega) (show n + 1 ≤ 9 by omega)
    omega


end Go.Proofs.Ytkgohhdenfnfpaa

/- How the program adds wide bounds and closes a wide matrix. -/
namespace Go.Proofs.Ytkgohhdenfnfpaa
open Go.RowKit
set_option linter.unusedVariables false
set_option linter.unusedSimpArgs false
attribute [local go_sem] min_ints max_ints

theorem mul_bits (a b : Int) : 0 ≤ (a % 2) * (b % 2) ∧ (a % 2) * (b % 2) ≤ 1 := by
  rcases two_cases a b with ⟨h, _⟩ | ⟨h, _⟩ <;> rw [h] <;> omega

set_option maxRecDepth 100000 in
set_option maxHeartbeats 1000000 in
theorem sum_fin (a b : Int) (w : World) (ha1 : -1152921504606846976 ≤ a) (ha2 : a ≤ 1152921504606846976) (hb1 : -1152921504606846976 ≤ b) (hb2 : b ≤ 1152921504606846976) :
    Calls Try.prog 42 #[.int .i64 a, .int .i64 b] w fun e w' => e = .returned (.int .i64 (wsum a b)) ∧ w = w' := by
  have t1 : (a == 4611686018427387904) = false := by simp; omega
  have t2 : (b == 4611686018427387904) = false := by simp; omega
  obtain ⟨p, hp, hp0, hp1, hp2⟩ : ∃ p, Go.bits .and .i64 (Go.bits .and .i64 a b) 1 = p ∧ 0 ≤ p ∧ p ≤ 1 ∧ p = (a % 2) * (b % 2) := ⟨_, i64_and_and1 a b, (mul_bits a b).1, (mul_bits a b).2, rfl⟩
  have HP := Lib.hid hp2
  clear hp2
  obtain ⟨x, hx, hx0, hx1, hx2⟩ : ∃ x, Go.bits .andNot .i64 a 1 = x ∧ a - 1 ≤ x ∧ x ≤ a ∧ x = a - a % 2 := ⟨_, i64_andNot1 a (by omega) (by omega), by omega, by omega, rfl⟩
  have HX := Lib.hid hx2
  clear hx2
  obtain ⟨y, hy, hy0, hy1, hy2⟩ : ∃ y, Go.bits .andNot .i64 b 1 = y ∧ b - 1 ≤ y ∧ y ≤ b ∧ y = b - b % 2 := ⟨_, i64_andNot1 b (by omega) (by omega), by omega, by omega, rfl⟩
  have HY := Lib.hid hy2
  clear hy2
  have HR : wsum a b = x + y + p := by
    unfold wsum none62
    rw [if_neg (by omega), HP.out, HX.out, HY.out]
  rw [HR]
  clear HR
  go_enter Try.func42, Try.ntmps42
  go_wp2
  go_ret
  exact ⟨rfl, rfl⟩

set_option maxRecDepth 100000 in
set_option maxHeartbeats 1000000 in
theorem sum_none_left (b : Int) (w : World) :
    Calls Try.prog 42 #[.int .i64 4611686018427387904, .int .i64 b] w fun e w' => e = .returned (.int .i64 4611686018427387904) ∧ w = w' := by
  go_enter Try.func42, Try.ntmps42
  go_wp2
  go_ret
  exact ⟨rfl, rfl⟩

set_option maxRecDepth 100000 in
set_option maxHeartbeats 1000000 in
theorem sum_none_right (a : Int) (w : World) :
    Calls Try.prog 42 #[.int .i64 a, .int .i64 4611686018427387904] w fun e w' => e = .returned (.int .i64 4611686018427387904) ∧ w = w' := by
  by_cases h : a = 4611686018427387904
  · subst h; exact sum_none_left _ _
  · have t1 : (a == 4611686018427387904) = false := by simp; omega
    clear h
    go_enter Try.func42, Try.ntmps42
    go_wp2
    go_ret
    exact ⟨rfl, rfl⟩

theorem dsum_any (a b : Int) (w : World) (ha : Bd 1152921504606846976 a) (hb : Bd 1152921504606846976 b) :
    Calls Try.prog 42 #[.int .i64 a, .int .i64 b] w fun e w' => e = .returned (.int .i64 (wsum a b)) ∧ w = w' := by
  rcases ha with rfl | ha
  · have : wsum none62 b = 4611686018427387904 := by simp [wsum, none62]
    rw [this]; exact sum_none_left _ _
  · rcases hb with rfl | hb
    · have : wsum a none62 = 4611686018427387904 := by simp [wsum, none62]
      rw [this]; exact sum_none_right _ _
    · exact sum_fin a b w ha.1 ha.2 hb.1 hb.2

theorem sum_still (a b : Int) (w : World) (ha : Bd 1152921504606846976 a) (hb : Bd 1152921504606846976 b) :
    Calls Try.prog 42 #[.int .i64 a, .int .i64 b] w fun e w' => e = .returned (.int .i64 (wsum a b)) ∧ w' = w :=
  (dsum_any a b w ha hb).mono fun _ _ h => ⟨h.1, h.2.symm⟩

/-- The machine's matrix is cur; nothing else was touched. -/
def CloseAt (w0 : World) (b n : Nat) (cur : Mat) (wr : World) : Prop := Only b w0 wr ∧ MatAt wr b 77 .i64 n cur

def OuterR (w0 : World) (b n : Nat) (m0 : Mat) (g k : Nat) (m : Mat) (wr : World) : Prop := CloseAt w0 b n m wr ∧ RoundOk n m0 k m ∧ g + k = n + 1
def MidR (w0 : World) (b n : Nat) (m : Mat) (k g i : Nat) (cur : Mat) (wr : World) : Prop :=
  CloseAt w0 b n cur wr ∧ InnerOk n (1073741824 * 4 ^ k) m k i 0 cur ∧ (∀ a, a < i → 1 ≤ fw k n m a a) ∧ i ≤ n + 1 ∧ g + i = n + 1
def InnR (w0 : World) (b n : Nat) (m : Mat) (k i g j : Nat) (cur : Mat) (wr : World) : Prop :=
  CloseAt w0 b n cur wr ∧ InnerOk n (1073741824 * 4 ^ k) m k i j cur ∧ j ≤ n + 1 ∧ g + j = n + 1

theorem CloseAt.step {w0 wr : World} {b n : Nat} {cur : Mat} (h : CloseAt w0 b n cur wr) {i j : Nat} (hi : i < 9) (hj : j < 9) (v : Int) :
    CloseAt w0 b n (upd cur i j v) (wr.setCell ⟨b, 1 + i * 9 + j, none⟩ (.int .i64 v)).drew :=
  ⟨(h.1.setCell _ _).drew, h.2.set i j hi hj v⟩

theorem InnR.bounds {w0 wr : World} {b n : Nat} {m m0 cur : Mat} {k i g j : Nat} (h : InnR w0 b n m k i g j cur wr) (hr : RoundOk n m0 k m) (hn : n ≤ 8) (hk : k ≤ n) (hi : i ≤ n) (hj : j ≤ n) :
    Bd 1152921504606846976 (cur i j) ∧ Bd 1152921504606846976 (cur i k) ∧ Bd 1152921504606846976 (cur k j) := by
  have h4 := pow2_le (show k ≤ 9 by omega)
  have h1 := one_le_pow2 k
  have := h.2.1.bounds hr.fit (by omega) hk hi hj
  exact ⟨this.1.mono (by omega), this.2.1.mono (by omega), this.2.2.mono (by omega)⟩

theorem InnR.step {w0 wr : World} {b n : Nat} {m m0 cur : Mat} {k i g j : Nat} (h : InnR w0 b n m k i g j cur wr) (hr : RoundOk n m0 k m) (hn : n ≤ 8) (hk : k ≤ n) (hi : i ≤ n) (hj : j ≤ n) :
    InnR w0 b n m k i (g - 1) (j + 1) (upd cur i j (min (cur i j) (wsum (cur i k) (cur k j)))) (wr.setCell ⟨b, 1 + i * 9 + j, none⟩ (.int .i64 (min (cur i j) (wsum (cur i k) (cur k j))))).drew := by
  have h1 := one_le_pow2 k
  have := h.2.2.2
  exact ⟨h.1.step (by omega) (by omega) _, h.2.1.step hr.fit (by omega) hk hi hj, by omega, by omega⟩

theorem InnR.next {w0 wr : World} {b n : Nat} {m cur : Mat} {k i g j : Nat} (h : InnR w0 b n m k i g j cur wr) (hj : ¬ j < n + 1) (hd : 1 ≤ cur i i) (hi : i ≤ n) (hall : ∀ a, a < i → 1 ≤ fw k n m a a) :
    MidR w0 b n m k (n - i) (i + 1) cur wr := by
  have e : j = n + 1 := by have := h.2.2.1; omega
  subst e
  obtain ⟨h1, h2, h3⟩ := (h.2.1.row hi).2 hd
  refine ⟨h.1, h3, fun a ha => ?_, by omega, by omega⟩
  by_cases e : a = i
  · subst e; exact h2
  · exact hall a (by omega)

theorem InnR.fail {w0 wr : World} {b n : Nat} {m m0 cur : Mat} {k i g j : Nat} (h : InnR w0 b n m k i g j cur wr) (hr : RoundOk n m0 k m) (hj : ¬ j < n + 1) (hd : cur i i < 1) (hk : k ≤ n) (hi : i ≤ n) : closed n m0 = none := by
  have e : j = n + 1 := by have := h.2.2.1; omega
  subst e
  exact hr.fail hk hi ((h.2.1.row hi).1 hd)

theorem MidR.next {w0 wr : World} {b n : Nat} {m m0 cur : Mat} {k i g : Nat} (h : MidR w0 b n m k g i cur wr) (hr : RoundOk n m0 k m) (hi : ¬ i < n + 1) (hk : k ≤ n) :
    OuterR w0 b n m0 (n - k) (k + 1) cur wr := by
  have e : i = n + 1 := by have := h.2.2.2.1; omega
  subst e
  exact ⟨h.1, hr.next hk h.2.1 (fun a ha => h.2.2.1 a (by omega)), by omega⟩

/-- What close answers. -/
def CloseEnds (w0 : World) (b n : Nat) (m0 : Mat) (e : Ending) (w' : World) : Prop :=
  Only b w0 w' ∧ ((closed n m0 = none ∧ e = .returned (.bool false)) ∨ ∃ m', closed n m0 = some m' ∧ e = .returned (.bool true) ∧ MatAt w' b 77 .i64 n m')

set_option maxRecDepth 100000 in
set_option maxHeartbeats 2000000 in
theorem close_any (b n : Nat) (m0 : Mat) (w : World) (hn : n ≤ 8) (h : MatAt w b 77 .i64 n m0) (hf : Fit n 1073741824 m0) :
    Calls Try.prog 27 #[.pointer (some ⟨b, 0, none⟩)] w (CloseEnds w b n m0) := by
  have H0 := Lib.hid (show OuterR w b n m0 (n + 1) 0 m0 w from ⟨⟨Only.refl _ _, h⟩, RoundOk.start hf, by omega⟩)
  have h0 := h.head
  clear h hf
  go_enter Try.func27, Try.ntmps27
  go_wp2
  go_loopg [11] (n + 1) (fun g v wr => ∃ k : Nat, ∃ m, v = .int .i64 k ∧ OuterR w b n m0 g k m wr)
  case atStart => exact ⟨0, m0, by simp, H0.out⟩
  case round =>
    clear H0 h0
    obtain ⟨k, m, rfl, H⟩ := hrel
    have HK := Lib.hid H
    have h0 := H.1.2.head
    clear H
    by_cases hk : k < n + 1
    · have hkk : (k : Int) < (n : Int) + 1 := by omega
      have H1 := Lib.hid (show MidR w b n m k (n + 1) 0 m wr from ⟨HK.out.1, HK.out.2.1.inner (by omega), fun a ha => by omega, by omega, by omega⟩)
      go_wp2
      go_loopg [19] (n + 1) (fun g v wr => ∃ i : Nat, ∃ cur, v = .int .i64 i ∧ MidR w b n m k g i cur wr)
      case atStart => exact ⟨0, m, by simp, H1.out⟩
      case round =>
        clear H1 h0
        obtain ⟨i, cur, rfl, H⟩ := hrel
        have HI := Lib.hid H
        have h0 := H.1.2.head
        clear H
        by_cases hi : i < n + 1
        · have hii : (i : Int) < (n : Int) + 1 := by omega
          have H1 := Lib.hid (show InnR w b n m k i (n + 1) 0 cur wr from ⟨HI.out.1, HI.out.2.1, by omega, by omega⟩)
          go_wp2
          go_loopg [27] (n + 1) (fun g v wr => ∃ j : Nat, ∃ cur, v = .int .i64 j ∧ InnR w b n m k i g j cur wr)
          case atStart => exact ⟨0, cur, by simp, H1.out⟩
          case round =>
            clear H1 h0
            obtain ⟨j, cur, rfl, H⟩ := hrel
            have HJ := Lib.hid H
            by_cases hj : j < n + 1
            · have hjj : (j : Int) < (n : Int) + 1 := by omega
              have c1 := H.1.2.cell i j (by omega) (by omega)
              have c2 := H.1.2.cell i k (by omega) (by omega)
              have c3 := H.1.2.cell k j (by omega) (by omega)
              have f1 := H.1.2.frozen (1 + i * 9 + j)
              clear H
              have HB := Lib.hid (HJ.out.bounds HK.out.2.1 hn (by omega) (by omega) (by omega))
              have HS := Lib.hid (HJ.out.step HK.out.2.1 hn (by omega) (by omega) (by omega))
              have i9 : (i : Int) < 9 := by omega
              have j9 : (j : Int) < 9 := by omega
              have k9 : (k : Int) < 9 := by omega
              have C1 := Lib.hid (show wr.drew.cell? _ = _ from c1)
              have C2 := Lib.hid (show wr.drew.cell? _ = _ from c2)
              have C3 := Lib.hid (show wr.drew.cell? _ = _ from c3)
              go_wp2
              refine wp_region_still_tail 33 (by kernel_rfl) (by kernel_rfl) ?_
              simp only [List.take_succ_cons, List.take_zero, List.drop_succ_cons, List.drop_zero]
              change wpStill _ _ wr.drew _ _ _
              generalize wr.drew = w2 at *
              have d1 := C1.out
              have d2 := C2.out
              have d3 := C3.out
              clear C1 C2 C3
              repeat still_step
              still_call (sum_still _ _ _ HB.out.2.1 HB.out.2.2)
              repeat still_step
              refine wpStill_nil ?_
              go_wp2
              go_roundg (gk - 1)
              case measure => have := HJ.out.2.2.2; omega
              case rel => exact ⟨j + 1, _, by go_num, HS.out⟩
            · have hjj : ¬ (j : Int) < (n : Int) + 1 := by omega
              have c1 := H.1.2.cell i i (by omega) (by omega)
              have h0 := H.1.2.head
              clear H
              by_cases hd : cur i i < 1
              · go_wp2
                go_ret
                exact ⟨HJ.out.1.1, .inl ⟨HJ.out.fail HK.out.2.1 hj hd (by omega) (by omega), rfl⟩⟩
              · go_wp2
                go_roundg (n - i)
                case measure => have := HI.out.2.2.2.2; omega
                case rel =>
                  exact ⟨i + 1, _, by go_num, HJ.out.next hj (by omega) (by omega) HI.out.2.2.1⟩
        · have hii : ¬ (i : Int) < (n : Int) + 1 := by omega
          go_wp2
          go_roundg (n - k)
          case measure => have := HK.out.2.2; omega
          case rel =>
            exact ⟨k + 1, _, by go_num, HI.out.next HK.out.2.1 hi (by omega)⟩
    · have hkk : ¬ (k : Int) < (n : Int) + 1 := by omega
      go_wp2
      go_ret
      have e : k = n + 1 := by have := HK.out.2.1.le; omega
      subst e
      exact ⟨HK.out.1.1, .inr ⟨m, HK.out.2.1.done, rfl, HK.out.1.2⟩⟩

end Go.Proofs.Ytkgohhdenfnfpaa

/- Is a bound right? -/
namespace Go.Proofs.Ytkgohhdenfnfpaa
open Go Go.RowKit
set_option linter.unusedVariables false
set_option linter.unusedSimpArgs false

set_option maxHeartbeats 400000 in
theorem right_any (b : Int) (w : World) : Calls Try.prog 14 #[.int .i32 b] w fun e w' => e = .returned (.bool (rightB b)) ∧ w = w' := by
  unfold rightB
  by_cases h0 : b = 2147483647
  · subst h0
    go_enter Try.func14, Try.ntmps14
    go_wp2
    go_ret
    exact ⟨by simp, rfl⟩
  · have t0 : (b == 2147483647) = false := by simp [h0]
    by_cases h1 : -536870912 ≤ b
    · have d1 : decide ((-536870912 : Int) ≤ b) = true := decide_eq_true h1
      by_cases h2 : b ≤ 536870913
      all_goals
        go_enter Try.func14, Try.ntmps14
        go_wp2
        go_ret
        exact ⟨by simp [*], rfl⟩
    · have d1 : decide ((-536870912 : Int) ≤ b) = false := decide_eq_false h1
      go_enter Try.func14, Try.ntmps14
      go_wp2
      go_ret
      exact ⟨by simp [*], rfl⟩


theorem right_yes (b : Int) (w : World) (h : rightB b = true) : Calls Try.prog 14 #[.int .i32 b] w fun e w' => e = .returned (.bool true) ∧ w = w' :=
  (right_any b w).mono fun _ _ k => ⟨by rw [k.1, h], k.2⟩
theorem right_no (b : Int) (w : World) (h : rightB b = false) : Calls Try.prog 14 #[.int .i32 b] w fun e w' => e = .returned (.bool false) ∧ w = w' :=
  (right_any b w).mono fun _ _ k => ⟨by rw [k.1, h], k.2⟩

end Go.Proofs.Ytkgohhdenfnfpaa

/- What zone makes of a wide matrix: the zone, or the error. -/
namespace Go.Proofs.Ytkgohhdenfnfpaa
open Go.RowKit
set_option linter.unusedVariables false
set_option linter.unusedSimpArgs false
attribute [local go_sem] min_ints max_ints


theorem zero_matrix (n : Nat) : (Try.zeroCells60).setIfInBounds 0 (Value.int .i64 n) = matCells .i32 n (fun _ _ => 0) := rfl

theorem size_matrix : (Try.prog.info? 60).map (·.size) = some 82 := by kernel_rfl

theorem zone_lay (n : Nat) (m : Mat) : Array.foldl (fun (cs : Array Value) (x : Value × Nat) => cs.setIfInBounds x.snd x.fst) Try.zeroCells62 (matCells .i32 n m).zipIdx 0 82 = matCells .i32 n m := by
  have h := lay_whole (matCells .i32 n m) Try.zeroCells62 (by rw [matCells_size]; rfl)
  rw [matCells_size] at h
  exact h

/-- The narrow matrix while it is filled. -/
def FillR (w1 : World) (b b2 n : Nat) (m : Mat) (g i j : Nat) (wr : World) : Prop :=
  Only b2 w1 wr ∧ MatAt wr b 77 .i64 n m ∧ MatAt wr b2 60 .i32 n (filled (narM n m) i j) ∧ (∀ a c, a < i ∨ (a = i ∧ c < j) → c ≤ n → inR (m a c)) ∧ i ≤ n + 1 ∧ j ≤ n + 1

theorem FillR.step {w1 wr : World} {b b2 n : Nat} {m : Mat} {g g' i j : Nat} (h : FillR w1 b b2 n m g i j wr) (hn : n ≤ 8) (hb : b ≠ b2) (hi : i < n + 1) (hj : j < n + 1) (hr : inR (m i j)) (v : Int) (hv : v = nar (m i j)) :
    FillR w1 b b2 n m g' i (j + 1) (wr.setCell ⟨b2, 1 + i * 9 + j, none⟩ (.int .i32 v)) := by
  have e : nar (m i j) = narM n m i j := by unfold narM; rw [if_pos (by omega)]
  have h3 := h.2.2.1.set i j (by omega) (by omega) v
  rw [hv, e, upd_filled] at h3
  rw [hv, e]
  refine ⟨h.1.setCell _ _, h.2.1.only ((Only.refl _ _).setCell _ _) hb, h3, fun a c hac hc => ?_, h.2.2.2.2.1, by omega⟩
  by_cases e : a = i ∧ c = j
  · obtain ⟨rfl, rfl⟩ := e; exact hr
  · exact h.2.2.2.1 a c (by omega) hc
theorem FillR.row {w1 wr : World} {b b2 n : Nat} {m : Mat} {g g' i j : Nat} (h : FillR w1 b b2 n m g i j wr) (hi : i < n + 1) (hj : ¬ j < n + 1) : FillR w1 b b2 n m g' (i + 1) 0 wr := by
  have e : j = n + 1 := by have := h.2.2.2.2.2; omega
  subst e
  refine ⟨h.1, h.2.1, by rw [filled_row (narM_inside n m)]; exact h.2.2.1, fun a c hac hc => h.2.2.2.1 a c (by omega) hc, by omega, by omega⟩
theorem FillR.done {w1 wr : World} {b b2 n : Nat} {m : Mat} {g i : Nat} (h : FillR w1 b b2 n m g i 0 wr) (hi : ¬ i < n + 1) :
    Only b2 w1 wr ∧ MatAt wr b2 60 .i32 n (narM n m) ∧ allR n m := by
  have e : i = n + 1 := by have := h.2.2.2.2.1; omega
  subst e
  refine ⟨h.1, ?_, fun a ha c hc => h.2.2.2.1 a c (by omega) hc⟩
  have := h.2.2.1
  rw [filled_done (narM_inside n m)] at this
  exact this

/-- What zone answers: v and the number of the error. -/
def ZoneEnds (w0 : World) (b n : Nat) (m0 : Mat) (e : Ending) (w' : World) : Prop :=
  Only b w0 w' ∧ ∃ v, e = .returned (.tuple #[v, .int .i64 (zoneP n m0).2]) ∧ ZoneV 62 w' v ((zoneP n m0).1.map fun m => (n, m))

theorem zone_made {w1 : World} {c n : Nat} {m : Mat} (h : MatAt w1 c 60 .i32 n m) : MatAt (w1.alloc (.cells (matCells .i32 n m) 62)) w1.heap.size 62 .i32 n m := by
  unfold MatAt; exact heap_alloc_new _ _

set_option maxRecDepth 100000 in
set_option maxHeartbeats 2000000 in
theorem zone_any (b n : Nat) (m0 : Mat) (w : World) (hn : n ≤ 8) (h : MatAt w b 77 .i64 n m0) (hf : Fit n 1073741824 m0) :
    Calls Try.prog 16 #[.pointer (some ⟨b, 0, none⟩)] w (ZoneEnds w b n m0) := by
  have h0 := h.head
  have hlt := h.lt
  have HF := Lib.hid hf
  have HM := Lib.hid (show MatAt (w.alloc (.cells (matCells .i32 n (fun _ _ => 0)) 60)) w.heap.size 60 .i32 n (fun _ _ => 0) from by unfold MatAt; exact heap_alloc_new _ _)
  have HB := Lib.hid (h.alloc (.cells (matCells .i32 n (fun _ _ => 0)) 60))
  clear h hf
  have hz0 := zero_matrix n
  go_enter Try.func16, Try.ntmps16
  go_wp2_with fail
  refine (close_any b n m0 _ hn HB.out HF.out).mono ?_
  rintro e w1 ⟨ho, hcl⟩
  have HO := Lib.hid ho
  have hsz : w.heap.size < w1.heap.size := by have := ho.size; simp at this; omega
  have hM1 : MatAt w1 w.heap.size 60 .i32 n (fun _ _ => 0) := HM.out.only ho (by omega)
  have HM1 := Lib.hid hM1
  clear ho hz0
  rcases hcl with ⟨hc, rfl⟩ | ⟨m', hc, rfl, hm⟩
  · have HC := Lib.hid hc
    have hb := zone_lay n (fun _ _ => 0)
    have hs := matCells_size .i32 n (fun _ _ => 0)
    clear hc hM1
    go_wp2_with (refine wpList_load_row rfl 60 _ rfl w.heap.size rfl 60 _ (0, 0) _ HM1.out Try.underlying60 rfl (by rw [matCells_size]; exact size_matrix) ?_)
    go_ret2
    have hz : zoneP n m0 = (some (fun _ _ => 0), 0) := by unfold zoneP; rw [HC.out]
    exact ⟨(((Only.refl _ _).alloc _).trans HO.out).alloc _, .pointer (some ⟨w1.heap.size, 0, none⟩), by rw [hz]; rfl, by rw [hz]; exact ⟨_, rfl, hn, right_zero n, zone_made HM1.out⟩⟩
  · have HC := Lib.hid hc
    have h0 := hm.head
    have HS := Lib.hid (show FillR w1 b w.heap.size n m' (n + 1) 0 0 w1 from ⟨Only.refl _ _, hm, by rw [filled_zero]; exact HM1.out, fun a c h => by omega, by omega, by omega⟩)
    clear hc hm hM1
    go_wp2
    go_loopg [27] (n + 1) (fun g v wr => ∃ i : Nat, v = .int .i64 i ∧ FillR w1 b w.heap.size n m' g i 0 wr ∧ g + i = n + 1)
    case atStart => exact ⟨0, by simp, HS.out, by omega⟩
    case round =>
      clear HS h0
      obtain ⟨i, rfl, H, hg⟩ := hrel
      have HG := Lib.hid hg
      have HI := Lib.hid H
      have h0 := H.2.1.head
      clear H hg
      by_cases hi : i < n + 1
      · have hii : (i : Int) < (n : Int) + 1 := by omega
        go_wp2
        go_loopg [35] (n + 1) (fun g v wr => ∃ j : Nat, v = .int .i64 j ∧ FillR w1 b w.heap.size n m' g i j wr ∧ g + j = n + 1)
        case atStart => exact ⟨0, by simp, HI.out, by omega⟩
        case round =>
          clear HI h0
          obtain ⟨j, rfl, H, hg⟩ := hrel
          have HG2 := Lib.hid hg
          have HJ := Lib.hid H
          clear hg
          by_cases hj : j < n + 1
          · have hjj : (j : Int) < (n : Int) + 1 := by omega
            have c1 := H.2.1.cell i j (by omega) (by omega)
            have f1 := H.2.2.1.frozen (1 + i * 9 + j)
            have hb2 : w.heap.size < wr.heap.size := H.2.2.1.lt
            obtain ⟨old, ho⟩ : ∃ old, wr.cell? ⟨w.heap.size, 1 + i * 9 + j, none⟩ = some (.int .i32 old) := ⟨_, H.2.2.1.cell i j (by omega) (by omega)⟩
            clear H
            obtain ⟨x, hx⟩ : ∃ x, x = m' i j := ⟨_, rfl⟩
            rw [← hx] at c1
            have HX := Lib.hid hx
            clear hx
            by_cases h1 : x = none62
            · have hx : x = 4611686018427387904 := h1
              have HX1 := Lib.hid h1
              clear h1
              subst hx
              go_wp2
              go_roundg (gk - 1)
              case measure => have := HG2.out; omega
              case rel => exact ⟨j + 1, by go_num, HJ.out.step hn (by omega) hi hj (.inl (by rw [← HX.out]; rfl)) _ (by rw [← HX.out]; rfl), by have := HG2.out; omega⟩
            · have t1 : (x == 4611686018427387904) = false := by simpa [none62] using h1
              have H1 := Lib.hid h1
              clear h1
              by_cases h2 : x < -536870912
              · have d2 : decide (x < -536870912) = true := decide_eq_true h2
                go_wp2
                go_ret2
                have hall : ¬ allR n m' := fun ha => by have := ha i (by omega) j (by omega); rw [← HX.out] at this; rcases this with h | h; exact H1.out h; omega
                have hz : zoneP n m0 = (none, 10) := by unfold zoneP; rw [HC.out]; simp only; rw [if_neg hall]
                exact ⟨(((Only.refl _ _).alloc _).trans HO.out).andThen HJ.out.1 (Nat.le_refl _), .pointer none, by rw [hz]; rfl, by rw [hz]; rfl⟩
              · have d2 : decide (x < -536870912) = false := decide_eq_false h2
                by_cases h3 : 536870913 < x
                · go_wp2
                  go_ret2
                  have hall : ¬ allR n m' := fun ha => by have := ha i (by omega) j (by omega); rw [← HX.out] at this; rcases this with h | h; exact H1.out h; omega
                  have hz : zoneP n m0 = (none, 10) := by unfold zoneP; rw [HC.out]; simp only; rw [if_neg hall]
                  exact ⟨(((Only.refl _ _).alloc _).trans HO.out).andThen HJ.out.1 (Nat.le_refl _), .pointer none, by rw [hz]; rfl, by rw [hz]; rfl⟩
                · go_wp2
                  go_roundg (gk - 1)
                  case measure => have := HG2.out; omega
                  case rel => exact ⟨j + 1, by go_num, HJ.out.step hn (by omega) hi hj (by rw [← HX.out]; exact .inr (by omega)) _ (by rw [← HX.out]; unfold nar; rw [if_neg H1.out]), by have := HG2.out; omega⟩
          · have hjj : ¬ (j : Int) < (n : Int) + 1 := by omega
            go_wp2
            go_roundg (n - i)
            case measure => have := HG.out; omega
            case rel => exact ⟨i + 1, by go_num, HJ.out.row hi hj, by omega⟩
      · have hii : ¬ (i : Int) < (n : Int) + 1 := by omega
        obtain ⟨hO2, hM2, hall⟩ := HI.out.done hi
        have HO2 := Lib.hid hO2
        have HM2 := Lib.hid hM2
        have HA := Lib.hid hall
        have hb := zone_lay n (narM n m')
        have hs := matCells_size .i32 n (narM n m')
        clear hO2 hM2 hall h0
        go_wp2_with (refine wpList_load_row rfl 60 _ rfl w.heap.size rfl 60 _ (0, 0) _ HM2.out Try.underlying60 rfl (by rw [matCells_size]; exact size_matrix) ?_)
        go_ret2
        have hz : zoneP n m0 = (some (narM n m'), 0) := by unfold zoneP; rw [HC.out]; simp only; rw [if_pos HA.out]
        exact ⟨((((Only.refl _ _).alloc _).trans HO.out).andThen HO2.out (Nat.le_refl _)).alloc _, .pointer (some ⟨wr.heap.size, 0, none⟩), by rw [hz]; rfl, by rw [hz]; exact ⟨_, rfl, hn, narM_right HA.out, zone_made HM2.out⟩⟩

end Go.Proofs.Ytkgohhdenfnfpaa

/- Of, Limits, Universe, Zero: the zone of bounds, or the error. -/
namespace Go.Proofs.Ytkgohhdenfnfpaa
open Go.RowKit
set_option linter.unusedVariables false
set_option linter.unusedSimpArgs false
attribute [local go_sem] min_ints max_ints

theorem few_yes (n : Int) (w : World) (h : 0 ≤ n ∧ n ≤ 8) : Calls Try.prog 12 #[.int .i64 n] w fun e w' => e = .returned (.bool true) ∧ w = w' :=
  (few_any n w).mono fun _ _ k => ⟨by rw [k.1, decide_eq_true h], k.2⟩
theorem few_no (n : Int) (w : World) (h : ¬ (0 ≤ n ∧ n ≤ 8)) : Calls Try.prog 12 #[.int .i64 n] w fun e w' => e = .returned (.bool false) ∧ w = w' :=
  (few_any n w).mono fun _ _ k => ⟨by rw [k.1, decide_eq_false h], k.2⟩

/-- A function that makes a zone ends with this answer. -/
def MakesZ (w0 : World) (n : Nat) (r : Option Mat × Int) (e : Ending) (w' : World) : Prop :=
  Below w0.heap.size w0 w' ∧ ∃ v, e = .returned (.tuple #[v, .int .i64 r.2]) ∧ ZoneV 62 w' v (r.1.map fun m => (n, m))

/-- The wide matrix while it is filled: it lies in the first new block. -/
def KeepR (w0 : World) (n : Nat) (m : Mat) (wr : World) : Prop :=
  Below w0.heap.size w0 wr ∧ MatAt wr w0.heap.size 77 .i64 n m ∧ Fit n 1073741824 m

theorem KeepR.step {w0 wr w' : World} {n : Nat} {m : Mat} (h : KeepR w0 n m wr) {i j : Nat} {b : Int} (ho : Only w0.heap.size wr w') (hm : MatAt w' w0.heap.size 77 .i64 n (keepM m i j b)) (hb : rightB b = true) :
    KeepR w0 n (keepM m i j b) w' :=
  ⟨h.1.trans (ho.below (Nat.le_refl _) h.1.size), hm, keepM_fit h.2.2 _ _ hb⟩
theorem KeepR.alloc {w0 wr : World} {n : Nat} {m : Mat} (h : KeepR w0 n m wr) (o : Obj) : KeepR w0 n m (wr.alloc o) := ⟨h.1.alloc h.1.size o, h.2.1.alloc o, h.2.2⟩

theorem of_makes {w0 wr w1 : World} {n : Nat} {m : Mat} {e : Ending} (h : KeepR w0 n m wr) (hz : ZoneEnds wr w0.heap.size n m e w1) : MakesZ w0 n (zoneP n m) e w1 :=
  ⟨h.1.trans (hz.1.below (Nat.le_refl _) h.1.size), hz.2⟩


theorem limOk_parts {n : Nat} {x : Int × Int × Int} (h : limOk n x = true) : (0 ≤ x.1 ∧ x.1 ≤ n ∧ 0 ≤ x.2.1 ∧ x.2.1 ≤ n) ∧ rightB x.2.2 = true := by
  simpa [limOk] using h

set_option maxRecDepth 100000 in
set_option maxHeartbeats 2000000 in
theorem limits_yes (n : Nat) (A : Option Addr) (c : Nat) (l : List (Int × Int × Int)) (w : World) (hn : n ≤ 8) (hI : Lims w A l) (hmax : l.length ≤ 4611686018427387904)
    (hk : ∀ q, q < l.length → -2147483648 ≤ (l.getD q (0, 0, 0)).2.2 ∧ (l.getD q (0, 0, 0)).2.2 ≤ 2147483647) :
    Calls Try.prog 4 #[.int .i64 n, .slice A l.length c] w (MakesZ w n (limP n l)) := by
  have HI := Lib.hid hI
  have HK := Lib.hid hk
  clear hI hk
  go_enter Try.func4, Try.ntmps4
  go_wp2_with fail
  refine (few_yes _ _ (by omega)).mono ?_
  rintro e w' ⟨rfl, rfl⟩
  go_wp2_with fail
  refine (open_any n _ hn).mono ?_
  rintro e w1 ⟨rfl, hb1, hm1⟩
  have HS := Lib.hid (show KeepR w n (limUp n l 0) w1 from ⟨hb1, hm1, openM_fit n⟩)
  clear hb1 hm1
  go_wp2
  go_loopg [16] l.length (fun g v wr => ∃ p : Nat, v = .int .i64 p ∧ KeepR w n (limUp n l p) wr ∧ Hid (p ≤ l.length ∧ g + p = l.length ∧ ∀ q, q < p → limOk n (l.getD q (0, 0, 0)) = true))
  case atStart => exact ⟨0, by simp, HS.out, by omega, by omega, fun q h => by omega⟩
  case round =>
    clear HS
    obtain ⟨p, rfl, H, HG⟩ := hrel
    have HR := Lib.hid H
    clear H
    by_cases hp : p < l.length
    · obtain ⟨b, off, rfl, c1, c2, c3⟩ := HI.out.below HR.out.1 p hp
      have hb := HK.out p hp
      obtain ⟨x, hx⟩ : ∃ x, x = l.getD p (0, 0, 0) := ⟨_, rfl⟩
      rw [← hx] at c1 c2 c3 hb
      have HX := Lib.hid hx
      clear hx
      obtain ⟨xi, xj, xb⟩ := x
      obtain ⟨hb0, hb1⟩ := hb
      simp only at c1 c2 c3 hb0 hb1
      by_cases hr : limOk n (xi, xj, xb) = true
      · obtain ⟨⟨i0, i1, j0, j1⟩, hrr⟩ := limOk_parts hr
        simp only at i0 i1 j0 j1 hrr
        have HRR := Lib.hid hrr
        have HOK := Lib.hid hr
        clear hr hrr
        go_wp2_with fail
        refine (right_yes _ _ HRR.out).mono ?_
        rintro e w' ⟨rfl, rfl⟩
        go_wp2_with fail
        refine (keep_any _ _ _ xi.toNat xj.toNat n _ _ _ (by omega) (by omega) (by exact HR.out.2.1.alloc _) (by omega) (by omega) hb0 hb1).mono ?_
        rintro e w2 ⟨rfl, ho, hm2⟩
        have HN := Lib.hid (show KeepR w n (limUp n l (p + 1)) w2 from by
          have hx : l.getD p (0, 0, 0) = (xi, xj, xb) := HX.out.symm
          have e : limUp n l (p + 1) = keepM (limUp n l p) xi.toNat xj.toNat xb := by
            show keepM (limUp n l p) (l.getD p (0, 0, 0)).1.toNat (l.getD p (0, 0, 0)).2.1.toNat (l.getD p (0, 0, 0)).2.2 = _
            rw [hx]
          rw [e]
          exact (HR.out.alloc _).step ho hm2 HRR.out)
        clear ho hm2
        go_wp2
        go_roundg (gk - 1)
        case measure => have := HG.out; omega
        case rel =>
          refine ⟨p + 1, by go_num, HN.out, by omega, by have := HG.out.2.1; omega, fun q hq => ?_⟩
          by_cases e : q = p
          · subst e; rw [← HX.out]; exact HOK.out
          · exact HG.out.2.2 q (by omega)
      · have hall : l.all (limOk n) = false := by
          rw [Bool.eq_false_iff]
          intro ha
          have := (all_getD l (limOk n) (0, 0, 0)).1 ha p hp
          rw [← HX.out] at this
          exact hr this
        have hz : limP n l = (none, 7) := by
          unfold limP; rw [if_pos (by omega)]; simp only [Int.toNat_natCast]; rw [hall]; rfl
        have HZ := Lib.hid hz
        have HR2 := Lib.hid hr
        clear hr hz hall
        have hend : ∀ w2, Below wr.heap.size wr w2 → MakesZ w n (limP n l) (.returned (.tuple #[.pointer none, .int .i64 7])) w2 := fun w2 h2 => by
          rw [HZ.out]; exact ⟨HR.out.1.trans (h2.mono HR.out.1.size), .pointer none, rfl, rfl⟩
        have HE := Lib.hid hend
        clear hend
        by_cases a1 : xi < 0
        · have d1 : decide (xi < 0) = true := decide_eq_true a1
          go_wp2
          go_ret2
          exact HE.out _ ((Below.refl _ _).alloc (Nat.le_refl _) _)
        · have d1 : decide (xi < 0) = false := decide_eq_false a1
          by_cases a2 : (n : Int) < xi
          · have d2 : decide ((n : Int) < xi) = true := decide_eq_true a2
            go_wp2
            go_ret2
            exact HE.out _ ((Below.refl _ _).alloc (Nat.le_refl _) _)
          · have d2 : decide ((n : Int) < xi) = false := decide_eq_false a2
            by_cases a3 : xj < 0
            · have d3 : decide (xj < 0) = true := decide_eq_true a3
              go_wp2
              go_ret2
              exact HE.out _ ((Below.refl _ _).alloc (Nat.le_refl _) _)
            · have d3 : decide (xj < 0) = false := decide_eq_false a3
              by_cases a4 : (n : Int) < xj
              · have d4 : decide ((n : Int) < xj) = true := decide_eq_true a4
                go_wp2
                go_ret2
                exact HE.out _ ((Below.refl _ _).alloc (Nat.le_refl _) _)
              · have d4 : decide ((n : Int) < xj) = false := decide_eq_false a4
                have hrf : rightB xb = false := by
                  rw [Bool.eq_false_iff]
                  intro h
                  exact HR2.out (by simp only [limOk, h, Bool.and_true, decide_eq_true_eq]; omega)
                have HRR := Lib.hid hrf
                clear hrf
                go_wp2_with fail
                refine (right_no _ _ HRR.out).mono ?_
                rintro e w' ⟨rfl, rfl⟩
                go_wp2
                go_ret2
                exact HE.out _ ((Below.refl _ _).alloc (Nat.le_refl _) _)
    · have e : p = l.length := by have := HG.out.1; omega
      go_wp2_with fail
      refine (zone_any _ n _ _ hn HR.out.2.1 HR.out.2.2).mono ?_
      rintro e w2 hz
      have HZ := Lib.hid hz
      obtain ⟨ho, v, rfl, hv⟩ := hz
      clear ho hv
      subst e
      go_wp2
      go_ret2
      have hall : l.all (limOk n) = true := (all_getD l (limOk n) (0, 0, 0)).2 HG.out.2.2
      have hz : limP n l = zoneP n (limUp n l l.length) := by
        unfold limP; rw [if_pos (by omega)]; simp only [Int.toNat_natCast]; rw [if_pos hall]
      rw [hz]
      exact of_makes HR.out HZ.out

set_option maxRecDepth 100000 in
set_option maxHeartbeats 1000000 in
theorem limits_clock (n : Int) (v : Value) (l : List (Int × Int × Int)) (w : World) (hn : ¬ (0 ≤ n ∧ n ≤ 8)) :
    Calls Try.prog 4 #[.int .i64 n, v] w (MakesZ w n.toNat (limP n l)) := by
  have hz : limP n l = (none, 12) := by unfold limP; rw [if_neg hn]
  rw [hz]
  clear hz
  have HN := Lib.hid hn
  clear hn
  go_enter Try.func4, Try.ntmps4
  go_wp2_with fail
  refine (few_no _ _ HN.out).mono ?_
  rintro e w' ⟨rfl, rfl⟩
  go_wp2
  go_ret2
  exact ⟨Below.refl _ _, .pointer none, rfl, rfl⟩

/-- Limits, whatever it is given. -/
theorem limits_any (n : Int) (A : Option Addr) (c : Nat) (l : List (Int × Int × Int)) (w : World) (hI : Lims w A l) (hmax : l.length ≤ 4611686018427387904)
    (hk : ∀ q, q < l.length → -2147483648 ≤ (l.getD q (0, 0, 0)).2.2 ∧ (l.getD q (0, 0, 0)).2.2 ≤ 2147483647) :
    Calls Try.prog 4 #[.int .i64 n, .slice A l.length c] w (MakesZ w n.toNat (limP n l)) := by
  by_cases hn : 0 ≤ n ∧ n ≤ 8
  · obtain ⟨k, rfl⟩ : ∃ k : Nat, n = k := ⟨n.toNat, by omega⟩
    exact limits_yes k A c l w (by omega) hI hmax hk
  · exact limits_clock n _ l w hn

/-- The limits of Zero. -/
def zeroUp (n : Nat) : Nat → Mat
  | 0 => openM n
  | p + 1 => keepM (zeroUp n p) p 0 1
theorem zeroUp_fit (n : Nat) : ∀ p, Fit n 1073741824 (zeroUp n p)
  | 0 => openM_fit n
  | p + 1 => keepM_fit (zeroUp_fit n p) _ _ (by decide)
/-- What Zero answers. -/
def zerP (n : Int) : Option Mat × Int := if 0 ≤ n ∧ n ≤ 8 then zoneP n.toNat (zeroUp n.toNat (n.toNat + 1)) else (none, 12)

end Go.Proofs.Ytkgohhdenfnfpaa

/- Of: the zone of bounds, or the error. -/
namespace Go.Proofs.Ytkgohhdenfnfpaa
open Go Go.RowKit
set_option linter.unusedVariables false
set_option linter.unusedSimpArgs false


theorem w64_div (p n : Nat) (hp : p ≤ 1000000) : wrap64 ((p : Int) / ((n : Int) + 1)) = ((p / (n + 1) : Nat) : Int) := by
  rw [idx_div]
  have : p / (n + 1) ≤ p := Nat.div_le_self _ _
  generalize p / (n + 1) = q at this ⊢
  exact IntWalk.wrap64_in _ ⟨by omega, by omega⟩
theorem w64_mod (p n : Nat) (hp : p ≤ 1000000) : wrap64 ((p : Int) % ((n : Int) + 1)) = ((p % (n + 1) : Nat) : Int) := by
  rw [idx_mod]
  have : p % (n + 1) ≤ p := Nat.mod_le _ _
  generalize p % (n + 1) = q at this ⊢
  exact IntWalk.wrap64_in _ ⟨by omega, by omega⟩

set_option maxRecDepth 100000 in
set_option maxHeartbeats 2000000 in
theorem of_yes (n : Nat) (A : Option Addr) (c : Nat) (cells : List Int) (w : World) (hn : n ≤ 8) (hI : Ints w .i32 A cells) (hlen : (cells.length : Int) = ((n : Int) + 1) * ((n : Int) + 1))
    (hk : ∀ q, q < cells.length → -2147483648 ≤ cells.getD q 0 ∧ cells.getD q 0 ≤ 2147483647) :
    Calls Try.prog 38 #[.int .i64 n, .slice A cells.length c] w (MakesZ w n (ofP n cells)) := by
  have hl81 : cells.length ≤ 81 := by
    have : ((n : Int) + 1) * ((n : Int) + 1) ≤ 9 * 9 := Int.mul_le_mul (by omega) (by omega) (by omega) (by omega)
    omega
  have hm : ((n : Int) + 1) * ((n : Int) + 1) ≤ 81 := by omega
  have hm0 : 0 ≤ ((n : Int) + 1) * ((n : Int) + 1) := by omega
  have HL := Lib.hid hlen
  have HI := Lib.hid hI
  have HK := Lib.hid hk
  have t1 : ((cells.length : Int) != ((n : Int) + 1) * ((n : Int) + 1)) = false := by simp [hlen]
  clear hlen hI hk
  go_enter Try.func38, Try.ntmps38
  go_wp2_with fail
  refine (few_yes _ _ (by omega)).mono ?_
  rintro e w' ⟨rfl, rfl⟩
  go_wp2_with fail
  refine (open_any n _ hn).mono ?_
  rintro e w1 ⟨rfl, hb1, hm1⟩
  have HS := Lib.hid (show KeepR w n (keepUp n cells 0) w1 from ⟨hb1, hm1, openM_fit n⟩)
  clear hb1 hm1
  go_wp2
  go_loopg [26] cells.length (fun g v wr => ∃ p : Nat, v = .int .i64 p ∧ KeepR w n (keepUp n cells p) wr ∧ Hid (p ≤ cells.length ∧ g + p = cells.length ∧ ∀ q, q < p → rightB (cells.getD q 0) = true))
  case atStart => exact ⟨0, by simp, HS.out, by omega, by omega, fun q h => by omega⟩
  case round =>
    clear HS
    obtain ⟨p, rfl, H, HG⟩ := hrel
    have HR := Lib.hid H
    clear H
    by_cases hp : p < cells.length
    · obtain ⟨b, off, rfl, hc⟩ := HI.out.below HR.out.1 p hp
      have hb := HK.out p hp
      obtain ⟨x, hx⟩ : ∃ x, x = cells.getD p 0 := ⟨_, rfl⟩
      rw [← hx] at hc hb
      have HX := Lib.hid hx
      clear hx
      obtain ⟨hb0, hb1⟩ := hb
      by_cases hr : rightB x = true
      · have HRR := Lib.hid hr
        clear hr
        go_wp2_with fail
        refine (right_yes _ _ HRR.out).mono ?_
        rintro e w' ⟨rfl, rfl⟩
        have hd := idx_div p n
        have hmo := idx_mod p n
        have hdlt : p / (n + 1) < 9 := by
          have h1 := HL.out
          have h2 : p < (n + 1) * (n + 1) := by
            have : ((p : Nat) : Int) < (((n + 1) * (n + 1) : Nat) : Int) := by push_cast; omega
            omega
          have := Nat.div_lt_of_lt_mul h2
          omega
        have hmlt : p % (n + 1) < 9 := by have := Nat.mod_lt p (show 0 < n + 1 by omega); omega
        have HD := Lib.hid hd
        have HM := Lib.hid hmo
        clear hd hmo
        go_wp2_with fail
        have g1 : IntKind.i64.wrap ((n : Int) + 1) = (n : Int) + 1 := IntWalk.i64_in _ (by omega)
        have g2 := wrap_tdiv p n (by omega)
        have g3 := wrap_tmod p n (by omega)
        have g4 : ((n : Int) + 1 == 0) = false := by simp; omega
        have g5 : ¬ ((n : Int) + 1 = 0) := by omega

        refine wp_region_still_tail 10 (by kernel_rfl) (by kernel_rfl) ?_
        simp only [List.take_succ_cons, List.take_zero, List.drop_succ_cons, List.drop_zero]
        change wpStill _ _ wr.drew _ _ _
        generalize wr.drew = w2
        repeat still_step
        refine wpStill_nil ?_
        go_wp2_with fail
        refine (keep_any _ _ _ (p / (n + 1)) (p % (n + 1)) n _ _ _ hdlt hmlt (by exact HR.out.2.1.drew) (by first | rfl | exact idx_div p n | exact w64_div p n (by omega)) (by first | rfl | exact idx_mod p n | exact w64_mod p n (by omega)) hb0 hb1).mono ?_
        rintro e w2 ⟨rfl, ho, hm2⟩
        have HN := Lib.hid (show KeepR w n (keepUp n cells (p + 1)) w2 from by
          have hx : cells.getD p 0 = x := HX.out.symm
          have e : keepUp n cells (p + 1) = keepM (keepUp n cells p) (p / (n + 1)) (p % (n + 1)) x := by rw [← hx]; rfl
          rw [e]
          exact HR.out.step ((Only.drew (Only.refl _ _)).trans ho) hm2 HRR.out)
        clear ho hm2
        go_wp2
        go_roundg (gk - 1)
        case measure => have := HG.out; omega
        case rel =>
          refine ⟨p + 1, by go_num, HN.out, by omega, by have := HG.out.2.1; omega, fun q hq => ?_⟩
          by_cases e : q = p
          · subst e; rw [← HX.out]; exact HRR.out
          · exact HG.out.2.2 q (by omega)
      · have hrf : rightB x = false := by simpa using hr
        have HRR := Lib.hid hrf
        clear hr hrf
        go_wp2_with fail
        refine (right_no _ _ HRR.out).mono ?_
        rintro e w' ⟨rfl, rfl⟩
        go_wp2
        go_ret2
        have hall : cells.all rightB = false := by
          rw [Bool.eq_false_iff]
          intro ha
          have := (all_getD cells rightB 0).1 ha p hp
          rw [← HX.out, HRR.out] at this
          cases this
        have hz : ofP n cells = (none, 7) := by
          unfold ofP; rw [if_pos (by omega), if_pos HL.out, hall]; rfl
        exact ⟨HR.out.1, .pointer none, by rw [hz]; rfl, by rw [hz]; rfl⟩
    · have e : p = cells.length := by have := HG.out.1; omega
      go_wp2_with fail
      refine (zone_any _ n _ _ hn HR.out.2.1 HR.out.2.2).mono ?_
      rintro e w2 hz
      have HZ := Lib.hid hz
      obtain ⟨ho, v, rfl, hv⟩ := hz
      clear ho hv
      subst e
      go_wp2
      go_ret2
      have hall : cells.all rightB = true := (all_getD cells rightB 0).2 HG.out.2.2
      have hz : ofP n cells = zoneP n (keepUp n cells cells.length) := by
        unfold ofP; rw [if_pos (by omega), if_pos HL.out, if_pos hall]; rfl
      rw [hz]
      exact of_makes HR.out HZ.out

set_option maxRecDepth 100000 in
set_option maxHeartbeats 1000000 in
theorem of_clock (n : Int) (A : Option Addr) (c : Nat) (cells : List Int) (w : World) (hn : ¬ (0 ≤ n ∧ n ≤ 8)) :
    Calls Try.prog 38 #[.int .i64 n, .slice A cells.length c] w (MakesZ w n.toNat (ofP n cells)) := by
  have hz : ofP n cells = (none, 12) := by unfold ofP; rw [if_neg hn]
  rw [hz]
  clear hz
  have HN := Lib.hid hn
  clear hn
  go_enter Try.func38, Try.ntmps38
  go_wp2_with fail
  refine (few_no _ _ HN.out).mono ?_
  rintro e w' ⟨rfl, rfl⟩
  go_wp2
  go_ret2
  exact ⟨Below.refl _ _, .pointer none, rfl, rfl⟩

set_option maxRecDepth 100000 in
set_option maxHeartbeats 1000000 in
theorem of_long (n : Nat) (A : Option Addr) (c : Nat) (cells : List Int) (w : World) (hn : n ≤ 8) (hlen : ¬ (cells.length : Int) = ((n : Int) + 1) * ((n : Int) + 1)) (hmax : cells.length ≤ 4611686018427387904) :
    Calls Try.prog 38 #[.int .i64 n, .slice A cells.length c] w (MakesZ w n (ofP n cells)) := by
  have hz : ofP n cells = (none, 6) := by unfold ofP; rw [if_pos (by omega), if_neg hlen]
  rw [hz]
  clear hz
  have hm : ((n : Int) + 1) * ((n : Int) + 1) ≤ 9 * 9 := Int.mul_le_mul (by omega) (by omega) (by omega) (by omega)
  have hm0 : 0 ≤ ((n : Int) + 1) * ((n : Int) + 1) := Int.mul_nonneg (by omega) (by omega)
  have t1 : ((cells.length : Int) != ((n : Int) + 1) * ((n : Int) + 1)) = true := by simpa using hlen
  clear hlen
  go_enter Try.func38, Try.ntmps38
  go_wp2_with fail
  refine (few_yes _ _ (by omega)).mono ?_
  rintro e w' ⟨rfl, rfl⟩
  go_wp2
  go_ret2
  exact ⟨Below.refl _ _, .pointer none, rfl, rfl⟩

/-- Of, whatever it is given. -/
theorem of_any (n : Int) (A : Option Addr) (c : Nat) (cells : List Int) (w : World) (hI : Ints w .i32 A cells) (hmax : cells.length ≤ 4611686018427387904)
    (hk : ∀ q, q < cells.length → -2147483648 ≤ cells.getD q 0 ∧ cells.getD q 0 ≤ 2147483647) :
    Calls Try.prog 38 #[.int .i64 n, .slice A cells.length c] w (MakesZ w n.toNat (ofP n cells)) := by
  by_cases hn : 0 ≤ n ∧ n ≤ 8
  · obtain ⟨k, rfl⟩ : ∃ k : Nat, n = k := ⟨n.toNat, by omega⟩
    by_cases hl : (cells.length : Int) = ((k : Int) + 1) * ((k : Int) + 1)
    · exact of_yes k A c cells w (by omega) hI hl hk
    · exact of_long k A c cells w (by omega) hl hmax
  · exact of_clock n A c cells w hn

end Go.Proofs.Ytkgohhdenfnfpaa

/- The cells of a zone, opened. -/
namespace Go.Proofs.Ytkgohhdenfnfpaa
open Go Go.RowKit
set_option linter.unusedVariables false
set_option linter.unusedSimpArgs false
attribute [local go_sem] min_ints max_ints

/-- How many clocks a zone has; none: 0. -/
def dimN (z : Option (Nat × Mat)) : Nat := match z with | some (n, _) => n | none => 0
/-- The first p cells of a row, as a matrix. -/
def fillUp (n : Nat) (l : List Int) (p : Nat) : Mat := fun i j => if i < n + 1 ∧ j < n + 1 ∧ i * (n + 1) + j < p then l.getD (i * (n + 1) + j) 0 else 0
theorem fillUp_zero (n : Nat) (l : List Int) : fillUp n l 0 = fun _ _ => 0 := by
  funext i j
  unfold fillUp
  rw [if_neg (by omega)]
theorem fillUp_next (n : Nat) (l : List Int) (p : Nat) (hp : p < (n + 1) * (n + 1)) : fillUp n l (p + 1) = upd (fillUp n l p) (p / (n + 1)) (p % (n + 1)) (l.getD p 0) := by
  have h1 : p / (n + 1) < n + 1 := Nat.div_lt_of_lt_mul hp
  have h2 := Nat.mod_lt p (show 0 < n + 1 by omega)
  have h3 := Nat.div_add_mod p (n + 1)
  rw [Nat.mul_comm] at h3
  funext i j
  unfold fillUp upd
  by_cases e : i = p / (n + 1) ∧ j = p % (n + 1)
  · obtain ⟨e1, e2⟩ := e
    have e3 : i * (n + 1) + j = p := by rw [e1, e2]; exact h3
    rw [if_pos ⟨by omega, by omega, by omega⟩, if_pos ⟨e1, e2⟩, e3]
  · rw [if_neg e]
    show _ = (if i < n + 1 ∧ j < n + 1 ∧ i * (n + 1) + j < p then l.getD (i * (n + 1) + j) 0 else 0)
    by_cases c : i < n + 1 ∧ j < n + 1
    · have hne : i * (n + 1) + j ≠ p := fun e' => e (by
        rw [← e']
        refine ⟨?_, ?_⟩
        · rw [Nat.mul_comm, Nat.mul_add_div (by omega), Nat.div_eq_of_lt c.2]; rfl
        · rw [Nat.mul_comm, Nat.mul_add_mod, Nat.mod_eq_of_lt c.2])
      by_cases d : i * (n + 1) + j < p
      · rw [if_pos ⟨c.1, c.2, by omega⟩, if_pos ⟨c.1, c.2, d⟩]
      · rw [if_neg (by omega), if_neg (by omega)]
    · rw [if_neg (by omega), if_neg (by omega)]

theorem odim_any (v : Value) (z : Option (Nat × Mat)) (w : World) (h : ZoneV 62 w v z) : Calls Try.prog 17 #[v] w fun e w' => e = .returned (.int .i64 (dimN z)) ∧ w = w' := by
  match z, h with
  | none, h =>
    have h : v = .pointer none := h
    subst h
    exact dim_nil w
  | some (n, m), ⟨b, e, hn, _, hm⟩ =>
    subst e
    exact dim_zone b n m w hm

theorem zero_work (n : Nat) : (Try.zeroCells72).setIfInBounds 0 (Value.int .i64 n) = matCells .i32 n (fun _ _ => 0) := rfl

set_option maxHeartbeats 1000000 in
set_option maxRecDepth 100000 in
theorem oopen_any (v : Value) (z : Option (Nat × Mat)) (w : World) (h : ZoneV 62 w v z) (hz : dimN z ≤ 8) (hl : (cellsP z).length ≤ 81) :
    Calls Try.prog 24 #[v] w fun e w' => e = .returned (.pointer (some ⟨w.heap.size, 0, none⟩)) ∧ Below w.heap.size w w' ∧ MatAt w' w.heap.size 72 .i32 (dimN z) (fillUp (dimN z) (cellsP z) (cellsP z).length) := by
  have HD := Lib.hid (fun w h => odim_any v z w h)
  have HC := Lib.hid (fun w h => cells_any v z w h)
  have HZ := Lib.hid h
  obtain ⟨n, hn⟩ : ∃ n, n = dimN z := ⟨_, rfl⟩
  have hlen : (cellsP z).length ≤ (n + 1) * (n + 1) := by
    rw [hn]
    match z with
    | none => simp [cellsP]
    | some (k, m) => show (flat k m).length ≤ _; rw [flat_length]; exact Nat.le_refl _
  rw [← hn] at HD hz ⊢
  obtain ⟨l, hl'⟩ : ∃ l, l = cellsP z := ⟨_, rfl⟩
  rw [← hl'] at HC hl hlen ⊢
  have HLEN := Lib.hid hlen
  clear h hn hl' hlen
  go_enter Try.func24, Try.ntmps24
  go_wp2_with fail
  refine (HD.out _ HZ.out).mono ?_
  rintro e w1 ⟨rfl, rfl⟩
  go_wp2_with fail
  have HB1 := Lib.hid ((Below.refl w.heap.size w).alloc (Nat.le_refl _) (.cells ((Try.zeroCells72).setIfInBounds 0 (Value.int .i64 n)) 72))
  have hm : MatAt (w.alloc (.cells ((Try.zeroCells72).setIfInBounds 0 (Value.int .i64 n)) 72)) w.heap.size 72 .i32 n (fillUp n l 0) := by
    rw [fillUp_zero]
    unfold MatAt
    rw [heap_alloc_new, zero_work]
  have HM1 := Lib.hid hm
  have HZ1 := Lib.hid (HZ.out.below HB1.out)
  clear hm HZ HD
  generalize w.alloc (.cells ((Try.zeroCells72).setIfInBounds 0 (Value.int .i64 n)) 72) = w1 at *
  refine (HC.out _ HZ1.out).mono ?_
  rintro e w2 ⟨v', rfl, hb2, ho⟩
  have HM2 := Lib.hid (HM1.out.later hb2)
  have HB2 := Lib.hid (HB1.out.trans (hb2.mono HB1.out.size))
  obtain ⟨A, c, rfl, hI⟩ : ∃ A c, v' = .slice A l.length c ∧ ∀ wr, Only w.heap.size w2 wr → Ints wr .i32 A l := by
    by_cases h0 : 0 < l.length
    · obtain ⟨g, cap, e1, e2, e3⟩ := ho.row h0
      have := HM1.out.lt
      exact ⟨_, cap, e1, fun wr hw => (e3.only hw (by omega)).ints⟩
    · obtain ⟨A, cap, e1, _⟩ := ho.slice
      exact ⟨A, cap, e1, fun wr hw j hj => by omega⟩
  have HI := Lib.hid hI
  clear hb2 ho hI HC HZ1 HM1 HB1
  have g1 : IntKind.i64.wrap ((n : Int) + 1) = (n : Int) + 1 := IntWalk.i64_in _ (by omega)
  have g4 : ((n : Int) + 1 == 0) = false := by simp; omega
  have g5 : ¬ ((n : Int) + 1 = 0) := by omega
  go_wp2
  go_loopg [14] l.length (fun g v wr => ∃ p : Nat, v = .int .i64 p ∧ Hid (Only w.heap.size w2 wr ∧ MatAt wr w.heap.size 72 .i32 n (fillUp n l p)) ∧ Hid (p ≤ l.length ∧ g + p = l.length))
  case atStart => exact ⟨0, by simp, ⟨Only.refl _ _, HM2.out⟩, by omega, by omega⟩
  case round =>
    clear HM2
    obtain ⟨p, rfl, HR, HG⟩ := hrel
    by_cases hp : p < l.length
    · obtain ⟨b, off, rfl, hc⟩ := (HI.out _ HR.out.1) p hp
      obtain ⟨x, hx⟩ : ∃ x, x = l.getD p 0 := ⟨_, rfl⟩
      rw [← hx] at hc
      have HX := Lib.hid hx
      clear hx
      have hsq : p < (n + 1) * (n + 1) := by have := HLEN.out; omega
      have hd9 : p / (n + 1) < 9 := by
        have := Nat.div_lt_of_lt_mul hsq
        omega
      have hm9 : p % (n + 1) < 9 := by have := Nat.mod_lt p (show 0 < n + 1 by omega); omega
      have c0 := HR.out.2.head
      have c1 := HR.out.2.cell (p / (n + 1)) (p % (n + 1)) hd9 hm9
      have f1 := HR.out.2.frozen (1 + p / (n + 1) * 9 + p % (n + 1))
      have hlt := HR.out.2.lt
      have k1 := w64_div p n (by omega)
      have k2 := w64_mod p n (by omega)
      obtain ⟨D, hD⟩ : ∃ D, D = p / (n + 1) := ⟨_, rfl⟩
      obtain ⟨M, hM⟩ : ∃ M, M = p % (n + 1) := ⟨_, rfl⟩
      rw [← hD] at hd9 c1 f1 k1
      rw [← hM] at hm9 c1 f1 k2
      have k3 : IntKind.i64.wrap ((p : Int) / ((n : Int) + 1)) = (D : Int) := by rw [idx_div, ← hD]; exact IntWalk.i64_in _ (by omega)
      have k4 : (p : Int) % ((n : Int) + 1) = (M : Int) := by rw [idx_mod, ← hM]
      have k5 : (p : Int).tmod ((n : Int) + 1) = (M : Int) := by rw [Int.tmod_eq_emod_of_nonneg (by omega)]; exact k4
      have hd9i : (D : Int) < 9 := by omega
      have hm9i : (M : Int) < 9 := by omega
      have HSQ := Lib.hid hsq
      have HDM := Lib.hid (And.intro hD hM)
      clear hsq hD hM
      go_wp2_with fail
      go_region
      go_wp2
      go_roundg (gk - 1)
      case measure => have h := HG.out; omega
      case rel =>
        refine ⟨p + 1, by go_num, ⟨(HR.out.1.setCell _ _).drew, ?_⟩, by omega, by have h := HG.out; omega⟩
        rw [fillUp_next n l p HSQ.out, ← HDM.out.1, ← HDM.out.2, ← HX.out]
        exact HR.out.2.set D M hd9 hm9 x
    · have e : p = l.length := by have := HG.out.1; omega
      subst e
      go_wp2
      go_ret
      exact ⟨rfl, HB2.out.trans (HR.out.1.below (Nat.le_refl _) HB2.out.size), HR.out.2⟩

end Go.Proofs.Ytkgohhdenfnfpaa

/- The zone of cells under way. -/
namespace Go.Proofs.Ytkgohhdenfnfpaa
open Go Go.RowKit
set_option linter.unusedVariables false
set_option linter.unusedSimpArgs false
attribute [local go_sem] min_ints max_ints

/-- The rows that shut has gathered. -/
def ShutR (w0 : World) (n : Nat) (m : Mat) (i : Nat) (v : Value) (wr : World) : Prop :=
  Below w0.heap.size w0 wr ∧ wr.ownsRow w0.heap.size 41 1 v (i * (n + 1)) (vals .i32 (rowsL n m i)) ∧ i ≤ n + 1

theorem ShutR.own {w0 wr : World} {n : Nat} {m : Mat} {v : Value} (h : ShutR w0 n m (n + 1) v wr) : OwnI wr w0.heap.size 41 .i32 v (flat n m) := by
  unfold OwnI
  rw [flat_length]
  exact h.2.1

set_option maxRecDepth 100000 in
set_option maxHeartbeats 1000000 in
theorem shut_any (b n : Nat) (m : Mat) (w : World) (hn : n ≤ 8) (h : MatAt w b 72 .i32 n m) (hk : ∀ i j, i < n + 1 → j < n + 1 → -2147483648 ≤ m i j ∧ m i j ≤ 2147483647) :
    Calls Try.prog 25 #[.pointer (some ⟨b, 0, none⟩)] w (MakesZ w n (ofP n (flat n m))) := by
  have h0 := h.head
  have H := Lib.hid h
  have HK := Lib.hid hk
  clear h hk
  obtain ⟨N, hN⟩ : ∃ N, N = (n + 1) * (n + 1) := ⟨_, rfl⟩
  have hN81 : N ≤ 81 := by
    have := Nat.mul_le_mul (show n + 1 ≤ 9 by omega) (show n + 1 ≤ 9 by omega)
    omega
  have g1 : IntKind.i64.wrap ((n : Int) + 1) = (n : Int) + 1 := IntWalk.i64_in _ (by omega)
  have g2 : ((n : Int) + 1) * ((n : Int) + 1) = (N : Int) := by rw [hN]; push_cast; rfl
  have g3 : IntKind.i64.wrap (N : Int) = (N : Int) := IntWalk.i64_in _ (by omega)
  have HN := Lib.hid hN
  obtain ⟨i0, hi1, hz0, hz1, hz2⟩ := info_parts infoB
  have hmk := run_make_own (P := Try.prog) w.drew w.heap.size 49 41 i0 (.int .i32 0) 1 Try.underlying49 hi1 hz0 hz1 .i64 .i64 N (by rw [hz2]; omega) (by unfold maxLen; omega) (Nat.le_refl _)
  obtain ⟨w1, hrun, hown, hgr⟩ := hmk
  have HI := Lib.hid (And.intro hi1 (And.intro hz0 (And.intro hz1 hz2)))
  have hrun' : (Instr.makeSlice 49 (.int .i64 0) (.int .i64 (N : Int))).run Try.prog w.drew = .ok (.slice (some ⟨w.heap.size, 0, none⟩) 0 N) w1 := hrun
  have hb1 : Below w.heap.size w w1 := (Below.drew (Below.refl w.heap.size w)).grown hgr (Nat.le_refl _) (fun k hk => by cases hk)
  have HS := Lib.hid (show ShutR w n m 0 (.slice (some ⟨w.heap.size, 0, none⟩) 0 N) w1 from ⟨hb1, by simpa [rowsL, vals] using hown, by omega⟩)
  have HM1 := Lib.hid (H.out.later hb1)
  have hd1 := HM1.out.head
  clear hN hi1 hz0 hz1 hz2 hown hgr hb1 hrun
  go_enter Try.func25, Try.ntmps25
  go_wp2_with fail
  go_region
  clear hrun' h0
  go_wp2
  go_loopg [4, 26] (n + 1) (fun g v x wr => ∃ i : Nat, x = .int .i64 i ∧ Hid (ShutR w n m i v wr) ∧ Hid (g + i = n + 1))
  case atStart => exact ⟨0, by simp, HS.out, by show _ = _; omega⟩
  case round =>
    clear HS HM1 hd1
    obtain ⟨i, rfl, HR, HG⟩ := hrel
    have HM := Lib.hid (H.out.later HR.out.1)
    have h0 := HM.out.head
    by_cases hi : i < n + 1
    · have hii : (i : Int) < (n : Int) + 1 := by omega
      have i9 : (i : Int) < 9 := by omega
      have n9 : (n : Int) + 1 ≤ 9 := by omega
      have D0 := Lib.hid (show wr.drew.cell? _ = _ from h0)
      have hin : i * (n + 1) ≤ 8 * 9 := Nat.mul_le_mul (by omega) (by omega)
      have hsl := slice_row b (1 + i * 9) n hn
      go_wp2_with fail
      refine wp_region_still_tail 13 (by kernel_rfl) (by kernel_rfl) ?_
      simp only [List.take_succ_cons, List.take_zero, List.drop_succ_cons, List.drop_zero]
      change wpStill _ _ wr.drew _ _ _
      generalize wr.drew = w2 at *
      have d0 := D0.out
      clear D0
      repeat still_step
      refine wpStill_nil ?_
      go_wp2_with (at_builtin; refine wpList_append_own _ rfl _ _ 49 rfl w.heap.size 41 i0 (.int .i32 0) 1 4 Try.underlying49 HI.out.1 HI.out.2.1 HI.out.2.2.1 HI.out.2.2.2 rfl (by decide) _ _ _ rfl (own_drew HR.out.2.1) ⟨b, 1 + i * 9, none⟩ (n + 1) 9 ((List.range (n + 1)).map (fun c => Value.int .i32 (m i c))) rfl (by simp) (row_cells HM.out.drew (by omega) hn) (by intro u hu; obtain ⟨c, _, rfl⟩ := List.mem_map.1 hu; rfl) ?c3 ?c4 ?c5 ?_)
      case c3 => unfold maxLen; omega
      case c4 => omega
      case c5 => exact HR.out.1.size
      intro v' w3 hown hgrow _
      have HS3 := Lib.hid (show ShutR w n m (i + 1) v' w3 from by
        refine ⟨(Below.drew HR.out.1).grown hgrow HR.out.1.size (fun k hk => ?_), ?_, by omega⟩
        · exact (HR.out.2.1.lt k hk).1
        · have e : (i + 1) * (n + 1) = i * (n + 1) + (n + 1) := by rw [Nat.add_mul]; omega
          rw [e]
          have e2 : vals .i32 (rowsL n m (i + 1)) = vals .i32 (rowsL n m i) ++ (List.range (n + 1)).map (fun c => Value.int .i32 (m i c)) := by
            simp [vals, rowsL]
          rw [e2, List.range_succ, List.map_append]; exact hown)
      clear hown hgrow
      go_wp2
      go_roundg (gk - 1)
      case measure => have h := HG.out; omega
      case rel => exact ⟨i + 1, by go_num, HS3.out, by have h := HG.out; show _ = _; omega⟩
    · have hii : ¬ (i : Int) < (n : Int) + 1 := by omega
      have e : i = n + 1 := by have := HR.out.2.2; omega
      subst e
      have hown := ShutR.own HR.out
      obtain ⟨A, c, rfl, hints⟩ := hown.slice
      have HOF := Lib.hid (of_any n A c (flat n m) wr hints (by rw [flat_length, ← HN.out]; omega) (fun q hq => by
        rw [flat_length] at hq
        rw [flat_getD _ _ _ hq]
        have a1 : q / (n + 1) < n + 1 := Nat.div_lt_of_lt_mul hq
        have a2 := Nat.mod_lt q (show 0 < n + 1 by omega)
        exact HK.out _ _ a1 a2))
      have HB := Lib.hid HR.out.1
      clear hown hints HR HM
      go_wp2_with fail
      refine HOF.out.mono ?_
      rintro e w2 ⟨hb, v, rfl, hv⟩
      have HV := Lib.hid hv
      have HB2 := Lib.hid (HB.out.trans (hb.mono HB.out.size))
      clear hb hv
      obtain ⟨ee, hee⟩ : ∃ ee, ee = (ofP n (flat n m)).2 := ⟨_, rfl⟩
      rw [← hee]
      have HE := Lib.hid hee
      clear hee
      go_wp2
      go_ret2
      exact ⟨HB2.out, v, by rw [HE.out]; rfl, HV.out⟩

end Go.Proofs.Ytkgohhdenfnfpaa

/- When time passes. -/
namespace Go.Proofs.Ytkgohhdenfnfpaa
open Go Go.RowKit
set_option linter.unusedVariables false
set_option linter.unusedSimpArgs false
attribute [local go_sem] min_ints max_ints

/-- All cells are numbers of 32 bits. -/
def Rng (n : Nat) (m : Mat) : Prop := ∀ i j, i < n + 1 → j < n + 1 → -2147483648 ≤ m i j ∧ m i j ≤ 2147483647
theorem rng_upd {n : Nat} {m : Mat} (h : Rng n m) (a b : Nat) (x : Int) (h0 : -2147483648 ≤ x) (h1 : x ≤ 2147483647) : Rng n (upd m a b x) := fun i j hi hj => by
  unfold upd
  by_cases e : i = a ∧ j = b
  · rw [if_pos e]; exact ⟨h0, h1⟩
  · rw [if_neg e]; exact h i j hi hj
/-- The opened cells of a zone. -/
def openW (z : Option (Nat × Mat)) : Mat := fillUp (dimN z) (cellsP z) (cellsP z).length
theorem openW_in {n : Nat} {m : Mat} {i j : Nat} (hi : i < n + 1) (hj : j < n + 1) : openW (some (n, m)) i j = m i j := by
  show fillUp n (flat n m) (flat n m).length i j = m i j
  unfold fillUp
  have hlt : i * (n + 1) + j < (n + 1) * (n + 1) := by
    have := Nat.mul_le_mul_right (n + 1) (show i ≤ n by omega)
    have e : (n + 1) * (n + 1) = n * (n + 1) + (n + 1) := by rw [Nat.add_mul]; omega
    omega
  rw [if_pos ⟨hi, hj, by rw [flat_length]; exact hlt⟩, flat_at m hi hj]
theorem rng_open {n : Nat} {m : Mat} (h : RightM n m) : Rng n (openW (some (n, m))) := fun i j hi hj => by
  rw [openW_in hi hj]
  have := h i j (by omega) (by omega)
  unfold rightB at this
  have := of_decide_eq_true this
  omega

/-- No bound on how great the first p clocks are. -/
def upUp (m : Mat) : Nat → Mat
  | 0 => m
  | p + 1 => if p = 0 then upUp m p else upd (upUp m p) p 0 2147483647
theorem rng_up {n : Nat} {m : Mat} (h : Rng n m) : ∀ p, Rng n (upUp m p)
  | 0 => h
  | p + 1 => by
    unfold upUp
    split
    · exact rng_up h p
    · exact rng_upd (rng_up h p) _ _ _ (by decide) (by decide)
/-- The cells behind Up. -/
def upW (z : Option (Nat × Mat)) : Mat := if emptyP z then openW z else upUp (openW z) (dimN z + 1)

theorem oempty_any (b n : Nat) (m : Mat) (w : World) (hm : MatAt w b 62 .i32 n m) : Calls Try.prog 6 #[.pointer (some ⟨b, 0, none⟩)] w fun e w' => e = .returned (.bool (emptyP (some (n, m)))) ∧ w = w' := empty_zone b n m w hm

set_option maxHeartbeats 1000000 in
set_option maxRecDepth 100000 in
theorem up_nil (w : World) : Calls Try.prog 9 #[.pointer none] w fun e w' => e = .returned (.tuple #[.pointer none, .int .i64 1]) ∧ w = w' := by
  go_enter Try.func9, Try.ntmps9
  go_wp2
  go_ret2
  exact ⟨rfl, rfl⟩

set_option maxHeartbeats 1000000 in
set_option maxRecDepth 100000 in
theorem up_zone (v : Value) (n : Nat) (m : Mat) (w : World) (h : ZoneV 62 w v (some (n, m))) : Calls Try.prog 9 #[v] w (MakesZ w n (ofP n (flat n (upW (some (n, m)))))) := by
  have HZ := Lib.hid h
  obtain ⟨b, rfl, hn, hr, hm⟩ := h
  have hl : (cellsP (some (n, m))).length ≤ 81 := cellsP_short _ fun k m' e => by simp at e; omega
  have HO := Lib.hid (fun w h => oopen_any (.pointer (some ⟨b, 0, none⟩)) (some (n, m)) w h hn hl)
  have HM := Lib.hid hm
  have HRG := Lib.hid (rng_open hr)
  have HSH := Lib.hid (fun c m' w h hk => shut_any c n m' w hn h hk)
  clear hm hl hr
  go_enter Try.func9, Try.ntmps9
  go_wp2_with fail
  refine (HO.out _ HZ.out).mono ?_
  rintro e w1 ⟨rfl, hb, hw⟩
  have HB1 := Lib.hid hb
  have HW1 := Lib.hid (show MatAt w1 w.heap.size 72 .i32 n (openW (some (n, m))) from hw)
  have HM1 := Lib.hid (HM.out.later hb)
  clear hb hw HM HZ HO
  go_wp2_with fail
  refine (oempty_any b n m _ HM1.out).mono ?_
  cases he : emptyP (some (n, m)) with
  | true =>
    have HEQ := Lib.hid (show upW (some (n, m)) = openW (some (n, m)) by unfold upW; rw [if_pos he])
    rintro e w2 ⟨rfl, rfl⟩
    go_wp2_with fail
    refine (HSH.out _ _ _ HW1.out HRG.out).mono ?_
    rintro e w2 hz
    have HZ2 := Lib.hid hz
    obtain ⟨hb, v, rfl, hv⟩ := hz
    have HB2 := Lib.hid (HB1.out.trans (hb.mono HB1.out.size))
    clear hb hv
    go_wp2
    go_ret2
    rw [HEQ.out]
    exact ⟨HB2.out, HZ2.out.2⟩
  | false =>
    have HEQ := Lib.hid (show upW (some (n, m)) = upUp (openW (some (n, m))) (n + 1) by unfold upW; rw [if_neg (by simp [he])]; rfl)
    rintro e w2 ⟨rfl, rfl⟩
    obtain ⟨M, hM⟩ : ∃ M, M = openW (some (n, m)) := ⟨_, rfl⟩
    rw [← hM] at HEQ HW1 HRG
    clear hM he HM1
    go_wp2
    go_loopg [5] n (fun g v wr => ∃ p : Nat, v = .int .i64 p ∧ Hid (Only w.heap.size w1 wr ∧ MatAt wr w.heap.size 72 .i32 n (upUp M p)) ∧ Hid (1 ≤ p ∧ p ≤ n + 1 ∧ g + p = n + 1))
    case atStart => exact ⟨1, by simp, ⟨Only.refl _ _, HW1.out⟩, by omega, by omega, by omega⟩
    case round =>
      clear HW1
      obtain ⟨p, rfl, HR, HG⟩ := hrel
      have c0 := HR.out.2.head
      have hlt := HR.out.2.lt
      by_cases hp : p ≤ n
      · have hpi : (p : Int) ≤ (n : Int) := by omega
        have hp9 : (p : Int) < 9 := by omega
        have c1 := HR.out.2.cell p 0 (by omega) (by omega)
        have f1 := HR.out.2.frozen (1 + p * 9)
        simp only [Nat.add_zero] at c1
        go_wp2
        go_roundg (gk - 1)
        case measure => have h := HG.out; omega
        case rel =>
          refine ⟨p + 1, by go_num, ⟨HR.out.1.setCell _ _, ?_⟩, by omega, by omega, by have h := HG.out; omega⟩
          have e : upUp M (p + 1) = upd (upUp M p) p 0 2147483647 := by
            have h := HG.out
            rw [upUp, if_neg (by omega)]
          rw [e]
          exact HR.out.2.set p 0 (by omega) (by omega) _
      · have e : p = n + 1 := by have := HG.out; omega
        subst e
        have hpi : ¬ (((n + 1 : Nat) : Int) ≤ (n : Int)) := by omega
        have HB2 := Lib.hid (HB1.out.trans (HR.out.1.below (Nat.le_refl _) HB1.out.size))
        go_wp2_with fail
        refine (HSH.out _ _ _ HR.out.2 (rng_up HRG.out _)).mono ?_
        rintro e w2 hz
        have HZ2 := Lib.hid hz
        obtain ⟨hb, v, rfl, hv⟩ := hz
        have HB3 := Lib.hid (HB2.out.trans (hb.mono HB2.out.size))
        clear hb hv
        go_wp2
        go_ret2
        rw [HEQ.out]
        exact ⟨HB3.out, HZ2.out.2⟩

end Go.Proofs.Ytkgohhdenfnfpaa

/- All from which time leads to a zone. -/
namespace Go.Proofs.Ytkgohhdenfnfpaa
open Go Go.RowKit
set_option linter.unusedVariables false
set_option linter.unusedSimpArgs false
attribute [local go_sem] min_ints max_ints

theorem rng_less {n : Nat} {m : Mat} (h : Rng n m) (a b : Nat) (ha : a < n + 1) (hb : b < n + 1) (x : Int) (h0 : -2147483648 ≤ x) (h1 : x ≤ 2147483647) : Rng n (lessM m a b x) := by
  have := h a b ha hb
  unfold lessM
  exact rng_upd h a b _ (by omega) (by omega)
/-- Column i made as strict as the first j cells. -/
def downIn (m : Mat) (i : Nat) : Nat → Mat
  | 0 => m
  | j + 1 => if j = 0 then downIn m i j else lessM (downIn m i j) 0 i (downIn m i j j i)
def downUp (n : Nat) (m : Mat) : Nat → Mat
  | 0 => m
  | i + 1 => if i = 0 then downUp n m i else downIn (upd (downUp n m i) 0 i 1) i (n + 1)
theorem rng_downIn {n : Nat} {m : Mat} (h : Rng n m) (i : Nat) (hi : i < n + 1) : ∀ j, j ≤ n + 1 → Rng n (downIn m i j)
  | 0, _ => h
  | j + 1, hj => by
    have := rng_downIn h i hi j (by omega)
    unfold downIn
    split
    · exact this
    · exact rng_less this 0 i (by omega) hi _ (this j i (by omega) hi).1 (this j i (by omega) hi).2
theorem rng_down {n : Nat} {m : Mat} (h : Rng n m) : ∀ i, i ≤ n + 1 → Rng n (downUp n m i)
  | 0, _ => h
  | i + 1, hi => by
    have := rng_down h i (by omega)
    unfold downUp
    split
    · exact this
    · exact rng_downIn (rng_upd this _ _ _ (by decide) (by decide)) i (by omega) _ (Nat.le_refl _)
/-- The cells behind Down. -/
def downW (z : Option (Nat × Mat)) : Mat := if emptyP z then openW z else downUp (dimN z) (openW z) (dimN z + 1)

end Go.Proofs.Ytkgohhdenfnfpaa

/- Zones, empty or full; what the zone of their changed cells is. -/
namespace Go.Proofs.Ytkgohhdenfnfpaa
set_option linter.unusedVariables false
set_option linter.unusedSimpArgs false

/-- Cells, wide. -/
def widW (m : Mat) : Mat := fun i j => wid (m i j)
theorem wid_upd (m : Mat) (a b : Nat) (x : Int) : widW (upd m a b x) = upd (widW m) a b (wid x) := by
  funext i j
  unfold widW upd
  split <;> rfl
theorem wid_min {x y : Int} (hx : x ≤ 2147483647) (hy : y ≤ 2147483647) : wid (min x y) = min (wid x) (wid y) := by
  unfold wid none62
  rw [Int.min_def, Int.min_def]
  split <;> split <;> split <;> (try split) <;> omega
theorem wid_less (m : Mat) (a b : Nat) (x : Int) (h : m a b ≤ 2147483647) (hx : x ≤ 2147483647) : widW (lessM m a b x) = lessM (widW m) a b (wid x) := by
  unfold lessM
  rw [wid_upd, wid_min h hx]
  rfl
theorem right_hi {x : Int} (h : rightB x = true) : -2147483648 ≤ x ∧ x ≤ 2147483647 := by
  unfold rightB at h
  have := of_decide_eq_true h
  omega
theorem right_min {x y : Int} (hx : rightB x = true) (hy : rightB y = true) : rightB (min x y) = true := by
  rw [Int.min_def]; split <;> assumption
/-- Cells that bounds of a zone may be. -/
structure OkM (n : Nat) (m : Mat) : Prop where
  right : RightM n m
  diag : ∀ i, i ≤ n → m i i ≤ 1
  top : ∀ j, j ≤ n → m 0 j ≤ 1
theorem OkM.upd {n : Nat} {m : Mat} (h : OkM n m) (a b : Nat) (x : Int) (hr : rightB x = true) (hd : a = b → x ≤ 1) (ht : a = 0 → x ≤ 1) : OkM n (upd m a b x) := by
  refine ⟨fun i j hi hj => ?_, fun i hi => ?_, fun j hj => ?_⟩
  · unfold Go.Proofs.Ytkgohhdenfnfpaa.upd; split
    · exact hr
    · exact h.right i j hi hj
  · unfold Go.Proofs.Ytkgohhdenfnfpaa.upd; split
    · rename_i e; exact hd (by omega)
    · exact h.diag i hi
  · unfold Go.Proofs.Ytkgohhdenfnfpaa.upd; split
    · rename_i e; exact ht (by omega)
    · exact h.top j hj
theorem OkM.less {n : Nat} {m : Mat} (h : OkM n m) (a b : Nat) (ha : a ≤ n) (hb : b ≤ n) (x : Int) (hr : rightB x = true) : OkM n (lessM m a b x) := by
  refine h.upd a b _ (right_min (h.right a b ha hb) hr) (fun e => ?_) (fun e => ?_)
  · subst e; have := h.diag a ha; omega
  · subst e; have := h.top b hb; omega
theorem OkM.fit {n : Nat} {m : Mat} (h : OkM n m) : Fit n 1073741824 (widW m) := by
  refine ⟨fun i j hi hj => ?_, fun i hi => ?_⟩
  · unfold widW wid
    split
    · exact .inl rfl
    · rename_i e
      have := rightB_bd (h.right i j hi hj) e
      exact .inr (by omega)
  · have := h.diag i hi
    unfold widW wid
    rw [if_neg (by omega)]; exact this
theorem OkM.wtop {n : Nat} {m : Mat} (h : OkM n m) : ∀ j, j ≤ n → widW m 0 j ≤ 1 := fun j hj => by
  have := h.top j hj
  unfold widW wid
  rw [if_neg (by omega)]; exact this
/-- What Of tells of such cells. -/
theorem ofP_wid {n : Nat} {m : Mat} (hn : n ≤ 8) (h : OkM n m) : ofP n (flat n m) = zoneP n (widW m) := by
  rw [of_flat hn h.right]
  refine zoneP_agree fun i j hi hj => ?_
  unfold wideZ
  split
  · rename_i e
    have : m i j ≤ 1 := by
      rcases e with e | e
      · subst e; exact h.diag i hi
      · subst e; exact h.top j hj
    unfold widW
    have e2 : wid (m i j) = m i j := by unfold wid; rw [if_neg (by omega)]
    rw [e2]; omega
  · rfl
/-- The zone is not empty. -/
structure FullZ (n : Nat) (m : Mat) : Prop where
  right : RightM n m
  one : ∀ i, i ≤ n → m i i = 1
  top : ∀ j, j ≤ n → m 0 j ≤ 1
theorem FullZ.ok {n : Nat} {m : Mat} (h : FullZ n m) : OkM n m := ⟨h.right, fun i hi => by rw [h.one i hi]; exact Int.le_refl _, h.top⟩
theorem keepUp_top4 {n : Nat} {cells : List Int} (hr : ∀ q, q < (n + 1) * (n + 1) → rightB (cells.getD q 0) = true) : ∀ j, j ≤ n → keepUp n cells ((n + 1) * (n + 1)) 0 j ≤ 1 := fun j hj => by
  rw [keepUp_cell n cells 0 j (Nat.zero_le _) hj hr _ (Nat.le_refl _), if_pos (at_lt (by omega) (by omega)), if_pos (.inr rfl)]
  omega
theorem full_of {n : Nat} {M m' : Mat} (h0 : ∀ j, j ≤ n → M 0 j ≤ 1) (ha : allR n m') (hc : Closed n M m') : FullZ n (narM n m') := by
  have hcell : ∀ i j, i ≤ n → j ≤ n → m' i j ≤ 1 → narM n m' i j = m' i j := fun i j hi hj hle => by
    unfold narM nar
    rw [if_pos ⟨hi, hj⟩, if_neg (by unfold none62; omega)]
  refine ⟨narM_right ha, fun i hi => ?_, fun j hj => ?_⟩
  · rw [hcell i i hi hi (by rw [hc.one i hi]; exact Int.le_refl _), hc.one i hi]
  · have : m' 0 j ≤ 1 := Int.le_trans (hc.le 0 j) (h0 j hj)
    rw [hcell 0 j (by omega) hj this]; exact this
/-- A zone is empty, or full. -/
theorem zone_kinds {n : Int} {cells : List Int} {k : Nat} {m : Mat} (e : zOf n cells = some (k, m)) : (0 ≤ n ∧ n ≤ 8 ∧ k = n.toNat) ∧ (m = (fun _ _ => 0) ∨ FullZ k m) := by
  unfold zOf at e
  cases hz : (ofP n cells).1 with
  | none => rw [hz] at e; cases e
  | some m0 =>
    rw [hz] at e
    simp only [Option.map_some, Option.some.injEq, Prod.mk.injEq] at e
    obtain ⟨e1, e2⟩ := e
    subst e2
    unfold ofP at hz
    split at hz
    · rename_i hn
      split at hz
      · rename_i hl
        split at hz
        · rename_i hr
          obtain ⟨q, rfl⟩ : ∃ q : Nat, n = q := ⟨n.toNat, by omega⟩
          rw [Int.toNat_natCast] at hz e1
          subst e1
          have hl' : cells.length = (q + 1) * (q + 1) := by exact_mod_cast hl
          have hr' : ∀ p, p < (q + 1) * (q + 1) → rightB (cells.getD p 0) = true := fun p hp => (all_getD cells rightB 0).1 hr p (by omega)
          rw [hl'] at hz
          refine ⟨by omega, ?_⟩
          rcases zoneP_is (by omega) (keepUp_fit q cells _ hr') hz with ⟨h, _⟩ | ⟨m', hm, ha, hzz, hc⟩
          · exact .inl h
          · right; rw [hzz]; exact full_of (keepUp_top4 hr') ha hc
        · cases hz
      · cases hz
    · cases hz
theorem FullZ.notEmpty {n : Nat} {m : Mat} (h : FullZ n m) : emptyP (some (n, m)) = false := decide_eq_false (by have := h.one 0 (by omega); omega)

/-- The same cells, opened. -/
theorem Agree.upd {n : Nat} {m o : Mat} (h : Agree n m o) (a b : Nat) (x : Int) : Agree n (upd m a b x) (upd o a b x) := fun i j hi hj => by
  unfold Go.Proofs.Ytkgohhdenfnfpaa.upd; split
  · rfl
  · exact h i j hi hj
theorem Agree.less {n : Nat} {m o : Mat} (h : Agree n m o) (a b : Nat) (ha : a ≤ n) (hb : b ≤ n) (x : Int) : Agree n (lessM m a b x) (lessM o a b x) := by
  unfold lessM; rw [h a b ha hb]; exact h.upd a b _
theorem open_agree (n : Nat) (m : Mat) : Agree n (openW (some (n, m))) m := fun i j hi hj => openW_in (by omega) (by omega)

/-! ### empty zones -/
theorem flat_open (n : Nat) (m : Mat) : flat n (openW (some (n, m))) = flat n m := flat_congr (open_agree n m)
theorem ofP_zero (n : Nat) (hn : n ≤ 8) : ofP n (flat n (openW (some (n, fun _ _ => 0)))) = (some (fun _ _ => 0), 0) := by
  rw [flat_open, of_flat hn (right_zero n), zoneP_zero]

/-! ### Up -/
def upD (M : Mat) : Nat → Mat
  | 0 => M
  | p + 1 => if p = 0 then upD M p else upd (upD M p) p 0 none62
theorem wid_up (m : Mat) : ∀ p, widW (upUp m p) = upD (widW m) p
  | 0 => rfl
  | p + 1 => by
    unfold upUp upD
    split
    · exact wid_up m p
    · rw [wid_upd, wid_up m p]; rfl
theorem Agree.up {n : Nat} {m o : Mat} (h : Agree n m o) : ∀ p, Agree n (upUp m p) (upUp o p)
  | 0 => h
  | p + 1 => by
    unfold upUp
    split
    · exact h.up p
    · exact (h.up p).upd _ _ _
theorem OkM.up {n : Nat} {m : Mat} (h : OkM n m) : ∀ p, OkM n (upUp m p)
  | 0 => h
  | p + 1 => by
    unfold upUp
    split
    · exact h.up p
    · rename_i e; exact (h.up p).upd _ _ _ (by decide) (fun e' => absurd e' e) (fun e' => absurd e' e)
theorem up_same {n : Nat} {m : Mat} (hn : n ≤ 8) (h : FullZ n m) : ofP n (flat n (upW (some (n, m)))) = zoneP n (upD (widW m) (n + 1)) := by
  have e : upW (some (n, m)) = upUp (openW (some (n, m))) (n + 1) := by unfold upW; rw [h.notEmpty]; rfl
  rw [e, flat_congr ((open_agree n m).up (n + 1)), ofP_wid hn (h.ok.up _), wid_up]
theorem up_zero (n : Nat) (hn : n ≤ 8) : ofP n (flat n (upW (some (n, fun _ _ => 0)))) = (some (fun _ _ => 0), 0) := by
  have e : upW (some (n, fun _ _ => 0)) = openW (some (n, fun _ _ => 0)) := by unfold upW; rw [if_pos (show emptyP (some (n, fun _ _ => 0)) = true from rfl)]
  rw [e]; exact ofP_zero n hn

/-! ### Down -/
theorem OkM.downIn {n : Nat} {m : Mat} (h : OkM n m) (i : Nat) (hi : i ≤ n) : ∀ j, j ≤ n + 1 → OkM n (downIn m i j)
  | 0, _ => h
  | j + 1, hj => by
    have ih := h.downIn i hi j (by omega)
    unfold Go.Proofs.Ytkgohhdenfnfpaa.downIn
    split
    · exact ih
    · exact ih.less 0 i (by omega) hi _ (ih.right j i (by omega) hi)
theorem OkM.down {n : Nat} {m : Mat} (h : OkM n m) : ∀ i, i ≤ n + 1 → OkM n (downUp n m i)
  | 0, _ => h
  | i + 1, hi => by
    have ih := h.down i (by omega)
    unfold downUp
    split
    · exact ih
    · exact (ih.upd 0 i 1 (by decide) (fun _ => Int.le_refl _) (fun _ => Int.le_refl _)).downIn i (by omega) _ (Nat.le_refl _)
theorem wid_downIn {n : Nat} {m : Mat} (h : OkM n m) (i : Nat) (hi : i ≤ n) : ∀ j, j ≤ n + 1 → widW (downIn m i j) = downIn (widW m) i j
  | 0, _ => rfl
  | j + 1, hj => by
    have ih := wid_downIn h i hi j (by omega)
    have ok := h.downIn i hi j (by omega)
    unfold downIn
    split
    · exact ih
    · rw [wid_less _ _ _ _ (right_hi (ok.right 0 i (by omega) hi)).2 (right_hi (ok.right j i (by omega) hi)).2, ih, ← ih]
      rfl
theorem wid_down {n : Nat} {m : Mat} (h : OkM n m) : ∀ i, i ≤ n + 1 → widW (downUp n m i) = downUp n (widW m) i
  | 0, _ => rfl
  | i + 1, hi => by
    have ih := wid_down h i (by omega)
    have ok := h.down i (by omega)
    unfold downUp
    split
    · exact ih
    · rw [wid_downIn (ok.upd 0 i 1 (by decide) (fun _ => Int.le_refl _) (fun _ => Int.le_refl _)) i (by omega) _ (Nat.le_refl _), wid_upd, ih]
      rfl
theorem Agree.downIn {n : Nat} {m o : Mat} (h : Agree n m o) (i : Nat) (hi : i ≤ n) : ∀ j, j ≤ n + 1 → Agree n (downIn m i j) (downIn o i j)
  | 0, _ => h
  | j + 1, hj => by
    have ih := h.downIn i hi j (by omega)
    unfold Go.Proofs.Ytkgohhdenfnfpaa.downIn
    split
    · exact ih
    · rw [ih j i (by omega) hi]; exact ih.less 0 i (by omega) hi _
theorem Agree.down {n : Nat} {m o : Mat} (h : Agree n m o) : ∀ i, i ≤ n + 1 → Agree n (downUp n m i) (downUp n o i)
  | 0, _ => h
  | i + 1, hi => by
    unfold downUp
    split
    · exact h.down i (by omega)
    · exact ((h.down i (by omega)).upd 0 i 1).downIn i (by omega) _ (Nat.le_refl _)
theorem down_same {n : Nat} {m : Mat} (hn : n ≤ 8) (h : FullZ n m) : ofP n (flat n (downW (some (n, m)))) = zoneP n (downUp n (widW m) (n + 1)) := by
  have e : downW (some (n, m)) = downUp n (openW (some (n, m))) (n + 1) := by unfold downW; rw [h.notEmpty]; rfl
  rw [e, flat_congr ((open_agree n m).down (n + 1) (Nat.le_refl _)), ofP_wid hn (h.ok.down _ (Nat.le_refl _)), wid_down h.ok _ (Nat.le_refl _)]
theorem down_zero (n : Nat) (hn : n ≤ 8) : ofP n (flat n (downW (some (n, fun _ _ => 0)))) = (some (fun _ _ => 0), 0) := by
  have e : downW (some (n, fun _ _ => 0)) = openW (some (n, fun _ _ => 0)) := by unfold downW; rw [if_pos (show emptyP (some (n, fun _ _ => 0)) = true from rfl)]
  rw [e]; exact ofP_zero n hn

end Go.Proofs.Ytkgohhdenfnfpaa
