/- What is asked of zones: Dim, Empty, Cell, Cells, Includes. -/
import Derived.Test.YtgpmfnahjepjjaaDoorDa
import Derived.Deep.RegionWith
namespace Go.Proofs.YtgpmfnahjepjjaaDoor
open Go.RowKit
set_option linter.unusedVariables false
set_option linter.unusedSimpArgs false
attribute [local go_sem] min_ints max_ints

set_option maxHeartbeats 400000 in
theorem dim_nil (w : World) : Calls Tryd.prog 7 #[.pointer none] w fun e w' => e = .returned (.int .i64 0) ∧ w = w' := by
  go_enter Tryd.func7, Tryd.ntmps7
  go_wp2
  go_ret
  exact ⟨rfl, rfl⟩
set_option maxHeartbeats 400000 in
theorem dim_zone (b n : Nat) (m : Mat) (w : World) (h : MatAt w b 44 .i32 n m) : Calls Tryd.prog 7 #[.pointer (some ⟨b, 0, none⟩)] w fun e w' => e = .returned (.int .i64 n) ∧ w = w' := by
  have h0 := h.head
  clear h
  go_enter Tryd.func7, Tryd.ntmps7
  go_wp2
  go_ret
  exact ⟨rfl, rfl⟩
set_option maxHeartbeats 400000 in
theorem empty_nil (w : World) : Calls Tryd.prog 8 #[.pointer none] w fun e w' => e = .returned (.bool false) ∧ w = w' := by
  go_enter Tryd.func8, Tryd.ntmps8
  go_wp2
  go_ret
  exact ⟨rfl, rfl⟩
set_option maxHeartbeats 400000 in
theorem empty_zone (b n : Nat) (m : Mat) (w : World) (h : MatAt w b 44 .i32 n m) : Calls Tryd.prog 8 #[.pointer (some ⟨b, 0, none⟩)] w fun e w' => e = .returned (.bool (decide (m 0 0 < 1))) ∧ w = w' := by
  have h0 := h.cell 0 0 (by omega) (by omega)
  simp only [Nat.zero_mul, Nat.add_zero] at h0
  clear h
  go_enter Tryd.func8, Tryd.ntmps8
  go_wp2
  go_ret
  exact ⟨rfl, rfl⟩

/-- What Cell answers. -/
def cellP (n : Nat) (m : Mat) (i j : Int) : Int × Int := if 0 ≤ i ∧ i ≤ n ∧ 0 ≤ j ∧ j ≤ n then (m i.toNat j.toNat, 0) else (0, 12)
set_option maxHeartbeats 400000 in
theorem cell_nil (i j : Int) (w : World) : Calls Tryd.prog 5 #[.pointer none, .int .i64 i, .int .i64 j] w fun e w' => e = .returned (.tuple #[.int .i32 0, .int .i64 1]) ∧ w = w' := by
  go_enter Tryd.func5, Tryd.ntmps5
  go_wp2
  go_ret2
  exact ⟨rfl, rfl⟩
set_option maxRecDepth 100000 in
set_option maxHeartbeats 1000000 in
theorem cell_zone (b n : Nat) (m : Mat) (i j : Int) (w : World) (hn : n ≤ 8) (h : MatAt w b 44 .i32 n m) :
    Calls Tryd.prog 5 #[.pointer (some ⟨b, 0, none⟩), .int .i64 i, .int .i64 j] w fun e w' => e = .returned (.tuple #[.int .i32 (cellP n m i j).1, .int .i64 (cellP n m i j).2]) ∧ w = w' := by
  have h0 := h.head
  have H := Lib.hid h
  clear h
  by_cases a1 : i < 0
  · have hz : cellP n m i j = (0, 12) := by unfold cellP; rw [if_neg (by omega)]
    rw [hz]
    clear hz
    have d1 : decide (i < 0) = true := decide_eq_true a1
    go_enter Tryd.func5, Tryd.ntmps5
    go_wp2
    go_ret2
    exact ⟨rfl, rfl⟩
  · have d1 : decide (i < 0) = false := decide_eq_false a1
    by_cases a2 : (n : Int) < i
    · have hz : cellP n m i j = (0, 12) := by unfold cellP; rw [if_neg (by omega)]
      rw [hz]
      clear hz
      have d2 : decide ((n : Int) < i) = true := decide_eq_true a2
      go_enter Tryd.func5, Tryd.ntmps5
      go_wp2
      go_ret2
      exact ⟨rfl, rfl⟩
    · have d2 : decide ((n : Int) < i) = false := decide_eq_false a2
      by_cases a3 : j < 0
      · have hz : cellP n m i j = (0, 12) := by unfold cellP; rw [if_neg (by omega)]
        rw [hz]
        clear hz
        have d3 : decide (j < 0) = true := decide_eq_true a3
        go_enter Tryd.func5, Tryd.ntmps5
        go_wp2
        go_ret2
        exact ⟨rfl, rfl⟩
      · have d3 : decide (j < 0) = false := decide_eq_false a3
        by_cases a4 : (n : Int) < j
        · have hz : cellP n m i j = (0, 12) := by unfold cellP; rw [if_neg (by omega)]
          rw [hz]
          clear hz
          have d4 : decide ((n : Int) < j) = true := decide_eq_true a4
          go_enter Tryd.func5, Tryd.ntmps5
          go_wp2
          go_ret2
          exact ⟨rfl, rfl⟩
        · have d4 : decide ((n : Int) < j) = false := decide_eq_false a4
          obtain ⟨p, rfl⟩ : ∃ p : Nat, i = p := ⟨i.toNat, by omega⟩
          obtain ⟨q, rfl⟩ : ∃ q : Nat, j = q := ⟨j.toNat, by omega⟩
          have hz : cellP n m p q = (m p q, 0) := by unfold cellP; rw [if_pos (by omega)]; rfl
          rw [hz]
          clear hz
          have hc := H.out.cell p q (by omega) (by omega)
          go_enter Tryd.func5, Tryd.ntmps5
          go_wp2
          go_ret2
          exact ⟨rfl, rfl⟩

theorem infoB : (Tryd.prog.info? 26).map (fun i => (i.zero, i.size, i.bytes)) = some (some (.int .i32 0), 1, 4) := by kernel_rfl
theorem addr_add (g o j : Nat) : (⟨g, o, none⟩ : Addr).add j = ⟨g, o + j, none⟩ := by unfold Addr.add; split <;> simp_all

theorem slice_row (g o n : Nat) (hn : n ≤ 8) (w : World) :
    (Instr.sliceAt 39 (.pointer (some ⟨g, o, none⟩)) none (some (.int .i64 ((n : Int) + 1))) none).run Tryd.prog w = .ok (.slice (some ⟨g, o, none⟩) (n + 1) 9) w := by
  have hl : Tryd.prog.arrayLen 39 = 9 := by kernel_rfl
  have hu : Tryd.prog.underlying 39 = some (.array (Tryd.prog.arrayLen 39) (Tryd.prog.elem 39)) := by kernel_rfl
  have hs : (sizeOf (Tryd.prog.elem 39)).run Tryd.prog w = .ok 1 w := by kernel_rfl
  rw [run_sliceAt_array_h w _ _ hu .i64 _ (by omega) (by rw [hl]; omega), hs, hl]
  have e : ((n : Int) + 1).toNat = n + 1 := by omega
  simp [slicedAt, e, Addr.add]

theorem own_drew {w : World} {base : Nat} {e : TypeId} {size n : Nat} {v : Value} {xs : List Value} (h : w.ownsRow base e size v n xs) : w.drew.ownsRow base e size v n xs := h
theorem row_cells {w : World} {b n N : Nat} {T : TypeId} {k : IntKind} {m : Mat} (h : MatAt w b T k N m) {i : Nat} (hi : i < 9) (hn : n ≤ 8) :
    ∀ j u, ((List.range (n + 1)).map (fun c => Value.int k (m i c)))[j]? = some u → w.cell? ((⟨b, 1 + i * 9, none⟩ : Addr).add j) = some u := by
  intro j u hu
  rw [addr_add]
  rw [List.getElem?_map] at hu
  by_cases hj : j < n + 1
  · simp [hj] at hu
    subst hu
    exact h.cell i j hi (by omega)
  · simp [hj] at hu

/-- The rows that all has gathered. -/
def AllR (w0 : World) (b n : Nat) (m : Mat) (i : Nat) (v : Value) (wr : World) : Prop :=
  Below w0.heap.size w0 wr ∧ wr.ownsRow w0.heap.size 26 1 v (i * (n + 1)) (vals .i32 (rowsL n m i)) ∧ i ≤ n + 1

set_option maxRecDepth 100000 in
set_option maxHeartbeats 1000000 in
theorem all_any (b n : Nat) (m : Mat) (w : World) (hn : n ≤ 8) (h : MatAt w b 44 .i32 n m) :
    Calls Tryd.prog 19 #[.pointer (some ⟨b, 0, none⟩)] w fun e w' => ∃ v, e = .returned v ∧ AllR w b n m (n + 1) v w' := by
  have h0 := h.head
  have H := Lib.hid h
  clear h
  obtain ⟨i0, hi, hz0, hz1, hz2⟩ := info_parts infoB
  have HI := Lib.hid (And.intro hi (And.intro hz0 (And.intro hz1 hz2)))
  clear hi hz0 hz1 hz2
  have HS := Lib.hid (show AllR w b n m 0 (.slice none 0 0) w from ⟨Below.refl _ _, by simpa [rowsL, vals] using World.ownsRow_nil w _ _ _, by omega⟩)
  go_enter Tryd.func19, Tryd.ntmps19
  go_wp2
  go_loopg [3, 10] (n + 1) (fun g v x wr => ∃ i : Nat, x = .int .i64 i ∧ AllR w b n m i v wr ∧ Hid (g + i = n + 1))
  case atStart => exact ⟨0, by simp, HS.out, by show _ = _; omega⟩
  case round =>
    clear HS h0
    obtain ⟨i, rfl, HA, HG⟩ := hrel
    have HR := Lib.hid HA
    have hm := H.out.later HA.1
    have h0 := hm.head
    have HM := Lib.hid hm
    clear HA hm
    by_cases hi : i < n + 1
    · have hii : (i : Int) < (n : Int) + 1 := by omega
      have i9 : (i : Int) < 9 := by omega
      have n9 : (n : Int) + 1 ≤ 9 := by omega
      have g1 : IntKind.i64.wrap ((n : Int) + 1) = (n : Int) + 1 := IntWalk.i64_in _ (by omega)
      have D0 := Lib.hid (show wr.drew.cell? _ = _ from h0)
      have hin : i * (n + 1) ≤ 8 * 9 := Nat.mul_le_mul (by omega) (by omega)
      have hsl := slice_row b (1 + i * 9) n hn
      go_wp2_with fail
      refine wp_region_still_tail 12 (by kernel_rfl) (by kernel_rfl) ?_
      simp only [List.take_succ_cons, List.take_zero, List.drop_succ_cons, List.drop_zero]
      change wpStill _ _ wr.drew _ _ _
      generalize wr.drew = w2 at *
      have d0 := D0.out
      clear D0
      repeat still_step
      refine wpStill_nil ?_
      go_wp2_with (at_builtin; refine wpList_append_own _ rfl _ _ 31 rfl w.heap.size 26 i0 (.int .i32 0) 1 4 Tryd.underlying31 HI.out.1 HI.out.2.1 HI.out.2.2.1 HI.out.2.2.2 rfl (by decide) _ _ _ rfl (own_drew HR.out.2.1) ⟨b, 1 + i * 9, none⟩ (n + 1) 9 ((List.range (n + 1)).map (fun c => Value.int .i32 (m i c))) rfl (by simp) (row_cells HM.out.drew (by omega) hn) (by intro u hu; obtain ⟨c, _, rfl⟩ := List.mem_map.1 hu; rfl) ?c3 ?c4 ?c5 ?_)
      case c3 => unfold maxLen; omega
      case c4 => omega
      case c5 => exact HR.out.1.size
      intro v' w3 hown hgrow _
      have HN := Lib.hid (show AllR w b n m (i + 1) v' w3 from by
        refine ⟨(Below.drew HR.out.1).grown hgrow HR.out.1.size (fun k hk => ?_), ?_, by omega⟩
        · exact (HR.out.2.1.lt k hk).1
        · have e : (i + 1) * (n + 1) = i * (n + 1) + (n + 1) := by rw [Nat.add_mul]; omega
          rw [e]
          have e2 : vals .i32 (rowsL n m (i + 1)) = vals .i32 (rowsL n m i) ++ (List.range (n + 1)).map (fun c => Value.int .i32 (m i c)) := by
            simp [vals, rowsL]
          rw [e2, List.range_succ, List.map_append]; exact hown)
      clear hown hgrow
      go_wp2
      go_roundg (gk - 1)
      case measure => have h := HG.out; omega
      case rel => exact ⟨i + 1, by go_num, HN.out, by have h := HG.out; show _ = _; omega⟩
    · have hii : ¬ (i : Int) < (n : Int) + 1 := by omega
      have e : i = n + 1 := by have := HR.out.2.2; omega
      subst e
      go_wp2
      go_ret
      exact ⟨_, rfl, HR.out⟩

/-- A slice that cells tells: all of them, in new memory. -/
theorem AllR.own {w0 wr : World} {b n : Nat} {m : Mat} {v : Value} (h : AllR w0 b n m (n + 1) v wr) : OwnI wr w0.heap.size 26 .i32 v (flat n m) := by
  unfold OwnI
  rw [flat_length]; exact h.2.1

theorem cells_nil (w : World) : Calls Tryd.prog 9 #[.pointer none] w fun e w' => e = .returned (.slice none 0 0) ∧ w = w' := by
  go_enter Tryd.func9, Tryd.ntmps9
  go_wp2
  go_ret
  exact ⟨rfl, rfl⟩
set_option maxRecDepth 100000 in
set_option maxHeartbeats 1000000 in
theorem cells_zone (b n : Nat) (m : Mat) (w : World) (hn : n ≤ 8) (h : MatAt w b 44 .i32 n m) :
    Calls Tryd.prog 9 #[.pointer (some ⟨b, 0, none⟩)] w fun e w' => ∃ v, e = .returned v ∧ Below w.heap.size w w' ∧ OwnI w' w.heap.size 26 .i32 v (flat n m) := by
  go_enter Tryd.func9, Tryd.ntmps9
  go_wp2_with fail
  refine (all_any b n m _ hn h).mono ?_
  rintro e w1 ⟨v, rfl, hA⟩
  have HA := Lib.hid hA
  clear hA h
  go_wp2
  go_ret
  exact ⟨v, rfl, HA.out.1, HA.out.own⟩

/-! ### are two of as many clocks? -/
def alikeP (z o : Option (Nat × Mat)) : Bool := match z, o with
  | some (n, _), some (k, _) => decide (n = k)
  | _, _ => false
theorem alike_nil (v : Value) (w : World) : Calls Tryd.prog 20 #[.pointer none, v] w fun e w' => e = .returned (.bool false) ∧ ∃ q, w' = w.drewN q := by
  go_enter Tryd.func20, Tryd.ntmps20
  go_wp2
  go_quiet (fail)
  go_wp2
  go_ret
  exact ⟨rfl, _, rfl⟩

set_option maxRecDepth 100000 in
theorem alike_none (b n : Nat) (m : Mat) (w : World) (h : MatAt w b 44 .i32 n m) : Calls Tryd.prog 20 #[.pointer (some ⟨b, 0, none⟩), .pointer none] w fun e w' => e = .returned (.bool false) ∧ ∃ q, w' = w.drewN q := by
  have h0 := h.head
  clear h
  go_enter Tryd.func20, Tryd.ntmps20
  go_wp2
  go_quiet (fail)
  go_wp2
  go_ret
  exact ⟨rfl, _, rfl⟩
set_option maxRecDepth 100000 in
theorem alike_two (b n c k : Nat) (m o : Mat) (w : World) (h : MatAt w b 44 .i32 n m) (h' : MatAt w c 44 .i32 k o) :
    Calls Tryd.prog 20 #[.pointer (some ⟨b, 0, none⟩), .pointer (some ⟨c, 0, none⟩)] w fun e w' => e = .returned (.bool (decide ((n : Int) = k))) ∧ ∃ q, w' = w.drewN q := by
  have h0 := h.head
  have h1 := h'.head
  clear h h'
  go_enter Tryd.func20, Tryd.ntmps20
  go_wp2
  go_quiet (fail)
  go_wp2
  go_ret
  exact ⟨by congr, _, rfl⟩

theorem alike_same (b c n : Nat) (m o : Mat) (w : World) (h : MatAt w b 44 .i32 n m) (h' : MatAt w c 44 .i32 n o) :
    Calls Tryd.prog 20 #[.pointer (some ⟨b, 0, none⟩), .pointer (some ⟨c, 0, none⟩)] w fun e w' => e = .returned (.bool true) ∧ ∃ q, w' = w.drewN q :=
  (alike_two b n c n m o w h h').mono fun _ _ k => ⟨by rw [k.1, decide_eq_true rfl], k.2⟩
theorem alike_other (b c n k : Nat) (m o : Mat) (w : World) (h : MatAt w b 44 .i32 n m) (h' : MatAt w c 44 .i32 k o) (hne : n ≠ k) :
    Calls Tryd.prog 20 #[.pointer (some ⟨b, 0, none⟩), .pointer (some ⟨c, 0, none⟩)] w fun e w' => e = .returned (.bool false) ∧ ∃ q, w' = w.drewN q :=
  (alike_two b n c k m o w h h').mono fun _ _ j => ⟨by rw [j.1, decide_eq_false (by omega)], j.2⟩

end Go.Proofs.YtgpmfnahjepjjaaDoor
