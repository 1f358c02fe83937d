/- Cell and Cells of the document's zones. -/
import Derived.Test.YtgpmfnahjepjjaaRg
import Derived.Test.YtgpmfnahjepjjaaDe
namespace Go.Proofs.Ytgpmfnahjepjjaa
open Go Go.RowKit
set_option linter.unusedVariables false
set_option linter.unusedSimpArgs false

/-- What Cell answers of a zone, or of nil. -/
def cellZ (z : Option (Nat × Mat)) (i j : Int) : Int × Int := match z with | some (n, m) => cellP n m i j | none => (0, 1)
theorem cell_any (v : Value) (z : Option (Nat × Mat)) (i j : Int) (w : World) (h : ZoneV 76 w v z) :
    Calls Try.prog 25 #[v, .int .i64 i, .int .i64 j] w fun e w' => e = .returned (.tuple #[.int .i32 (cellZ z i j).1, .int .i64 (cellZ z i j).2]) ∧ w = w' := by
  match z, h with
  | none, h =>
    have h : v = .pointer none := h
    subst h
    exact cell_nil i j w
  | some (n, m), ⟨b, e, hn, _, hm⟩ =>
    subst e
    exact cell_zone b n m i j w hn hm

set_option maxRecDepth 100000 in
set_option maxHeartbeats 1000000 in
theorem rcell_nil (i j : Int) (w : World) : Calls Try.prog 26 #[.pointer none, .int .i64 i, .int .i64 j] w fun e w' => e = .returned (.tuple #[.int .i32 0, .int .i64 1]) ∧ ∃ q, w' = w.drewN q := by
  go_enter Try.func26, Try.ntmps26
  go_wp2
  go_ret2
  exact ⟨rfl, 0, rfl⟩

set_option maxRecDepth 100000 in
set_option maxHeartbeats 1000000 in
theorem rcell_zone (b g cap n : Nat) (m : Mat) (i j : Int) (w : World) (hn : n ≤ 8) (h0 : w.cell? ⟨b, 0, none⟩ = some (.int .i64 n)) (h1 : w.cell? ⟨b, 1, none⟩ = some (.slice (some ⟨g, 0, none⟩) ((n + 1) * (n + 1)) cap))
    (hr : RowAt w g 37 .i32 (flat n m)) :
    Calls Try.prog 26 #[.pointer (some ⟨b, 0, none⟩), .int .i64 i, .int .i64 j] w fun e w' => e = .returned (.tuple #[.int .i32 (cellP n m i j).1, .int .i64 (cellP n m i j).2]) ∧ ∃ q, w' = w.drewN q := by
  have HR := Lib.hid hr
  obtain ⟨N, hN⟩ : ∃ N, N = (n + 1) * (n + 1) := ⟨_, rfl⟩
  rw [← hN] at h1
  have HN := Lib.hid hN
  clear hr hN
  by_cases a1 : i < 0
  · have hz : cellP n m i j = (0, 12) := by unfold cellP; rw [if_neg (by omega)]
    rw [hz]
    clear hz
    have d1 : decide (i < 0) = true := decide_eq_true a1
    go_enter Try.func26, Try.ntmps26
    go_wp2
    go_ret2
    exact ⟨rfl, 0, rfl⟩
  · have d1 : decide (i < 0) = false := decide_eq_false a1
    by_cases a2 : (n : Int) < i
    · have hz : cellP n m i j = (0, 12) := by unfold cellP; rw [if_neg (by omega)]
      rw [hz]
      clear hz
      have d2 : decide ((n : Int) < i) = true := decide_eq_true a2
      go_enter Try.func26, Try.ntmps26
      go_wp2
      go_ret2
      exact ⟨rfl, 0, rfl⟩
    · have d2 : decide ((n : Int) < i) = false := decide_eq_false a2
      by_cases a3 : j < 0
      · have hz : cellP n m i j = (0, 12) := by unfold cellP; rw [if_neg (by omega)]
        rw [hz]
        clear hz
        have d3 : decide (j < 0) = true := decide_eq_true a3
        go_enter Try.func26, Try.ntmps26
        go_wp2
        go_ret2
        exact ⟨rfl, 0, rfl⟩
      · have d3 : decide (j < 0) = false := decide_eq_false a3
        by_cases a4 : (n : Int) < j
        · have hz : cellP n m i j = (0, 12) := by unfold cellP; rw [if_neg (by omega)]
          rw [hz]
          clear hz
          have d4 : decide ((n : Int) < j) = true := decide_eq_true a4
          go_enter Try.func26, Try.ntmps26
          go_wp2
          go_ret2
          exact ⟨rfl, 0, rfl⟩
        · have d4 : decide ((n : Int) < j) = false := decide_eq_false a4
          obtain ⟨p, rfl⟩ : ∃ p : Nat, i = p := ⟨i.toNat, by omega⟩
          obtain ⟨q, rfl⟩ : ∃ q : Nat, j = q := ⟨j.toNat, by omega⟩
          have hz : cellP n m p q = (m p q, 0) := by unfold cellP; rw [if_pos (by omega)]; rfl
          rw [hz]
          clear hz
          obtain ⟨P, hP, hP1, hP2, hP3⟩ := prod_facts p n (by omega) hn
          have hPN : P + n < N := by have := HN.out; omega
          have hc := HR.out.cell (P + q) (by rw [flat_length, ← HN.out]; omega)
          rw [hP2, flat_at m (by omega) (by omega), ← hP2] at hc
          clear hP2 hP3
          have g1 : IntKind.i64.wrap ((n : Int) + 1) = (n : Int) + 1 := IntWalk.i64_in _ (by omega)
          have g2 : IntKind.i64.wrap (P : Int) = (P : Int) := IntWalk.i64_in _ (by omega)
          have g3 : IntKind.i64.wrap ((P : Int) + (q : Int)) = (P : Int) + (q : Int) := IntWalk.i64_in _ (by omega)
          have l1 : (P : Int) + (q : Int) < (N : Int) := by omega
          have l3 : 0 ≤ (P : Int) + (q : Int) := by omega
          have n1 : ((P : Int) + (q : Int)).toNat = P + q := by omega
          go_enter Try.func26, Try.ntmps26
          go_wp2_with fail
          go_quiet (fail)
          go_wp2
          go_ret2
          exact ⟨rfl, _, rfl⟩

theorem rcell_any (v : Value) (z : Option (Nat × Mat)) (i j : Int) (w : World) (h : RefZ w v z) :
    Calls Try.prog 26 #[v, .int .i64 i, .int .i64 j] w fun e w' => e = .returned (.tuple #[.int .i32 (cellZ z i j).1, .int .i64 (cellZ z i j).2]) ∧ ∃ q, w' = w.drewN q := by
  match z, h with
  | none, h =>
    have h : v = .pointer none := h
    subst h
    exact rcell_nil i j w
  | some (n, m), h =>
    obtain ⟨b, g, cap, e, hn, _, h0, h1, hr⟩ := h.parts
    subst e
    exact rcell_zone b g cap n m i j w hn h0 h1 hr

/-- A slice in new memory, or nil: what Cells tells. -/
def TellsL (w0 : World) (xs : List Int) (e : Ending) (w' : World) : Prop := ∃ v, e = .returned v ∧ Below w0.heap.size w0 w' ∧ OwnI w' w0.heap.size 37 .i32 v xs
theorem tells_nil (w0 w' : World) (h : w0 = w') : TellsL w0 [] (.returned (.slice none 0 0)) w' := by
  subst h
  exact ⟨_, rfl, Below.refl _ _, by unfold OwnI; simpa [vals] using World.ownsRow_nil _ _ _ _⟩
theorem cells_any (v : Value) (z : Option (Nat × Mat)) (w : World) (h : ZoneV 76 w v z) : Calls Try.prog 23 #[v] w (TellsL w (cellsP z)) := by
  match z, h with
  | none, h =>
    have h : v = .pointer none := h
    subst h
    refine (cells_nil w).mono ?_
    rintro e w' ⟨rfl, hw⟩
    exact tells_nil w w' hw
  | some (n, m), ⟨b, e, hn, _, hm⟩ =>
    subst e
    exact cells_zone b n m w hn hm

set_option maxRecDepth 100000 in
set_option maxHeartbeats 1000000 in
theorem rcells_nil (w : World) : Calls Try.prog 24 #[.pointer none] w (TellsL w []) := by
  go_enter Try.func24, Try.ntmps24
  go_wp2
  go_ret
  exact tells_nil w _ rfl

set_option maxRecDepth 100000 in
set_option maxHeartbeats 1000000 in
theorem rcells_zone (b g cap n : Nat) (m : Mat) (w : World) (hn : n ≤ 8) (h1 : w.cell? ⟨b, 1, none⟩ = some (.slice (some ⟨g, 0, none⟩) ((n + 1) * (n + 1)) cap)) (hr : RowAt w g 37 .i32 (flat n m)) :
    Calls Try.prog 24 #[.pointer (some ⟨b, 0, none⟩)] w (TellsL w (flat n m)) := by
  obtain ⟨i0, hi1, hz0, hz1, hz2⟩ := info_parts infoRB
  have HInf := Lib.hid (And.intro hi1 (And.intro hz0 (And.intro hz1 hz2)))
  clear hi1 hz0 hz1 hz2
  have HR := Lib.hid hr
  have hN81 : (n + 1) * (n + 1) ≤ 81 := by
    have := Nat.mul_le_mul (show n + 1 ≤ 9 by omega) (show n + 1 ≤ 9 by omega)
    omega
  have hN0 : 0 < (n + 1) * (n + 1) := Nat.mul_pos (by omega) (by omega)
  have hfl := flat_length n m
  have HFL := Lib.hid hfl
  obtain ⟨N, hN⟩ : ∃ N, N = (n + 1) * (n + 1) := ⟨_, rfl⟩
  rw [← hN] at h1 hN81 hN0
  have HN := Lib.hid hN
  clear hr hN hfl
  go_enter Try.func24, Try.ntmps24
  go_wp2_with (at_builtin; refine wpList_append_lies _ rfl _ _ 22 rfl w.heap.size 37 i0 (.int .i32 0) 1 4 Try.underlying22 HInf.out.1 HInf.out.2.1 HInf.out.2.2.1 HInf.out.2.2.2 rfl (by decide) _ _ _ rfl (World.ownsRow_nil _ _ _ _) ⟨g, 0, none⟩ N cap (vals .i32 (flat n m)) rfl (by rw [Nat.mul_one, HN.out, ← HFL.out]; simp [vals]) (by exact row_vals HR.out) (by intro u hu; obtain ⟨c, _, rfl⟩ := List.mem_map.1 hu; rfl) (by omega) ?c3 ?c4 ?c5 _ rfl ?_)
  case c3 => unfold maxLen; omega
  case c4 => omega
  case c5 => exact Nat.le_refl _
  intro gg cp w3 hown hgrow _ _
  have HO := Lib.hid hown
  have HG := Lib.hid hgrow
  clear hown hgrow
  go_wp2
  go_ret
  refine ⟨_, rfl, (Below.refl _ _).grown HG.out (Nat.le_refl _) (fun k hk => by simp [Value.ownBlock] at hk), ?_⟩
  have := HO.out
  unfold OwnI
  rw [HFL.out, ← HN.out]
  exact this

theorem rcells_any (v : Value) (z : Option (Nat × Mat)) (w : World) (h : RefZ w v z) : Calls Try.prog 24 #[v] w (TellsL w (cellsP z)) := by
  match z, h with
  | none, h =>
    have h : v = .pointer none := h
    subst h
    exact rcells_nil w
  | some (n, m), h =>
    obtain ⟨b, g, cap, e, hn, _, h0, h1, hr⟩ := h.parts
    subst e
    exact rcells_zone b g cap n m w hn h1 hr

end Go.Proofs.Ytgpmfnahjepjjaa
