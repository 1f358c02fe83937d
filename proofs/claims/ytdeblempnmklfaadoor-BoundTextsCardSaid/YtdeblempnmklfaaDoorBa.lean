/- Bounds: made, AtMost, LessThan, Value. -/
import Derived.Test.YtdeblempnmklfaaDoorBr
import Derived.Test.YtdeblempnmklfaaDoorPb
namespace Go.Proofs.YtdeblempnmklfaaDoor
open Go Go.RowKit
set_option linter.unusedVariables false
set_option linter.unusedSimpArgs false

set_option maxRecDepth 100000 in
set_option maxHeartbeats 1000000 in
theorem made_any (v : Int) (r : Bool) (w : World) : Calls Tryd.prog 33 #[.int .i64 v, .bool r] w fun e w' => e = .returned (.tuple #[.int .i32 (ofB v r).1, .int .i64 (ofB v r).2]) ∧ w = w' := by
  by_cases a : v < -268435456
  · have e : ofB v r = (0, 10) := if_pos (.inl a)
    rw [e]
    have d : decide (v < -268435456) = true := decide_eq_true a
    clear e
    go_enter Tryd.func33, Tryd.ntmps33
    go_wp2
    go_ret2
    exact ⟨rfl, rfl⟩
  · have d : decide (v < -268435456) = false := decide_eq_false a
    by_cases b : 268435456 < v
    · have e : ofB v r = (0, 10) := if_pos (.inr b)
      rw [e]
      clear e
      go_enter Tryd.func33, Tryd.ntmps33
      go_wp2
      go_ret2
      exact ⟨rfl, rfl⟩
    · have e : ofB v r = (2 * v + (if r then 1 else 0), 0) := if_neg (by omega)
      rw [e]
      have d2 : decide (268435456 < v) = false := decide_eq_false b
      have g0 : IntKind.i64.wrap (2 * v) = 2 * v := IntWalk.i64_in _ (by omega)
      have g1 : IntKind.i32.wrap (2 * v) = 2 * v := by rw [IntKind.wrap_i32]; omega
      have g2 : IntKind.i32.wrap (2 * v + 1) = 2 * v + 1 := by rw [IntKind.wrap_i32]; omega
      clear e
      cases r with
      | false =>
        go_enter Tryd.func33, Tryd.ntmps33
        go_wp2
        go_ret2
        exact ⟨by simp [g1], rfl⟩
      | true =>
        go_enter Tryd.func33, Tryd.ntmps33
        go_wp2
        go_ret2
        exact ⟨by simp [g2], rfl⟩

/-- A function that hands on what made answers. -/
def Makes (r : Int × Int) (w : World) (e : Ending) (w' : World) : Prop := e = .returned (.tuple #[.int .i32 r.1, .int .i64 r.2]) ∧ w = w'

theorem atmost_any (v : Int) (w : World) : Calls Tryd.prog 12 #[.int .i64 v] w (Makes (ofB v true) w) := by
  go_enter Tryd.func12, Tryd.ntmps12
  go_wp2_with fail
  refine (made_any v true _).mono ?_
  rintro e w' ⟨rfl, rfl⟩
  go_wp2
  go_ret2
  exact ⟨rfl, rfl⟩
theorem lessthan_any (v : Int) (w : World) : Calls Tryd.prog 14 #[.int .i64 v] w (Makes (ofB v false) w) := by
  go_enter Tryd.func14, Tryd.ntmps14
  go_wp2_with fail
  refine (made_any v false _).mono ?_
  rintro e w' ⟨rfl, rfl⟩
  go_wp2
  go_ret2
  exact ⟨rfl, rfl⟩

theorem i32_and1 (x : Int) : bits .and .i32 x 1 = x % 2 := by
  have e1 : bits .and .i32 x 1 = IntKind.i32.wrap ((BitVec.ofInt 32 x).toNat &&& 1 : Nat) := by rfl
  rw [e1, Nat.and_one_is_mod, BitVec.toNat_ofInt, IntKind.wrap_i32]
  omega

set_option maxRecDepth 100000 in
set_option maxHeartbeats 1000000 in
theorem value_yes (b : Int) (w : World) (h : someB b = true) :
    Calls Tryd.prog 16 #[.int .i32 b] w fun e w' => e = .returned (.tuple #[.int .i64 (b / 2), .bool (decide (b % 2 = 1)), .bool true]) ∧ w = w' := by
  obtain ⟨hr, hn⟩ : rightB b = true ∧ b ≠ 2147483647 := by simpa [someB] using h
  have hb := rightB_bd hr hn
  have t0 : (b == 2147483647) = false := by simp [hn]
  have HR := Lib.hid hr
  clear h hr hn
  go_enter Tryd.func16, Tryd.ntmps16
  go_wp2_with fail
  refine (right_yes b _ HR.out).mono ?_
  rintro e w' ⟨rfl, rfl⟩
  go_wp2
  go_ret3
  refine ⟨?_, rfl⟩
  rw [i32_and1]
  by_cases e : b % 2 = 1 <;> simp [e]
set_option maxRecDepth 100000 in
set_option maxHeartbeats 1000000 in
theorem value_no (b : Int) (w : World) (h : someB b = false) :
    Calls Tryd.prog 16 #[.int .i32 b] w fun e w' => e = .returned (.tuple #[.int .i64 0, .bool false, .bool false]) ∧ w = w' := by
  by_cases hn : b = 2147483647
  · subst hn
    clear h
    go_enter Tryd.func16, Tryd.ntmps16
    go_wp2
    go_ret3
    exact ⟨rfl, rfl⟩
  · have t0 : (b == 2147483647) = false := by simp [hn]
    have hr : rightB b = false := by simpa [someB, hn] using h
    have HR := Lib.hid hr
    clear h hn hr
    go_enter Tryd.func16, Tryd.ntmps16
    go_wp2_with fail
    refine (right_no b _ HR.out).mono ?_
    rintro e w' ⟨rfl, rfl⟩
    go_wp2
    go_ret3
    exact ⟨rfl, rfl⟩

end Go.Proofs.YtdeblempnmklfaaDoor
