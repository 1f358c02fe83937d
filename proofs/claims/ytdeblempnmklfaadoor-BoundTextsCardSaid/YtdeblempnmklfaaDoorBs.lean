/- One bound more in a sum. -/
import Derived.Test.YtdeblempnmklfaaDoorBa
import Derived.Test.YtdeblempnmklfaaDoorBag
import Derived.Deep.RegionWith
import Derived.Deep.RegionHeld3
import Derived.Laws.Rows
import Derived.Laws.CopyOwn
namespace Go.Proofs.YtdeblempnmklfaaDoor
open Go Go.RowKit
set_option linter.unusedVariables false
set_option linter.unusedSimpArgs false

/-- A sum under way, as the machine holds it. -/
def tot (v : Int) (r i x : Bool) : Array Value := #[.int .i64 v, .bool r, .bool i, .bool x]
/-- One bound more. -/
def SumEnds (w : World) (v : Int) (r i x : Bool) (e : Ending) (w' : World) : Prop := e = .returned (.agg (tot v r i x)) ∧ Below w.heap.size w w'

theorem two_new {w : World} {a b : Array Value} {t : TypeId} : Below w.heap.size w ((w.alloc (.cells a t)).alloc (.cells b t)) :=
  ((Below.refl _ w).alloc (Nat.le_refl _) _).alloc (by simp) _

set_option maxRecDepth 100000 in
set_option maxHeartbeats 1000000 in
theorem sum1_some (v : Int) (r i x : Bool) (b : Int) (w : World) (h : someB b = true) :
    Calls Tryd.prog 32 #[.agg (tot v r i x), .int .i32 b] w (SumEnds w (wrap64 (v + b / 2)) (r && decide (b % 2 = 1)) i x) := by
  obtain ⟨hr, hn⟩ : rightB b = true ∧ b ≠ 2147483647 := by simpa [someB] using h
  have t0 : (b == 2147483647) = false := by simp [hn]
  have t1 : (b != 2147483647) = true := by simp [hn]
  have HV := Lib.hid (fun w => value_yes b w h)
  obtain ⟨q, hq⟩ : ∃ q, q = b / 2 := ⟨_, rfl⟩
  obtain ⟨z, hz⟩ : ∃ z, z = decide (b % 2 = 1) := ⟨_, rfl⟩
  rw [← hq, ← hz] at HV ⊢
  clear hq hz h hr hn
  unfold tot
  cases r <;> cases i <;> cases x
  all_goals
    go_enter Tryd.func32, Tryd.ntmps32
    go_wp2_with fail
    refine (HV.out _).mono ?_
    rintro e w' ⟨rfl, rfl⟩
    go_wp2
    refine bodyPost_ret (results_cell_row (fn := Tryd.f32) rfl _ _ (w.heap.size + 1) _ _ _ _ rfl (heap_alloc2_new _ _ _) Tryd.underlying49 rfl (by kernel_rfl)) rfl ?_
    exact ⟨rfl, two_new⟩

set_option maxRecDepth 100000 in
set_option maxHeartbeats 1000000 in
theorem sum1_inf (v : Int) (r i x : Bool) (w : World) :
    Calls Tryd.prog 32 #[.agg (tot v r i x), .int .i32 2147483647] w (SumEnds w (wrap64 v) false true x) := by
  have HV := Lib.hid (fun w => value_no 2147483647 w (by decide))
  unfold tot
  cases r <;> cases i <;> cases x
  all_goals
    go_enter Tryd.func32, Tryd.ntmps32
    go_wp2_with fail
    refine (HV.out _).mono ?_
    rintro e w' ⟨rfl, rfl⟩
    go_wp2
    refine bodyPost_ret (results_cell_row (fn := Tryd.f32) rfl _ _ (w.heap.size + 1) _ _ _ _ rfl (heap_alloc2_new _ _ _) Tryd.underlying49 rfl (by kernel_rfl)) rfl ?_
    exact ⟨rfl, two_new⟩

set_option maxRecDepth 100000 in
set_option maxHeartbeats 1000000 in
theorem sum1_bad (v : Int) (r i x : Bool) (b : Int) (w : World) (h : rightB b = false) :
    Calls Tryd.prog 32 #[.agg (tot v r i x), .int .i32 b] w (SumEnds w (wrap64 v) false i true) := by
  have hn : b ≠ 2147483647 := by rintro rfl; exact absurd h (by decide)
  have t0 : (b == 2147483647) = false := by simp [hn]
  have t1 : (b != 2147483647) = true := by simp [hn]
  have HV := Lib.hid (fun w => value_no b w (by simp [someB, h]))
  clear h hn
  unfold tot
  cases r <;> cases i <;> cases x
  all_goals
    go_enter Tryd.func32, Tryd.ntmps32
    go_wp2_with fail
    refine (HV.out _).mono ?_
    rintro e w' ⟨rfl, rfl⟩
    go_wp2
    refine bodyPost_ret (results_cell_row (fn := Tryd.f32) rfl _ _ (w.heap.size + 1) _ _ _ _ rfl (heap_alloc2_new _ _ _) Tryd.underlying49 rfl (by kernel_rfl)) rfl ?_
    exact ⟨rfl, two_new⟩

theorem sum1_any (v : Int) (r i x : Bool) (b : Int) (w : World) (hv : wrap64 v = v) :
    Calls Tryd.prog 32 #[.agg (tot v r i x), .int .i32 b] w (SumEnds w (wrap64 (v + numB b)) (r && redB b) (i || decide (b = 2147483647)) (x || !rightB b)) := by
  by_cases h : someB b = true
  · obtain ⟨hr, hn⟩ : rightB b = true ∧ b ≠ 2147483647 := by simpa [someB] using h
    have := sum1_some v r i x b w h
    simpa [numB, redB, h, hr, hn] using this
  · have h : someB b = false := by simpa using h
    by_cases hn : b = 2147483647
    · subst hn
      have := sum1_inf v r i x w
      have e : rightB 2147483647 = true := by decide
      simpa [numB, redB, h, e] using this
    · have hr : rightB b = false := by simpa [someB, hn] using h
      have := sum1_bad v r i x b w hr
      simpa [numB, redB, h, hr, hn] using this

end Go.Proofs.YtdeblempnmklfaaDoor
