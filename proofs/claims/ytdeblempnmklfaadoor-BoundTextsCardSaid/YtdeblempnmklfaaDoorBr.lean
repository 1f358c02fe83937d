/- Is a bound right? -/
import Derived.Test.YtdeblempnmklfaaDoorProg
import Derived.Test.YtdeblempnmklfaaDoorMem
import Derived.Test.YtdeblempnmklfaaDoorBit
import Derived.Lib.Hide
import Derived.Deep.LoopGhost
import Derived.Deep.QuietTactic
import Derived.BigQuiet
import Derived.BigRegion
import Derived.StillTailTactics
import Derived.KernelRfl
namespace Go.Proofs.YtdeblempnmklfaaDoor
open Go Go.RowKit
set_option linter.unusedVariables false
set_option linter.unusedSimpArgs false

set_option maxHeartbeats 400000 in
theorem right_any (b : Int) (w : World) : Calls Tryd.prog 18 #[.int .i32 b] w fun e w' => e = .returned (.bool (rightB b)) ∧ w = w' := by
  unfold rightB
  by_cases h0 : b = 2147483647
  · subst h0
    go_enter Tryd.func18, Tryd.ntmps18
    go_wp2
    go_ret
    exact ⟨by simp, rfl⟩
  · have t0 : (b == 2147483647) = false := by simp [h0]
    by_cases h1 : -536870912 ≤ b
    · have d1 : decide ((-536870912 : Int) ≤ b) = true := decide_eq_true h1
      by_cases h2 : b ≤ 536870913
      all_goals
        go_enter Tryd.func18, Tryd.ntmps18
        go_wp2
        go_ret
        exact ⟨by simp [*], rfl⟩
    · have d1 : decide ((-536870912 : Int) ≤ b) = false := decide_eq_false h1
      go_enter Tryd.func18, Tryd.ntmps18
      go_wp2
      go_ret
      exact ⟨by simp [*], rfl⟩


theorem right_yes (b : Int) (w : World) (h : rightB b = true) : Calls Tryd.prog 18 #[.int .i32 b] w fun e w' => e = .returned (.bool true) ∧ w = w' :=
  (right_any b w).mono fun _ _ k => ⟨by rw [k.1, h], k.2⟩
theorem right_no (b : Int) (w : World) (h : rightB b = false) : Calls Tryd.prog 18 #[.int .i32 b] w fun e w' => e = .returned (.bool false) ∧ w = w' :=
  (right_any b w).mono fun _ _ k => ⟨by rw [k.1, h], k.2⟩

end Go.Proofs.YtdeblempnmklfaaDoor
