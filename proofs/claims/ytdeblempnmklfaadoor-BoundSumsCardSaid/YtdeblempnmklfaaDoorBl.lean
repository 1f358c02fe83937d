/- The strictest of bounds. -/
import Derived.Test.YtdeblempnmklfaaDoorProg
import Derived.Test.YtdeblempnmklfaaDoorMem
import Derived.Test.YtdeblempnmklfaaDoorBit
import Derived.Lib.Hide
import Derived.Deep.LoopGhost
import Derived.Deep.QuietTactic
import Derived.BigQuiet
import Derived.BigRegion
import Derived.StillTailTactics
import Derived.KernelRfl
namespace Go.Proofs.YtdeblempnmklfaaDoor
open Go Go.RowKit
set_option linter.unusedVariables false
set_option linter.unusedSimpArgs false

attribute [local go_sem] min_ints max_ints


theorem least_fn (a b : Int) (w : World) : Calls Tryd.prog 37 #[.int .i32 a, .int .i32 b] w fun e w' => e = .returned (.int .i32 (min a b)) ∧ w = w' := by
  go_enter Tryd.func37, Tryd.ntmps37
  go_wp2
  go_ret
  exact ⟨rfl, rfl⟩

/-- The least of the first p, and of a number. -/
def minUp (a : Int) (l : List Int) : Nat → Int
  | 0 => a
  | p + 1 => min (minUp a l p) (l.getD p 0)

set_option maxRecDepth 100000 in
set_option maxHeartbeats 400000 in
theorem fold_min (a : Int) (A : Option Addr) (c : Nat) (l : List Int) (w : World) (hI : Ints w .i32 A l) (hmax : l.length ≤ 4611686018427387904) :
    Calls Tryd.prog 36 #[.int .i32 a, .slice A l.length c, .func (.func 37) #[] #[]] w fun e w' => e = .returned (.int .i32 (minUp a l l.length)) ∧ w = w' := by
  have HI := Lib.hid hI
  clear hI
  go_enter Tryd.func36, Tryd.ntmps36
  go_wp2
  go_loopg [0, 11] l.length (fun g x v wr => ∃ p : Nat, v = .int .i64 p ∧ x = .int .i32 (minUp a l p) ∧ w = wr ∧ Hid (p ≤ l.length ∧ g + p = l.length))
  case atStart => exact ⟨0, by simp, rfl, rfl, by omega, by omega⟩
  case round =>
    obtain ⟨p, rfl, rfl, rfl, HG⟩ := hrel
    by_cases hp : p < l.length
    · obtain ⟨b, off, rfl, hc⟩ := HI.out p hp
      obtain ⟨x, hx⟩ : ∃ x, x = l.getD p 0 := ⟨_, rfl⟩
      rw [← hx] at hc
      have HX := Lib.hid hx
      clear hx
      go_wp2_with fail
      refine (least_fn _ _ _).mono ?_
      rintro e w' ⟨rfl, rfl⟩
      go_wp2
      go_roundg (gk - 1)
      case measure => have h := HG.out; omega
      case rel => exact ⟨p + 1, by go_num, by rw [show minUp a l (p + 1) = min (minUp a l p) (l.getD p 0) from rfl, ← HX.out], rfl, by omega, by have h := HG.out; omega⟩
    · have e : p = l.length := by have := HG.out.1; omega
      subst e
      go_wp2
      go_ret
      exact ⟨rfl, rfl⟩

theorem least_any (A : Option Addr) (c : Nat) (l : List Int) (w : World) (hI : Ints w .i32 A l) (hmax : l.length ≤ 4611686018427387904) :
    Calls Tryd.prog 24 #[.slice A l.length c] w fun e w' => e = .returned (.int .i32 (minUp 2147483647 l l.length)) ∧ w = w' := by
  go_enter Tryd.func24, Tryd.ntmps24
  go_wp2_with fail
  refine (fold_min _ A c l _ hI hmax).mono ?_
  rintro e w' ⟨rfl, rfl⟩
  clear hI
  go_wp2
  go_ret
  exact ⟨rfl, rfl⟩

end Go.Proofs.YtdeblempnmklfaaDoor
