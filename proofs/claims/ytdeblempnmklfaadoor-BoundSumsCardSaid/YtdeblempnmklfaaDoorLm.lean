/- What BoundMakes tells. -/
import Derived.Test.YtdeblempnmklfaaDoorBp
import Derived.Test.YtdeblempnmklfaaDoorR1
namespace Go.Proofs.YtdeblempnmklfaaDoor
open Go Go.RowKit
set_option linter.unusedVariables false
set_option linter.unusedSimpArgs false

theorem value_any (b : Int) (w : World) : Calls Tryd.prog 16 #[.int .i32 b] w fun e w' => e = .returned (.tuple #[.int .i64 (numB b), .bool (redB b), .bool (someB b)]) ∧ w = w' := by
  by_cases h : someB b = true
  · simpa [numB, redB, h] using value_yes b w h
  · have h : someB b = false := by simpa using h
    simpa [numB, redB, h] using value_no b w h
theorem rvalue_any (b : Int) (w : World) (h0 : -2147483648 ≤ b) (h1 : b ≤ 2147483647) : Calls Tryd.prog 17 #[.int .i32 b] w fun e w' => e = .returned (.tuple #[.int .i64 (numB b), .bool (redB b), .bool (someB b)]) ∧ w = w' := by
  by_cases h : someB b = true
  · simpa [numB, redB, h] using rvalue_yes b w h
  · have h : someB b = false := by simpa using h
    simpa [numB, redB, h] using rvalue_no b w h h0 h1
theorem ratmost_any (v : Int) (w : World) : Calls Tryd.prog 13 #[.int .i64 v] w (Makes (ofB v true) w) := by
  go_enter Tryd.func13, Tryd.ntmps13
  go_wp2_with fail
  refine (rbof_any v true _).mono ?_
  rintro e w' ⟨rfl, rfl⟩
  go_wp2
  go_ret2
  exact ⟨rfl, rfl⟩
theorem rlessthan_any (v : Int) (w : World) : Calls Tryd.prog 15 #[.int .i64 v] w (Makes (ofB v false) w) := by
  go_enter Tryd.func15, Tryd.ntmps15
  go_wp2_with fail
  refine (rbof_any v false _).mono ?_
  rintro e w' ⟨rfl, rfl⟩
  go_wp2
  go_ret2
  exact ⟨rfl, rfl⟩

set_option maxRecDepth 100000 in
set_option maxHeartbeats 2000000 in
theorem makes01_law (v b : Int) (w : World) (kb : -2147483648 ≤ b ∧ b ≤ 2147483647) (ht : Tab w) :
    Calls Tryd.prog 4 #[.int .i64 v, .int .i32 b] w fun e w' => e = .returned (.bool true) ∧ Below w.heap.size w w' := by
  have HA := Lib.hid (fun w => atmost_any v w)
  have HA' := Lib.hid (fun w => ratmost_any v w)
  have HP := Lib.hid (fun w => lessthan_any v w)
  have HP' := Lib.hid (fun w => rlessthan_any v w)
  have HV := Lib.hid (fun w => value_any b w)
  have HV' := Lib.hid (fun w => rvalue_any b w kb.1 kb.2)
  have HR := Lib.hid (fun w => right_any b w)
  have HR' := Lib.hid (fun w => rright_any b w kb.1 kb.2)
  have HT := Lib.hid ht
  clear ht kb
  generalize ofB v true = x at *
  generalize ofB v false = y at *
  generalize numB b = n at *
  generalize redB b = r at *
  generalize someB b = s at *
  generalize rightB b = q at *
  obtain ⟨x, x'⟩ := x
  obtain ⟨y, y'⟩ := y
  go_enter Tryd.func4, Tryd.ntmps4
  go_wp2_with fail
  refine (HA.out _).mono ?_
  rintro e w' ⟨rfl, rfl⟩
  go_wp2_with fail
  refine (HA'.out _).mono ?_
  rintro e w' ⟨rfl, rfl⟩
  go_wp2_with fail
  refine (HP.out _).mono ?_
  rintro e w' ⟨rfl, rfl⟩
  go_wp2_with fail
  refine (HP'.out _).mono ?_
  rintro e w' ⟨rfl, rfl⟩
  go_wp2_with fail
  refine (HV.out _).mono ?_
  rintro e w' ⟨rfl, rfl⟩
  go_wp2_with fail
  refine (HV'.out _).mono ?_
  rintro e w' ⟨rfl, rfl⟩
  go_wp2_with fail
  refine (live01_any _ HT.out).mono ?_
  rintro e w1 ⟨rfl, hb⟩
  have HB := Lib.hid hb
  clear hb
  go_wp2_with fail
  refine (HR.out _).mono ?_
  rintro e w' ⟨rfl, rfl⟩
  go_wp2_with fail
  refine (HR'.out _).mono ?_
  rintro e w' ⟨rfl, rfl⟩
  go_wp2
  go_ret
  exact ⟨by simp, HB.out⟩

end Go.Proofs.YtdeblempnmklfaaDoor
