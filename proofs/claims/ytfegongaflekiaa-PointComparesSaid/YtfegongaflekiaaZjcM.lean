/- PointCompares: the law's row. -/
import Derived.SizedLaws
import Derived.Test.YtfegongaflekiaaMg12
namespace Go.Proofs.Ytfegongaflekiaa
open Go Go.ChangeShapes Go.WideShapes Go.ChangeAt Go.RowKit
set_option linter.unusedVariables false

theorem laid_own : ownKnob Try.prog.godebug = none := by kernel_rfl
theorem laid_out : laidOutB Try.prog = true := by kernel_rfl
theorem rt_two : Try.prog.cellsOf 59 = 2 := by kernel_rfl
theorem rt_bytes : Try.prog.bytesOf 59 = 16 := by kernel_rfl

set_option maxHeartbeats 1000000 in
set_option maxRecDepth 100000 in
theorem compares06_lifted (os : Os) (started : os.Started) (H : Type) (enc : TypeId × Value → H) :
    ReturnsInHanded {} Try.checked os 4 .any (Rows.pointComparesSpec.pre6 enc Try.prog Try.f4 Rows.pointComparesRow.domain false) (Rows.pointComparesSpec.post enc Try.prog Try.f4 false true false false) := by
  refine returnsInHanded_of_change_sized (C := Try.checked) laid_own started (by kernel_rfl) Try.func4
    (ChangeSpec.witness6 (enc := enc) (C := Try.checked) false ⟨#[], #[.slice none 0 0, .slice none 0 0], []⟩ 8 (by kernel_rfl) (by kernel_rfl) (by kernel_rfl) (by kernel_rfl)) ?_
  intro W base args ds gs before hval0 hW _ hsz0 _
  have hval : ∀ (j : Nat) t v, Try.f4.params[j]? = some t → args[j]? = some v → Value.okWide Try.prog W .any base t v := hval0
  have hsz : (DataW.weightsEach Try.prog (Try.f4.params.toList ++ Rows.pointComparesSpec.plain.varTypes Try.prog) (ds ++ gs)).all (· ≤ reachBytes) = true := hsz0
  have hW' := hW
  obtain ⟨p, q, hA0, hV, rfl, _, _⟩ := hW
  have hA : DataW.TrodAll enc Try.prog W 0 (fun _ => true) true Try.f4.params.toList args.toList ds p := hA0
  rw [Try.params4] at hA hval hsz
  obtain ⟨v0, v1, d0, d1, p0, p1, rfl, rfl, rfl, h0, h1⟩ := trodAll_two hA
  obtain ⟨A0, c0, xs0, rfl, hI0, hwf0, hd0⟩ := came_rats Try.underlying27 Try.underlying59 Try.underlying2 Try.underlying2 (by kernel_rfl) rt_two (hval 0 27 v0 rfl rfl) h0
  have hs0 := came_shortQ hsz (j := 0) (t := 27) rfl rfl Try.underlying27 rt_bytes hd0
  obtain ⟨A1, c1, xs1, rfl, hI1, hwf1, hd1⟩ := came_rats Try.underlying27 Try.underlying59 Try.underlying2 Try.underlying2 (by kernel_rfl) rt_two (hval 1 27 v1 rfl rfl) h1
  have hs1 := came_shortQ hsz (j := 1) (t := 27) rfl rfl Try.underlying27 rt_bytes hd1
  refine (compares06_law A0 c0 xs0 A1 c1 xs1 W hI0 hs0 hwf0 hI1 hs1 hwf1).mono fun e W' ⟨he, hb⟩ => ?_
  subst he
  exact ⟨_, rfl, law_post laid_out (by intro t ht; rw [Try.params4] at ht; simp at ht; rcases ht with rfl | rfl <;> exact ⟨by kernel_rfl, of_decide_eq_true (by kernel_rfl)⟩) rfl rfl Try.underlying4 (by obtain ⟨rfl, _⟩ := trodVars_none hV; rfl) hW' hb⟩

theorem compares06_said : Rows.PointComparesSaid :=
  OpenClaim.holds_of_wide 4 Try.f4 rfl rfl rfl rfl rfl rfl rfl ⟨rfl, rfl, rfl, rfl, rfl⟩ rfl rfl rfl rfl rfl (by kernel_rfl) Try.func4 (by kernel_rfl)
    (of_decide_eq_true (by kernel_rfl)) (by unfold Func.isWrapper; first | (rw [if_pos (by decide +kernel)]; kernel_rfl) | (rw [if_neg (by decide +kernel)]; exact ⟨rfl, rfl⟩))
    (fun os started H enc _ => compares06_lifted os started H enc)

end Go.Proofs.Ytfegongaflekiaa
