/- PointMoves: the law's row. -/
import Derived.SizedLaws
import Derived.Test.YtmelblnflalanaaGreatMg17
namespace Go.Proofs.YtmelblnflalanaaGreat
open Go Go.ChangeShapes Go.WideShapes Go.ChangeAt Go.RowKit
set_option linter.unusedVariables false

theorem laid_own : ownKnob Tryz.prog.godebug = none := by kernel_rfl
theorem laid_out : laidOutB Tryz.prog = true := by kernel_rfl
theorem rt_two : Tryz.prog.cellsOf 24 = 2 := by kernel_rfl
theorem rt_bytes : Tryz.prog.bytesOf 24 = 16 := by kernel_rfl
theorem gd_four : Tryz.prog.cellsOf 66 = 4 := by kernel_rfl
theorem gd_bytes : Tryz.prog.bytesOf 66 = 32 := by kernel_rfl

set_option maxHeartbeats 1000000 in
set_option maxRecDepth 100000 in
theorem moves06_lifted (os : Os) (started : os.Started) (H : Type) (enc : TypeId × Value → H) :
    ReturnsInHanded {} Tryz.checked os 3 .any (Rows.pointMovesSpec.pre6 enc Tryz.prog Tryz.f3 Rows.pointMovesRow.domain false) (Rows.pointMovesSpec.post enc Tryz.prog Tryz.f3 false true false false) := by
  refine returnsInHanded_of_change_sized (C := Tryz.checked) laid_own started (by kernel_rfl) Tryz.func3
    (ChangeSpec.witness6 (enc := enc) (C := Tryz.checked) false ⟨#[], #[.agg #[.slice none 0 0, .int .i64 0, .int .i64 0, .int .i64 0, .int .i64 0, .slice none 0 0]], []⟩ 8 (by kernel_rfl) (by kernel_rfl) (by kernel_rfl) (by kernel_rfl)) ?_
  intro W base args ds gs before hval0 hW _ hsz0 _
  have hval : ∀ (j : Nat) t v, Tryz.f3.params[j]? = some t → args[j]? = some v → Value.okWide Tryz.prog W .any base t v := hval0
  have hsz : (DataW.weightsEach Tryz.prog (Tryz.f3.params.toList ++ Rows.pointMovesSpec.plain.varTypes Tryz.prog) (ds ++ gs)).all (· ≤ reachBytes) = true := hsz0
  have hW' := hW
  obtain ⟨p, q, hA0, hV, rfl, _, _⟩ := hW
  have hA : DataW.TrodAll enc Tryz.prog W 0 (fun _ => true) true Tryz.f3.params.toList args.toList ds p := hA0
  rw [Tryz.params3] at hA hval hsz
  obtain ⟨v0, d0, rfl, rfl, h0⟩ := trodAll_one hA
  obtain ⟨A0, c0, xs0, e0, f0, ck0, nn0, G0, gc0, gs0, ys0, y0, z0, rfl, hI0, hwf0, he0, hf0, hck0, hnn0, rfl, hy0, hD0, hz0, hE0, hG0, hgk0⟩ := came_movedG Tryz.underlying27 ⟨by kernel_rfl, by kernel_rfl, by kernel_rfl, by kernel_rfl, by kernel_rfl⟩ ⟨by kernel_rfl, by kernel_rfl, by kernel_rfl, by kernel_rfl, by kernel_rfl⟩ (by kernel_rfl) Tryz.underlying22 Tryz.underlying24 Tryz.underlying3 Tryz.underlying3 Tryz.underlying25 Tryz.underlying24 Tryz.underlying2 Tryz.underlying2 (by kernel_rfl) rt_two Tryz.underlying66 Tryz.underlying3 Tryz.underlying3 Tryz.underlying64 Tryz.underlying3 (by kernel_rfl) gd_four (hval 0 27 v0 rfl rfl) h0
  have hs0 := came_shortM hsz (j := 0) (t := 27) rfl rfl Tryz.underlying27 rfl hy0 Tryz.underlying22 rt_bytes hD0
  have ht0 := came_shortM4 hsz (j := 0) (t := 27) rfl rfl Tryz.underlying27 rfl hz0 Tryz.underlying25 gd_bytes hE0
  refine (pmoves_any A0 c0 xs0 e0 f0 ck0 nn0 G0 gc0 gs0 W hI0 (by omega) hwf0 he0 hf0 hck0 hnn0 hG0 (by omega) hgk0).mono fun e W' ⟨he, hb⟩ => ?_
  subst he
  exact ⟨_, rfl, law_post laid_out (by intro t ht; rw [Tryz.params3] at ht; simp at ht; rcases ht with rfl <;> exact ⟨by kernel_rfl, of_decide_eq_true (by kernel_rfl)⟩) rfl rfl Tryz.underlying4 (by obtain ⟨rfl, _⟩ := trodVars_none hV; rfl) hW' hb⟩

theorem moves06_said : Rows.PointMovesSaid :=
  OpenClaim.holds_of_wide 3 Tryz.f3 rfl rfl rfl rfl rfl rfl rfl ⟨rfl, rfl, rfl, rfl, rfl⟩ rfl rfl rfl rfl rfl (by kernel_rfl) Tryz.func3 (by kernel_rfl)
    (of_decide_eq_true (by kernel_rfl)) (by unfold Func.isWrapper; first | (rw [if_pos (by decide +kernel)]; kernel_rfl) | (rw [if_neg (by decide +kernel)]; exact ⟨rfl, rfl⟩))
    (fun os started H enc _ => moves06_lifted os started H enc)

end Go.Proofs.YtmelblnflalanaaGreat
