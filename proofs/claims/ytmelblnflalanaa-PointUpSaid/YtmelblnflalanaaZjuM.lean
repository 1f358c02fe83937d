/- PointUp: the law's row. -/
import Derived.SizedLaws
import Derived.Test.YtmelblnflalanaaMg16
namespace Go.Proofs.Ytmelblnflalanaa
open Go Go.ChangeShapes Go.WideShapes Go.ChangeAt Go.RowKit
set_option linter.unusedVariables false

theorem laid_own : ownKnob Try.prog.godebug = none := by kernel_rfl
theorem laid_out : laidOutB Try.prog = true := by kernel_rfl
theorem rt_two : Try.prog.cellsOf 25 = 2 := by kernel_rfl
theorem rt_bytes : Try.prog.bytesOf 25 = 16 := by kernel_rfl
theorem gd_four : Try.prog.cellsOf 90 = 4 := by kernel_rfl
theorem gd_bytes : Try.prog.bytesOf 90 = 32 := by kernel_rfl
theorem bound_one : Try.prog.cellsOf 52 = 1 := by kernel_rfl
theorem bound_bytes : Try.prog.bytesOf 52 = 4 := by kernel_rfl

set_option maxHeartbeats 1000000 in
set_option maxRecDepth 100000 in
theorem pup06_lifted (os : Os) (started : os.Started) (H : Type) (enc : TypeId × Value → H) :
    ReturnsInHanded {} Try.checked os 3 .any (Rows.pointUpSpec.pre6 enc Try.prog Try.f3 Rows.pointUpRow.domain false) (Rows.pointUpSpec.post enc Try.prog Try.f3 false true false false) := by
  refine returnsInHanded_of_change_sized (C := Try.checked) laid_own started (by kernel_rfl) Try.func3
    (ChangeSpec.witness6 (enc := enc) (C := Try.checked) false ⟨#[], #[.int .i64 0, .slice none 0 0, .agg #[.slice none 0 0, .int .i64 0, .int .i64 0, .int .i64 0, .int .i64 0, .slice none 0 0]], []⟩ 8 (by kernel_rfl) (by kernel_rfl) (by kernel_rfl) (by kernel_rfl)) ?_
  intro W base args ds gs before hval0 hW _ hsz0 _
  have hval : ∀ (j : Nat) t v, Try.f3.params[j]? = some t → args[j]? = some v → Value.okWide Try.prog W .any base t v := hval0
  have hsz : (DataW.weightsEach Try.prog (Try.f3.params.toList ++ Rows.pointUpSpec.plain.varTypes Try.prog) (ds ++ gs)).all (· ≤ reachBytes) = true := hsz0
  have hW' := hW
  obtain ⟨p, q, hA0, hV, rfl, _, _⟩ := hW
  have hA : DataW.TrodAll enc Try.prog W 0 (fun _ => true) true Try.f3.params.toList args.toList ds p := hA0
  rw [Try.params3] at hA hval hsz
  obtain ⟨v0, v1, v2, d0, d1, d2, p0, p1, p2, rfl, rfl, rfl, h0, h1, h2⟩ := trodAll_three hA
  obtain ⟨n0, rfl, hw0, _, _⟩ := open_int Try.underlying3 (hval 0 3 v0 rfl rfl) h0
  obtain ⟨A1, c1, xs1, rfl, hI1, hwf1, hd1⟩ := came_row Try.underlying22 Try.underlying52 bound_one (hval 1 22 v1 rfl rfl) h1
  have hs1 := came_short hsz (j := 1) (t := 22) rfl rfl Try.underlying22 bound_bytes (by decide) hd1
  obtain ⟨A2, c2, xs2, e2, f2, ck2, nn2, G2, gc2, gs2, ys2, y2, z2, rfl, hI2, hwf2, he2, hf2, hck2, hnn2, rfl, hy2, hD2, hz2, hE2, hG2, hgk2⟩ := came_movedG Try.underlying28 ⟨by kernel_rfl, by kernel_rfl, by kernel_rfl, by kernel_rfl, by kernel_rfl⟩ ⟨by kernel_rfl, by kernel_rfl, by kernel_rfl, by kernel_rfl, by kernel_rfl⟩ (by kernel_rfl) Try.underlying23 Try.underlying25 Try.underlying3 Try.underlying3 Try.underlying26 Try.underlying25 Try.underlying2 Try.underlying2 (by kernel_rfl) rt_two Try.underlying90 Try.underlying3 Try.underlying3 Try.underlying88 Try.underlying3 (by kernel_rfl) gd_four (hval 2 28 v2 rfl rfl) h2
  have hs2 := came_shortM hsz (j := 2) (t := 28) rfl rfl Try.underlying28 rfl hy2 Try.underlying23 rt_bytes hD2
  have ht2 := came_shortM4 hsz (j := 2) (t := 28) rfl rfl Try.underlying28 rfl hz2 Try.underlying26 gd_bytes hE2
  refine (pup_any n0 A1 c1 xs1 A2 c2 xs2 e2 f2 ck2 nn2 G2 gc2 gs2 W hI1 (by omega) (came_i32 hwf1) hI2 (by omega) hwf2 he2 hf2 hck2 hnn2 hG2 (by omega) hgk2).mono fun e W' ⟨he, hb⟩ => ?_
  subst he
  exact ⟨_, rfl, law_post laid_out (by intro t ht; rw [Try.params3] at ht; simp at ht; rcases ht with rfl | rfl | rfl <;> exact ⟨by kernel_rfl, of_decide_eq_true (by kernel_rfl)⟩) rfl rfl Try.underlying4 (by obtain ⟨rfl, _⟩ := trodVars_none hV; rfl) hW' hb⟩

theorem pup06_said : Rows.PointUpSaid :=
  OpenClaim.holds_of_wide 3 Try.f3 rfl rfl rfl rfl rfl rfl rfl ⟨rfl, rfl, rfl, rfl, rfl⟩ rfl rfl rfl rfl rfl (by kernel_rfl) Try.func3 (by kernel_rfl)
    (of_decide_eq_true (by kernel_rfl)) (by unfold Func.isWrapper; first | (rw [if_pos (by decide +kernel)]; kernel_rfl) | (rw [if_neg (by decide +kernel)]; exact ⟨rfl, rfl⟩))
    (fun os started H enc _ => pup06_lifted os started H enc)

end Go.Proofs.Ytmelblnflalanaa
