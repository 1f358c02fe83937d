/- ExtraGuards: the law's row, and its tied card. -/
import Derived.Test.YtncgapnooabdgaaDoorTie
import Derived.Test.YtncgapnooabdgaaDoorCards
import Derived.SizedLaws
import Derived.LaidMore
import Derived.Stop.LaidErr
import Derived.MakeChecks
import Derived.OpenShut
import Derived.Stop.Joined
import Derived.ProofKit
import Derived.ChangeMaps5
import Derived.SevenTiedAt
import Derived.Test.YtncgapnooabdgaaDoorMg10
namespace Go.Proofs.YtncgapnooabdgaaDoor
open Go Go.ChangeShapes Go.WideShapes Go.ChangeAt Go.RowKit
open Go.ChangeMaps (open_string)
set_option linter.unusedVariables false

theorem laid_own : ownKnob Tryd.prog.godebug = none := by kernel_rfl
theorem laid_out : laidOutB Tryd.prog = true := by kernel_rfl
theorem bound_one : Tryd.prog.cellsOf 44 = 1 := by kernel_rfl
theorem bound_bytes : Tryd.prog.bytesOf 44 = 4 := by kernel_rfl
theorem in_one : Tryd.prog.cellsOf 3 = 1 := by kernel_rfl
theorem in_bytes : Tryd.prog.bytesOf 3 = 8 := by kernel_rfl
theorem il_one : Tryd.prog.cellsOf 23 = 1 := by kernel_rfl
theorem list_five {α : Type} : ∀ {l : List α} {a b c d e : α}, l.length = 5 → l[0]? = some a → l[1]? = some b → l[2]? = some c → l[3]? = some d → l[4]? = some e → l = [a, b, c, d, e]
  | [a', b', c', d', e'], _, _, _, _, _, _, h0, h1, h2, h3, h4 => by
    simp only [List.getElem?_cons_zero, List.getElem?_cons_succ, Option.some.injEq] at h0 h1 h2 h3 h4
    rw [h0, h1, h2, h3, h4]
theorem gu_five : Tryd.prog.cellsOf 63 = 5 := by kernel_rfl
/-- The heap that the package's own first run leaves meets the condition. -/
theorem extraguards_door_met (os : Os) (args : Array Value) : laidMetH Tryd.prog Rows.extraGuardsRow.laid ((World.doorLaid Tryd.prog 400 os).forCall (fun _ _ => 0) ⟨#[], args, []⟩).memory :=
  laidMetH_of_parts3 (fuel := 8) (laidMet_of_run' 8 (by kernel_rfl) (by kernel_rfl)) (by kernel_rfl) (by kernel_rfl)
theorem extraguards_tab0 (W : World) (h : laidMet Tryd.prog Rows.extraGuardsRow.laid W) : Lib.TabIs Tryd.prog W "internal/strconv.uint64pow10" .u64 Lib.pow10Tab := by
  have h0 : laidMet Tryd.prog Rows.extraGuardsRow.laid W := h
  have h1 := laidMet.tail (show laidMet Tryd.prog (_ :: _) W from h0)
  have h2 := laidMet.tail (show laidMet Tryd.prog (_ :: _) W from h1)
  exact Lib.tabIs_of_head (t := 137) (e := 117) (n := 20) rfl rfl Tryd.underlying137 Tryd.underlying117 (by kernel_rfl) (by kernel_rfl) (show laidMet Tryd.prog ((_, Lib.tabData .u64 Lib.pow10Tab) :: _) W from h2)

set_option maxHeartbeats 1000000 in
set_option maxRecDepth 100000 in
theorem extraguards_lifted (os : Os) (started : os.Started) (H : Type) (enc : TypeId × Value → H) :
    ReturnsInHanded {} Tryd.checked os 8 .any (fun w args => (Rows.extraGuardsSpec.pre enc Tryd.prog Tryd.f8 [] false w args ∧ laidMetH Tryd.prog Rows.extraGuardsRow.laid w) ∧ sizedMet enc Tryd.prog Tryd.f8 (OpenSpec.ofChange Rows.extraGuardsSpec) false w args)
      (Rows.extraGuardsSpec.post enc Tryd.prog Tryd.f8 false true false false) := by
  refine returnsInHanded_of_change_and (C := Tryd.checked) (X := fun w _ => laidMetH Tryd.prog Rows.extraGuardsRow.laid w) (fun _ _ _ hh h => h.of_heap hh) laid_own started (by kernel_rfl) Tryd.func8
    (ChangeSpec.witness_shaped (enc := enc) (C := Tryd.checked) (os := os) (X := fun w _ => laidMetH Tryd.prog Rows.extraGuardsRow.laid w) false (World.doorLaid Tryd.prog 400 os) #[.int .i64 0, .slice none 0 0, .agg #[.slice none 0 0, .int .i64 0, .int .i64 0, .int .i64 0, .bool false]] 8 rfl (World.shaped_of_RefB (by kernel_rfl) (by kernel_rfl)) (by kernel_rfl) (by kernel_rfl) (by kernel_rfl) (extraguards_door_met os _)) ?_
  intro W base args ds gs before hval0 hW _ hsz0 hL _
  have hval : ∀ (j : Nat) t v, Tryd.f8.params[j]? = some t → args[j]? = some v → Value.okWide Tryd.prog W .any base t v := hval0
  have hsz : (DataW.weightsEach Tryd.prog (Tryd.f8.params.toList ++ Rows.extraGuardsSpec.plain.varTypes Tryd.prog) (ds ++ gs)).all (· ≤ reachBytes) = true := hsz0
  have hW' := hW
  obtain ⟨p, q, hA0, hV, rfl, _, _⟩ := hW
  have hA : DataW.TrodAll enc Tryd.prog W 0 (fun _ => true) true Tryd.f8.params.toList args.toList ds p := hA0
  rw [Tryd.params8] at hA hval hsz
  have hLm : laidMet Tryd.prog Rows.extraGuardsRow.laid W := (MakeChecks.laidMetH_plain _ _ _ (by kernel_rfl)) ▸ hL
  obtain ⟨v0, v1, v2, d0, d1, d2, p0, p1, p2, rfl, rfl, rfl, h0, h1, h2⟩ := trodAll_three hA
  obtain ⟨n0, rfl, hw0, _, _⟩ := open_int Tryd.underlying3 (hval 0 3 v0 rfl rfl) h0
  obtain ⟨A1, c1, xs1, rfl, hI1, hwf1, hd1⟩ := came_row Tryd.underlying22 Tryd.underlying44 bound_one (hval 1 22 v1 rfl rfl) h1
  have hs1 := came_short hsz (j := 1) (t := 22) rfl rfl Tryd.underlying22 bound_bytes (by decide) hd1
  obtain ⟨l2, ys2, nn2, rfl, hl2, rfl, hy2, hf2⟩ := open_fields Tryd.underlying63 (by kernel_rfl) gu_five (hval 2 63 v2 rfl rfl) h2
  obtain ⟨c2_0, y2_0, el2_0, ey2_0, ht2_0⟩ := hf2 0 _ rfl
  obtain ⟨c2_1, y2_1, el2_1, ey2_1, ht2_1⟩ := hf2 1 _ rfl
  obtain ⟨c2_2, y2_2, el2_2, ey2_2, ht2_2⟩ := hf2 2 _ rfl
  obtain ⟨c2_3, y2_3, el2_3, ey2_3, ht2_3⟩ := hf2 3 _ rfl
  obtain ⟨c2_4, y2_4, el2_4, ey2_4, ht2_4⟩ := hf2 4 _ rfl
  obtain ⟨Aa2, ka2, xa2, rfl, hIa2, hwa2, ra2⟩ := row_opened Tryd.underlying23 Tryd.underlying3 in_one ht2_0
  obtain ⟨i2_1, e2_1, _, w2_1⟩ := DataW.trod_int Tryd.underlying3 ht2_1
  simp only [List.cons.injEq, and_true] at e2_1
  subst e2_1
  obtain ⟨i2_2, e2_2, _, w2_2⟩ := DataW.trod_int Tryd.underlying3 ht2_2
  simp only [List.cons.injEq, and_true] at e2_2
  subst e2_2
  obtain ⟨i2_3, e2_3, _, w2_3⟩ := DataW.trod_int Tryd.underlying3 ht2_3
  simp only [List.cons.injEq, and_true] at e2_3
  subst e2_3
  obtain ⟨b2, e2_4, _⟩ := DataW.trod_bool Tryd.underlying4 ht2_4
  simp only [List.cons.injEq, and_true] at e2_4
  subst e2_4
  have hsa2 := came_shortF hsz (j := 2) (t := 63) rfl rfl Tryd.underlying63 (q := 0) rfl ey2_0 Tryd.underlying23 in_bytes ra2
  obtain rfl : l2 = [.slice Aa2 xa2.length ka2, .int .i64 i2_1, .int .i64 i2_2, .int .i64 i2_3, .bool b2] := list_five hl2 el2_0 el2_1 el2_2 el2_3 el2_4
  refine (guards5_any n0 A1 c1 xs1 Aa2 ka2 xa2 i2_1 i2_2 i2_3 b2 W hI1 (by omega) (came_i32 hwf1) hIa2 (by omega) (came_i64 w2_1) (came_i64 w2_2) (came_i64 w2_3) (extraguards_tab0 W hLm)).mono fun e W' ⟨he, hb⟩ => ?_
  subst he
  exact ⟨_, rfl, law_post laid_out (by intro t ht; rw [Tryd.params8] at ht; simp at ht; rcases ht with rfl | rfl | rfl <;> exact ⟨by kernel_rfl, of_decide_eq_true (by kernel_rfl)⟩) rfl rfl Tryd.underlying4 (by obtain ⟨rfl, _⟩ := trodVars_none hV; rfl) hW' hb⟩

theorem extraguards_row : Rows.ExtraGuardsSaid :=
  OpenClaim.holds_of_wide 8 Tryd.f8 rfl rfl rfl rfl rfl rfl rfl ⟨rfl, rfl, rfl, rfl, rfl⟩ rfl rfl rfl rfl rfl (by kernel_rfl) Tryd.func8 (by kernel_rfl)
    (of_decide_eq_true (by kernel_rfl)) (by unfold Func.isWrapper; first | (rw [if_pos (by decide +kernel)]; kernel_rfl) | (rw [if_neg (by decide +kernel)]; exact ⟨rfl, rfl⟩))
    (fun os started H enc _ => extraguards_lifted os started H enc)

theorem extraguards_said : Rows.ExtraGuardsCardSaid :=
  Claim7.holds_tied_plain_at .later [] [.data, .data, .data] true (true, "9b1245379d201044ea5704e0ea06d197d1f2f16adef8f25a3f59c29d0d27fc1b") false
    extraguards_row (fun _ h => by cases h) (by kernel_rfl) (fun _ h => by cases h) extraGuards_row_tie rfl ⟨rfl, rfl⟩ (by kernel_rfl) rfl
    (fun f fn hf hfn => by
      obtain rfl : f = 8 := Option.some.inj ((show Tryd.prog.funcNamed "gnomon/gnomonlaw05.ExtraGuards" = some 8 by kernel_rfl).symm.trans hf) |>.symm
      obtain rfl : fn = Tryd.f8 := (Option.some.inj (Tryd.func8.symm.trans hfn)).symm
      exact ⟨by kernel_rfl, fun j t ht => by
        rw [Tryd.params8] at ht
        have hm : t ∈ [3, 22, 63] := by simpa using Array.mem_of_getElem? ht
        have hall : ([3, 22, 63].all fun u => !Tryd.prog.wantsStandIn u) = true := by kernel_rfl
        exact (show Tryd.prog.wantsStandIn t = false by simpa using List.all_eq_true.1 hall t hm)⟩)
    (by kernel_rfl)

end Go.Proofs.YtncgapnooabdgaaDoor
