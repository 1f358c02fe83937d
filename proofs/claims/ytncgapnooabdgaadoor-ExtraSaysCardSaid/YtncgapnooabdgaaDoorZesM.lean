/- ExtraSays: the law's row, and its tied card. -/
import Derived.Test.YtncgapnooabdgaaDoorTie
import Derived.Test.YtncgapnooabdgaaDoorCards
import Derived.SizedLaws
import Derived.LaidMore
import Derived.Stop.LaidErr
import Derived.MakeChecks
import Derived.OpenShut
import Derived.Stop.Joined
import Derived.ProofKit
import Derived.ChangeMaps5
import Derived.SevenTiedAt
import Derived.Test.YtncgapnooabdgaaDoorMg9
namespace Go.Proofs.YtncgapnooabdgaaDoor
open Go Go.ChangeShapes Go.WideShapes Go.ChangeAt Go.RowKit
open Go.ChangeMaps (open_string)
set_option linter.unusedVariables false

theorem laid_own : ownKnob Tryd.prog.godebug = none := by kernel_rfl
theorem laid_out : laidOutB Tryd.prog = true := by kernel_rfl
theorem bound_one : Tryd.prog.cellsOf 44 = 1 := by kernel_rfl
theorem bound_bytes : Tryd.prog.bytesOf 44 = 4 := by kernel_rfl
theorem u_one : Tryd.prog.cellsOf 59 = 1 := by kernel_rfl
theorem u_bytes : Tryd.prog.bytesOf 59 = 4 := by kernel_rfl
theorem ul_one : Tryd.prog.cellsOf 55 = 1 := by kernel_rfl
theorem u2_two : Tryd.prog.cellsOf 68 = 2 := by kernel_rfl
/-- The heap that the package's own first run leaves meets the condition. -/
theorem extrasays_door_met (os : Os) (args : Array Value) : laidMetH Tryd.prog Rows.extraSaysRow.laid ((World.doorLaid Tryd.prog 400 os).forCall (fun _ _ => 0) ⟨#[], args, []⟩).memory :=
  laidMetH_of_parts3 (fuel := 8) (laidMet_of_run' 8 (by kernel_rfl) (by kernel_rfl)) (by kernel_rfl) (by kernel_rfl)
theorem extrasays_tab0 (W : World) (h : laidMet Tryd.prog Rows.extraSaysRow.laid W) : Lib.TabIs Tryd.prog W "internal/strconv.uint64pow10" .u64 Lib.pow10Tab := by
  have h0 : laidMet Tryd.prog Rows.extraSaysRow.laid W := h
  have h1 := laidMet.tail (show laidMet Tryd.prog (_ :: _) W from h0)
  have h2 := laidMet.tail (show laidMet Tryd.prog (_ :: _) W from h1)
  exact Lib.tabIs_of_head (t := 137) (e := 117) (n := 20) rfl rfl Tryd.underlying137 Tryd.underlying117 (by kernel_rfl) (by kernel_rfl) (show laidMet Tryd.prog ((_, Lib.tabData .u64 Lib.pow10Tab) :: _) W from h2)

set_option maxHeartbeats 1000000 in
set_option maxRecDepth 100000 in
theorem extrasays_lifted (os : Os) (started : os.Started) (H : Type) (enc : TypeId × Value → H) :
    ReturnsInHanded {} Tryd.checked os 9 .any (fun w args => (Rows.extraSaysSpec.pre enc Tryd.prog Tryd.f9 [] false w args ∧ laidMetH Tryd.prog Rows.extraSaysRow.laid w) ∧ sizedMet enc Tryd.prog Tryd.f9 (OpenSpec.ofChange Rows.extraSaysSpec) false w args)
      (Rows.extraSaysSpec.post enc Tryd.prog Tryd.f9 false true false false) := by
  refine returnsInHanded_of_change_and (C := Tryd.checked) (X := fun w _ => laidMetH Tryd.prog Rows.extraSaysRow.laid w) (fun _ _ _ hh h => h.of_heap hh) laid_own started (by kernel_rfl) Tryd.func9
    (ChangeSpec.witness_shaped (enc := enc) (C := Tryd.checked) (os := os) (X := fun w _ => laidMetH Tryd.prog Rows.extraSaysRow.laid w) false (World.doorLaid Tryd.prog 400 os) #[.int .i64 0, .slice none 0 0, .agg #[.slice none 0 0, .slice none 0 0]] 8 rfl (World.shaped_of_RefB (by kernel_rfl) (by kernel_rfl)) (by kernel_rfl) (by kernel_rfl) (by kernel_rfl) (extrasays_door_met os _)) ?_
  intro W base args ds gs before hval0 hW _ hsz0 hL _
  have hval : ∀ (j : Nat) t v, Tryd.f9.params[j]? = some t → args[j]? = some v → Value.okWide Tryd.prog W .any base t v := hval0
  have hsz : (DataW.weightsEach Tryd.prog (Tryd.f9.params.toList ++ Rows.extraSaysSpec.plain.varTypes Tryd.prog) (ds ++ gs)).all (· ≤ reachBytes) = true := hsz0
  have hW' := hW
  obtain ⟨p, q, hA0, hV, rfl, _, _⟩ := hW
  have hA : DataW.TrodAll enc Tryd.prog W 0 (fun _ => true) true Tryd.f9.params.toList args.toList ds p := hA0
  rw [Tryd.params9] at hA hval hsz
  have hLm : laidMet Tryd.prog Rows.extraSaysRow.laid W := (MakeChecks.laidMetH_plain _ _ _ (by kernel_rfl)) ▸ hL
  obtain ⟨v0, v1, v2, d0, d1, d2, p0, p1, p2, rfl, rfl, rfl, h0, h1, h2⟩ := trodAll_three hA
  obtain ⟨n0, rfl, hw0, _, _⟩ := open_int Tryd.underlying3 (hval 0 3 v0 rfl rfl) h0
  obtain ⟨A1, c1, xs1, rfl, hI1, hwf1, hd1⟩ := came_row Tryd.underlying22 Tryd.underlying44 bound_one (hval 1 22 v1 rfl rfl) h1
  have hs1 := came_short hsz (j := 1) (t := 22) rfl rfl Tryd.underlying22 bound_bytes (by decide) hd1
  obtain ⟨Aa2, ca2, xa2, Ab2, cb2, xb2, da2, db2, rfl, hIa2, hIb2, hwa2, hwb2, rfl, ra2, rb2⟩ := came_rows2 Tryd.underlying68 Tryd.underlying55 Tryd.underlying59 ul_one u_one u2_two (hval 2 68 v2 rfl rfl) h2
  have hsa2 := came_shortA hsz (j := 2) (t := 68) rfl rfl Tryd.underlying68 Tryd.underlying55 u_bytes (by simp) ra2
  have hsb2 := came_shortA hsz (j := 2) (t := 68) rfl rfl Tryd.underlying68 Tryd.underlying55 u_bytes (by simp) rb2
  refine (says_any n0 A1 c1 xs1 Aa2 ca2 xa2 Ab2 cb2 xb2 W hI1 (by omega) (came_i32 hwf1) hIa2 hIb2 (by omega) (by omega) (came_u32 hwa2) (came_u32 hwb2) (extrasays_tab0 W hLm)).mono fun e W' ⟨he, hb⟩ => ?_
  subst he
  exact ⟨_, rfl, law_post laid_out (by intro t ht; rw [Tryd.params9] at ht; simp at ht; rcases ht with rfl | rfl | rfl <;> exact ⟨by kernel_rfl, of_decide_eq_true (by kernel_rfl)⟩) rfl rfl Tryd.underlying4 (by obtain ⟨rfl, _⟩ := trodVars_none hV; rfl) hW' hb⟩

theorem extrasays_row : Rows.ExtraSaysSaid :=
  OpenClaim.holds_of_wide 9 Tryd.f9 rfl rfl rfl rfl rfl rfl rfl ⟨rfl, rfl, rfl, rfl, rfl⟩ rfl rfl rfl rfl rfl (by kernel_rfl) Tryd.func9 (by kernel_rfl)
    (of_decide_eq_true (by kernel_rfl)) (by unfold Func.isWrapper; first | (rw [if_pos (by decide +kernel)]; kernel_rfl) | (rw [if_neg (by decide +kernel)]; exact ⟨rfl, rfl⟩))
    (fun os started H enc _ => extrasays_lifted os started H enc)

theorem extrasays_said : Rows.ExtraSaysCardSaid :=
  Claim7.holds_tied_plain_at .later [] [.data, .data, .data] true (true, "9b1245379d201044ea5704e0ea06d197d1f2f16adef8f25a3f59c29d0d27fc1b") false
    extrasays_row (fun _ h => by cases h) (by kernel_rfl) (fun _ h => by cases h) extraSays_row_tie rfl ⟨rfl, rfl⟩ (by kernel_rfl) rfl
    (fun f fn hf hfn => by
      obtain rfl : f = 9 := Option.some.inj ((show Tryd.prog.funcNamed "gnomon/gnomonlaw05.ExtraSays" = some 9 by kernel_rfl).symm.trans hf) |>.symm
      obtain rfl : fn = Tryd.f9 := (Option.some.inj (Tryd.func9.symm.trans hfn)).symm
      exact ⟨by kernel_rfl, fun j t ht => by
        rw [Tryd.params9] at ht
        have hm : t ∈ [3, 22, 68] := by simpa using Array.mem_of_getElem? ht
        have hall : ([3, 22, 68].all fun u => !Tryd.prog.wantsStandIn u) = true := by kernel_rfl
        exact (show Tryd.prog.wantsStandIn t = false by simpa using List.all_eq_true.1 hall t hm)⟩)
    (by kernel_rfl)

end Go.Proofs.YtncgapnooabdgaaDoor
