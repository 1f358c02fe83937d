/- ExtraPoints: the law's row, and its tied card. -/
import Derived.Test.YtncgapnooabdgaaDoorTie
import Derived.Test.YtncgapnooabdgaaDoorCards
import Derived.SizedLaws
import Derived.LaidMore
import Derived.Stop.LaidErr
import Derived.MakeChecks
import Derived.OpenShut
import Derived.Stop.Joined
import Derived.ProofKit
import Derived.ChangeMaps5
import Derived.SevenTiedAt
import Derived.Test.YtncgapnooabdgaaDoorMg11
namespace Go.Proofs.YtncgapnooabdgaaDoor
open Go Go.ChangeShapes Go.WideShapes Go.ChangeAt Go.RowKit
open Go.ChangeMaps (open_string)
set_option linter.unusedVariables false

theorem laid_own : ownKnob Tryd.prog.godebug = none := by kernel_rfl
theorem laid_out : laidOutB Tryd.prog = true := by kernel_rfl
theorem bound_one : Tryd.prog.cellsOf 44 = 1 := by kernel_rfl
theorem bound_bytes : Tryd.prog.bytesOf 44 = 4 := by kernel_rfl
theorem in_one : Tryd.prog.cellsOf 3 = 1 := by kernel_rfl
theorem in_bytes : Tryd.prog.bytesOf 3 = 8 := by kernel_rfl
theorem il_one : Tryd.prog.cellsOf 23 = 1 := by kernel_rfl
theorem u_one : Tryd.prog.cellsOf 59 = 1 := by kernel_rfl
theorem u_bytes : Tryd.prog.bytesOf 59 = 4 := by kernel_rfl
theorem ul_one : Tryd.prog.cellsOf 55 = 1 := by kernel_rfl
theorem list_two {α : Type} : ∀ {l : List α} {a b : α}, l.length = 2 → l[0]? = some a → l[1]? = some b → l = [a, b]
  | [a', b'], _, _, _, h0, h1 => by
    simp only [List.getElem?_cons_zero, List.getElem?_cons_succ, Option.some.injEq] at h0 h1
    rw [h0, h1]
theorem as_two : Tryd.prog.cellsOf 57 = 2 := by kernel_rfl
/-- The heap that the package's own first run leaves meets the condition. -/
theorem extrapoints_door_met (os : Os) (args : Array Value) : laidMetH Tryd.prog Rows.extraPointsRow.laid ((World.doorLaid Tryd.prog 400 os).forCall (fun _ _ => 0) ⟨#[], args, []⟩).memory :=
  laidMetH_of_parts3 (fuel := 8) (laidMet_of_run' 8 (by kernel_rfl) (by kernel_rfl)) (by kernel_rfl) (by kernel_rfl)
theorem extrapoints_tab0 (W : World) (h : laidMet Tryd.prog Rows.extraPointsRow.laid W) : Lib.TabIs Tryd.prog W "internal/strconv.uint64pow10" .u64 Lib.pow10Tab := by
  have h0 : laidMet Tryd.prog Rows.extraPointsRow.laid W := h
  have h1 := laidMet.tail (show laidMet Tryd.prog (_ :: _) W from h0)
  have h2 := laidMet.tail (show laidMet Tryd.prog (_ :: _) W from h1)
  exact Lib.tabIs_of_head (t := 137) (e := 117) (n := 20) rfl rfl Tryd.underlying137 Tryd.underlying117 (by kernel_rfl) (by kernel_rfl) (show laidMet Tryd.prog ((_, Lib.tabData .u64 Lib.pow10Tab) :: _) W from h2)

set_option maxHeartbeats 1000000 in
set_option maxRecDepth 100000 in
theorem extrapoints_lifted (os : Os) (started : os.Started) (H : Type) (enc : TypeId × Value → H) :
    ReturnsInHanded {} Tryd.checked os 7 .any (fun w args => (Rows.extraPointsSpec.pre enc Tryd.prog Tryd.f7 [] false w args ∧ laidMetH Tryd.prog Rows.extraPointsRow.laid w) ∧ sizedMet enc Tryd.prog Tryd.f7 (OpenSpec.ofChange Rows.extraPointsSpec) false w args)
      (Rows.extraPointsSpec.post enc Tryd.prog Tryd.f7 false true false false) := by
  refine returnsInHanded_of_change_and (C := Tryd.checked) (X := fun w _ => laidMetH Tryd.prog Rows.extraPointsRow.laid w) (fun _ _ _ hh h => h.of_heap hh) laid_own started (by kernel_rfl) Tryd.func7
    (ChangeSpec.witness_shaped (enc := enc) (C := Tryd.checked) (os := os) (X := fun w _ => laidMetH Tryd.prog Rows.extraPointsRow.laid w) false (World.doorLaid Tryd.prog 400 os) #[.int .i64 0, .slice none 0 0, .agg #[.slice none 0 0, .slice none 0 0]] 8 rfl (World.shaped_of_RefB (by kernel_rfl) (by kernel_rfl)) (by kernel_rfl) (by kernel_rfl) (by kernel_rfl) (extrapoints_door_met os _)) ?_
  intro W base args ds gs before hval0 hW _ hsz0 hL _
  have hval : ∀ (j : Nat) t v, Tryd.f7.params[j]? = some t → args[j]? = some v → Value.okWide Tryd.prog W .any base t v := hval0
  have hsz : (DataW.weightsEach Tryd.prog (Tryd.f7.params.toList ++ Rows.extraPointsSpec.plain.varTypes Tryd.prog) (ds ++ gs)).all (· ≤ reachBytes) = true := hsz0
  have hW' := hW
  obtain ⟨p, q, hA0, hV, rfl, _, _⟩ := hW
  have hA : DataW.TrodAll enc Tryd.prog W 0 (fun _ => true) true Tryd.f7.params.toList args.toList ds p := hA0
  rw [Tryd.params7] at hA hval hsz
  have hLm : laidMet Tryd.prog Rows.extraPointsRow.laid W := (MakeChecks.laidMetH_plain _ _ _ (by kernel_rfl)) ▸ hL
  obtain ⟨v0, v1, v2, d0, d1, d2, p0, p1, p2, rfl, rfl, rfl, h0, h1, h2⟩ := trodAll_three hA
  obtain ⟨n0, rfl, hw0, _, _⟩ := open_int Tryd.underlying3 (hval 0 3 v0 rfl rfl) h0
  obtain ⟨A1, c1, xs1, rfl, hI1, hwf1, hd1⟩ := came_row Tryd.underlying22 Tryd.underlying44 bound_one (hval 1 22 v1 rfl rfl) h1
  have hs1 := came_short hsz (j := 1) (t := 22) rfl rfl Tryd.underlying22 bound_bytes (by decide) hd1
  obtain ⟨l2, ys2, nn2, rfl, hl2, rfl, hy2, hf2⟩ := open_fields Tryd.underlying57 (by kernel_rfl) as_two (hval 2 57 v2 rfl rfl) h2
  obtain ⟨ca2, ya2, ela2, eya2, hta2⟩ := hf2 0 _ rfl
  obtain ⟨cb2, yb2, elb2, eyb2, htb2⟩ := hf2 1 _ rfl
  obtain ⟨Aa2, ka2, xa2, rfl, hIa2, hwa2, ra2⟩ := row_opened Tryd.underlying23 Tryd.underlying3 in_one hta2
  obtain ⟨Ab2, kb2, xb2, rfl, hIb2, hwb2, rb2⟩ := row_opened Tryd.underlying55 Tryd.underlying59 u_one htb2
  have hsa2 := came_shortF hsz (j := 2) (t := 57) rfl rfl Tryd.underlying57 (q := 0) rfl eya2 Tryd.underlying23 in_bytes ra2
  have hsb2 := came_shortF hsz (j := 2) (t := 57) rfl rfl Tryd.underlying57 (q := 1) rfl eyb2 Tryd.underlying55 u_bytes rb2
  obtain rfl : l2 = [.slice Aa2 xa2.length ka2, .slice Ab2 xb2.length kb2] := list_two hl2 ela2 elb2
  refine (points5_any n0 A1 c1 xs1 Aa2 ka2 xa2 Ab2 kb2 xb2 W hI1 (by omega) (came_i32 hwf1) hIa2 hIb2 (by omega) (by omega) (came_u32 hwb2) (extrapoints_tab0 W hLm)).mono fun e W' ⟨he, hb⟩ => ?_
  subst he
  exact ⟨_, rfl, law_post laid_out (by intro t ht; rw [Tryd.params7] at ht; simp at ht; rcases ht with rfl | rfl | rfl <;> exact ⟨by kernel_rfl, of_decide_eq_true (by kernel_rfl)⟩) rfl rfl Tryd.underlying4 (by obtain ⟨rfl, _⟩ := trodVars_none hV; rfl) hW' hb⟩

theorem extrapoints_row : Rows.ExtraPointsSaid :=
  OpenClaim.holds_of_wide 7 Tryd.f7 rfl rfl rfl rfl rfl rfl rfl ⟨rfl, rfl, rfl, rfl, rfl⟩ rfl rfl rfl rfl rfl (by kernel_rfl) Tryd.func7 (by kernel_rfl)
    (of_decide_eq_true (by kernel_rfl)) (by unfold Func.isWrapper; first | (rw [if_pos (by decide +kernel)]; kernel_rfl) | (rw [if_neg (by decide +kernel)]; exact ⟨rfl, rfl⟩))
    (fun os started H enc _ => extrapoints_lifted os started H enc)

theorem extrapoints_said : Rows.ExtraPointsCardSaid :=
  Claim7.holds_tied_plain_at .later [] [.data, .data, .data] true (true, "9b1245379d201044ea5704e0ea06d197d1f2f16adef8f25a3f59c29d0d27fc1b") false
    extrapoints_row (fun _ h => by cases h) (by kernel_rfl) (fun _ h => by cases h) extraPoints_row_tie rfl ⟨rfl, rfl⟩ (by kernel_rfl) rfl
    (fun f fn hf hfn => by
      obtain rfl : f = 7 := Option.some.inj ((show Tryd.prog.funcNamed "gnomon/gnomonlaw05.ExtraPoints" = some 7 by kernel_rfl).symm.trans hf) |>.symm
      obtain rfl : fn = Tryd.f7 := (Option.some.inj (Tryd.func7.symm.trans hfn)).symm
      exact ⟨by kernel_rfl, fun j t ht => by
        rw [Tryd.params7] at ht
        have hm : t ∈ [3, 22, 57] := by simpa using Array.mem_of_getElem? ht
        have hall : ([3, 22, 57].all fun u => !Tryd.prog.wantsStandIn u) = true := by kernel_rfl
        exact (show Tryd.prog.wantsStandIn t = false by simpa using List.all_eq_true.1 hall t hm)⟩)
    (by kernel_rfl)

end Go.Proofs.YtncgapnooabdgaaDoor
