/- BoundTexts: the law's row, and its tied card. -/
import Derived.Test.YtdeblempnmklfaaDoorLtx
import Derived.Test.YtdeblempnmklfaaDoorRow4
import Derived.Test.YtdeblempnmklfaaDoorTie
import Derived.Test.YtdeblempnmklfaaDoorCards
import Derived.SizedLaws
import Derived.LaidMore
import Derived.Stop.LaidErr
import Derived.MakeChecks
import Derived.OpenShut
import Derived.Stop.Joined
import Derived.ProofKit
import Derived.ChangeMaps5
import Derived.SevenTiedAt
namespace Go.Proofs.YtdeblempnmklfaaDoor
open Go Go.ChangeShapes Go.WideShapes Go.ChangeAt Go.RowKit
open Go.ChangeMaps (open_string)
set_option linter.unusedVariables false

theorem laid_own : ownKnob Tryd.prog.godebug = none := by kernel_rfl
theorem laid_out : laidOutB Tryd.prog = true := by kernel_rfl

/-- The heap that the package's own first run leaves meets the condition. -/
theorem texts_door_met (os : Os) (args : Array Value) : laidMetH Tryd.prog Rows.boundTextsRow.laid ((World.doorLaid Tryd.prog 400 os).forCall (fun _ _ => 0) ⟨#[], args, []⟩).memory :=
  laidMetH_of_parts3 (fuel := 8) (laidMet_of_run' 8 (by kernel_rfl) (by kernel_rfl)) (by kernel_rfl) (by kernel_rfl)
theorem texts_tab0 (W : World) (h : laidMet Tryd.prog Rows.boundTextsRow.laid W) : Lib.TabIs Tryd.prog W "internal/strconv.uint64pow10" .u64 Lib.pow10Tab := by
  have h0 : laidMet Tryd.prog Rows.boundTextsRow.laid W := h
  have h1 := laidMet.tail (show laidMet Tryd.prog (_ :: _) W from h0)
  have h2 := laidMet.tail (show laidMet Tryd.prog (_ :: _) W from h1)
  exact Lib.tabIs_of_head (t := 94) (e := 57) (n := 20) rfl rfl Tryd.underlying94 Tryd.underlying57 (by kernel_rfl) (by kernel_rfl) (show laidMet Tryd.prog ((_, Lib.tabData .u64 Lib.pow10Tab) :: _) W from h2)

theorem err_star : "*" ++ "errors.errorString" = "*errors.errorString" := by decide
theorem err_row (u : TypeId) (h : Tryd.prog.typeName? 3 u = some "*errors.errorString") : u = 102 :=
  typeName_ptr_named (nm := "errors.errorString") (by rw [err_star]; kernel_rfl) (by kernel_rfl) (by decide) u (by rw [err_star]; exact h)

theorem texts_sent0 (W : World) (h : laidMet Tryd.prog Rows.boundTextsRow.laid W) : Sent "strconv.ErrSyntax" W := by
  have h0 : laidMet Tryd.prog Rows.boundTextsRow.laid W := h
  have h1 := laidMet.tail (show laidMet Tryd.prog (_ :: _) W from h0)
  have h2 := laidMet.tail (show laidMet Tryd.prog (_ :: _) W from h1)
  have h3 := laidMet.tail (show laidMet Tryd.prog (_ :: _) W from h2)
  have h4 := laidMet.tail (show laidMet Tryd.prog (_ :: _) W from h3)
  obtain ⟨a, s, hv, _⟩ := laid_sentinel (show laidMet Tryd.prog (_ :: _) W from h4) rfl rfl Tryd.underlying64 err_row Tryd.underlying102 Tryd.underlying104 rfl rfl Tryd.underlying9 (by kernel_rfl) (by kernel_rfl)
  exact ⟨_, _, hv⟩

theorem texts_sent1 (W : World) (h : laidMet Tryd.prog Rows.boundTextsRow.laid W) : Sent "strconv.ErrRange" W := by
  have h0 : laidMet Tryd.prog Rows.boundTextsRow.laid W := h
  have h1 := laidMet.tail (show laidMet Tryd.prog (_ :: _) W from h0)
  have h2 := laidMet.tail (show laidMet Tryd.prog (_ :: _) W from h1)
  have h3 := laidMet.tail (show laidMet Tryd.prog (_ :: _) W from h2)
  obtain ⟨a, s, hv, _⟩ := laid_sentinel (show laidMet Tryd.prog (_ :: _) W from h3) rfl rfl Tryd.underlying64 err_row Tryd.underlying102 Tryd.underlying104 rfl rfl Tryd.underlying9 (by kernel_rfl) (by kernel_rfl)
  exact ⟨_, _, hv⟩

set_option maxHeartbeats 1000000 in
set_option maxRecDepth 100000 in
theorem texts_lifted (os : Os) (started : os.Started) (H : Type) (enc : TypeId × Value → H) :
    ReturnsInHanded {} Tryd.checked os 8 .any (fun w args => (Rows.boundTextsSpec.pre enc Tryd.prog Tryd.f8 [] false w args ∧ laidMetH Tryd.prog Rows.boundTextsRow.laid w) ∧ sizedMet enc Tryd.prog Tryd.f8 (OpenSpec.ofChange Rows.boundTextsSpec) false w args)
      (Rows.boundTextsSpec.post enc Tryd.prog Tryd.f8 false true false false) := by
  refine returnsInHanded_of_change_and (C := Tryd.checked) (X := fun w _ => laidMetH Tryd.prog Rows.boundTextsRow.laid w) (fun _ _ _ hh h => h.of_heap hh) laid_own started (by kernel_rfl) Tryd.func8
    (ChangeSpec.witness_shaped (enc := enc) (C := Tryd.checked) (os := os) (X := fun w _ => laidMetH Tryd.prog Rows.boundTextsRow.laid w) false (World.doorLaid Tryd.prog 400 os) #[.int .i32 0, .string ⟨#[]⟩] 8 rfl (World.shaped_of_RefB (by kernel_rfl) (by kernel_rfl)) (by kernel_rfl) (by kernel_rfl) (by kernel_rfl) (texts_door_met os _)) ?_
  intro W base args ds gs before hval0 hW _ hsz0 hL _
  have hval : ∀ (j : Nat) t v, Tryd.f8.params[j]? = some t → args[j]? = some v → Value.okWide Tryd.prog W .any base t v := hval0
  have hsz : (DataW.weightsEach Tryd.prog (Tryd.f8.params.toList ++ Rows.boundTextsSpec.plain.varTypes Tryd.prog) (ds ++ gs)).all (· ≤ reachBytes) = true := hsz0
  have hW' := hW
  obtain ⟨p, q, hA0, hV, rfl, _, _⟩ := hW
  have hA : DataW.TrodAll enc Tryd.prog W 0 (fun _ => true) true Tryd.f8.params.toList args.toList ds p := hA0
  rw [Tryd.params8] at hA hval hsz
  have hLm : laidMet Tryd.prog Rows.boundTextsRow.laid W := (MakeChecks.laidMetH_plain _ _ _ (by kernel_rfl)) ▸ hL
  obtain ⟨v0, v1, d0, d1, p0, p1, rfl, rfl, rfl, h0, h1⟩ := trodAll_two hA
  obtain ⟨n0, rfl, _, _, hw0⟩ := open_int Tryd.underlying22 (hval 0 22 v0 rfl rfl) h0
  obtain ⟨⟨⟨b1⟩⟩, rfl, hd1, _, hm1⟩ := open_string Tryd.underlying9 (hval 1 9 v1 rfl rfl) h1
  subst hd1
  have hs1 : b1.length ≤ 140737488351232 := sized_string hsz (j := 1) (t := 9) rfl rfl
  refine (texts_law n0 b1 W (bounds_i32 hw0) hs1 (texts_tab0 W hLm) (texts_sent0 W hLm) (texts_sent1 W hLm)).mono fun e W' ⟨he, hb⟩ => ?_
  subst he
  exact ⟨_, rfl, law_post laid_out (by intro t ht; rw [Tryd.params8] at ht; simp at ht; rcases ht with rfl | rfl <;> exact ⟨by kernel_rfl, of_decide_eq_true (by kernel_rfl)⟩) rfl rfl Tryd.underlying4 (by obtain ⟨rfl, _⟩ := trodVars_none hV; rfl) hW' hb⟩

theorem texts_row : Rows.BoundTextsSaid :=
  OpenClaim.holds_of_wide 8 Tryd.f8 rfl rfl rfl rfl rfl rfl rfl ⟨rfl, rfl, rfl, rfl, rfl⟩ rfl rfl rfl rfl rfl (by kernel_rfl) Tryd.func8 (by kernel_rfl)
    (of_decide_eq_true (by kernel_rfl)) (by unfold Func.isWrapper; first | (rw [if_pos (by decide +kernel)]; kernel_rfl) | (rw [if_neg (by decide +kernel)]; exact ⟨rfl, rfl⟩))
    (fun os started H enc _ => texts_lifted os started H enc)

theorem texts_said : Rows.BoundTextsCardSaid :=
  Claim7.holds_tied_plain_at .later [] [.data, .data, .data, .sentinel, .sentinel] true (true, "26cd94b54b917d9a2b1e8f4244521d6b75c080098395638a0367dfed39e0f7f1") true
    texts_row (fun _ h => by cases h) (by kernel_rfl) (fun _ h => by cases h) boundTexts_row_tie rfl ⟨rfl, rfl⟩ (by kernel_rfl) rfl
    (fun f fn hf hfn => by
      obtain rfl : f = 8 := Option.some.inj ((show Tryd.prog.funcNamed "gnomon/gnomonlaw01.BoundTexts" = some 8 by kernel_rfl).symm.trans hf) |>.symm
      obtain rfl : fn = Tryd.f8 := (Option.some.inj (Tryd.func8.symm.trans hfn)).symm
      exact ⟨by kernel_rfl, fun j t ht => by
        rw [Tryd.params8] at ht
        have hm : t ∈ [22, 9] := by simpa using Array.mem_of_getElem? ht
        have hall : ([22, 9].all fun u => !Tryd.prog.wantsStandIn u) = true := by kernel_rfl
        exact (show Tryd.prog.wantsStandIn t = false by simpa using List.all_eq_true.1 hall t hm)⟩)
    (by kernel_rfl)

end Go.Proofs.YtdeblempnmklfaaDoor
