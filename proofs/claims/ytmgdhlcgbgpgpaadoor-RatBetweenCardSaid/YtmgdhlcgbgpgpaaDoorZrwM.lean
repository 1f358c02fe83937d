/- RatBetween: the law's row, and its tied card. -/
import Derived.Test.YtmgdhlcgbgpgpaaDoorTie
import Derived.Test.YtmgdhlcgbgpgpaaDoorCards
import Derived.SizedLaws
import Derived.LaidMore
import Derived.Stop.LaidErr
import Derived.MakeChecks
import Derived.OpenShut
import Derived.Stop.Joined
import Derived.ProofKit
import Derived.ChangeMaps5
import Derived.SevenTiedAt
import Derived.Test.YtmgdhlcgbgpgpaaDoorMg13
namespace Go.Proofs.YtmgdhlcgbgpgpaaDoor
open Go Go.ChangeShapes Go.WideShapes Go.ChangeAt Go.RowKit
open Go.ChangeMaps (open_string)
set_option linter.unusedVariables false

theorem laid_own : ownKnob Tryd.prog.godebug = none := by kernel_rfl
theorem laid_out : laidOutB Tryd.prog = true := by kernel_rfl
theorem rt_list {α : Type} : ∀ {l : List α} {a b : α}, l.length = 2 → l[0]? = some a → l[1]? = some b → l = [a, b]
  | [a', b'], _, _, _, h0, h1 => by
    simp only [List.getElem?_cons_zero, List.getElem?_cons_succ, Option.some.injEq] at h0 h1
    rw [h0, h1]
theorem rt_two : Tryd.prog.cellsOf 23 = 2 := by kernel_rfl
/-- The heap that the package's own first run leaves meets the condition. -/
theorem betweens_door_met (os : Os) (args : Array Value) : laidMetH Tryd.prog Rows.ratBetweenRow.laid ((World.doorLaid Tryd.prog 400 os).forCall (fun _ _ => 0) ⟨#[], args, []⟩).memory :=
  laidMetH_of_parts3 (fuel := 8) (laidMet_of_run' 8 (by kernel_rfl) (by kernel_rfl)) (by kernel_rfl) (by kernel_rfl)
theorem betweens_tab0 (W : World) (h : laidMet Tryd.prog Rows.ratBetweenRow.laid W) : Lib.TabIs Tryd.prog W "internal/strconv.uint64pow10" .u64 Lib.pow10Tab := by
  have h0 : laidMet Tryd.prog Rows.ratBetweenRow.laid W := h
  have h1 := laidMet.tail (show laidMet Tryd.prog (_ :: _) W from h0)
  have h2 := laidMet.tail (show laidMet Tryd.prog (_ :: _) W from h1)
  exact Lib.tabIs_of_head (t := 124) (e := 50) (n := 20) rfl rfl Tryd.underlying124 Tryd.underlying50 (by kernel_rfl) (by kernel_rfl) (show laidMet Tryd.prog ((_, Lib.tabData .u64 Lib.pow10Tab) :: _) W from h2)

set_option maxHeartbeats 1000000 in
set_option maxRecDepth 100000 in
theorem betweens_lifted (os : Os) (started : os.Started) (H : Type) (enc : TypeId × Value → H) :
    ReturnsInHanded {} Tryd.checked os 4 .any (fun w args => (Rows.ratBetweenSpec.pre enc Tryd.prog Tryd.f4 [] false w args ∧ laidMetH Tryd.prog Rows.ratBetweenRow.laid w) ∧ sizedMet enc Tryd.prog Tryd.f4 (OpenSpec.ofChange Rows.ratBetweenSpec) false w args)
      (Rows.ratBetweenSpec.post enc Tryd.prog Tryd.f4 false true false false) := by
  refine returnsInHanded_of_change_and (C := Tryd.checked) (X := fun w _ => laidMetH Tryd.prog Rows.ratBetweenRow.laid w) (fun _ _ _ hh h => h.of_heap hh) laid_own started (by kernel_rfl) Tryd.func4
    (ChangeSpec.witness_shaped (enc := enc) (C := Tryd.checked) (os := os) (X := fun w _ => laidMetH Tryd.prog Rows.ratBetweenRow.laid w) false (World.doorLaid Tryd.prog 400 os) #[.agg #[.int .i64 0, .int .i64 0], .agg #[.int .i64 0, .int .i64 0]] 8 rfl (World.shaped_of_RefB (by kernel_rfl) (by kernel_rfl)) (by kernel_rfl) (by kernel_rfl) (by kernel_rfl) (betweens_door_met os _)) ?_
  intro W base args ds gs before hval0 hW _ hsz0 hL _
  have hval : ∀ (j : Nat) t v, Tryd.f4.params[j]? = some t → args[j]? = some v → Value.okWide Tryd.prog W .any base t v := hval0
  have hsz : (DataW.weightsEach Tryd.prog (Tryd.f4.params.toList ++ Rows.ratBetweenSpec.plain.varTypes Tryd.prog) (ds ++ gs)).all (· ≤ reachBytes) = true := hsz0
  have hW' := hW
  obtain ⟨p, q, hA0, hV, rfl, _, _⟩ := hW
  have hA : DataW.TrodAll enc Tryd.prog W 0 (fun _ => true) true Tryd.f4.params.toList args.toList ds p := hA0
  rw [Tryd.params4] at hA hval hsz
  have hLm : laidMet Tryd.prog Rows.ratBetweenRow.laid W := (MakeChecks.laidMetH_plain _ _ _ (by kernel_rfl)) ▸ hL
  obtain ⟨v0, v1, d0, d1, p0, p1, rfl, rfl, rfl, h0, h1⟩ := trodAll_two hA
  obtain ⟨l0, ys0, nn0, rfl, hl0, rfl, hy0, hf0⟩ := open_fields Tryd.underlying23 (by kernel_rfl) rt_two (hval 0 23 v0 rfl rfl) h0
  obtain ⟨c0_0, y0_0, el0_0, ey0_0, ht0_0⟩ := hf0 0 _ rfl
  obtain ⟨i0_0, e0_0, _, w0_0⟩ := DataW.trod_int Tryd.underlying2 ht0_0
  simp only [List.cons.injEq, and_true] at e0_0
  subst e0_0
  obtain ⟨c0_1, y0_1, el0_1, ey0_1, ht0_1⟩ := hf0 1 _ rfl
  obtain ⟨i0_1, e0_1, _, w0_1⟩ := DataW.trod_int Tryd.underlying2 ht0_1
  simp only [List.cons.injEq, and_true] at e0_1
  subst e0_1
  obtain rfl : l0 = [.int .i64 i0_0, .int .i64 i0_1] := rt_list hl0 el0_0 el0_1
  obtain ⟨l1, ys1, nn1, rfl, hl1, rfl, hy1, hf1⟩ := open_fields Tryd.underlying23 (by kernel_rfl) rt_two (hval 1 23 v1 rfl rfl) h1
  obtain ⟨c1_0, y1_0, el1_0, ey1_0, ht1_0⟩ := hf1 0 _ rfl
  obtain ⟨i1_0, e1_0, _, w1_0⟩ := DataW.trod_int Tryd.underlying2 ht1_0
  simp only [List.cons.injEq, and_true] at e1_0
  subst e1_0
  obtain ⟨c1_1, y1_1, el1_1, ey1_1, ht1_1⟩ := hf1 1 _ rfl
  obtain ⟨i1_1, e1_1, _, w1_1⟩ := DataW.trod_int Tryd.underlying2 ht1_1
  simp only [List.cons.injEq, and_true] at e1_1
  subst e1_1
  obtain rfl : l1 = [.int .i64 i1_0, .int .i64 i1_1] := rt_list hl1 el1_0 el1_1
  refine (betweens_any i0_0 i0_1 i1_0 i1_1 W (came_i64 w0_0) (came_i64 w0_1) (came_i64 w1_0) (came_i64 w1_1) (betweens_tab0 W hLm)).mono fun e W' ⟨he, hb⟩ => ?_
  subst he
  exact ⟨_, rfl, law_post laid_out (by intro t ht; rw [Tryd.params4] at ht; simp at ht; rcases ht with rfl <;> exact ⟨by kernel_rfl, of_decide_eq_true (by kernel_rfl)⟩) rfl rfl Tryd.underlying4 (by obtain ⟨rfl, _⟩ := trodVars_none hV; rfl) hW' hb⟩

theorem betweens_row : Rows.RatBetweenSaid :=
  OpenClaim.holds_of_wide 4 Tryd.f4 rfl rfl rfl rfl rfl rfl rfl ⟨rfl, rfl, rfl, rfl, rfl⟩ rfl rfl rfl rfl rfl (by kernel_rfl) Tryd.func4 (by kernel_rfl)
    (of_decide_eq_true (by kernel_rfl)) (by unfold Func.isWrapper; first | (rw [if_pos (by decide +kernel)]; kernel_rfl) | (rw [if_neg (by decide +kernel)]; exact ⟨rfl, rfl⟩))
    (fun os started H enc _ => betweens_lifted os started H enc)

theorem betweens_said : Rows.RatBetweenCardSaid :=
  Claim7.holds_tied_plain_at .later [] [.data, .data, .data] true (true, "71c3811cf4d54589cb83c3b42baa2eb0aaac1ac3970e3b202b578486e383d08c") true
    betweens_row (fun _ h => by cases h) (by kernel_rfl) (fun _ h => by cases h) ratBetween_row_tie rfl ⟨rfl, rfl⟩ (by kernel_rfl) rfl
    (fun f fn hf hfn => by
      obtain rfl : f = 4 := Option.some.inj ((show Tryd.prog.funcNamed "gnomon/gnomonlaw02.RatBetween" = some 4 by kernel_rfl).symm.trans hf) |>.symm
      obtain rfl : fn = Tryd.f4 := (Option.some.inj (Tryd.func4.symm.trans hfn)).symm
      exact ⟨by kernel_rfl, fun j t ht => by
        rw [Tryd.params4] at ht
        have hm : t ∈ [23, 23] := by simpa using Array.mem_of_getElem? ht
        have hall : ([23, 23].all fun u => !Tryd.prog.wantsStandIn u) = true := by kernel_rfl
        exact (show Tryd.prog.wantsStandIn t = false by simpa using List.all_eq_true.1 hall t hm)⟩)
    (by kernel_rfl)

end Go.Proofs.YtmgdhlcgbgpgpaaDoor
