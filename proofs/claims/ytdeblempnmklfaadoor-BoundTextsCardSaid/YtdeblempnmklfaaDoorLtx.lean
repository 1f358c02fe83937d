/- What BoundTexts tells. -/
import Derived.Test.YtdeblempnmklfaaDoorBr2
namespace Go.Proofs.YtdeblempnmklfaaDoor
open Go Go.RowKit
set_option linter.unusedVariables false
set_option linter.unusedSimpArgs false

theorem printL_len (b : Int) (h0 : -2147483648 ≤ b) (h1 : b ≤ 2147483647) : (printL b).length ≤ 30 := by
  have hl := Lib.itoa_length_le (b / 2) (by omega) (by omega)
  unfold printL
  split
  · simp
  · split
    · rw [List.length_append]
      split <;> simp <;> omega
    · simp
/-- The text of a bound, read. -/
def backZ (b : Int) : Int × Int := if rightB b then (b, 0) else (0, 7)
theorem back_is {b : Int} {z : Int × Int} (h : ParsesTo (printL b) z) : z = backZ b := by
  unfold backZ
  by_cases hr : rightB b = true
  · rw [if_pos hr]
    by_cases hn : b = 2147483647
    · exact parses_one h (.inl ⟨by rw [hn]; rfl, by rw [hn]⟩)
    · exact parses_one h (.inr (.inl ⟨b, fin_some hr hn, rfl, rfl⟩))
  · rw [if_neg hr]
    have hn : b ≠ 2147483647 := by rintro rfl; exact hr inf_right
    have e : printL b = [] := by unfold printL; rw [if_neg hn, if_neg (by simp [someB, hr])]
    rw [e] at h
    exact parses_one h (wrong_no (by simp) (fun b' hb' => shapeE hb'))
/-- What was read prints so. -/
theorem parsed_prints {s : List UInt8} {x : Int} (h : ParsesTo s (x, 0)) : printL x = s := by
  rcases h with ⟨h1, h2⟩ | ⟨b, h1, h2, h3⟩ | ⟨h1, h2, h3⟩
  · simp only [Prod.mk.injEq] at h2; rw [h2.1, h1]; rfl
  · simp only [Prod.mk.injEq] at h3; rw [h3.1, h2]
  · cases h3

set_option maxRecDepth 100000 in
set_option maxHeartbeats 2000000 in
theorem texts_law (b : Int) (s : List UInt8) (w : World) (kb : -2147483648 ≤ b ∧ b ≤ 2147483647) (hs : s.length ≤ 140737488351232) (ht : Tab w) (h1 : Sent "strconv.ErrSyntax" w) (h2 : Sent "strconv.ErrRange" w) :
    Calls Tryd.prog 8 #[.int .i32 b, .string ⟨s.toArray⟩] w fun e w' => e = .returned (.bool true) ∧ Below w.heap.size w w' := by
  have HP := Lib.hid (fun w h => print_any b w h)
  have HRP := Lib.hid (fun w h => rprint_any b w kb.1 kb.2 h)
  rw [printB_L] at HP HRP
  have hlen := printL_len b kb.1 kb.2
  have HPA := Lib.hid (fun w ht h1 h2 => parse_any s hs w ht h1 h2)
  have HRA := Lib.hid (fun w ht => rparse_any s hs w ht)
  have HPT := Lib.hid (fun w ht h1 h2 => parse_any (printL b) (by omega) w ht h1 h2)
  have HBK := Lib.hid (fun z h => back_is (b := b) (z := z) h)
  have HRI := Lib.hid (fun w => right_any b w)
  have HPX := Lib.hid (fun x w h => print_any x w h)
  have HG := Lib.hid ((((Bag.start (Below.refl w.heap.size w)).add h2 (fun _ _ h hb => Sent.below h hb)).add h1 (fun _ _ h hb => Sent.below h hb)).add ht (fun _ _ h hb => Tab.below h hb))
  obtain ⟨L, hL⟩ : ∃ L, L = printL b := ⟨_, rfl⟩
  rw [← hL] at HP HRP HPT HBK
  clear hL ht h1 h2 hs hlen kb
  go_enter Tryd.func8, Tryd.ntmps8
  go_wp2_with fail
  refine (HP.out _ (HG.out.at 0 rfl)).mono ?_
  rintro e w1 ⟨rfl, hb⟩
  have HG1 := Lib.hid (HG.out.step hb)
  clear hb HG
  go_wp2_with fail
  refine (HPA.out _ (HG1.out.at 0 rfl) (HG1.out.at 1 rfl) (HG1.out.at 2 rfl)).mono ?_
  rintro e w2 ⟨hb, r, hr, rfl⟩
  have HG2 := Lib.hid (HG1.out.step hb)
  have HR := Lib.hid hr
  clear hb HG1 hr HPA
  go_wp2_with fail
  refine (HRA.out _ (HG2.out.at 0 rfl)).mono ?_
  rintro e w3 ⟨hb, r', hr', rfl⟩
  obtain rfl : r = r' := parses_one HR.out hr'
  have HG3 := Lib.hid (HG2.out.step hb)
  clear hb HG2 hr' HRA
  go_wp2_with fail
  refine (HPT.out _ (HG3.out.at 0 rfl) (HG3.out.at 1 rfl) (HG3.out.at 2 rfl)).mono ?_
  rintro e w4 ⟨hb, z, hz, rfl⟩
  obtain rfl : z = backZ b := HBK.out z hz
  have HG4 := Lib.hid (HG3.out.step hb)
  clear hb HG3 hz HPT HBK
  go_wp2_with fail
  refine (live01_any _ (HG4.out.at 0 rfl)).mono ?_
  rintro e w5 ⟨rfl, hb⟩
  have HG5 := Lib.hid (HG4.out.step hb)
  clear hb HG4
  go_wp2_with fail
  refine (HRP.out _ (HG5.out.at 0 rfl)).mono ?_
  rintro e w6 ⟨rfl, hb⟩
  have HG6 := Lib.hid (HG5.out.step hb)
  clear hb HG5
  go_wp2_with fail
  refine (HRI.out _).mono ?_
  obtain ⟨x, e0⟩ := r
  by_cases hrb : rightB b = true
  · rw [hrb, show backZ b = (b, 0) by unfold backZ; rw [if_pos hrb]]
    rintro e w7 ⟨rfl, rfl⟩
    by_cases h0 : e0 = 0
    · subst h0
      have HX := Lib.hid (parsed_prints HR.out)
      go_wp2_with fail
      refine (HPX.out x _ (HG6.out.at 0 rfl)).mono ?_
      rw [printB_L, HX.out]
      rintro e w8 ⟨rfl, hb⟩
      have HG8 := Lib.hid (HG6.out.step hb)
      clear hb
      go_wp2
      go_ret
      exact ⟨by simp, HG8.out.below⟩
    · have t1 : (e0 != 0) = true := by simp [h0]
      clear h0
      go_wp2
      go_ret
      exact ⟨by simp, HG6.out.below⟩
  · have hrb : rightB b = false := by simpa using hrb
    rw [hrb, show backZ b = (0, 7) by unfold backZ; rw [if_neg (by simp [hrb])]]
    rintro e w7 ⟨rfl, rfl⟩
    by_cases h0 : e0 = 0
    · subst h0
      have HX := Lib.hid (parsed_prints HR.out)
      go_wp2_with fail
      refine (HPX.out x _ (HG6.out.at 0 rfl)).mono ?_
      rw [printB_L, HX.out]
      rintro e w8 ⟨rfl, hb⟩
      have HG8 := Lib.hid (HG6.out.step hb)
      clear hb
      go_wp2
      go_ret
      exact ⟨by simp, HG8.out.below⟩
    · have t1 : (e0 != 0) = true := by simp [h0]
      clear h0
      go_wp2
      go_ret
      exact ⟨by simp, HG6.out.below⟩

end Go.Proofs.YtdeblempnmklfaaDoor
