/- What BoundOrder tells. -/
import Derived.Test.YtdeblempnmklfaaDoorBp
import Derived.Test.YtdeblempnmklfaaDoorPo
namespace Go.Proofs.YtdeblempnmklfaaDoor
open Go Go.RowKit
set_option linter.unusedVariables false
set_option linter.unusedSimpArgs false

theorem Gives.parts {w : World} {r : Int × Int} {e : Ending} {w' : World} (h : Gives w r e w') : e = .returned (.tuple #[.int .i32 r.1, .int .i64 r.2]) ∧ Below w.heap.size w w' := h

set_option maxRecDepth 100000 in
set_option maxHeartbeats 2000000 in
theorem order_law (a b c : Int) (w : World) (ka : -2147483648 ≤ a ∧ a ≤ 2147483647) (kb : -2147483648 ≤ b ∧ b ≤ 2147483647) (kc : -2147483648 ≤ c ∧ c ≤ 2147483647) (ht : Tab w) :
    Calls Tryd.prog 3 #[.int .i32 a, .int .i32 b, .int .i32 c] w fun e w' => e = .returned (.bool true) ∧ Below w.heap.size w w' := by
  clear ka kb kc
  obtain ⟨x, hx⟩ : ∃ x, x = (sumP [a, b]).1 := ⟨_, rfl⟩
  obtain ⟨e0, he⟩ : ∃ x, x = (sumP [a, b]).2 := ⟨_, rfl⟩
  obtain ⟨p, hp⟩ : ∃ x, x = (sumP [b, c]).1 := ⟨_, rfl⟩
  obtain ⟨h0, hh⟩ : ∃ x, x = (sumP [b, c]).2 := ⟨_, rfl⟩
  have HL := Lib.hid (fun (h1 : e0 = 0) (h2 : h0 = 0) => sum_assoc (a := a) (b := b) (c := c) (he ▸ h1) (hh ▸ h2))
  rw [← hx, ← hp] at HL
  obtain ⟨s, hs⟩ : ∃ x, x = (sumP [a, b, c]) := ⟨_, rfl⟩
  rw [← hs] at HL
  have HAB := Lib.hid (fun w => add_any a b w)
  have HBA := Lib.hid (fun w => add_any b a w)
  have HBC := Lib.hid (fun w => add_any b c w)
  have HXC := Lib.hid (fun w => add_any x c w)
  have HAP := Lib.hid (fun w => add_any a p w)
  have HS2 := Lib.hid (fun A w hI => sum_any A 2 [a, b] w hI (by simp))
  have HS3 := Lib.hid (fun A w hI => sum_any A 3 [a, b, c] w hI (by simp))
  rw [show sumP [a, b] = (x, e0) by rw [hx, he]] at HAB HS2
  rw [sum_comm2 b a, show sumP [a, b] = (x, e0) by rw [hx, he]] at HBA
  rw [show sumP [b, c] = (p, h0) by rw [hp, hh]] at HBC
  rw [← hs] at HS3
  clear hx he hp hh hs
  have HT := Lib.hid ht
  clear ht
  go_enter Tryd.func3, Tryd.ntmps3
  go_wp2_with fail
  refine (HAB.out _).mono ?_
  rintro e w1 ⟨rfl, hb⟩
  have HB1 := Lib.hid hb
  have HT1 := Lib.hid (HT.out.below hb)
  clear hb HT
  go_wp2_with fail
  refine (HBA.out _).mono ?_
  rintro e w2 ⟨rfl, hb⟩
  have HB2 := Lib.hid (HB1.out.trans (hb.mono HB1.out.size))
  have HT2 := Lib.hid (HT1.out.below hb)
  clear hb HT1 HB1
  go_wp2_with fail
  have hnew := (Below.refl w2.heap.size w2).alloc (Nat.le_refl _) (.cells #[.int .i32 a, .int .i32 b] 22)
  have HJ := Lib.hid (ints_two w2 22 a b)
  have HN := Lib.hid hnew
  clear hnew
  refine (HS2.out _ _ HJ.out).mono ?_
  intro e w3 hg
  obtain ⟨rfl, hb⟩ := hg.on HN.out
  have HB3 := Lib.hid (HB2.out.trans (hb.mono HB2.out.size))
  have HT3 := Lib.hid (HT2.out.below hb)
  clear hb hg HT2 HB2 HN HJ
  go_wp2_with fail
  refine (live01_any _ HT3.out).mono ?_
  rintro e w4 ⟨rfl, hb⟩
  have HB4 := Lib.hid (HB3.out.trans (hb.mono HB3.out.size))
  clear hb HT3 HB3
  go_wp2_with fail
  refine (HBC.out _).mono ?_
  rintro e w5 ⟨rfl, hb⟩
  have HB5 := Lib.hid (HB4.out.trans (hb.mono HB4.out.size))
  clear hb HB4
  by_cases h1 : e0 = 0
  · by_cases h2 : h0 = 0
    · obtain ⟨e1, e2⟩ := HL.out h1 h2
      rw [e1] at HXC
      rw [e2] at HAP
      obtain ⟨s1, s2⟩ := s
      subst h1 h2
      clear HL e1 e2
      go_wp2_with fail
      refine (HXC.out _).mono ?_
      rintro e w6 ⟨rfl, hb⟩
      have HB6 := Lib.hid (HB5.out.trans (hb.mono HB5.out.size))
      clear hb HB5
      go_wp2_with fail
      refine (HAP.out _).mono ?_
      rintro e w7 ⟨rfl, hb⟩
      have HB7 := Lib.hid (HB6.out.trans (hb.mono HB6.out.size))
      clear hb HB6
      go_wp2_with fail
      have hnew := (Below.refl w7.heap.size w7).alloc (Nat.le_refl _) (.cells #[.int .i32 a, .int .i32 b, .int .i32 c] 22)
      have HJ := Lib.hid (ints_three w7 22 a b c)
      have HN := Lib.hid hnew
      clear hnew
      refine (HS3.out _ _ HJ.out).mono ?_
      intro e w8 hg
      obtain ⟨rfl, hb⟩ := hg.on HN.out
      have HB8 := Lib.hid (HB7.out.trans (hb.mono HB7.out.size))
      clear hb hg HB7 HN HJ
      go_wp2
      go_ret
      exact ⟨by simp, HB8.out⟩
    · have t1 : (h0 != 0) = true := by simp [h2]
      subst h1
      clear HL h2
      go_wp2
      go_ret
      exact ⟨by simp, HB5.out⟩
  · have t1 : (e0 != 0) = true := by simp [h1]
    clear HL h1
    go_wp2
    go_ret
    exact ⟨by simp, HB5.out⟩

end Go.Proofs.YtdeblempnmklfaaDoor
