/- The document's Includes and Equal of any two zones. -/
import Derived.Test.YtgpmfnahjepjjaaRi
namespace Go.Proofs.Ytgpmfnahjepjjaa
open Go Go.RowKit
set_option linter.unusedVariables false
set_option linter.unusedSimpArgs false

set_option maxRecDepth 100000 in
set_option maxHeartbeats 2000000 in
theorem rincludes_any (v v' : Value) (z o : Option (Nat × Mat)) (w : World) (h : RefZ w v z) (h' : RefZ w v' o) :
    Calls Try.prog 38 #[v, v'] w fun e w' => e = .returned (.bool (inclR z o)) ∧ ∃ q, w' = w.drewN q := by
  have HZ := Lib.hid h
  have HO := Lib.hid h'
  by_cases hl : alikeP z o = true
  · by_cases hem : emptyR o = true
    · have hz : inclR z o = true := by unfold inclR; simp [hl, hem]
      have HL := Lib.hid hl
      have HEM := Lib.hid hem
      rw [hz]
      clear hz hl hem h h'
      go_enter Try.func38, Try.ntmps38
      go_wp2_with fail
      refine (ralike_any _ _ _ _ _ HZ.out HO.out).mono ?_
      rw [HL.out]
      rintro e w1 ⟨rfl, q1, rfl⟩
      go_wp2_with fail
      refine (rempty_any _ _ _ (HO.out.drewN q1)).mono ?_
      rw [HEM.out]
      rintro e w2 ⟨rfl, rfl⟩
      go_wp2_with fail
      refine (rempty_any _ _ _ (HO.out.drewN q1)).mono ?_
      rw [HEM.out]
      rintro e w2 ⟨rfl, rfl⟩
      go_wp2
      go_ret
      exact ⟨rfl, q1, rfl⟩
    · have hem : emptyR o = false := by simpa using hem
      by_cases hez : emptyR z = true
      · have hz : inclR z o = false := by unfold inclR; simp [hl, hem, hez]
        have HL := Lib.hid hl
        have HEM := Lib.hid hem
        have HEZ := Lib.hid hez
        rw [hz]
        clear hz hl hem h h' hez
        go_enter Try.func38, Try.ntmps38
        go_wp2_with fail
        refine (ralike_any _ _ _ _ _ HZ.out HO.out).mono ?_
        rw [HL.out]
        rintro e w1 ⟨rfl, q1, rfl⟩
        go_wp2_with fail
        refine (rempty_any _ _ _ (HO.out.drewN q1)).mono ?_
        rw [HEM.out]
        rintro e w2 ⟨rfl, rfl⟩
        go_wp2_with fail
        refine (rempty_any _ _ _ (HZ.out.drewN q1)).mono ?_
        rw [HEZ.out]
        rintro e w2 ⟨rfl, rfl⟩
        go_wp2_with fail
        refine (rempty_any _ _ _ (HO.out.drewN q1)).mono ?_
        rw [HEM.out]
        rintro e w2 ⟨rfl, rfl⟩
        go_wp2
        go_ret
        exact ⟨rfl, q1, rfl⟩
      · have hez : emptyR z = false := by simpa using hez
        have hz : inclR z o = leL (cellsP o) (cellsP z) := by unfold inclR; simp [hl, hem, hez]
        rw [hz]
        match z, o, h, h', hl with
        | some (n, m), some (k, o), h, h', hl =>
          have e : n = k := of_decide_eq_true hl
          subst e
          obtain ⟨b, g, cap, e1, hn, _, _, h1, hr⟩ := h.parts
          obtain ⟨b', g', cap', e2, _, _, _, h1', hr'⟩ := h'.parts
          subst e1 e2
          exact rincl_cells b g cap b' g' cap' n m o w h h' h1 hr h1' hr' hez hem hn
  · have hl : alikeP z o = false := by simpa using hl
    have hz : inclR z o = false := by unfold inclR; simp [hl]
    have HL := Lib.hid hl
    rw [hz]
    clear hz hl h h'
    go_enter Try.func38, Try.ntmps38
    go_wp2_with fail
    refine (ralike_any _ _ _ _ _ HZ.out HO.out).mono ?_
    rw [HL.out]
    rintro e w1 ⟨rfl, q1, rfl⟩
    go_wp2
    go_ret
    exact ⟨rfl, q1, rfl⟩

/-- What the document's Equal tells. -/
def eqR (z o : Option (Nat × Mat)) : Bool := sameL (cellsP z) (cellsP o) && alikeP z o

set_option maxRecDepth 100000 in
set_option maxHeartbeats 2000000 in
theorem requal_any (v v' : Value) (z o : Option (Nat × Mat)) (w : World) (h : RefZ w v z) (h' : RefZ w v' o) (hz : (cellsP z).length ≤ 81) (ho : (cellsP o).length ≤ 81) :
    Calls Try.prog 39 #[v, v'] w fun e w' => e = .returned (.bool (eqR z o)) ∧ Below w.heap.size w w' := by
  have HZ := Lib.hid h
  have HO := Lib.hid h'
  have HSZ := Lib.hid hz
  have HSO := Lib.hid ho
  clear h h' hz ho
  go_enter Try.func39, Try.ntmps39
  go_wp2_with fail
  refine (rcells_any _ _ _ HZ.out).mono ?_
  rintro e w1 ⟨l, rfl, hb1, ho1⟩
  have HB1 := Lib.hid hb1
  have HA1 := Lib.hid ho1
  have HZ1 := Lib.hid (HZ.out.below hb1)
  have HO1 := Lib.hid (HO.out.below hb1)
  clear hb1 ho1 HZ HO
  go_wp2_with fail
  refine (rcells_any _ _ _ HO1.out).mono ?_
  rintro e w2 ⟨l', rfl, hb2, ho2⟩
  have HB2 := Lib.hid (HB1.out.trans (hb2.mono HB1.out.size))
  obtain ⟨A1, c1, rfl, hi1⟩ := (HA1.out.later hb2).slice
  obtain ⟨A2, c2, rfl, hi2⟩ := ho2.slice
  have HI1 := Lib.hid hi1
  have HI2 := Lib.hid hi2
  have HZ2 := Lib.hid (HZ1.out.below hb2)
  have HO2 := Lib.hid (HO1.out.below hb2)
  clear hb2 ho2 hi1 hi2 HZ1 HO1 HA1 HB1
  go_wp2_with fail
  refine (same_any A1 c1 _ A2 c2 _ _ HI1.out HI2.out (by have := HSZ.out; omega) (by have := HSO.out; omega)).mono ?_
  rintro e w3 ⟨rfl, q, rfl⟩
  by_cases hs : sameL (cellsP z) (cellsP o) = true
  · have he : eqR z o = alikeP z o := by unfold eqR; rw [hs]; rfl
    have HE := Lib.hid he
    rw [hs]
    clear hs he
    go_wp2_with fail
    refine (ralike_any _ _ _ _ _ (HZ2.out.drewN q) (HO2.out.drewN q)).mono ?_
    rintro e w4 ⟨rfl, q', rfl⟩
    have HB3 := Lib.hid (belowN HB2.out (q + q'))
    obtain ⟨r, hr⟩ : ∃ r, r = alikeP z o := ⟨_, rfl⟩
    rw [← hr]
    have HR := Lib.hid hr
    clear hr
    go_wp2
    go_ret
    exact ⟨by rw [HE.out, ← HR.out]; rfl, HB3.out⟩
  · have hs : sameL (cellsP z) (cellsP o) = false := by simpa using hs
    have he : eqR z o = false := by unfold eqR; rw [hs]; rfl
    have HE := Lib.hid he
    rw [hs]
    clear hs he
    have HB3 := Lib.hid (belowN HB2.out q)
    go_wp2
    go_ret
    exact ⟨by rw [HE.out]; rfl, HB3.out⟩

end Go.Proofs.Ytgpmfnahjepjjaa
