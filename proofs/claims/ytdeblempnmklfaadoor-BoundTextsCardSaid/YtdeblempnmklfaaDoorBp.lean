/- What Print tells of a bound; live. -/
import Derived.Test.YtdeblempnmklfaaDoorBd
import Derived.Test.YtdeblempnmklfaaDoorShelf
import Derived.Lib.AppendIntMem
import Derived.Lib.LaidTab
import Derived.Lib.ItoaLen
namespace Go.Proofs.YtdeblempnmklfaaDoor
open Go Go.RowKit
set_option linter.unusedVariables false
set_option linter.unusedSimpArgs false

/-- The library's table of powers of ten lies as its package laid it. -/
def Tab (w : World) : Prop := Lib.TabIs Tryd.prog w "internal/strconv.uint64pow10" .u64 Lib.pow10Tab
theorem Tab.below {w w' : World} (h : Tab w) (hb : Below w.heap.size w w') : Tab w' := Lib.tabBelow_of_tabIs h w' hb

/-- A bound as a text. -/
def printB (b : Int) : ByteArray :=
  if b = 2147483647 then ⟨#[105, 110, 102]⟩ else if someB b then (if b % 2 = 1 then ⟨#[60, 61]⟩ else ⟨#[60]⟩) ++ ⟨(Lib.itoa (b / 2)).toArray⟩ else ⟨#[]⟩
/-- A text, in a world with new blocks. -/
def Says (w : World) (s : ByteArray) (e : Ending) (w' : World) : Prop := e = .returned (.string s) ∧ Below w.heap.size w w'

set_option maxRecDepth 100000 in
set_option maxHeartbeats 1000000 in
theorem itoa_any (n : Int) (h0 : -9223372036854775808 ≤ n) (h1 : n ≤ 9223372036854775807) (w : World) (ht : Tab w) : Calls Tryd.prog 39 #[.int .i64 n] w (Says w ⟨(Lib.itoa n).toArray⟩) :=
  (Tryd.strconv_Itoa n h0 h1 w ht).mono fun e w' ⟨h, k, os, hw⟩ => ⟨h, by rw [hw]; exact Lib.below_grow _ w (Nat.le_refl _) k os⟩

set_option maxRecDepth 100000 in
set_option maxHeartbeats 1000000 in
theorem print_any (b : Int) (w : World) (ht : Tab w) : Calls Tryd.prog 27 #[.int .i32 b] w (Says w (printB b)) := by
  by_cases hn : b = 2147483647
  · subst hn
    have HV := Lib.hid (fun w => value_no 2147483647 w (by decide))
    rw [show printB 2147483647 = ⟨#[105, 110, 102]⟩ from rfl]
    clear ht
    go_enter Tryd.func27, Tryd.ntmps27
    go_wp2_with fail
    refine (HV.out _).mono ?_
    rintro e w' ⟨rfl, rfl⟩
    go_wp2
    go_ret
    exact ⟨rfl, Below.refl _ _⟩
  · have t0 : (b == 2147483647) = false := by simp [hn]
    by_cases h : someB b = true
    · have HV := Lib.hid (fun w => value_yes b w h)
      have hb : -268435456 ≤ b / 2 ∧ b / 2 ≤ 268435456 := by
        obtain ⟨hr, hn⟩ : rightB b = true ∧ b ≠ 2147483647 := by simpa [someB] using h
        have := rightB_bd hr hn
        omega
      have HT := Lib.hid ht
      by_cases hz : b % 2 = 1
      · have e : printB b = ⟨#[60, 61]⟩ ++ ⟨(Lib.itoa (b / 2)).toArray⟩ := by unfold printB; rw [if_neg hn, if_pos h, if_pos hz]
        rw [decide_eq_true hz] at HV
        rw [e]
        obtain ⟨q, hq⟩ : ∃ q, q = b / 2 := ⟨_, rfl⟩
        rw [← hq] at hb HV ⊢
        have HQ := Lib.hid hb
        clear e h hz hq hb ht
        go_enter Tryd.func27, Tryd.ntmps27
        go_wp2_with fail
        refine (HV.out _).mono ?_
        rintro e w' ⟨rfl, rfl⟩
        go_wp2_with fail
        refine (itoa_any q (by have := HQ.out; omega) (by have := HQ.out; omega) _ HT.out).mono ?_
        rintro e w' ⟨rfl, hb⟩
        have HB := Lib.hid hb
        clear hb
        have hl := Lib.itoa_length_le q (by have := HQ.out; omega) (by have := HQ.out; omega)
        have hl2 : ¬ (9223372036854775807 < 2 + (Lib.itoa q).length) := by omega
        have hl1 : ¬ (9223372036854775807 < 1 + (Lib.itoa q).length) := by omega
        go_wp2
        go_ret
        exact ⟨rfl, HB.out⟩
      · have e : printB b = ⟨#[60]⟩ ++ ⟨(Lib.itoa (b / 2)).toArray⟩ := by unfold printB; rw [if_neg hn, if_pos h, if_neg hz]
        rw [decide_eq_false hz] at HV
        rw [e]
        obtain ⟨q, hq⟩ : ∃ q, q = b / 2 := ⟨_, rfl⟩
        rw [← hq] at hb HV ⊢
        have HQ := Lib.hid hb
        clear e h hz hq hb ht
        go_enter Tryd.func27, Tryd.ntmps27
        go_wp2_with fail
        refine (HV.out _).mono ?_
        rintro e w' ⟨rfl, rfl⟩
        go_wp2_with fail
        refine (itoa_any q (by have := HQ.out; omega) (by have := HQ.out; omega) _ HT.out).mono ?_
        rintro e w' ⟨rfl, hb⟩
        have HB := Lib.hid hb
        clear hb
        have hl := Lib.itoa_length_le q (by have := HQ.out; omega) (by have := HQ.out; omega)
        have hl2 : ¬ (9223372036854775807 < 2 + (Lib.itoa q).length) := by omega
        have hl1 : ¬ (9223372036854775807 < 1 + (Lib.itoa q).length) := by omega
        go_wp2
        go_ret
        exact ⟨rfl, HB.out⟩
    · have h : someB b = false := by simpa using h
      have HV := Lib.hid (fun w => value_no b w h)
      have e : printB b = ⟨#[]⟩ := by unfold printB; rw [if_neg hn, if_neg (by simp [h])]
      rw [e]
      clear e h hn ht
      go_enter Tryd.func27, Tryd.ntmps27
      go_wp2_with fail
      refine (HV.out _).mono ?_
      rintro e w' ⟨rfl, rfl⟩
      go_wp2
      go_ret
      exact ⟨rfl, Below.refl _ _⟩

/-- What live tells, whatever is asked. -/
theorem printB_five : printB (-5) = ⟨#[60, 61, 45, 51]⟩ := by decide +kernel
set_option maxRecDepth 100000 in
set_option maxHeartbeats 1000000 in
theorem live01_any (w : World) (ht : Tab w) : Calls Tryd.prog 11 #[] w fun e w' => e = .returned (.bool true) ∧ Below w.heap.size w w' := by
  have HT := Lib.hid ht
  clear ht
  go_enter Tryd.func11, Tryd.ntmps11
  go_wp2_with fail
  refine (atmost_any 3 _).mono ?_
  rw [show Makes (ofB 3 true) = Makes (7, 0) from congrArg Makes (by decide +kernel)]
  rintro e w' ⟨rfl, rfl⟩
  go_wp2_with fail
  refine (add_any 6 7 _).mono ?_
  rw [show sumP [6, 7] = (12, 0) by decide +kernel]
  rintro e w1 ⟨rfl, hb⟩
  have HB := Lib.hid hb
  have HT1 := Lib.hid (HT.out.below hb)
  clear hb HT
  go_wp2_with fail
  refine (print_any (-5) _ HT1.out).mono ?_
  rw [printB_five]
  rintro e w2 ⟨rfl, hb⟩
  have HB2 := Lib.hid (HB.out.trans (hb.mono HB.out.size))
  clear hb
  go_wp2
  go_ret
  exact ⟨by first | rfl | decide, HB2.out⟩

end Go.Proofs.YtdeblempnmklfaaDoor
