/- The document's answers for bounds: the number of a bound, whether it is right, the sum of two wide ones. -/
import Derived.Test.YtgpmfnahjepjjaaProg
import Derived.Test.YtgpmfnahjepjjaaMem
import Derived.Test.YtgpmfnahjepjjaaBit
import Derived.Lib.Hide
import Derived.Deep.LoopGhost
import Derived.Deep.QuietTactic
import Derived.BigQuiet
import Derived.BigRegion
import Derived.StillTailTactics
import Derived.KernelRfl
namespace Go.Proofs.Ytgpmfnahjepjjaa
open Go Go.RowKit
set_option linter.unusedVariables false
set_option linter.unusedSimpArgs false

theorem tmod_two (b : Int) : b.tmod 2 = 0 ↔ b % 2 = 0 := by
  constructor
  · intro h; have := Int.dvd_of_tmod_eq_zero h; omega
  · intro h; exact Int.tmod_eq_zero_of_dvd (by omega)
theorem tdiv_even {b : Int} (h : b % 2 = 0) : b.tdiv 2 = b / 2 := Int.tdiv_eq_ediv_of_dvd (by omega)

set_option maxRecDepth 100000 in
set_option maxHeartbeats 1000000 in
theorem number_any (b : Int) (w : World) (h0 : -2147483648 ≤ b) (h1 : b ≤ 2147483647) : Calls Try.prog 62 #[.int .i32 b] w fun e w' => e = .returned (.int .i64 (b / 2)) ∧ w' = w := by
  by_cases hb : b % 2 = 0
  · have t0 : b.tmod 2 = 0 := (tmod_two b).2 hb
    have t1 : b.tdiv 2 = b / 2 := tdiv_even hb
    obtain ⟨q, hq⟩ : ∃ q, q = b / 2 := ⟨_, rfl⟩
    rw [← hq] at t1 ⊢
    have hq1 : -1073741824 ≤ q := by omega
    have hq2 : q ≤ 1073741823 := by omega
    clear hq hb
    go_enter Try.func62, Try.ntmps62
    go_wp2
    go_ret
    exact ⟨rfl, rfl⟩
  · have t0 : (b.tmod 2 == 0) = false := by simp; exact fun h => hb ((tmod_two b).1 h)
    have t0' : (b.tmod 2 != 0) = true := by simp; exact fun h => hb ((tmod_two b).1 h)
    have t1 : (b - 1).tdiv 2 = b / 2 := by rw [tdiv_even (by omega)]; omega
    obtain ⟨q, hq⟩ : ∃ q, q = b / 2 := ⟨_, rfl⟩
    rw [← hq] at t1 ⊢
    have hq1 : -1073741824 ≤ q := by omega
    have hq2 : q ≤ 1073741823 := by omega
    have hq3 : b - 1 = 2 * q := by omega
    have HQ := Lib.hid hq3
    clear hq hb hq3
    go_enter Try.func62, Try.ntmps62
    go_wp2
    go_ret
    exact ⟨by simp [t1], rfl⟩

theorem number_w (b : Int) (w : World) (h0 : -2147483648 ≤ b) (h1 : b ≤ 2147483647) : Calls Try.prog 62 #[.int .i32 b] w fun e w' => e = .returned (.int .i64 (b / 2)) ∧ w = w' :=
  (number_any b w h0 h1).mono fun _ _ k => ⟨k.1, k.2.symm⟩

set_option maxRecDepth 100000 in
set_option maxHeartbeats 1000000 in
theorem rright_any (b : Int) (w : World) (h0 : -2147483648 ≤ b) (h1 : b ≤ 2147483647) : Calls Try.prog 48 #[.int .i32 b] w fun e w' => e = .returned (.bool (rightB b)) ∧ w = w' := by
  by_cases e0 : b = 2147483647
  · subst e0
    go_enter Try.func48, Try.ntmps48
    go_wp2
    go_ret
    exact ⟨rfl, rfl⟩
  · have t0 : (b == 2147483647) = false := by simp [e0]
    by_cases e1 : -536870912 ≤ b
    · have d1 : decide ((-268435456 : Int) ≤ b / 2) = true := decide_eq_true (by omega)
      by_cases e2 : b ≤ 536870913
      · have d2 : decide (b / 2 ≤ 268435456) = true := decide_eq_true (by omega)
        have hr : rightB b = true := by unfold rightB; exact decide_eq_true (.inr ⟨e1, e2⟩)
        rw [hr]
        clear hr
        go_enter Try.func48, Try.ntmps48
        go_wp2_with (go_at_call 62; refine (number_w _ _ (by omega) (by omega)).mono ?_; rintro e w' ⟨rfl, rfl⟩)
        go_ret
        exact ⟨by simp [*], rfl⟩
      · have d2 : decide (b / 2 ≤ 268435456) = false := decide_eq_false (by omega)
        have hr : rightB b = false := by unfold rightB; exact decide_eq_false (by omega)
        rw [hr]
        clear hr
        go_enter Try.func48, Try.ntmps48
        go_wp2_with (go_at_call 62; refine (number_w _ _ (by omega) (by omega)).mono ?_; rintro e w' ⟨rfl, rfl⟩)
        go_ret
        exact ⟨by simp [*], rfl⟩
    · have d1 : decide ((-268435456 : Int) ≤ b / 2) = false := decide_eq_false (by omega)
      have hr : rightB b = false := by unfold rightB; exact decide_eq_false (by omega)
      rw [hr]
      clear hr
      go_enter Try.func48, Try.ntmps48
      go_wp2_with (go_at_call 62; refine (number_w _ _ (by omega) (by omega)).mono ?_; rintro e w' ⟨rfl, rfl⟩)
      go_ret
      exact ⟨by simp [*], rfl⟩

theorem wsum_plain {a b : Int} (ha : a ≠ none62) (hb : b ≠ none62) : wsum a b = if a % 2 = 0 ∧ b % 2 = 0 then a + b else a + b - 1 := by
  unfold wsum
  rw [if_neg (by simp [ha, hb])]
  rcases two_cases a b with ⟨h, h1⟩ | ⟨h, h1, h2⟩ <;> rw [h]
  · by_cases c : a % 2 = 0 ∧ b % 2 = 0
    · rw [if_pos c]; omega
    · rw [if_neg c]; omega
  · rw [if_neg (by omega)]; omega

set_option maxRecDepth 100000 in
set_option maxHeartbeats 1000000 in
theorem plus_fin (a b : Int) (w : World) (ha1 : -1152921504606846976 ≤ a) (ha2 : a ≤ 1152921504606846976) (hb1 : -1152921504606846976 ≤ b) (hb2 : b ≤ 1152921504606846976) :
    Calls Try.prog 70 #[.int .i64 a, .int .i64 b] w fun e w' => e = .returned (.int .i64 (wsum a b)) ∧ w' = w := by
  have t1 : (a == 4611686018427387904) = false := by simp; omega
  have t2 : (b == 4611686018427387904) = false := by simp; omega
  have hs := wsum_plain (a := a) (b := b) (by unfold none62; omega) (by unfold none62; omega)
  by_cases ha : a % 2 = 0
  · have u1 : (a.tmod 2 == 0) = true := by simp; exact (tmod_two a).2 ha
    have u1' : (a.tmod 2 != 0) = false := by simp; exact (tmod_two a).2 ha
    have u1'' : a.tmod 2 = 0 := (tmod_two a).2 ha
    by_cases hb : b % 2 = 0
    · have u2 : (b.tmod 2 == 0) = true := by simp; exact (tmod_two b).2 hb
      have u2' : (b.tmod 2 != 0) = false := by simp; exact (tmod_two b).2 hb
      have u2'' : b.tmod 2 = 0 := (tmod_two b).2 hb
      rw [hs, if_pos ⟨ha, hb⟩]
      clear hs ha hb
      go_enter Try.func70, Try.ntmps70
      go_wp2
      go_ret
      exact ⟨rfl, rfl⟩
    · have u2 : (b.tmod 2 == 0) = false := by simp; exact fun h => hb ((tmod_two b).1 h)
      have u2' : (b.tmod 2 != 0) = true := by simp; exact fun h => hb ((tmod_two b).1 h)
      rw [hs, if_neg (fun h => hb h.2)]
      clear hs ha hb
      go_enter Try.func70, Try.ntmps70
      go_wp2
      go_ret
      exact ⟨rfl, rfl⟩
  · have u1 : (a.tmod 2 == 0) = false := by simp; exact fun h => ha ((tmod_two a).1 h)
    have u1' : (a.tmod 2 != 0) = true := by simp; exact fun h => ha ((tmod_two a).1 h)
    rw [hs, if_neg (fun h => ha h.1)]
    clear hs ha
    go_enter Try.func70, Try.ntmps70
    go_wp2
    go_ret
    exact ⟨rfl, rfl⟩

set_option maxRecDepth 100000 in
set_option maxHeartbeats 1000000 in
theorem plus_left (b : Int) (w : World) :
    Calls Try.prog 70 #[.int .i64 4611686018427387904, .int .i64 b] w fun e w' => e = .returned (.int .i64 4611686018427387904) ∧ w' = w := by
  go_enter Try.func70, Try.ntmps70
  go_wp2
  go_ret
  exact ⟨rfl, rfl⟩
set_option maxRecDepth 100000 in
set_option maxHeartbeats 1000000 in
theorem plus_right (a : Int) (w : World) :
    Calls Try.prog 70 #[.int .i64 a, .int .i64 4611686018427387904] w fun e w' => e = .returned (.int .i64 4611686018427387904) ∧ w' = w := by
  by_cases h : a = 4611686018427387904
  · subst h; exact plus_left _ _
  · have t1 : (a == 4611686018427387904) = false := by simp; omega
    clear h
    go_enter Try.func70, Try.ntmps70
    go_wp2
    go_ret
    exact ⟨rfl, rfl⟩
theorem plus_still (a b : Int) (w : World) (ha : Bd 1152921504606846976 a) (hb : Bd 1152921504606846976 b) :
    Calls Try.prog 70 #[.int .i64 a, .int .i64 b] w fun e w' => e = .returned (.int .i64 (wsum a b)) ∧ w' = w := by
  rcases ha with rfl | ha
  · have : wsum none62 b = 4611686018427387904 := by simp [wsum, none62]
    rw [this]; exact plus_left _ _
  · rcases hb with rfl | hb
    · have : wsum a none62 = 4611686018427387904 := by simp [wsum, none62]
      rw [this]; exact plus_right _ _
    · exact plus_fin a b w ha.1 ha.2 hb.1 hb.2

end Go.Proofs.Ytgpmfnahjepjjaa
