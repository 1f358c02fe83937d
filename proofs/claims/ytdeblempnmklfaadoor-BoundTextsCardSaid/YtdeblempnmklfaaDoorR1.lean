/- The document's answers for bounds. -/
import Derived.Test.YtdeblempnmklfaaDoorProg
import Derived.Test.YtdeblempnmklfaaDoorMem
import Derived.Test.YtdeblempnmklfaaDoorBit
import Derived.Lib.Hide
import Derived.Deep.LoopGhost
import Derived.Deep.QuietTactic
import Derived.BigQuiet
import Derived.BigRegion
import Derived.StillTailTactics
import Derived.KernelRfl
import Derived.Test.YtdeblempnmklfaaDoorPb
namespace Go.Proofs.YtdeblempnmklfaaDoor
open Go Go.RowKit
set_option linter.unusedVariables false
set_option linter.unusedSimpArgs false

theorem tmod_two (b : Int) : b.tmod 2 = 0 ↔ b % 2 = 0 := by
  constructor
  · intro h; have := Int.dvd_of_tmod_eq_zero h; omega
  · intro h; exact Int.tmod_eq_zero_of_dvd (by omega)
theorem tdiv_even {b : Int} (h : b % 2 = 0) : b.tdiv 2 = b / 2 := Int.tdiv_eq_ediv_of_dvd (by omega)

set_option maxRecDepth 100000 in
set_option maxHeartbeats 1000000 in
theorem number_any (b : Int) (w : World) (h0 : -2147483648 ≤ b) (h1 : b ≤ 2147483647) : Calls Tryd.prog 35 #[.int .i32 b] w fun e w' => e = .returned (.int .i64 (b / 2)) ∧ w' = w := by
  by_cases hb : b % 2 = 0
  · have t0 : b.tmod 2 = 0 := (tmod_two b).2 hb
    have t1 : b.tdiv 2 = b / 2 := tdiv_even hb
    obtain ⟨q, hq⟩ : ∃ q, q = b / 2 := ⟨_, rfl⟩
    rw [← hq] at t1 ⊢
    have hq1 : -1073741824 ≤ q := by omega
    have hq2 : q ≤ 1073741823 := by omega
    clear hq hb
    go_enter Tryd.func35, Tryd.ntmps35
    go_wp2
    go_ret
    exact ⟨rfl, rfl⟩
  · have t0 : (b.tmod 2 == 0) = false := by simp; exact fun h => hb ((tmod_two b).1 h)
    have t0' : (b.tmod 2 != 0) = true := by simp; exact fun h => hb ((tmod_two b).1 h)
    have t1 : (b - 1).tdiv 2 = b / 2 := by rw [tdiv_even (by omega)]; omega
    obtain ⟨q, hq⟩ : ∃ q, q = b / 2 := ⟨_, rfl⟩
    rw [← hq] at t1 ⊢
    have hq1 : -1073741824 ≤ q := by omega
    have hq2 : q ≤ 1073741823 := by omega
    have hq3 : b - 1 = 2 * q := by omega
    have HQ := Lib.hid hq3
    clear hq hb hq3
    go_enter Tryd.func35, Tryd.ntmps35
    go_wp2
    go_ret
    exact ⟨by simp [t1], rfl⟩

theorem number_w (b : Int) (w : World) (h0 : -2147483648 ≤ b) (h1 : b ≤ 2147483647) : Calls Tryd.prog 35 #[.int .i32 b] w fun e w' => e = .returned (.int .i64 (b / 2)) ∧ w = w' :=
  (number_any b w h0 h1).mono fun _ _ k => ⟨k.1, k.2.symm⟩

set_option maxRecDepth 100000 in
set_option maxHeartbeats 1000000 in
theorem rright_any (b : Int) (w : World) (h0 : -2147483648 ≤ b) (h1 : b ≤ 2147483647) : Calls Tryd.prog 19 #[.int .i32 b] w fun e w' => e = .returned (.bool (rightB b)) ∧ w = w' := by
  by_cases e0 : b = 2147483647
  · subst e0
    go_enter Tryd.func19, Tryd.ntmps19
    go_wp2
    go_ret
    exact ⟨rfl, rfl⟩
  · have t0 : (b == 2147483647) = false := by simp [e0]
    by_cases e1 : -536870912 ≤ b
    · have d1 : decide ((-268435456 : Int) ≤ b / 2) = true := decide_eq_true (by omega)
      by_cases e2 : b ≤ 536870913
      · have d2 : decide (b / 2 ≤ 268435456) = true := decide_eq_true (by omega)
        have hr : rightB b = true := by unfold rightB; exact decide_eq_true (.inr ⟨e1, e2⟩)
        rw [hr]
        clear hr
        go_enter Tryd.func19, Tryd.ntmps19
        go_wp2_with (go_at_call 35; refine (number_w _ _ (by omega) (by omega)).mono ?_; rintro e w' ⟨rfl, rfl⟩)
        go_ret
        exact ⟨by simp [*], rfl⟩
      · have d2 : decide (b / 2 ≤ 268435456) = false := decide_eq_false (by omega)
        have hr : rightB b = false := by unfold rightB; exact decide_eq_false (by omega)
        rw [hr]
        clear hr
        go_enter Tryd.func19, Tryd.ntmps19
        go_wp2_with (go_at_call 35; refine (number_w _ _ (by omega) (by omega)).mono ?_; rintro e w' ⟨rfl, rfl⟩)
        go_ret
        exact ⟨by simp [*], rfl⟩
    · have d1 : decide ((-268435456 : Int) ≤ b / 2) = false := decide_eq_false (by omega)
      have hr : rightB b = false := by unfold rightB; exact decide_eq_false (by omega)
      rw [hr]
      clear hr
      go_enter Tryd.func19, Tryd.ntmps19
      go_wp2_with (go_at_call 35; refine (number_w _ _ (by omega) (by omega)).mono ?_; rintro e w' ⟨rfl, rfl⟩)
      go_ret
      exact ⟨by simp [*], rfl⟩


theorem rright_yes (b : Int) (w : World) (h : rightB b = true) (h0 : -2147483648 ≤ b) (h1 : b ≤ 2147483647) : Calls Tryd.prog 19 #[.int .i32 b] w fun e w' => e = .returned (.bool true) ∧ w = w' :=
  (rright_any b w h0 h1).mono fun _ _ k => ⟨by rw [k.1, h], k.2⟩
theorem rright_no (b : Int) (w : World) (h : rightB b = false) (h0 : -2147483648 ≤ b) (h1 : b ≤ 2147483647) : Calls Tryd.prog 19 #[.int .i32 b] w fun e w' => e = .returned (.bool false) ∧ w = w' :=
  (rright_any b w h0 h1).mono fun _ _ k => ⟨by rw [k.1, h], k.2⟩

set_option maxRecDepth 100000 in
set_option maxHeartbeats 1000000 in
theorem rvalue_yes (b : Int) (w : World) (h : someB b = true) :
    Calls Tryd.prog 17 #[.int .i32 b] w fun e w' => e = .returned (.tuple #[.int .i64 (b / 2), .bool (decide (b % 2 = 1)), .bool true]) ∧ w = w' := by
  obtain ⟨hr, hn⟩ : rightB b = true ∧ b ≠ 2147483647 := by simpa [someB] using h
  have hb := rightB_bd hr hn
  have t0 : (b == 2147483647) = false := by simp [hn]
  have HR := Lib.hid hr
  have HN := Lib.hid (fun w => number_w b w (by omega) (by omega))
  obtain ⟨q, hq⟩ : ∃ q, q = b / 2 := ⟨_, rfl⟩
  rw [← hq] at HN ⊢
  have hq1 : -268435456 ≤ q := by omega
  have hq2 : q ≤ 268435456 := by omega
  have hb0 := hb.1
  have hb1 := hb.2
  clear h hr hn hb
  by_cases e : b % 2 = 1
  · rw [decide_eq_true e]
    have t1 : (b == 2 * q) = false := by simp; omega
    have t2 : (b != 2 * q) = true := by simp; omega
    clear hq e
    go_enter Tryd.func17, Tryd.ntmps17
    go_wp2_with (first | (go_at_call 19; refine (rright_yes b _ HR.out (by omega) (by omega)).mono ?_; rintro e w' ⟨rfl, rfl⟩) | (go_at_call 35; refine (HN.out _).mono ?_; rintro e w' ⟨rfl, rfl⟩))
    go_ret3
    exact ⟨by simp [t1, t2], rfl⟩
  · rw [decide_eq_false e]
    have t1 : (b == 2 * q) = true := by simp; omega
    have t2 : (b != 2 * q) = false := by simp; omega
    clear hq e
    go_enter Tryd.func17, Tryd.ntmps17
    go_wp2_with (first | (go_at_call 19; refine (rright_yes b _ HR.out (by omega) (by omega)).mono ?_; rintro e w' ⟨rfl, rfl⟩) | (go_at_call 35; refine (HN.out _).mono ?_; rintro e w' ⟨rfl, rfl⟩))
    go_ret3
    exact ⟨by simp [t1, t2], rfl⟩
set_option maxRecDepth 100000 in
set_option maxHeartbeats 1000000 in
theorem rvalue_no (b : Int) (w : World) (h : someB b = false) (h0 : -2147483648 ≤ b) (h1 : b ≤ 2147483647) :
    Calls Tryd.prog 17 #[.int .i32 b] w fun e w' => e = .returned (.tuple #[.int .i64 0, .bool false, .bool false]) ∧ w = w' := by
  by_cases hn : b = 2147483647
  · subst hn
    clear h
    go_enter Tryd.func17, Tryd.ntmps17
    go_wp2
    go_ret3
    exact ⟨rfl, rfl⟩
  · have t0 : (b == 2147483647) = false := by simp [hn]
    have hr : rightB b = false := by simpa [someB, hn] using h
    have HR := Lib.hid hr
    clear h hn hr
    go_enter Tryd.func17, Tryd.ntmps17
    go_wp2_with (go_at_call 19; refine (rright_no b _ HR.out (by omega) (by omega)).mono ?_; rintro e w' ⟨rfl, rfl⟩)
    go_ret3
    exact ⟨rfl, rfl⟩


set_option maxRecDepth 100000 in
set_option maxHeartbeats 1000000 in
theorem rbof_any (v : Int) (r : Bool) (w : World) : Calls Tryd.prog 34 #[.int .i64 v, .bool r] w fun e w' => e = .returned (.tuple #[.int .i32 (ofB v r).1, .int .i64 (ofB v r).2]) ∧ w = w' := by
  by_cases a : v < -268435456
  · have e : ofB v r = (0, 10) := if_pos (.inl a)
    rw [e]
    have d : decide (v < -268435456) = true := decide_eq_true a
    clear e
    go_enter Tryd.func34, Tryd.ntmps34
    go_wp2
    go_ret2
    exact ⟨rfl, rfl⟩
  · have d : decide (v < -268435456) = false := decide_eq_false a
    by_cases b : 268435456 < v
    · have e : ofB v r = (0, 10) := if_pos (.inr b)
      rw [e]
      clear e
      go_enter Tryd.func34, Tryd.ntmps34
      go_wp2
      go_ret2
      exact ⟨rfl, rfl⟩
    · have e : ofB v r = (2 * v + (if r then 1 else 0), 0) := if_neg (by omega)
      rw [e]
      have d2 : decide (268435456 < v) = false := decide_eq_false b
      have g1 : IntKind.i32.wrap (2 * v) = 2 * v := by rw [IntKind.wrap_i32]; omega
      have g2 : IntKind.i32.wrap (2 * v + 1) = 2 * v + 1 := by rw [IntKind.wrap_i32]; omega
      clear e
      cases r with
      | false =>
        go_enter Tryd.func34, Tryd.ntmps34
        go_wp2
        go_ret2
        exact ⟨by simp [g1], rfl⟩
      | true =>
        go_enter Tryd.func34, Tryd.ntmps34
        go_wp2
        go_ret2
        exact ⟨by simp [g2], rfl⟩


set_option maxRecDepth 100000 in
set_option maxHeartbeats 2000000 in
theorem rsum_any (A : Option Addr) (c : Nat) (l : List Int) (w : World) (hI : Ints w .i32 A l) (hmax : l.length ≤ 4611686018427387904) (hk : ∀ q, q < l.length → -2147483648 ≤ l.getD q 0 ∧ l.getD q 0 ≤ 2147483647) :
    Calls Tryd.prog 21 #[.slice A l.length c] w fun e w' => e = .returned (.tuple #[.int .i32 (sumP l).1, .int .i64 (sumP l).2]) ∧ w = w' := by
  have HI := Lib.hid hI
  have HK := Lib.hid hk
  clear hI hk
  go_enter Tryd.func21, Tryd.ntmps21
  go_wp2
  go_loopg [4, 5] l.length (fun g b x wr => ∃ p : Nat, x = .int .i64 p ∧ b = .bool (infUp l p) ∧ w = wr ∧ Hid (p ≤ l.length ∧ g + p = l.length ∧ ∀ q, q < p → rightB (l.getD q 0) = true))
  case atStart => exact ⟨0, by simp, rfl, rfl, by omega, by omega, fun q h => by omega⟩
  case round =>
    obtain ⟨p, rfl, rfl, rfl, HG⟩ := hrel
    obtain ⟨fl, hfl⟩ : ∃ fl, fl = infUp l p := ⟨_, rfl⟩
    rw [← hfl]
    have HF := Lib.hid hfl
    clear hfl
    by_cases hp : p < l.length
    · obtain ⟨b, off, rfl, hc⟩ := HI.out p hp
      have hb := HK.out p hp
      obtain ⟨x, hx⟩ : ∃ x, x = l.getD p 0 := ⟨_, rfl⟩
      rw [← hx] at hc hb
      have HX := Lib.hid hx
      obtain ⟨hb0, hb1⟩ := hb
      have hpi : (p : Int) < (l.length : Int) := by omega
      clear hx
      by_cases hr : rightB x = true
      · have HR := Lib.hid hr
        clear hr
        have hnext : infUp l (p + 1) = (fl || decide (x = 2147483647)) := by rw [HX.out, HF.out]; rfl
        have HN := Lib.hid hnext
        clear hnext
        have hrel : ∀ q, q < p + 1 → rightB (l.getD q 0) = true := fun q hq => by
          by_cases e : q = p
          · subst e; rw [← HX.out]; exact HR.out
          · exact HG.out.2.2 q (by omega)
        have HRL := Lib.hid hrel
        clear hrel
        cases fl with
        | true =>
          go_wp2_with (go_at_call 19; refine (rright_yes x _ HR.out (by omega) (by omega)).mono ?_; rintro e w' ⟨rfl, rfl⟩)
          go_roundg (gk - 1)
          case measure => have := HG.out; omega
          case rel => exact ⟨p + 1, by go_num, by rw [HN.out]; rfl, rfl, by omega, by have := HG.out.2.1; omega, HRL.out⟩
        | false =>
          by_cases hinf : x = 2147483647
          · have t1 : (x == 2147483647) = true := by simp [hinf]
            rw [decide_eq_true hinf] at HN
            clear hinf
            go_wp2_with (go_at_call 19; refine (rright_yes x _ HR.out (by omega) (by omega)).mono ?_; rintro e w' ⟨rfl, rfl⟩)
            go_roundg (gk - 1)
            case measure => have := HG.out; omega
            case rel => exact ⟨p + 1, by go_num, by rw [HN.out]; rfl, rfl, by omega, by have := HG.out.2.1; omega, HRL.out⟩
          · have t1 : (x == 2147483647) = false := by simp [hinf]
            rw [decide_eq_false hinf] at HN
            clear hinf
            go_wp2_with (go_at_call 19; refine (rright_yes x _ HR.out (by omega) (by omega)).mono ?_; rintro e w' ⟨rfl, rfl⟩)
            go_roundg (gk - 1)
            case measure => have := HG.out; omega
            case rel => exact ⟨p + 1, by go_num, by rw [HN.out]; rfl, rfl, by omega, by have := HG.out.2.1; omega, HRL.out⟩
      · have hrf : rightB x = false := by simpa using hr
        have HR := Lib.hid hrf
        have hall : l.all rightB = false := by
          rw [Bool.eq_false_iff]
          intro ha
          have := (all_getD l rightB 0).1 ha p hp
          rw [← HX.out, HR.out] at this
          cases this
        have hz : sumP l = (0, 7) := by unfold sumP; rw [hall]; rfl
        have HZ := Lib.hid hz
        clear hr hrf hall hz
        go_wp2_with (go_at_call 19; refine (rright_no x _ HR.out (by omega) (by omega)).mono ?_; rintro e w' ⟨rfl, rfl⟩)
        go_ret2
        exact ⟨by rw [HZ.out]; rfl, rfl⟩
    · have e : p = l.length := by have := HG.out.1; omega
      have hpi : ¬ (p : Int) < (l.length : Int) := by omega
      have hall : l.all rightB = true := (all_getD l rightB 0).2 (by rw [← e]; exact HG.out.2.2)
      have HRT := Lib.hid (fun q (hq : q < l.length) => HG.out.2.2 q (by omega))
      cases fl with
      | true =>
        have hz : sumP l = (2147483647, 0) := by
          unfold sumP; rw [if_pos hall, ← e, ← HF.out]; rfl
        have HZ := Lib.hid hz
        clear hz hall e
        go_wp2
        go_ret2
        exact ⟨by rw [HZ.out]; rfl, rfl⟩
      | false =>
        have hno := infUp_no (HF.out.symm.trans rfl : infUp l p = false)
        have hz : sumP l = ofB (sumUp l l.length) (redUp l l.length) := by
          unfold sumP; rw [if_pos hall, ← e, ← HF.out]; rfl
        have HZ := Lib.hid hz
        have HNO := Lib.hid (fun q (hq : q < l.length) => hno q (by omega))
        clear hz hall e hno
        go_wp2
        go_loopg [6, 7, 8] l.length (fun g v r x wr => ∃ p : Nat, x = .int .i64 p ∧ v = .int .i64 (sumUp l p) ∧ r = .bool (redUp l p) ∧ w = wr ∧ Hid (p ≤ l.length ∧ g + p = l.length))
        case atStart => exact ⟨0, by simp, rfl, rfl, rfl, by omega, by omega⟩
        case round =>
          clear HG
          obtain ⟨t, rfl, rfl, rfl, rfl, HG⟩ := hrel
          obtain ⟨sv, hsv⟩ : ∃ sv, sv = sumUp l t := ⟨_, rfl⟩
          obtain ⟨rv, hrv⟩ : ∃ rv, rv = redUp l t := ⟨_, rfl⟩
          rw [← hsv, ← hrv]
          have HSV := Lib.hid hsv
          have HRV := Lib.hid hrv
          clear hsv hrv
          by_cases ht : t < l.length
          · obtain ⟨b, off, e1, hc⟩ := HI.out t ht
            obtain ⟨x, hx⟩ : ∃ x, x = l.getD t 0 := ⟨_, rfl⟩
            rw [← hx] at hc
            have hso : someB x = true := by
              have h1 := HRT.out t ht
              have h2 := HNO.out t ht
              rw [← hx] at h1 h2
              simp [someB, h1, h2]
            have HSO := Lib.hid hso
            have hn1 : sumUp l (t + 1) = wrap64 (sv + x / 2) := by rw [HSV.out, hx]; rfl
            have hn2 : redUp l (t + 1) = (rv && decide (x % 2 = 1)) := by rw [HRV.out, hx]; rfl
            obtain ⟨y, hy⟩ : ∃ y, y = x / 2 := ⟨_, rfl⟩
            obtain ⟨z, hz⟩ : ∃ z, z = decide (x % 2 = 1) := ⟨_, rfl⟩
            have HV := Lib.hid (fun w => rvalue_yes x w HSO.out)
            rw [← hy, ← hz] at HV
            rw [← hy] at hn1
            rw [← hz] at hn2
            have HN1 := Lib.hid hn1
            have HN2 := Lib.hid hn2
            have hti : (t : Int) < (l.length : Int) := by omega
            subst e1
            clear hx hso hn1 hn2 hy hz
            cases rv
            all_goals
              go_wp2_with (go_at_call 17; refine (HV.out _).mono ?_; rintro e w' ⟨rfl, rfl⟩)
              go_roundg (gk - 1)
              case measure => have := HG.out; omega
              case rel => exact ⟨t + 1, by go_num, by rw [HN1.out], by rw [HN2.out]; rfl, rfl, by omega, by have := HG.out.2; omega⟩
          · have e : t = l.length := by have := HG.out.1; omega
            have hti : ¬ (t : Int) < (l.length : Int) := by omega
            have hsum : sumP l = ofB sv rv := by rw [HZ.out, HSV.out, HRV.out, e]
            have HSUM := Lib.hid hsum
            clear hsum e
            go_wp2_with fail
            refine (rbof_any _ _ _).mono ?_
            rw [← HSUM.out]
            obtain ⟨o1, ho1⟩ : ∃ o, o = (sumP l).1 := ⟨_, rfl⟩
            obtain ⟨o2, ho2⟩ : ∃ o, o = (sumP l).2 := ⟨_, rfl⟩
            rw [← ho1, ← ho2]
            have HO1 := Lib.hid ho1
            have HO2 := Lib.hid ho2
            clear ho1 ho2
            rintro e w' ⟨rfl, rfl⟩
            go_wp2
            go_ret2
            exact ⟨by rw [← HO1.out, ← HO2.out]; rfl, rfl⟩

set_option maxRecDepth 100000 in
set_option maxHeartbeats 1000000 in
theorem rnot_yes (b : Int) (w : World) (h : someB b = true) : Calls Tryd.prog 23 #[.int .i32 b] w fun e w' => e = .returned (.tuple #[.int .i32 (1 - b), .int .i64 0]) ∧ w = w' := by
  obtain ⟨hr, hn⟩ : rightB b = true ∧ b ≠ 2147483647 := by simpa [someB] using h
  have hb := rightB_bd hr hn
  have HR := Lib.hid hr
  have HV := Lib.hid (fun w => rvalue_yes b w h)
  have HO := Lib.hid (fun w => rbof_any (-(b / 2)) (!decide (b % 2 = 1)) w)
  have e : ofB (-(b / 2)) (!decide (b % 2 = 1)) = (1 - b, 0) := by
    unfold ofB
    rw [if_neg (by omega)]
    by_cases e : b % 2 = 1
    · simp [e]; omega
    · simp [e]; omega
  rw [e] at HO
  obtain ⟨q, hq⟩ : ∃ q, q = b / 2 := ⟨_, rfl⟩
  obtain ⟨z, hz⟩ : ∃ z, z = decide (b % 2 = 1) := ⟨_, rfl⟩
  rw [← hq, ← hz] at HV HO
  have hq0 : -268435456 ≤ q := by omega
  have hq1 : q ≤ 268435456 := by omega
  obtain ⟨hb0, hb1⟩ := hb
  clear e hq hz h hr hn
  go_enter Tryd.func23, Tryd.ntmps23
  go_wp2_with (first | (go_at_call 19; refine (rright_yes b _ HR.out (by omega) (by omega)).mono ?_; rintro e w' ⟨rfl, rfl⟩) | (go_at_call 17; refine (HV.out _).mono ?_; rintro e w' ⟨rfl, rfl⟩) | (go_at_call 34; refine (HO.out _).mono ?_; rintro e w' ⟨rfl, rfl⟩))
  go_ret2
  exact ⟨rfl, rfl⟩


end Go.Proofs.YtdeblempnmklfaaDoor
