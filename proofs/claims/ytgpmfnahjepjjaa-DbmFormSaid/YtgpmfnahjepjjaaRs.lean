/- The document's sums of bounds, and the opposite of one. -/
import Derived.Test.YtgpmfnahjepjjaaHr
import Derived.Test.YtgpmfnahjepjjaaBag
namespace Go.Proofs.Ytgpmfnahjepjjaa
open Go Go.RowKit
set_option linter.unusedVariables false
set_option linter.unusedSimpArgs false

/-- The bound of a number, or the error. -/
def ofB (v : Int) (r : Bool) : Int × Int := if v < -268435456 ∨ 268435456 < v then (0, 10) else (2 * v + (if r then 1 else 0), 0)
set_option maxRecDepth 100000 in
set_option maxHeartbeats 1000000 in
theorem rbof_any (v : Int) (r : Bool) (w : World) : Calls Try.prog 66 #[.int .i64 v, .bool r] w fun e w' => e = .returned (.tuple #[.int .i32 (ofB v r).1, .int .i64 (ofB v r).2]) ∧ w = w' := by
  by_cases a : v < -268435456
  · have e : ofB v r = (0, 10) := if_pos (.inl a)
    rw [e]
    have d : decide (v < -268435456) = true := decide_eq_true a
    clear e
    go_enter Try.func66, Try.ntmps66
    go_wp2
    go_ret2
    exact ⟨rfl, rfl⟩
  · have d : decide (v < -268435456) = false := decide_eq_false a
    by_cases b : 268435456 < v
    · have e : ofB v r = (0, 10) := if_pos (.inr b)
      rw [e]
      clear e
      go_enter Try.func66, Try.ntmps66
      go_wp2
      go_ret2
      exact ⟨rfl, rfl⟩
    · have e : ofB v r = (2 * v + (if r then 1 else 0), 0) := if_neg (by omega)
      rw [e]
      have d2 : decide (268435456 < v) = false := decide_eq_false b
      have g1 : IntKind.i32.wrap (2 * v) = 2 * v := by rw [IntKind.wrap_i32]; omega
      have g2 : IntKind.i32.wrap (2 * v + 1) = 2 * v + 1 := by rw [IntKind.wrap_i32]; omega
      clear e
      cases r with
      | false =>
        go_enter Try.func66, Try.ntmps66
        go_wp2
        go_ret2
        exact ⟨by simp [g1], rfl⟩
      | true =>
        go_enter Try.func66, Try.ntmps66
        go_wp2
        go_ret2
        exact ⟨by simp [g2], rfl⟩

/-- Is one of the first p without a bound? Are all reached? Their sum, as the machine reckons. -/
def infUp (l : List Int) : Nat → Bool
  | 0 => false
  | p + 1 => infUp l p || decide (l.getD p 0 = 2147483647)
def redUp (l : List Int) : Nat → Bool
  | 0 => true
  | p + 1 => redUp l p && decide (l.getD p 0 % 2 = 1)
def sumUp (l : List Int) : Nat → Int
  | 0 => 0
  | p + 1 => wrap64 (sumUp l p + l.getD p 0 / 2)
/-- The bound of the sum of all, or the error. -/
def sumP (l : List Int) : Int × Int := if l.all rightB then (if infUp l l.length then (2147483647, 0) else ofB (sumUp l l.length) (redUp l l.length)) else (0, 7)
theorem infUp_no {l : List Int} : ∀ {N}, infUp l N = false → ∀ q, q < N → l.getD q 0 ≠ 2147483647
  | 0, _, q, hq => by omega
  | N + 1, h, q, hq => by
    simp only [infUp, Bool.or_eq_false_iff, decide_eq_false_iff_not] at h
    by_cases e : q = N
    · subst e; exact h.2
    · exact infUp_no h.1 q (by omega)

set_option maxRecDepth 100000 in
set_option maxHeartbeats 2000000 in
theorem rsum_any (A : Option Addr) (c : Nat) (l : List Int) (w : World) (hI : Ints w .i32 A l) (hmax : l.length ≤ 4611686018427387904) (hk : ∀ q, q < l.length → -2147483648 ≤ l.getD q 0 ∧ l.getD q 0 ≤ 2147483647) :
    Calls Try.prog 56 #[.slice A l.length c] w fun e w' => e = .returned (.tuple #[.int .i32 (sumP l).1, .int .i64 (sumP l).2]) ∧ w = w' := by
  have HI := Lib.hid hI
  have HK := Lib.hid hk
  clear hI hk
  go_enter Try.func56, Try.ntmps56
  go_wp2
  go_loopg [4, 5] l.length (fun g b x wr => ∃ p : Nat, x = .int .i64 p ∧ b = .bool (infUp l p) ∧ w = wr ∧ Hid (p ≤ l.length ∧ g + p = l.length ∧ ∀ q, q < p → rightB (l.getD q 0) = true))
  case atStart => exact ⟨0, by simp, rfl, rfl, by omega, by omega, fun q h => by omega⟩
  case round =>
    obtain ⟨p, rfl, rfl, rfl, HG⟩ := hrel
    obtain ⟨fl, hfl⟩ : ∃ fl, fl = infUp l p := ⟨_, rfl⟩
    rw [← hfl]
    have HF := Lib.hid hfl
    clear hfl
    by_cases hp : p < l.length
    · obtain ⟨b, off, rfl, hc⟩ := HI.out p hp
      have hb := HK.out p hp
      obtain ⟨x, hx⟩ : ∃ x, x = l.getD p 0 := ⟨_, rfl⟩
      rw [← hx] at hc hb
      have HX := Lib.hid hx
      obtain ⟨hb0, hb1⟩ := hb
      have hpi : (p : Int) < (l.length : Int) := by omega
      clear hx
      by_cases hr : rightB x = true
      · have HR := Lib.hid hr
        clear hr
        have hnext : infUp l (p + 1) = (fl || decide (x = 2147483647)) := by rw [HX.out, HF.out]; rfl
        have HN := Lib.hid hnext
        clear hnext
        have hrel : ∀ q, q < p + 1 → rightB (l.getD q 0) = true := fun q hq => by
          by_cases e : q = p
          · subst e; rw [← HX.out]; exact HR.out
          · exact HG.out.2.2 q (by omega)
        have HRL := Lib.hid hrel
        clear hrel
        cases fl with
        | true =>
          go_wp2_with (go_at_call 48; refine (rright_yes x _ HR.out (by omega) (by omega)).mono ?_; rintro e w' ⟨rfl, rfl⟩)
          go_roundg (gk - 1)
          case measure => have := HG.out; omega
          case rel => exact ⟨p + 1, by go_num, by rw [HN.out]; rfl, rfl, by omega, by have := HG.out.2.1; omega, HRL.out⟩
        | false =>
          by_cases hinf : x = 2147483647
          · have t1 : (x == 2147483647) = true := by simp [hinf]
            rw [decide_eq_true hinf] at HN
            clear hinf
            go_wp2_with (go_at_call 48; refine (rright_yes x _ HR.out (by omega) (by omega)).mono ?_; rintro e w' ⟨rfl, rfl⟩)
            go_roundg (gk - 1)
            case measure => have := HG.out; omega
            case rel => exact ⟨p + 1, by go_num, by rw [HN.out]; rfl, rfl, by omega, by have := HG.out.2.1; omega, HRL.out⟩
          · have t1 : (x == 2147483647) = false := by simp [hinf]
            rw [decide_eq_false hinf] at HN
            clear hinf
            go_wp2_with (go_at_call 48; refine (rright_yes x _ HR.out (by omega) (by omega)).mono ?_; rintro e w' ⟨rfl, rfl⟩)
            go_roundg (gk - 1)
            case measure => have := HG.out; omega
            case rel => exact ⟨p + 1, by go_num, by rw [HN.out]; rfl, rfl, by omega, by have := HG.out.2.1; omega, HRL.out⟩
      · have hrf : rightB x = false := by simpa using hr
        have HR := Lib.hid hrf
        have hall : l.all rightB = false := by
          rw [Bool.eq_false_iff]
          intro ha
          have := (all_getD l rightB 0).1 ha p hp
          rw [← HX.out, HR.out] at this
          cases this
        have hz : sumP l = (0, 7) := by unfold sumP; rw [hall]; rfl
        have HZ := Lib.hid hz
        clear hr hrf hall hz
        go_wp2_with (go_at_call 48; refine (rright_no x _ HR.out (by omega) (by omega)).mono ?_; rintro e w' ⟨rfl, rfl⟩)
        go_ret2
        exact ⟨by rw [HZ.out]; rfl, rfl⟩
    · have e : p = l.length := by have := HG.out.1; omega
      have hpi : ¬ (p : Int) < (l.length : Int) := by omega
      have hall : l.all rightB = true := (all_getD l rightB 0).2 (by rw [← e]; exact HG.out.2.2)
      have HRT := Lib.hid (fun q (hq : q < l.length) => HG.out.2.2 q (by omega))
      cases fl with
      | true =>
        have hz : sumP l = (2147483647, 0) := by
          unfold sumP; rw [if_pos hall, ← e, ← HF.out]; rfl
        have HZ := Lib.hid hz
        clear hz hall e
        go_wp2
        go_ret2
        exact ⟨by rw [HZ.out]; rfl, rfl⟩
      | false =>
        have hno := infUp_no (HF.out.symm.trans rfl : infUp l p = false)
        have hz : sumP l = ofB (sumUp l l.length) (redUp l l.length) := by
          unfold sumP; rw [if_pos hall, ← e, ← HF.out]; rfl
        have HZ := Lib.hid hz
        have HNO := Lib.hid (fun q (hq : q < l.length) => hno q (by omega))
        clear hz hall e hno
        go_wp2
        go_loopg [6, 7, 8] l.length (fun g v r x wr => ∃ p : Nat, x = .int .i64 p ∧ v = .int .i64 (sumUp l p) ∧ r = .bool (redUp l p) ∧ w = wr ∧ Hid (p ≤ l.length ∧ g + p = l.length))
        case atStart => exact ⟨0, by simp, rfl, rfl, rfl, by omega, by omega⟩
        case round =>
          clear HG
          obtain ⟨t, rfl, rfl, rfl, rfl, HG⟩ := hrel
          obtain ⟨sv, hsv⟩ : ∃ sv, sv = sumUp l t := ⟨_, rfl⟩
          obtain ⟨rv, hrv⟩ : ∃ rv, rv = redUp l t := ⟨_, rfl⟩
          rw [← hsv, ← hrv]
          have HSV := Lib.hid hsv
          have HRV := Lib.hid hrv
          clear hsv hrv
          by_cases ht : t < l.length
          · obtain ⟨b, off, e1, hc⟩ := HI.out t ht
            obtain ⟨x, hx⟩ : ∃ x, x = l.getD t 0 := ⟨_, rfl⟩
            rw [← hx] at hc
            have hso : someB x = true := by
              have h1 := HRT.out t ht
              have h2 := HNO.out t ht
              rw [← hx] at h1 h2
              simp [someB, h1, h2]
            have HSO := Lib.hid hso
            have hn1 : sumUp l (t + 1) = wrap64 (sv + x / 2) := by rw [HSV.out, hx]; rfl
            have hn2 : redUp l (t + 1) = (rv && decide (x % 2 = 1)) := by rw [HRV.out, hx]; rfl
            obtain ⟨y, hy⟩ : ∃ y, y = x / 2 := ⟨_, rfl⟩
            obtain ⟨z, hz⟩ : ∃ z, z = decide (x % 2 = 1) := ⟨_, rfl⟩
            have HV := Lib.hid (fun w => rvalue_yes x w HSO.out)
            rw [← hy, ← hz] at HV
            rw [← hy] at hn1
            rw [← hz] at hn2
            have HN1 := Lib.hid hn1
            have HN2 := Lib.hid hn2
            have hti : (t : Int) < (l.length : Int) := by omega
            subst e1
            clear hx hso hn1 hn2 hy hz
            cases rv
            all_goals
              go_wp2_with (go_at_call 55; refine (HV.out _).mono ?_; rintro e w' ⟨rfl, rfl⟩)
              go_roundg (gk - 1)
              case measure => have := HG.out; omega
              case rel => exact ⟨t + 1, by go_num, by rw [HN1.out], by rw [HN2.out]; rfl, rfl, by omega, by have := HG.out.2; omega⟩
          · have e : t = l.length := by have := HG.out.1; omega
            have hti : ¬ (t : Int) < (l.length : Int) := by omega
            have hsum : sumP l = ofB sv rv := by rw [HZ.out, HSV.out, HRV.out, e]
            have HSUM := Lib.hid hsum
            clear hsum e
            go_wp2_with fail
            refine (rbof_any _ _ _).mono ?_
            rw [← HSUM.out]
            obtain ⟨o1, ho1⟩ : ∃ o, o = (sumP l).1 := ⟨_, rfl⟩
            obtain ⟨o2, ho2⟩ : ∃ o, o = (sumP l).2 := ⟨_, rfl⟩
            rw [← ho1, ← ho2]
            have HO1 := Lib.hid ho1
            have HO2 := Lib.hid ho2
            clear ho1 ho2
            rintro e w' ⟨rfl, rfl⟩
            go_wp2
            go_ret2
            exact ⟨by rw [← HO1.out, ← HO2.out]; rfl, rfl⟩

/-- What Not tells. -/
def notP (b : Int) : Int × Int := if someB b then ofB (-(b / 2)) (!decide (b % 2 = 1)) else if rightB b then (0, 4) else (0, 7)
set_option maxRecDepth 100000 in
set_option maxHeartbeats 1000000 in
theorem rnot_yes (b : Int) (w : World) (h : someB b = true) : Calls Try.prog 57 #[.int .i32 b] w fun e w' => e = .returned (.tuple #[.int .i32 (1 - b), .int .i64 0]) ∧ w = w' := by
  obtain ⟨hr, hn⟩ : rightB b = true ∧ b ≠ 2147483647 := by simpa [someB] using h
  have hb := rightB_bd hr hn
  have HR := Lib.hid hr
  have HV := Lib.hid (fun w => rvalue_yes b w h)
  have HO := Lib.hid (fun w => rbof_any (-(b / 2)) (!decide (b % 2 = 1)) w)
  have e : ofB (-(b / 2)) (!decide (b % 2 = 1)) = (1 - b, 0) := by
    unfold ofB
    rw [if_neg (by omega)]
    by_cases e : b % 2 = 1
    · simp [e]; omega
    · simp [e]; omega
  rw [e] at HO
  obtain ⟨q, hq⟩ : ∃ q, q = b / 2 := ⟨_, rfl⟩
  obtain ⟨z, hz⟩ : ∃ z, z = decide (b % 2 = 1) := ⟨_, rfl⟩
  rw [← hq, ← hz] at HV HO
  have hq0 : -268435456 ≤ q := by omega
  have hq1 : q ≤ 268435456 := by omega
  obtain ⟨hb0, hb1⟩ := hb
  clear e hq hz h hr hn
  go_enter Try.func57, Try.ntmps57
  go_wp2_with (first | (go_at_call 48; refine (rright_yes b _ HR.out (by omega) (by omega)).mono ?_; rintro e w' ⟨rfl, rfl⟩) | (go_at_call 55; refine (HV.out _).mono ?_; rintro e w' ⟨rfl, rfl⟩) | (go_at_call 66; refine (HO.out _).mono ?_; rintro e w' ⟨rfl, rfl⟩))
  go_ret2
  exact ⟨rfl, rfl⟩

end Go.Proofs.Ytgpmfnahjepjjaa
