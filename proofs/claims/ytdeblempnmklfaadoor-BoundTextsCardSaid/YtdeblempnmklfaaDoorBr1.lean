/- The document's Print, Number and Parse. -/
import Derived.Test.YtdeblempnmklfaaDoorBq
import Derived.Test.YtdeblempnmklfaaDoorR1
namespace Go.Proofs.YtdeblempnmklfaaDoor
open Go Go.RowKit
set_option linter.unusedVariables false
set_option linter.unusedSimpArgs false

set_option maxRecDepth 100000 in
set_option maxHeartbeats 1000000 in
theorem rprint_any (b : Int) (w : World) (h0 : -2147483648 ≤ b) (h1 : b ≤ 2147483647) (ht : Tab w) : Calls Tryd.prog 30 #[.int .i32 b] w (Says w (printB b)) := by
  have HR := Lib.hid (fun w => rright_any b w h0 h1)
  by_cases hn : b = 2147483647
  · subst hn
    have HV := Lib.hid (fun w => rvalue_no 2147483647 w (by decide) (by decide) (by decide))
    rw [inf_right] at HR
    rw [show printB 2147483647 = ⟨#[105, 110, 102]⟩ from rfl]
    clear ht
    go_enter Tryd.func30, Tryd.ntmps30
    go_wp2_with fail
    refine (HV.out _).mono ?_
    rintro e w' ⟨rfl, rfl⟩
    go_wp2_with fail
    refine (HR.out _).mono ?_
    rintro e w' ⟨rfl, rfl⟩
    go_wp2
    go_ret
    exact ⟨rfl, Below.refl _ _⟩
  · by_cases h : someB b = true
    · have HV := Lib.hid (fun w => rvalue_yes b w h)
      rw [(some_parts h).1] at HR
      have hb : -268435456 ≤ b / 2 ∧ b / 2 ≤ 268435456 := by
        have := rightB_bd (some_parts h).1 hn
        omega
      have HT := Lib.hid ht
      by_cases hz : b % 2 = 1
      · have e : printB b = ⟨#[60, 61]⟩ ++ ⟨(Lib.itoa (b / 2)).toArray⟩ := by unfold printB; rw [if_neg hn, if_pos h, if_pos hz]
        rw [decide_eq_true hz] at HV
        rw [e]
        obtain ⟨q, hq⟩ : ∃ q, q = b / 2 := ⟨_, rfl⟩
        rw [← hq] at hb HV ⊢
        have HQ := Lib.hid hb
        clear e h hz hq hb ht h0 h1
        go_enter Tryd.func30, Tryd.ntmps30
        go_wp2_with fail
        refine (HV.out _).mono ?_
        rintro e w' ⟨rfl, rfl⟩
        go_wp2_with fail
        refine (HR.out _).mono ?_
        rintro e w' ⟨rfl, rfl⟩
        go_wp2_with fail
        refine (itoa_any q (by have := HQ.out; omega) (by have := HQ.out; omega) _ HT.out).mono ?_
        rintro e w' ⟨rfl, hb⟩
        have HB := Lib.hid hb
        clear hb
        have hl := Lib.itoa_length_le q (by have := HQ.out; omega) (by have := HQ.out; omega)
        have hl2 : ¬ (9223372036854775807 < 2 + (Lib.itoa q).length) := by omega
        go_wp2
        go_ret
        exact ⟨rfl, HB.out⟩
      · have e : printB b = ⟨#[60]⟩ ++ ⟨(Lib.itoa (b / 2)).toArray⟩ := by unfold printB; rw [if_neg hn, if_pos h, if_neg hz]
        rw [decide_eq_false hz] at HV
        rw [e]
        obtain ⟨q, hq⟩ : ∃ q, q = b / 2 := ⟨_, rfl⟩
        rw [← hq] at hb HV ⊢
        have HQ := Lib.hid hb
        clear e h hz hq hb ht h0 h1
        go_enter Tryd.func30, Tryd.ntmps30
        go_wp2_with fail
        refine (HV.out _).mono ?_
        rintro e w' ⟨rfl, rfl⟩
        go_wp2_with fail
        refine (HR.out _).mono ?_
        rintro e w' ⟨rfl, rfl⟩
        go_wp2_with fail
        refine (itoa_any q (by have := HQ.out; omega) (by have := HQ.out; omega) _ HT.out).mono ?_
        rintro e w' ⟨rfl, hb⟩
        have HB := Lib.hid hb
        clear hb
        have hl := Lib.itoa_length_le q (by have := HQ.out; omega) (by have := HQ.out; omega)
        have hl1 : ¬ (9223372036854775807 < 1 + (Lib.itoa q).length) := by omega
        go_wp2
        go_ret
        exact ⟨rfl, HB.out⟩
    · have h : someB b = false := by simpa using h
      have HV := Lib.hid (fun w => rvalue_no b w h h0 h1)
      have hr : rightB b = false := by simpa [someB, hn] using h
      rw [hr] at HR
      have e : printB b = ⟨#[]⟩ := by unfold printB; rw [if_neg hn, if_neg (by simp [h])]
      rw [e]
      clear e h hn ht hr h0 h1
      go_enter Tryd.func30, Tryd.ntmps30
      go_wp2_with fail
      refine (HV.out _).mono ?_
      rintro e w' ⟨rfl, rfl⟩
      go_wp2_with fail
      refine (HR.out _).mono ?_
      rintro e w' ⟨rfl, rfl⟩
      go_wp2
      go_ret
      exact ⟨rfl, Below.refl _ _⟩

/-- What Number reads of the digits m, with or without a sign ahead. -/
def numD (neg : Bool) (m : List UInt8) : Int × Bool :=
  if m.length = 0 ∨ 18 < m.length then (0, false) else match Lib.decFrom 0 m with | some n => (if neg then -(n : Int) else n, true) | none => (0, false)
def numP : List UInt8 → Int × Bool
  | [] => numD false []
  | c :: r => if c = 45 then numD true r else numD false (c :: r)

/-- How Number ends. -/
def NumEnds (w : World) (r : Int × Bool) (e : Ending) (w' : World) : Prop := e = .returned (.tuple #[.int .i64 r.1, .bool r.2]) ∧ w = w'

set_option maxRecDepth 100000 in
set_option maxHeartbeats 1000000 in
theorem number_neg (m : List UInt8) (w : World) (hl : m.length < 140737488351232) : Calls Tryd.prog 42 #[.string ⟨(45 :: m).toArray⟩] w (NumEnds w (numD true m)) := by
  have hf : ∀ h, ((⟨(45 :: m).toArray⟩ : ByteArray)[0]'h).toNat = 45 := fun h => rfl
  have hex : (⟨(45 :: m).toArray⟩ : ByteArray).extract 1 (m.length + 1) = ⟨m.toArray⟩ := by
    have h : ((⟨(45 :: m).toArray⟩ : ByteArray).extract 1 (m.length + 1)).data = m.toArray := by simp
    cases hx : (⟨(45 :: m).toArray⟩ : ByteArray).extract 1 (m.length + 1) with
    | mk d => rw [hx] at h; exact congrArg ByteArray.mk h
  by_cases hb : m.length = 0 ∨ 18 < m.length
  · rw [show numD true m = (0, false) by unfold numD; rw [if_pos hb]]
    rcases hb with hb | hb
    · have e0 : ((m.length : Int) == 0) = true := by simp [hb]
      go_enter Tryd.func42, Tryd.ntmps42
      go_wp2
      go_ret2
      exact ⟨rfl, rfl⟩
    · have e0 : ((m.length : Int) == 0) = false := beq_eq_false_iff_ne.2 (by omega)
      have e1 : 18 < (m.length : Int) := by omega
      go_enter Tryd.func42, Tryd.ntmps42
      go_wp2
      go_ret2
      exact ⟨rfl, rfl⟩
  · have e0 : ((m.length : Int) == 0) = false := beq_eq_false_iff_ne.2 (by omega)
    have e1 : ¬ (18 < (m.length : Int)) := by omega
    go_enter Tryd.func42, Tryd.ntmps42
    go_wp2
    go_loopg [5, 6] m.length (fun g n v wr => ∃ p a : Nat, v = .int .i64 p ∧ n = .int .i64 a ∧ w = wr ∧ Hid (p ≤ m.length ∧ g + p = m.length ∧ Lib.decFrom 0 (m.take p) = some a))
    case atStart => exact ⟨0, 0, by simp, by simp, rfl, by omega, by omega, by simp [Lib.decFrom]⟩
    case round =>
      obtain ⟨p, a, rfl, rfl, rfl, HG⟩ := hrel
      by_cases hp : p < m.length
      · have hpi : (p : Int) < (m.length : Int) := by omega
        obtain ⟨k, hk⟩ : ∃ k, k = (m[p]'hp).toNat := ⟨_, rfl⟩
        have hx : ∀ h, ((⟨m.toArray⟩ : ByteArray)[p]'h).toNat = k := fun h => by rw [hk]; rfl
        have HK := Lib.hid hk
        by_cases hd : 48 ≤ k ∧ k ≤ 57
        · have c1 : ¬ ((k : Int) < 48) := by omega
          have c2 : ¬ (57 < (k : Int)) := by omega
          have ha : a < 100000000000000000 := by
            have h1 := Lib.decFrom_lt _ _ _ HG.out.2.2
            rw [List.length_take, Nat.min_eq_left (by omega)] at h1
            have h2 : 10 ^ p ≤ 10 ^ 17 := Nat.pow_le_pow_right (by omega) (by omega)
            omega
          have g1 : IntKind.i64.wrap ((a : Int) * 10) = (a : Int) * 10 := IntWalk.i64_in _ (by omega)
          have g2 : IntKind.i64.wrap ((a : Int) * 10 + k) = (a : Int) * 10 + k := IntWalk.i64_in _ (by omega)
          have g3 : IntKind.i64.wrap ((a : Int) * 10 + k - 48) = ((a * 10 + (k - 48) : Nat) : Int) := by rw [IntWalk.i64_in _ (by omega)]; omega
          clear hk
          go_wp2
          go_roundg (gk - 1)
          case measure => have h := HG.out; omega
          case rel =>
            refine ⟨p + 1, a * 10 + (k - 48), by go_num, rfl, rfl, by omega, by have h := HG.out.2.1; omega, ?_⟩
            refine Lib.decFrom_take m p 0 a (m[p]'hp) (k - 48) HG.out.2.2 (List.getElem?_eq_getElem hp) ?_
            unfold Lib.digitVal
            rw [← HK.out, if_pos hd]
        · have hno : numD true m = (0, false) := by
            unfold numD
            rw [if_neg (by omega)]
            cases e : Lib.decFrom 0 m with
            | none => rfl
            | some n =>
              obtain ⟨d, h⟩ := Lib.digit_of_decFrom m 0 n e p _ (List.getElem?_eq_getElem hp)
              unfold Lib.digitVal at h
              rw [← hk, if_neg hd] at h
              cases h
          rw [hno]
          clear hk hno
          by_cases c1 : (k : Int) < 48
          · go_wp2
            go_ret2
            exact ⟨rfl, rfl⟩
          · have c2 : 57 < (k : Int) := by omega
            go_wp2
            go_ret2
            exact ⟨rfl, rfl⟩
      · have e : p = m.length := by have := HG.out.1; omega
        subst e
        have hd := HG.out.2.2
        rw [List.take_length] at hd
        have ha : a < 1000000000000000000 := by
          have h1 := Lib.decFrom_lt _ _ _ hd
          have h2 : 10 ^ m.length ≤ 10 ^ 18 := Nat.pow_le_pow_right (by omega) (by omega)
          omega
        have g1 : IntKind.i64.wrap (-(a : Int)) = -(a : Int) := IntWalk.i64_in _ (by omega)
        have hD : numD true m = (-(a : Int), true) := by unfold numD; rw [if_neg (by omega), hd]; rfl
        have HD := Lib.hid hD
        clear hd hD
        go_wp2
        go_ret2
        exact ⟨by rw [HD.out]; rfl, rfl⟩

set_option maxRecDepth 100000 in
set_option maxHeartbeats 1000000 in
theorem number_pos (m : List UInt8) (w : World) (hl : m.length < 140737488351233) (hc : m.head? ≠ some 45) : Calls Tryd.prog 42 #[.string ⟨m.toArray⟩] w (NumEnds w (numD false m)) := by
  by_cases hz : m.length = 0
  · have hm : m = [] := List.length_eq_zero_iff.1 hz
    subst hm
    clear hc hz
    go_enter Tryd.func42, Tryd.ntmps42
    go_wp2
    go_ret2
    exact ⟨rfl, rfl⟩
  · have hf : ∀ h, (((⟨m.toArray⟩ : ByteArray)[0]'h).toNat == 45) = false := fun h => by
      cases m with
      | nil => exact absurd rfl hz
      | cons c r =>
        have hne : c ≠ 45 := fun e => hc (by rw [e]; rfl)
        have e : ((⟨(c :: r).toArray⟩ : ByteArray)[0]'h).toNat = c.toNat := rfl
        rw [e]
        exact beq_eq_false_iff_ne.2 fun e => hne (UInt8.toNat_inj.1 e)
    have hf' : ∀ h, ((((⟨m.toArray⟩ : ByteArray)[0]'h).toNat : Int) == 45) = false := fun h => by
      have := hf h
      have h2 := beq_eq_false_iff_ne.1 this
      exact beq_eq_false_iff_ne.2 (by omega)
    clear hf hc
    have hpos : 0 < m.length := by omega
    have hpi : 0 < (m.length : Int) := by omega
    by_cases hb : 18 < m.length
    · rw [show numD false m = (0, false) by unfold numD; rw [if_pos (.inr hb)]]
      have e0 : ((m.length : Int) == 0) = false := beq_eq_false_iff_ne.2 (by omega)
      have e1 : 18 < (m.length : Int) := by omega
      go_enter Tryd.func42, Tryd.ntmps42
      go_wp2
      go_ret2
      exact ⟨rfl, rfl⟩
    · have e0 : ((m.length : Int) == 0) = false := beq_eq_false_iff_ne.2 (by omega)
      have e1 : ¬ (18 < (m.length : Int)) := by omega
      go_enter Tryd.func42, Tryd.ntmps42
      go_wp2
      go_loopg [5, 6] m.length (fun g n v wr => ∃ p a : Nat, v = .int .i64 p ∧ n = .int .i64 a ∧ w = wr ∧ Hid (p ≤ m.length ∧ g + p = m.length ∧ Lib.decFrom 0 (m.take p) = some a))
      case atStart => exact ⟨0, 0, by simp, by simp, rfl, by omega, by omega, by simp [Lib.decFrom]⟩
      case round =>
        obtain ⟨p, a, rfl, rfl, rfl, HG⟩ := hrel
        by_cases hp : p < m.length
        · have hpi : (p : Int) < (m.length : Int) := by omega
          obtain ⟨k, hk⟩ : ∃ k, k = (m[p]'hp).toNat := ⟨_, rfl⟩
          have hx : ∀ h, ((⟨m.toArray⟩ : ByteArray)[p]'h).toNat = k := fun h => by rw [hk]; rfl
          have HK := Lib.hid hk
          by_cases hd : 48 ≤ k ∧ k ≤ 57
          · have c1 : ¬ ((k : Int) < 48) := by omega
            have c2 : ¬ (57 < (k : Int)) := by omega
            have ha : a < 100000000000000000 := by
              have h1 := Lib.decFrom_lt _ _ _ HG.out.2.2
              rw [List.length_take, Nat.min_eq_left (by omega)] at h1
              have h2 : 10 ^ p ≤ 10 ^ 17 := Nat.pow_le_pow_right (by omega) (by omega)
              omega
            have g1 : IntKind.i64.wrap ((a : Int) * 10) = (a : Int) * 10 := IntWalk.i64_in _ (by omega)
            have g2 : IntKind.i64.wrap ((a : Int) * 10 + k) = (a : Int) * 10 + k := IntWalk.i64_in _ (by omega)
            have g3 : IntKind.i64.wrap ((a : Int) * 10 + k - 48) = ((a * 10 + (k - 48) : Nat) : Int) := by rw [IntWalk.i64_in _ (by omega)]; omega
            clear hk
            go_wp2
            go_roundg (gk - 1)
            case measure => have h := HG.out; omega
            case rel =>
              refine ⟨p + 1, a * 10 + (k - 48), by go_num, rfl, rfl, by omega, by have h := HG.out.2.1; omega, ?_⟩
              refine Lib.decFrom_take m p 0 a (m[p]'hp) (k - 48) HG.out.2.2 (List.getElem?_eq_getElem hp) ?_
              unfold Lib.digitVal
              rw [← HK.out, if_pos hd]
          · have hno : numD false m = (0, false) := by
              unfold numD
              rw [if_neg (by omega)]
              cases e : Lib.decFrom 0 m with
              | none => rfl
              | some n =>
                obtain ⟨d, h⟩ := Lib.digit_of_decFrom m 0 n e p _ (List.getElem?_eq_getElem hp)
                unfold Lib.digitVal at h
                rw [← hk, if_neg hd] at h
                cases h
            rw [hno]
            clear hk hno
            by_cases c1 : (k : Int) < 48
            · go_wp2
              go_ret2
              exact ⟨rfl, rfl⟩
            · have c2 : 57 < (k : Int) := by omega
              go_wp2
              go_ret2
              exact ⟨rfl, rfl⟩
        · have e : p = m.length := by have := HG.out.1; omega
          subst e
          have hd := HG.out.2.2
          rw [List.take_length] at hd
          have ha : a < 1000000000000000000 := by
            have h1 := Lib.decFrom_lt _ _ _ hd
            have h2 : 10 ^ m.length ≤ 10 ^ 18 := Nat.pow_le_pow_right (by omega) (by omega)
            omega
          have g1 : IntKind.i64.wrap (-(a : Int)) = -(a : Int) := IntWalk.i64_in _ (by omega)
          have hD : numD false m = ((a : Int), true) := by unfold numD; rw [if_neg (by omega), hd]; rfl
          have HD := Lib.hid hD
          clear hd hD
          go_wp2
          go_ret2
          exact ⟨by rw [HD.out]; rfl, rfl⟩

theorem rnumber_any (l : List UInt8) (w : World) (hl : l.length < 140737488351233) : Calls Tryd.prog 42 #[.string ⟨l.toArray⟩] w (NumEnds w (numP l)) := by
  cases l with
  | nil => exact number_pos [] w hl (by simp)
  | cons c r =>
    by_cases h : c = 45
    · subst h
      rw [show numP (45 :: r) = numD true r from rfl]
      exact number_neg r w (by simp at hl; omega)
    · rw [show numP (c :: r) = numD false (c :: r) by show (if c = 45 then numD true r else numD false (c :: r)) = _; rw [if_neg h]]
      exact number_pos (c :: r) w hl (by simpa using h)

end Go.Proofs.YtdeblempnmklfaaDoor
