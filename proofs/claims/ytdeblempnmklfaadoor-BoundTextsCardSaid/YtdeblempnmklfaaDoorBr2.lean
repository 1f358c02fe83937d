/- The document's Parse. -/
import Derived.Test.YtdeblempnmklfaaDoorBr1
namespace Go.Proofs.YtdeblempnmklfaaDoor
open Go Go.RowKit
set_option linter.unusedVariables false
set_option linter.unusedSimpArgs false

theorem numP_itoa (n : Int) (h0 : -268435456 ≤ n) (h1 : n ≤ 268435456) : numP (Lib.itoa n) = (n, true) := by
  have hs := itoa_short n h0 h1
  unfold Lib.itoa at hs ⊢
  by_cases h : n < 0
  · rw [if_pos h] at hs ⊢
    show numD true (Lib.decDigits n.natAbs) = _
    have hl : (Lib.decDigits n.natAbs).length ≠ 0 := fun e => digits_some _ (List.length_eq_zero_iff.1 e)
    rw [List.length_cons] at hs
    unfold numD
    rw [if_neg (by omega), decFrom_digits]
    simp
    omega
  · rw [if_neg h] at hs ⊢
    obtain ⟨d, r, hd, e⟩ := digits_head n.toNat
    have hne : UInt8.ofNat (48 + d) ≠ 45 := head_ne d 45 hd (by omega)
    have e2 : numP (Lib.decDigits n.toNat) = numD false (Lib.decDigits n.toNat) := by
      rw [e]
      show (if UInt8.ofNat (48 + d) = 45 then _ else _) = _
      rw [if_neg hne]
    have hl : (Lib.decDigits n.toNat).length ≠ 0 := fun e => digits_some _ (List.length_eq_zero_iff.1 e)
    rw [e2]
    unfold numD
    rw [if_neg (by omega), decFrom_digits]
    simp
    omega
theorem shapeA {b : Int} {c : UInt8} {m : List UInt8} (h : someB b = true) (e : printL b = c :: 61 :: m) : m = Lib.itoa (b / 2) ∧ b % 2 = 1 := by
  rw [printL_some h] at e
  by_cases x : b % 2 = 1
  · rw [if_pos x] at e
    simp at e
    exact ⟨e.2.symm, x⟩
  · rw [if_neg x] at e
    obtain ⟨d, r, e1, n1, _⟩ := itoa_head (b / 2)
    rw [e1] at e
    simp at e
    exact absurd e.2.1 n1
theorem shapeB {b : Int} {c : UInt8} {m : List UInt8} (h : someB b = true) (e : printL b = c :: m) (hm : m.head? ≠ some 61) : m = Lib.itoa (b / 2) ∧ ¬ b % 2 = 1 := by
  rw [printL_some h] at e
  by_cases x : b % 2 = 1
  · rw [if_pos x] at e
    simp at e
    rw [← e.2] at hm
    exact absurd rfl hm
  · rw [if_neg x] at e
    simp at e
    exact ⟨e.2.symm, x⟩
theorem shapeE {b : Int} (h : someB b = true) : printL b ≠ [] := by
  rw [printL_some h]
  split <;> simp
theorem extract_to (l m : List UInt8) (k : Nat) (h : l.drop k = m) (n : Nat) (hn : n = l.length) : (⟨l.toArray⟩ : ByteArray).extract k n = ⟨m.toArray⟩ := by
  subst hn h
  have h : ((⟨l.toArray⟩ : ByteArray).extract k l.length).data = (l.drop k).toArray := by
    rw [ByteArray.data_extract]
    apply Array.toList_inj.1
    simp
    exact List.take_of_length_le (by simp)
  cases hx : (⟨l.toArray⟩ : ByteArray).extract k l.length with
  | mk d => rw [hx] at h; exact congrArg ByteArray.mk h

set_option maxRecDepth 100000 in
set_option maxHeartbeats 2000000 in
theorem rparse_A (c : UInt8) (m : List UInt8) (hl : m.length < 140737488351233) (w : World) (ht : Tab w) (hi : ¬ c :: 61 :: m = [105, 110, 102]) :
    Calls Tryd.prog 29 #[.string ⟨(c :: 61 :: m).toArray⟩] w (Parses w (c :: 61 :: m)) := by
  have HI := Lib.hid hi
  have t0 : ((c :: 61 :: m) == [105, 110, 102]) = false := beq_eq_false_iff_ne.2 hi
  have HN := Lib.hid (fun w => rnumber_any m w (by omega))
  obtain ⟨q, hq⟩ : ∃ q, q = numP m := ⟨_, rfl⟩
  have HO := Lib.hid (fun w => rbof_any (numP m).1 true w)
  rw [← hq] at HN HO
  have HQ0 := Lib.hid hq
  clear hq
  obtain ⟨v, ok⟩ := q
  obtain ⟨r, hr⟩ : ∃ r, r = ofB v true := ⟨_, rfl⟩
  have HR := Lib.hid hr
  simp only at HO
  rw [← hr] at HO
  clear hr
  obtain ⟨x, e0⟩ := r
  have hno : ∀ b, someB b = true → printL b = (c :: 61 :: m) → ok = true ∧ x = b ∧ e0 = 0 := fun b hb e => by
    obtain ⟨k1, k2⟩ := shapeA hb e
    have hd := some_parts hb
    have hbd := rightB_bd hd.1 hd.2
    have e1 := HQ0.out
    rw [k1, numP_itoa _ (by omega) (by omega)] at e1
    simp only [Prod.mk.injEq] at e1
    have e3 := HR.out
    have e4 := made_back hb
    rw [decide_eq_true k2] at e4
    rw [e1.1, e4] at e3
    simp only [Prod.mk.injEq] at e3
    exact ⟨e1.2, e3.1, e3.2⟩
  have HNO := Lib.hid hno
  have HT := Lib.hid ht
  clear hno ht hi
  have hf : ∀ h, ((⟨(c :: 61 :: m).toArray⟩ : ByteArray)[1]'h).toNat = 61 := fun h => rfl
  have hex := extract_to (c :: 61 :: m) m 2 rfl (m.length + 1 + 1) rfl
  have t2 : 1 < (m.length : Int) + 1 + 1 := by omega
  have t3 : ¬ ((m.length : Int) + 1 + 1 < 2) := by omega
  go_enter Tryd.func29, Tryd.ntmps29
  go_wp2_with fail
  refine (HN.out _).mono ?_
  rintro e w1 ⟨rfl, rfl⟩
  go_wp2_with fail
  refine (HO.out _).mono ?_
  rintro e w1 ⟨rfl, rfl⟩
  cases ok with
  | false =>
    go_wp2
    go_ret2
    exact ⟨Below.refl _ _, (0, 7), wrong_no HI.out (fun b hb e => by have := (HNO.out b hb e).1; cases this), rfl⟩
  | true =>
    by_cases h0 : e0 = 0
    · subst h0
      have hok := ofB_ok (v := v) (r := true) (by rw [← HR.out])
      have hs := made_some (v := v) (r := true) (by rw [← HR.out])
      rw [← HR.out] at hs hok
      have hbd := rightB_bd hok.2.2.2.2.1 hok.2.2.2.2.2
      have HS := Lib.hid (show someB x = true from hs)
      have HP := Lib.hid (fun w ht => rprint_any x w (by have := hbd.1; simp only at this; omega) (by have := hbd.2; simp only at this; omega) ht)
      clear hs hok hbd
      go_wp2_with fail
      refine (HP.out _ HT.out).mono ?_
      rw [printB_L]
      rintro e w4 ⟨rfl, hb⟩
      have HB4 := Lib.hid hb
      clear hb
      by_cases hp : printL x = (c :: 61 :: m)
      · have t1 : (printL x == (c :: 61 :: m)) = true := by simp [hp]
        have HQ := Lib.hid hp
        clear hp
        go_wp2
        go_ret2
        exact ⟨HB4.out, (x, 0), .inr (.inl ⟨x, HS.out, HQ.out, rfl⟩), rfl⟩
      · have t1 : (printL x == (c :: 61 :: m)) = false := by simp [hp]
        have HQ := Lib.hid hp
        clear hp
        go_wp2
        go_ret2
        exact ⟨HB4.out, (0, 7), wrong_no HI.out (fun b hb e => by have := (HNO.out b hb e).2.1; exact HQ.out (this ▸ e)), rfl⟩
    · have t1 : (e0 != 0) = true := by simp [h0]
      have H0 := Lib.hid h0
      clear h0
      go_wp2
      go_ret2
      exact ⟨Below.refl _ _, (0, 7), wrong_no HI.out (fun b hb e => H0.out (HNO.out b hb e).2.2), rfl⟩

set_option maxRecDepth 100000 in
set_option maxHeartbeats 2000000 in
theorem rparse_B (c : UInt8) (m : List UInt8) (hl : m.length < 140737488351233) (w : World) (ht : Tab w) (hi : ¬ c :: m = [105, 110, 102]) (hm : m.head? ≠ some 61) (hz : ¬ m.length = 0) :
    Calls Tryd.prog 29 #[.string ⟨(c :: m).toArray⟩] w (Parses w (c :: m)) := by
  have HI := Lib.hid hi
  have t0 : ((c :: m) == [105, 110, 102]) = false := beq_eq_false_iff_ne.2 hi
  have HN := Lib.hid (fun w => rnumber_any m w (by omega))
  obtain ⟨q, hq⟩ : ∃ q, q = numP m := ⟨_, rfl⟩
  have HO := Lib.hid (fun w => rbof_any (numP m).1 false w)
  rw [← hq] at HN HO
  have HQ0 := Lib.hid hq
  clear hq
  obtain ⟨v, ok⟩ := q
  obtain ⟨r, hr⟩ : ∃ r, r = ofB v false := ⟨_, rfl⟩
  have HR := Lib.hid hr
  simp only at HO
  rw [← hr] at HO
  clear hr
  obtain ⟨x, e0⟩ := r
  have hno : ∀ b, someB b = true → printL b = (c :: m) → ok = true ∧ x = b ∧ e0 = 0 := fun b hb e => by
    obtain ⟨k1, k2⟩ := shapeB hb e hm
    have hd := some_parts hb
    have hbd := rightB_bd hd.1 hd.2
    have e1 := HQ0.out
    rw [k1, numP_itoa _ (by omega) (by omega)] at e1
    simp only [Prod.mk.injEq] at e1
    have e3 := HR.out
    have e4 := made_back hb
    rw [decide_eq_false k2] at e4
    rw [e1.1, e4] at e3
    simp only [Prod.mk.injEq] at e3
    exact ⟨e1.2, e3.1, e3.2⟩
  have HNO := Lib.hid hno
  have HT := Lib.hid ht
  clear hno ht hi
  have hex := extract_to (c :: m) m 1 rfl (m.length + 1) rfl
  have t3 : ¬ ((m.length : Int) + 1 < 1) := by omega
  have t2 : 1 < (m.length : Int) + 1 := by omega
  have hf : ∀ h, ((((⟨(c :: m).toArray⟩ : ByteArray)[1]'h).toNat : Int) == 61) = false := fun h => by
    cases m with
    | nil => exact absurd rfl hz
    | cons d r =>
      have hne : d ≠ 61 := fun e => hm (by rw [e]; rfl)
      have e : ((⟨(c :: d :: r).toArray⟩ : ByteArray)[1]'h).toNat = d.toNat := rfl
      rw [e]
      refine beq_eq_false_iff_ne.2 fun e => hne (UInt8.toNat_inj.1 ?_)
      have : (61 : UInt8).toNat = 61 := rfl
      omega
  clear hm
  go_enter Tryd.func29, Tryd.ntmps29
  go_wp2_with fail
  refine (HN.out _).mono ?_
  rintro e w1 ⟨rfl, rfl⟩
  go_wp2_with fail
  refine (HO.out _).mono ?_
  rintro e w1 ⟨rfl, rfl⟩
  cases ok with
  | false =>
    go_wp2
    go_ret2
    exact ⟨Below.refl _ _, (0, 7), wrong_no HI.out (fun b hb e => by have := (HNO.out b hb e).1; cases this), rfl⟩
  | true =>
    by_cases h0 : e0 = 0
    · subst h0
      have hok := ofB_ok (v := v) (r := false) (by rw [← HR.out])
      have hs := made_some (v := v) (r := false) (by rw [← HR.out])
      rw [← HR.out] at hs hok
      have hbd := rightB_bd hok.2.2.2.2.1 hok.2.2.2.2.2
      have HS := Lib.hid (show someB x = true from hs)
      have HP := Lib.hid (fun w ht => rprint_any x w (by have := hbd.1; simp only at this; omega) (by have := hbd.2; simp only at this; omega) ht)
      clear hs hok hbd
      go_wp2_with fail
      refine (HP.out _ HT.out).mono ?_
      rw [printB_L]
      rintro e w4 ⟨rfl, hb⟩
      have HB4 := Lib.hid hb
      clear hb
      by_cases hp : printL x = (c :: m)
      · have t1 : (printL x == (c :: m)) = true := by simp [hp]
        have HQ := Lib.hid hp
        clear hp
        go_wp2
        go_ret2
        exact ⟨HB4.out, (x, 0), .inr (.inl ⟨x, HS.out, HQ.out, rfl⟩), rfl⟩
      · have t1 : (printL x == (c :: m)) = false := by simp [hp]
        have HQ := Lib.hid hp
        clear hp
        go_wp2
        go_ret2
        exact ⟨HB4.out, (0, 7), wrong_no HI.out (fun b hb e => by have := (HNO.out b hb e).2.1; exact HQ.out (this ▸ e)), rfl⟩
    · have t1 : (e0 != 0) = true := by simp [h0]
      have H0 := Lib.hid h0
      clear h0
      go_wp2
      go_ret2
      exact ⟨Below.refl _ _, (0, 7), wrong_no HI.out (fun b hb e => H0.out (HNO.out b hb e).2.2), rfl⟩

set_option maxRecDepth 100000 in
set_option maxHeartbeats 2000000 in
theorem rparse_one (c : UInt8) (w : World) : Calls Tryd.prog 29 #[.string ⟨[c].toArray⟩] w (Parses w [c]) := by
  have hi : ¬ [c] = [105, 110, 102] := by simp
  have HI := Lib.hid hi
  have hno : ∀ b, someB b = true → printL b ≠ [c] := fun b hb e => by
    have h := (shapeB hb e (by simp)).1
    obtain ⟨d, r, e1, _, _⟩ := itoa_head (b / 2)
    rw [e1] at h; cases h
  have HNO := Lib.hid hno
  have HN := Lib.hid (fun w => rnumber_any [] w (by simp))
  rw [show numP [] = (0, false) from rfl] at HN
  have HO := Lib.hid (fun w => rbof_any 0 false w)
  rw [show ofB 0 false = (0, 0) by decide +kernel] at HO
  have hex : (⟨#[c]⟩ : ByteArray).extract 1 1 = ⟨#[]⟩ := by
    have h : ((⟨#[c]⟩ : ByteArray).extract 1 1).data = #[] := by simp
    cases hx : (⟨#[c]⟩ : ByteArray).extract 1 1 with
    | mk d => rw [hx] at h; exact congrArg ByteArray.mk h
  have t0 : ([c] == [105, 110, 102]) = false := by simp
  clear hno hi
  go_enter Tryd.func29, Tryd.ntmps29
  go_wp2_with fail
  refine (HN.out _).mono ?_
  rintro e w1 ⟨rfl, rfl⟩
  go_wp2_with fail
  refine (HO.out _).mono ?_
  rintro e w1 ⟨rfl, rfl⟩
  go_wp2
  go_ret2
  exact ⟨Below.refl _ _, (0, 7), wrong_no HI.out HNO.out, rfl⟩

theorem rparse_any (s : List UInt8) (hl : s.length ≤ 140737488351232) (w : World) (ht : Tab w) : Calls Tryd.prog 29 #[.string ⟨s.toArray⟩] w (Parses w s) := by
  by_cases hi : s = [105, 110, 102]
  · subst hi
    clear ht
    go_enter Tryd.func29, Tryd.ntmps29
    go_wp2
    go_ret2
    exact ⟨Below.refl _ _, (2147483647, 0), .inl ⟨rfl, rfl⟩, rfl⟩
  · cases s with
    | nil =>
      clear ht
      go_enter Tryd.func29, Tryd.ntmps29
      go_wp2
      go_ret2
      exact ⟨Below.refl _ _, (0, 7), wrong_no hi (fun b hb => shapeE hb), rfl⟩
    | cons c m =>
      rw [List.length_cons] at hl
      cases m with
      | nil => exact rparse_one c w
      | cons d r =>
        by_cases hd : d = 61
        · subst hd
          rw [List.length_cons] at hl
          exact rparse_A c r (by omega) w ht hi
        · exact rparse_B c (d :: r) (by omega) w ht hi (by simpa using hd) (by simp)

end Go.Proofs.YtdeblempnmklfaaDoor
