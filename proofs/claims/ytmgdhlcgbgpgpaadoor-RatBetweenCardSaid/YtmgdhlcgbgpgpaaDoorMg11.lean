/- Texts of ours, laid together: Ys, Yt, Yu, Yv, Ve, Yw. -/
import Derived.Deep.OwnRows
import Derived.StillTailTactics
import Derived.Test.YtmgdhlcgbgpgpaaDoorMg10
/- What the document reads as a number. -/
namespace Go.Proofs.YtmgdhlcgbgpgpaaDoor
open Go Go.RowKit
set_option linter.unusedVariables false
set_option linter.unusedSimpArgs false

def decU (n : Nat) : List UInt8 → Option Nat
  | [] => some n
  | c :: r => if c.toNat < 48 ∨ 57 < c.toNat ∨ 922337203685477580 < n then none else decU (n * 10 + (c.toNat - 48)) r
def negF (n : Nat) : Option Int := if n ≤ 9223372036854775808 then some (-(n : Int)) else none
def posF (n : Nat) : Option Int := if n < 9223372036854775808 then some (n : Int) else none
def decP : List UInt8 → Option Int
  | [] => none
  | c :: r => if c = 45 then (if r = [] then none else (decU 0 r).bind negF) else (decU 0 (c :: r)).bind posF
theorem decP_minus {s r : List UInt8} {c : UInt8} (e : s = c :: r) (hk : c.toNat = 45) (h1 : s.length ≠ 1) : decP s = (decU 0 (s.drop 1)).bind negF := by
  subst e
  have hc : c = 45 := UInt8.toNat_inj.1 (by rw [hk]; rfl)
  subst hc
  have hr : r ≠ [] := fun e => h1 (by rw [e]; rfl)
  show (if (45 : UInt8) = 45 then (if r = [] then none else (decU 0 r).bind negF) else (decU 0 (45 :: r)).bind posF) = _
  rw [if_pos rfl, if_neg hr]
  rfl
theorem decP_alone {s r : List UInt8} {c : UInt8} (e : s = c :: r) (hk : c.toNat = 45) (h1 : s.length = 1) : decP s = none := by
  subst e
  have hc : c = 45 := UInt8.toNat_inj.1 (by rw [hk]; rfl)
  subst hc
  have hr : r = [] := List.length_eq_zero_iff.1 (by simpa using h1)
  subst hr
  rfl
theorem decP_plain {s r : List UInt8} {c : UInt8} (e : s = c :: r) (hk : c.toNat ≠ 45) : decP s = (decU 0 (s.drop 0)).bind posF := by
  subst e
  have hc : c ≠ 45 := fun e => hk (by rw [e]; rfl)
  show (if c = 45 then (if r = [] then none else (decU 0 r).bind negF) else (decU 0 (c :: r)).bind posF) = _
  rw [if_neg hc]
  rfl

/-! ### of numerals -/
theorem decU_app (l m : List UInt8) : ∀ n, decU n (l ++ m) = (decU n l).bind fun k => decU k m := by
  induction l with
  | nil => intro n; rfl
  | cons c r ih =>
    intro n
    rw [List.cons_append, decU, decU]
    split
    · rfl
    · exact ih _
theorem decU_digits (u : Nat) (h : u ≤ 9223372036854775808) : decU 0 (Lib.decDigits u) = some u := by
  induction u using Nat.strongRecOn with
  | _ u ih =>
    have one : ∀ n k, k < 10 → n ≤ 922337203685477580 → decU n [UInt8.ofNat (48 + k)] = some (n * 10 + k) := fun n k hk hn => by
      have e : (UInt8.ofNat (48 + k)).toNat = 48 + k := by simp; omega
      rw [decU, e, if_neg (by omega), decU]
      congr 1
      omega
    by_cases h1 : u < 10
    · rw [Lib.decDigits, dif_pos h1, one 0 u h1 (by omega)]
      congr 1
      omega
    · rw [Lib.decDigits, dif_neg h1, decU_app, ih (u / 10) (by omega) (by omega)]
      show decU (u / 10) [UInt8.ofNat (48 + u % 10)] = _
      rw [one _ _ (by omega) (by omega)]
      congr 1
      omega
theorem decP_itoa (n : Int) (h : I64 n) : decP (Lib.itoa n) = some n := by
  obtain ⟨h1, h2⟩ := h
  unfold Lib.itoa
  by_cases hn : n < 0
  · rw [if_pos hn, decP_minus rfl rfl (by simp; exact digitsR_some _), List.drop_one, List.tail_cons, decU_digits _ (by omega)]
    show negF n.natAbs = _
    unfold negF
    rw [if_pos (by omega)]
    congr 1
    omega
  · rw [if_neg hn]
    have hd := decU_digits n.toNat (by omega)
    cases hc : Lib.decDigits n.toNat with
    | nil => exact absurd hc (digitsR_some _)
    | cons c r =>
      obtain ⟨d, d1, d2⟩ := digitsR_all n.toNat c (by rw [hc]; exact List.mem_cons_self ..)
      rw [hc] at hd
      rw [decP_plain rfl (by rw [d2]; exact digit_no d 45 d1 (by omega)), List.drop_zero, hd]
      show posF n.toNat = _
      unfold posF
      rw [if_pos (by omega)]
      congr 1
      omega
theorem decP64 {s : List UInt8} {n : Int} (h : decP s = some n) : I64 n := by
  have two : ∀ k, (negF k = some n → I64 n) ∧ (posF k = some n → I64 n) := fun k => by
    unfold negF posF
    refine ⟨fun h => ?_, fun h => ?_⟩
    · split at h
      · obtain rfl := Option.some.inj h
        exact ⟨by omega, by omega⟩
      · cases h
    · split at h
      · obtain rfl := Option.some.inj h
        exact ⟨by omega, by omega⟩
      · cases h
  unfold decP at h
  split at h
  · cases h
  · split at h
    · split at h
      · cases h
      · obtain ⟨k, hk, h⟩ := Option.bind_eq_some_iff.1 h
        exact (two k).1 h
    · obtain ⟨k, hk, h⟩ := Option.bind_eq_some_iff.1 h
      exact (two k).2 h

/-- How Decimal ends. -/
def DecEnds (w : World) (s : List UInt8) (e : Ending) (w' : World) : Prop := w' = w ∧ ∃ v b, e = .returned (.tuple #[.int .i64 v, .bool b]) ∧ ((b = true ∧ decP s = some v) ∨ (b = false ∧ decP s = none))

set_option maxRecDepth 100000 in
set_option maxHeartbeats 4000000 in
theorem decimal_any (s : List UInt8) (hl : s.length ≤ 281474976710656) (w : World) : Calls Tryd.prog 69 #[.string ⟨s.toArray⟩] w (DecEnds w s) := by
  by_cases hs0 : s = []
  · subst hs0
    go_enter Tryd.func69, Tryd.ntmps69
    go_wp2
    go_ret2
    exact ⟨rfl, 0, false, rfl, .inr ⟨rfl, rfl⟩⟩
  · obtain ⟨c, r, hcr⟩ : ∃ c r, s = c :: r := by
      cases s with
      | nil => exact absurd rfl hs0
      | cons c r => exact ⟨c, r, rfl⟩
    have hpos : 0 < s.length := by rw [hcr]; simp
    have hpi : (0 : Int) < (s.length : Int) := by omega
    obtain ⟨k0, hk0⟩ : ∃ k, k = c.toNat := ⟨_, rfl⟩
    have hf : ∀ h, ((⟨s.toArray⟩ : ByteArray)[0]'h).toNat = k0 := fun h => by rw [hk0]; subst hcr; rfl
    have HCR := Lib.hid hcr
    have HK0 := Lib.hid hk0
    have HL := Lib.hid hl
    clear hcr hs0 hk0 hl
    by_cases h45 : k0 = 45
    · have t0 : ((k0 : Int) == 45) = true := by simp [h45]
      subst h45
      by_cases hr1 : s.length = 1
      · have e1 : ((1 : Int) == (s.length : Int)) = true := by simp [hr1]
        have HF := Lib.hid (decP_alone HCR.out HK0.out.symm hr1)
        have HR1 := Lib.hid hr1
        clear hr1
        go_enter Tryd.func69, Tryd.ntmps69
        go_wp2
        go_ret2
        exact ⟨rfl, 0, false, rfl, .inr ⟨rfl, HF.out⟩⟩
      · have HF := Lib.hid (decP_minus HCR.out HK0.out.symm hr1)
        have e1 : ((1 : Int) == (s.length : Int)) = false := beq_eq_false_iff_ne.2 (by omega)
        obtain ⟨X, hX⟩ : ∃ X, X = decU 0 (s.drop 1) := ⟨_, rfl⟩
        have HX := Lib.hid hX
        clear hX
        go_enter Tryd.func69, Tryd.ntmps69
        go_wp2
        go_loopg [6, 7] s.length (fun g n6 v wr => ∃ n i : Nat, n6 = .int .u64 n ∧ v = .int .i64 i ∧ wr = w ∧ Hid (i ≤ s.length ∧ g + i = s.length + 1 ∧ n < 18446744073709551616 ∧ decU n (s.drop i) = X))
        case atStart => exact ⟨0, 1, by simp, by simp, rfl, Lib.hid ⟨by omega, by omega, by omega, HX.out.symm⟩⟩
        case round =>
          obtain ⟨n, i, rfl, rfl, hw, HG⟩ := hrel
          rw [hw]
          clear hw
          by_cases hp : i < s.length
          · have hpi2 : (i : Int) < (s.length : Int) := by omega
            obtain ⟨k, hk⟩ : ∃ k, k = (s[i]'hp).toNat := ⟨_, rfl⟩
            have hx : ∀ h, ((⟨s.toArray⟩ : ByteArray)[i]'h).toNat = k := fun h => by rw [hk]; rfl
            have hdr : s.drop i = s[i]'hp :: s.drop (i + 1) := List.drop_eq_getElem_cons hp
            have HS : Hid (X = if k < 48 ∨ 57 < k ∨ 922337203685477580 < n then none else decU (n * 10 + (k - 48)) (s.drop (i + 1))) := Lib.hid (by rw [← HG.out.2.2.2, hdr, decU, ← hk])
            have hk256 : k < 256 := by rw [hk]; exact UInt8.toNat_lt _
            clear hk hdr
            by_cases hb : k < 48 ∨ 57 < k ∨ 922337203685477580 < n
            · have HE := Lib.hid (HS.out.trans (if_pos hb))
              by_cases b1 : k < 48
              · have c1 : (k : Int) < 48 := by omega
                go_wp2
                go_ret2
                exact ⟨rfl, 0, false, rfl, .inr ⟨rfl, by rw [HF.out, ← HX.out, HE.out]; rfl⟩⟩
              · have c1 : ¬ (k : Int) < 48 := by omega
                by_cases b2 : 57 < k
                · have c2 : 57 < (k : Int) := by omega
                  go_wp2
                  go_ret2
                  exact ⟨rfl, 0, false, rfl, .inr ⟨rfl, by rw [HF.out, ← HX.out, HE.out]; rfl⟩⟩
                · have c2 : ¬ 57 < (k : Int) := by omega
                  have c3 : 922337203685477580 < (n : Int) := by omega
                  go_wp2
                  go_ret2
                  exact ⟨rfl, 0, false, rfl, .inr ⟨rfl, by rw [HF.out, ← HX.out, HE.out]; rfl⟩⟩
            · have HE := Lib.hid (HS.out.trans (if_neg hb))
              have c1 : ¬ (k : Int) < 48 := by omega
              have c2 : ¬ 57 < (k : Int) := by omega
              have c3 : ¬ 922337203685477580 < (n : Int) := by omega
              have w1 : IntKind.u64.wrap ((n : Int) * 10) = (n : Int) * 10 := IntWalk.u64_in _ (by omega)
              have w2 : IntKind.u8.wrap ((k : Int) - 48) = (k : Int) - 48 := by rw [IntKind.wrap_u8]; omega
              have w3 : IntKind.u64.wrap ((k : Int) - 48) = (k : Int) - 48 := IntWalk.u64_in _ (by omega)
              have w4 : IntKind.u64.wrap ((n : Int) * 10 + ((k : Int) - 48)) = ((n * 10 + (k - 48) : Nat) : Int) := by rw [IntWalk.u64_in _ (by omega)]; omega
              have w5 : IntKind.i64.wrap ((i : Int) + 1) = ((i + 1 : Nat) : Int) := by rw [IntWalk.i64_in _ (by have := HL.out; omega)]; omega
              have HB := Lib.hid hb
              clear hb
              go_wp2
              go_roundg (gk - 1)
              case measure => have h := HG.out; omega
              case rel =>
                exact ⟨n * 10 + (k - 48), i + 1, rfl, rfl, rfl, Lib.hid ⟨by omega, by have h := HG.out.2.1; omega, by have h := HB.out; omega, HE.out.symm⟩⟩
          · have e : i = s.length := by have := HG.out.1; omega
            subst e
            have hd := HG.out.2.2.2
            rw [List.drop_length] at hd
            have HD : Hid (decU 0 (s.drop 1) = some n) := Lib.hid (by rw [← HX.out, ← hd]; rfl)
            have hn64 := HG.out.2.2.1
            clear hd
            by_cases hn : n ≤ 9223372036854775808
            · have g1 : IntKind.i64.wrap (IntKind.u64.wrap (-(n : Int))) = -(n : Int) := by rw [IntKind.wrap_u64, IntKind.wrap_i64]; omega
              have g2 : (n : Int) ≤ 9223372036854775808 := by omega
              have g3 : decide ((n : Int) ≤ 9223372036854775808) = true := decide_eq_true g2
              have HN2 := Lib.hid hn
              clear hn
              go_wp2
              go_ret2
              exact ⟨rfl, -(n : Int), true, rfl, .inl ⟨rfl, by rw [HF.out, HD.out]; show negF n = _; unfold negF; rw [if_pos HN2.out]⟩⟩
            · have g2 : ¬ (n : Int) ≤ 9223372036854775808 := by omega
              have g3 : decide ((n : Int) ≤ 9223372036854775808) = false := decide_eq_false g2
              have HN2 := Lib.hid hn
              clear hn
              go_wp2
              go_ret2
              exact ⟨rfl, _, false, rfl, .inr ⟨rfl, by rw [HF.out, HD.out]; show negF n = _; unfold negF; rw [if_neg HN2.out]⟩⟩
    · have t0 : ((k0 : Int) == 45) = false := beq_eq_false_iff_ne.2 (by omega)
      have HF := Lib.hid (decP_plain HCR.out (by rw [← HK0.out]; exact h45))
      clear h45
      have e1 : ((0 : Int) == (s.length : Int)) = false := beq_eq_false_iff_ne.2 (by omega)
      obtain ⟨X, hX⟩ : ∃ X, X = decU 0 (s.drop 0) := ⟨_, rfl⟩
      have HX := Lib.hid hX
      clear hX
      go_enter Tryd.func69, Tryd.ntmps69
      go_wp2
      go_loopg [6, 7] s.length (fun g n6 v wr => ∃ n i : Nat, n6 = .int .u64 n ∧ v = .int .i64 i ∧ wr = w ∧ Hid (i ≤ s.length ∧ g + i = s.length + 0 ∧ n < 18446744073709551616 ∧ decU n (s.drop i) = X))
      case atStart => exact ⟨0, 0, by simp, by simp, rfl, Lib.hid ⟨by omega, by omega, by omega, HX.out.symm⟩⟩
      case round =>
        obtain ⟨n, i, rfl, rfl, hw, HG⟩ := hrel
        rw [hw]
        clear hw
        by_cases hp : i < s.length
        · have hpi2 : (i : Int) < (s.length : Int) := by omega
          obtain ⟨k, hk⟩ : ∃ k, k = (s[i]'hp).toNat := ⟨_, rfl⟩
          have hx : ∀ h, ((⟨s.toArray⟩ : ByteArray)[i]'h).toNat = k := fun h => by rw [hk]; rfl
          have hdr : s.drop i = s[i]'hp :: s.drop (i + 1) := List.drop_eq_getElem_cons hp
          have HS : Hid (X = if k < 48 ∨ 57 < k ∨ 922337203685477580 < n then none else decU (n * 10 + (k - 48)) (s.drop (i + 1))) := Lib.hid (by rw [← HG.out.2.2.2, hdr, decU, ← hk])
          have hk256 : k < 256 := by rw [hk]; exact UInt8.toNat_lt _
          clear hk hdr
          by_cases hb : k < 48 ∨ 57 < k ∨ 922337203685477580 < n
          · have HE := Lib.hid (HS.out.trans (if_pos hb))
            by_cases b1 : k < 48
            · have c1 : (k : Int) < 48 := by omega
              go_wp2
              go_ret2
              exact ⟨rfl, 0, false, rfl, .inr ⟨rfl, by rw [HF.out, ← HX.out, HE.out]; rfl⟩⟩
            · have c1 : ¬ (k : Int) < 48 := by omega
              by_cases b2 : 57 < k
              · have c2 : 57 < (k : Int) := by omega
                go_wp2
                go_ret2
                exact ⟨rfl, 0, false, rfl, .inr ⟨rfl, by rw [HF.out, ← HX.out, HE.out]; rfl⟩⟩
              · have c2 : ¬ 57 < (k : Int) := by omega
                have c3 : 922337203685477580 < (n : Int) := by omega
                go_wp2
                go_ret2
                exact ⟨rfl, 0, false, rfl, .inr ⟨rfl, by rw [HF.out, ← HX.out, HE.out]; rfl⟩⟩
          · have HE := Lib.hid (HS.out.trans (if_neg hb))
            have c1 : ¬ (k : Int) < 48 := by omega
            have c2 : ¬ 57 < (k : Int) := by omega
            have c3 : ¬ 922337203685477580 < (n : Int) := by omega
            have w1 : IntKind.u64.wrap ((n : Int) * 10) = (n : Int) * 10 := IntWalk.u64_in _ (by omega)
            have w2 : IntKind.u8.wrap ((k : Int) - 48) = (k : Int) - 48 := by rw [IntKind.wrap_u8]; omega
            have w3 : IntKind.u64.wrap ((k : Int) - 48) = (k : Int) - 48 := IntWalk.u64_in _ (by omega)
            have w4 : IntKind.u64.wrap ((n : Int) * 10 + ((k : Int) - 48)) = ((n * 10 + (k - 48) : Nat) : Int) := by rw [IntWalk.u64_in _ (by omega)]; omega
            have w5 : IntKind.i64.wrap ((i : Int) + 1) = ((i + 1 : Nat) : Int) := by rw [IntWalk.i64_in _ (by have := HL.out; omega)]; omega
            have HB := Lib.hid hb
            clear hb
            go_wp2
            go_roundg (gk - 1)
            case measure => have h := HG.out; omega
            case rel =>
              exact ⟨n * 10 + (k - 48), i + 1, rfl, rfl, rfl, Lib.hid ⟨by omega, by have h := HG.out.2.1; omega, by have h := HB.out; omega, HE.out.symm⟩⟩
        · have e : i = s.length := by have := HG.out.1; omega
          subst e
          have hd := HG.out.2.2.2
          rw [List.drop_length] at hd
          have HD : Hid (decU 0 (s.drop 0) = some n) := Lib.hid (by rw [← HX.out, ← hd]; rfl)
          have hn64 := HG.out.2.2.1
          clear hd
          by_cases hn : n < 9223372036854775808
          · have g1 : IntKind.i64.wrap (n : Int) = (n : Int) := IntWalk.i64_in _ (by omega)
            have g2 : (n : Int) < 9223372036854775808 := by omega
            have g3 : decide ((n : Int) < 9223372036854775808) = true := decide_eq_true g2
            have HN2 := Lib.hid hn
            clear hn
            go_wp2
            go_ret2
            exact ⟨rfl, (n : Int), true, rfl, .inl ⟨rfl, by rw [HF.out, HD.out]; show posF n = _; unfold posF; rw [if_pos HN2.out]⟩⟩
          · have g2 : ¬ (n : Int) < 9223372036854775808 := by omega
            have g3 : decide ((n : Int) < 9223372036854775808) = false := decide_eq_false g2
            have HN2 := Lib.hid hn
            clear hn
            go_wp2
            go_ret2
            exact ⟨rfl, _, false, rfl, .inr ⟨rfl, by rw [HF.out, HD.out]; show posF n = _; unfold posF; rw [if_neg HN2.out]⟩⟩

end Go.Proofs.YtmgdhlcgbgpgpaaDoor

/- A fraction as a text, and what a text tells of, as the document has them. -/
namespace Go.Proofs.YtmgdhlcgbgpgpaaDoor
open Go Go.RowKit
set_option linter.unusedVariables false
set_option linter.unusedSimpArgs false

theorem parse_ok {s : List UInt8} (h : (parseR s).2 = 0) : ∃ r, rightR r = true ∧ I64 r.1 ∧ I64 r.2 ∧ printR r = s ∧ parseR s = (r, 0) := by
  rcases parse_ends s with ⟨_, hp⟩ | he
  · refine ⟨(parseR s).1, ?_, (parse64 s).1, (parse64 s).2, hp, Prod.ext rfl h⟩
    cases hr : rightR (parseR s).1 with
    | true => rfl
    | false =>
      exfalso
      have e : printR (parseR s).1 = [] := by unfold printR; rw [if_neg (by rw [hr]; decide)]
      rw [e] at hp
      rw [← hp] at h
      exact absurd h (by decide)
  · rw [he] at h; exact absurd h (by decide)
theorem parse_err {s : List UInt8} (h : ¬ (parseR s).2 = 0) : parseR s = ((0, 0), 7) := by
  rcases parse_ends s with ⟨h2, _⟩ | he
  · exact absurd h2 h
  · exact he
theorem print_cut {r : Int × Int} (h : rightR r = true) : (r.2 = 1 ∧ cutS (printR r) = (Lib.itoa r.1, [], false)) ∨ (¬ r.2 = 1 ∧ cutS (printR r) = (Lib.itoa r.1, Lib.itoa r.2, true)) := by
  have hp : printR r = if r.2 = 1 then Lib.itoa r.1 else Lib.itoa r.1 ++ 47 :: Lib.itoa r.2 := by
    unfold printR; rw [if_pos h]
  by_cases hy : r.2 = 1
  · rw [if_pos hy] at hp
    exact .inl ⟨hy, by rw [hp]; exact cut_no (itoa_no47 _)⟩
  · rw [if_neg hy] at hp
    exact .inr ⟨hy, by rw [hp]; exact cut_at _ (itoa_no47 _)⟩
theorem dparse_none1 {s : List UInt8} (h : decP (cutS s).1 = none) : parseR s = ((0, 0), 7) := by
  refine parse_err fun h0 => ?_
  obtain ⟨r, hr, h1, h2, hp, _⟩ := parse_ok h0
  rw [← hp] at h
  rcases print_cut hr with ⟨_, e⟩ | ⟨_, e⟩ <;>
  · rw [e] at h
    rw [decP_itoa _ h1] at h
    cases h
theorem dparse_none2 {s : List UInt8} (hc : (cutS s).2.2 = true) (h : decP (cutS s).2.1 = none) : parseR s = ((0, 0), 7) := by
  refine parse_err fun h0 => ?_
  obtain ⟨r, hr, h1, h2, hp, _⟩ := parse_ok h0
  rw [← hp] at h hc
  rcases print_cut hr with ⟨_, e⟩ | ⟨_, e⟩
  · rw [e] at hc; cases hc
  · rw [e] at h
    rw [decP_itoa _ h2] at h
    cases h
theorem dparse_one {s : List UInt8} {n : Int} (hc : (cutS s).2.2 = false) (h : decP (cutS s).1 = some n) : parseR s = if rightR (n, 1) = true ∧ printR (n, 1) = s then ((n, 1), 0) else ((0, 0), 7) := by
  by_cases hh : rightR (n, 1) = true ∧ printR (n, 1) = s
  · rw [if_pos hh, ← hh.2]
    exact parse_print hh.1 (decP64 h) ⟨by show (-9223372036854775808 : Int) ≤ 1; decide, by show (1 : Int) ≤ _; decide⟩
  · rw [if_neg hh]
    refine parse_err fun h0 => hh ?_
    obtain ⟨r, hr, h1, h2, hp, _⟩ := parse_ok h0
    rw [← hp] at h hc
    rcases print_cut hr with ⟨hy, e⟩ | ⟨_, e⟩
    · rw [e] at h
      rw [decP_itoa _ h1] at h
      have hn := Option.some.inj h
      have er : (n, (1 : Int)) = r := by rw [← hn, ← hy]
      rw [er]
      exact ⟨hr, hp⟩
    · rw [e] at hc; cases hc
theorem dparse_two {s : List UInt8} {n d : Int} (hc : (cutS s).2.2 = true) (h : decP (cutS s).1 = some n) (h3 : decP (cutS s).2.1 = some d) : parseR s = if rightR (n, d) = true ∧ printR (n, d) = s then ((n, d), 0) else ((0, 0), 7) := by
  by_cases hh : rightR (n, d) = true ∧ printR (n, d) = s
  · rw [if_pos hh, ← hh.2]
    exact parse_print hh.1 (decP64 h) (decP64 h3)
  · rw [if_neg hh]
    refine parse_err fun h0 => hh ?_
    obtain ⟨r, hr, h1, h2, hp, _⟩ := parse_ok h0
    rw [← hp] at h hc h3
    rcases print_cut hr with ⟨hy, e⟩ | ⟨_, e⟩
    · rw [e] at hc; cases hc
    · rw [e] at h h3
      rw [decP_itoa _ h1] at h
      rw [decP_itoa _ h2] at h3
      have er : (n, d) = r := Prod.ext (Option.some.inj h).symm (Option.some.inj h3).symm
      rw [er]
      exact ⟨hr, hp⟩

/-- Where a text is cut. -/
def atP (s : List UInt8) : Nat := if Lib.indexByte s 47 < 0 then s.length else (Lib.indexByte s 47).toNat
theorem at_le (s : List UInt8) : atP s ≤ s.length := by
  unfold atP
  split
  · exact Nat.le_refl _
  · rename_i h
    obtain ⟨h1, _⟩ := Lib.indexByte_some (l := s) (c := 47) (o := (Lib.indexByte s 47).toNat) (by omega)
    exact Nat.le_of_lt (List.getElem?_eq_some_iff.1 h1).1
theorem cut_parts (s : List UInt8) : (cutS s).1 = s.take (atP s) ∧ (cutS s).2.2 = decide (atP s < s.length) ∧ (atP s < s.length → (cutS s).2.1 = s.drop (atP s + 1)) := by
  unfold atP cutS
  by_cases h : Lib.indexByte s 47 < 0
  · rw [if_pos h, if_pos h]
    exact ⟨(List.take_length).symm, (decide_eq_false (by omega)).symm, fun h => absurd h (by omega)⟩
  · rw [if_neg h, if_neg h]
    obtain ⟨h1, _⟩ := Lib.indexByte_some (l := s) (c := 47) (o := (Lib.indexByte s 47).toNat) (by omega)
    exact ⟨rfl, (decide_eq_true (List.getElem?_eq_some_iff.1 h1).1).symm, fun _ => rfl⟩
theorem at_found {s : List UInt8} {i : Nat} (hi : i < s.length) (h : s[i] = 47) (hb : ∀ c ∈ s.take i, c ≠ 47) : atP s = i := by
  have e : s = s.take i ++ 47 :: s.drop (i + 1) := by
    conv => lhs; rw [← List.take_append_drop i s, List.drop_eq_getElem_cons hi, h]
  have h2 := index_at47 (s.drop (i + 1)) hb
  rw [← e] at h2
  unfold atP
  rw [h2, if_neg (by omega)]
  simp
  omega
theorem at_none {s : List UInt8} (hb : ∀ c ∈ s, c ≠ 47) : atP s = s.length := by
  unfold atP
  rw [index_no47 hb, if_pos (by decide)]

set_option maxRecDepth 100000 in
set_option maxHeartbeats 4000000 in
theorem dprint_any (x y : Int) (hx : I64 x) (hy : I64 y) (w : World) (ht : TabQ w) : Calls Tryd.prog 45 #[.agg #[.int .i64 x, .int .i64 y]] w fun e w' => e = .returned (.string ⟨(printR (x, y)).toArray⟩) ∧ Below w.heap.size w w' := by
  have HR := Lib.hid (fun W => dright_any x y hx hy W)
  have HFX := Lib.hid (fun W => fmt_any x hx W)
  have HFY := Lib.hid (fun W => fmt_any y hy W)
  have hlx := Lib.hid (Lib.itoa_length_le x hx.1 hx.2)
  have hly := Lib.hid (Lib.itoa_length_le y hy.1 hy.2)
  have HA1 := Lib.hid (show rightR (x, y) = true → printR (x, y) = if y = 1 then Lib.itoa x else Lib.itoa x ++ 47 :: Lib.itoa y from fun h => by unfold printR; rw [if_pos h])
  have HA0 := Lib.hid (show rightR (x, y) = false → printR (x, y) = [] from fun h => by unfold printR; rw [if_neg (by rw [h]; decide)])
  obtain ⟨T, hT⟩ : ∃ T, T = printR (x, y) := ⟨_, rfl⟩
  obtain ⟨rb, hrb⟩ : ∃ rb, rb = rightR (x, y) := ⟨_, rfl⟩
  rw [← hT] at HA1 HA0 ⊢
  rw [← hrb] at HA1 HA0 HR
  have HW : Hid (Pq w x y (w.alloc (.cells #[.int .i64 x, .int .i64 y] 23))) := Lib.hid ⟨below_one _ _, heap_alloc_new _ _, ht.below (below_one _ _)⟩
  clear hT hrb ht
  go_enter Tryd.func45, Tryd.ntmps45
  go_upto_region 1 with fail
  generalize w.alloc (.cells #[.int .i64 x, .int .i64 y] 23) = w1 at *
  obtain ⟨k1, k2, _, _⟩ := cell_two HW.out.ha
  go_wp2_with fail
  refine (HR.out _).mono ?_
  rintro e w2 ⟨rfl, hb⟩
  have HW2 := Lib.hid (HW.out.step hb)
  clear hb HW k1 k2 HR
  cases rb with
  | false =>
    have HE := Lib.hid (HA0.out (by simp))
    clear HA0 HA1
    go_wp2
    go_ret
    exact ⟨by rw [HE.out]; rfl, HW2.out.below⟩
  | true =>
    have HE := Lib.hid (HA1.out (by simp))
    clear HA0 HA1
    obtain ⟨k1, k2, _, _⟩ := cell_two HW2.out.ha
    go_wp2_with fail
    refine (HFX.out _ HW2.out.tab).mono ?_
    rintro e w3 ⟨rfl, hb⟩
    have HW3 := Lib.hid (HW2.out.step hb)
    clear hb k1 k2
    obtain ⟨k1, k2, _, _⟩ := cell_two HW3.out.ha
    by_cases h1 : y = 1
    · have HE2 := Lib.hid (HE.out.trans (if_pos h1))
      subst h1
      clear HE
      go_wp2
      go_ret
      exact ⟨by rw [HE2.out]; rfl, HW3.out.below⟩
    · have HE2 := Lib.hid (HE.out.trans (if_neg h1))
      have d1 : (y == 1) = false := by simp [h1]
      have l1 := hlx.out
      have l2 := hly.out
      have l3 : ¬ (9223372036854775807 < 1 + (Lib.itoa y).length) := by omega
      have l4 : ¬ (9223372036854775807 < (Lib.itoa x).length + (1 + (Lib.itoa y).length)) := by omega
      have l5 : ¬ (9223372036854775807 < (Lib.itoa x).length + ((Lib.itoa y).length + 1)) := by omega
      have b1 : (⟨#[47]⟩ : ByteArray) ++ ⟨(Lib.itoa y).toArray⟩ = ⟨(47 :: Lib.itoa y).toArray⟩ := bytes_add [47] _
      have b2 := bytes_add (Lib.itoa x) (47 :: Lib.itoa y)
      clear HE h1
      go_wp2_with fail
      refine (HFY.out _ HW3.out.tab).mono ?_
      rintro e w4 ⟨rfl, hb⟩
      have HW4 := Lib.hid (HW3.out.step hb)
      clear hb k1 k2
      go_wp2
      go_ret
      exact ⟨by rw [HE2.out]; rfl, HW4.out.below⟩

set_option maxRecDepth 100000 in
set_option maxHeartbeats 8000000 in
theorem dparse_any (s : List UInt8) (hl : s.length ≤ 140737488351232) (w : World) (ht : TabQ w) :
    Calls Tryd.prog 43 #[.string ⟨s.toArray⟩] w fun e w' => e = .returned (.tuple #[.agg #[.int .i64 (parseR s).1.1, .int .i64 (parseR s).1.2], .int .i64 (parseR s).2]) ∧ Below w.heap.size w w' := by
  obtain ⟨p1, p2, p3⟩ := cut_parts s
  have HN1 := Lib.hid (dparse_none1 (s := s))
  have HN2 := Lib.hid (dparse_none2 (s := s))
  have HO1 := Lib.hid (fun n => dparse_one (s := s) (n := n))
  have HO2 := Lib.hid (fun n d => dparse_two (s := s) (n := n) (d := d))
  obtain ⟨R, hR⟩ : ∃ q, q = parseR s := ⟨_, rfl⟩
  rw [← hR] at HN1 HN2 HO1 HO2 ⊢
  have P3 := Lib.hid p3
  rw [p1] at HN1 HO1 HO2
  rw [p2] at HN2 HO1 HO2
  have HAT := Lib.hid (at_le s)
  have HF := Lib.hid (fun i hi h hb => at_found (s := s) (i := i) hi h hb)
  have HF2 := Lib.hid (at_none (s := s))
  obtain ⟨m, hm⟩ : ∃ q, q = atP s := ⟨_, rfl⟩
  rw [← hm] at HN1 HN2 HO1 HO2 HAT HF HF2 P3
  have HDA := Lib.hid (fun W => decimal_any (s.take m) (by simp; omega) W)
  have HDB := Lib.hid (fun W => decimal_any (s.drop (m + 1)) (by simp; omega) W)
  have HPR := Lib.hid (fun (n d : Int) (hn : I64 n) (hd : I64 d) W hW => dprint_any n d hn hd W hW)
  have HRI := Lib.hid (fun (n d : Int) (hn : I64 n) (hd : I64 d) W => dright_any n d hn hd W)
  have ext1 := ext_take s m
  have hle : w.heap.size ≤ w.heap.size := Nat.le_refl _
  have K := Lib.hid ((RtL.start ht).one 0 0)
  have HL := Lib.hid hl
  clear hR hm ht hl p1 p2 p3
  go_enter Tryd.func43, Tryd.ntmps43
  go_upto_block 0 with fail
  generalize w.alloc (.cells #[.int .i64 0, .int .i64 0] 23) = w1 at *
  go_cut [4] (fun s4 wx => s4 = .int .i64 m ∧ Hid (RtL w [(w.heap.size, 0, 0)] wx))
  case first =>
    go_wp2
    go_loopg [4, 5] s.length (fun g s4 s5 wr => ∃ i : Nat, s4 = .int .i64 s.length ∧ s5 = .int .i64 i ∧ Hid (RtL w [(w.heap.size, 0, 0)] wr) ∧ Hid (i ≤ s.length ∧ g + i = s.length ∧ ∀ c ∈ s.take i, c ≠ 47))
    case atStart => exact ⟨0, rfl, by simp, K, Lib.hid ⟨by omega, by omega, by simp⟩⟩
    case round =>
      clear K
      obtain ⟨i, rfl, rfl, K, HG⟩ := hrel
      by_cases hp : i < s.length
      · have hpi : (i : Int) < (s.length : Int) := by omega
        obtain ⟨k, hk⟩ : ∃ k, k = (s[i]'hp).toNat := ⟨_, rfl⟩
        have hx : ∀ h, ((⟨s.toArray⟩ : ByteArray)[i]'h).toNat = k := fun h => by rw [hk]; rfl
        have HK := Lib.hid hk
        clear hk
        by_cases h47 : k = 47
        · have HM : Hid (m = i) := Lib.hid (HF.out i hp (UInt8.toNat_inj.1 (by rw [← HK.out, h47]; rfl)) HG.out.2.2)
          have f1 : ((k : Int) == 47) = true := by simp [h47]
          clear h47
          go_wp2_with fail
          go_meet
          exact ⟨by rw [HM.out], K⟩
        · have f1 : ((k : Int) == 47) = false := by simp; omega
          have w5 : IntKind.i64.wrap ((i : Int) + 1) = ((i + 1 : Nat) : Int) := by rw [IntWalk.i64_in _ (by have := HL.out; omega)]; omega
          have HNK := Lib.hid h47
          clear h47
          go_wp2
          go_roundg (gk - 1)
          case measure => have h := HG.out; omega
          case rel =>
            refine ⟨i + 1, rfl, rfl, K, Lib.hid ⟨by omega, by have h := HG.out.2.1; omega, fun c hc => ?_⟩⟩
            rw [List.take_add_one, List.getElem?_eq_getElem hp] at hc
            rcases List.mem_append.1 hc with hc | hc
            · exact HG.out.2.2 c hc
            · obtain rfl := List.mem_singleton.1 (by simpa using hc)
              exact fun e => HNK.out (by rw [HK.out, e]; rfl)
      · have e : i = s.length := by have := HG.out.1; omega
        subst e
        have hb := HG.out.2.2
        rw [List.take_length] at hb
        have HM := Lib.hid (HF2.out hb)
        clear hb
        go_wp2_with fail
        go_meet
        exact ⟨by rw [HM.out], K⟩
  case rest =>
    clear K HF HF2
    obtain ⟨rfl, K⟩ := hcut
    have g2 : (m : Int) ≤ (s.length : Int) := by have := HAT.out; omega
    have g1 : (0 : Int) ≤ (m : Int) := by omega
    go_wp2_with fail
    refine (HDA.out _).mono ?_
    rintro e w2 ⟨hw, v, b, rfl, hv⟩
    rw [hw]
    clear hw HDA ext1
    have HV := Lib.hid hv
    clear hv
    by_cases hlt : m < s.length
    · have g3 : (m : Int) < (s.length : Int) := by omega
      have w5 : IntKind.i64.wrap ((m : Int) + 1) = (m : Int) + 1 := IntWalk.i64_in _ (by have := HL.out; omega)
      have g7 : ((m : Int) + 1).toNat = m + 1 := by omega
      have g8 : (0 : Int) ≤ (m : Int) + 1 := by omega
      have g9 : (m : Int) + 1 ≤ (s.length : Int) := by omega
      have ext2 := ext_drop s m (by omega)
      have e0 := P3.out hlt
      rw [decide_eq_true hlt, e0] at HN2 HO2
      have HLT := Lib.hid hlt
      clear hlt e0 HO1
      go_wp2_with fail
      refine (HDB.out _).mono ?_
      rintro e w4 ⟨hw, v2, b2, rfl, hv2⟩
      rw [hw]
      clear hw ext2
      have HV2 := Lib.hid hv2
      clear hv2
      cases b with
      | false =>
        have h1 := (HV.out.resolve_left (fun h => Bool.noConfusion h.1)).2
        have HH := Lib.hid (HN1.out h1)
        clear h1
        go_upto_region 13 with fail
        replace K := Lib.hid (K.out.new v v2)
        generalize w2.alloc (.cells #[.int .i64 v, .int .i64 v2] 23) = wm at *
        generalize w2.heap.size = g10 at *
        simp only [List.cons_append, List.nil_append] at K
        have HE := Lib.hid (HH.out)
        have T1 := Lib.hid (rat_cells (K.out.l (w.heap.size, 0, 0) (by simp)) (.int .i64 0) (.int .i64 0))
        have T2 := Lib.hid ((K.out.below.setCell (p := ⟨w.heap.size, 0, none⟩) hle (.int .i64 0)).setCell (p := ⟨w.heap.size, 1, none⟩) hle (.int .i64 0))
        obtain ⟨z1, z2, z3, z4⟩ := cell_two (K.out.l (w.heap.size, 0, 0) (by simp))
        go_wp2
        refine bodyPost_ret (results_row_tmp (fn := Tryd.f43) rfl _ _ w.heap.size _ _ _ _ rfl T1.out Tryd.underlying23 rfl (by kernel_rfl)) rfl ?_
        exact ⟨by rw [HE.out]; rfl, T2.out⟩
      | true =>
        have HH1 := Lib.hid (HV.out.resolve_right (fun h => Bool.noConfusion h.1)).2
        cases b2 with
        | false =>
          have h1 := (HV2.out.resolve_left (fun h => Bool.noConfusion h.1)).2
          have HH := Lib.hid (HN2.out (by simp) h1)
          clear h1
          go_upto_region 13 with fail
          replace K := Lib.hid (K.out.new v v2)
          generalize w2.alloc (.cells #[.int .i64 v, .int .i64 v2] 23) = wm at *
          generalize w2.heap.size = g10 at *
          simp only [List.cons_append, List.nil_append] at K
          have HE := Lib.hid (HH.out)
          have T1 := Lib.hid (rat_cells (K.out.l (w.heap.size, 0, 0) (by simp)) (.int .i64 0) (.int .i64 0))
          have T2 := Lib.hid ((K.out.below.setCell (p := ⟨w.heap.size, 0, none⟩) hle (.int .i64 0)).setCell (p := ⟨w.heap.size, 1, none⟩) hle (.int .i64 0))
          obtain ⟨z1, z2, z3, z4⟩ := cell_two (K.out.l (w.heap.size, 0, 0) (by simp))
          go_wp2
          refine bodyPost_ret (results_row_tmp (fn := Tryd.f43) rfl _ _ w.heap.size _ _ _ _ rfl T1.out Tryd.underlying23 rfl (by kernel_rfl)) rfl ?_
          exact ⟨by rw [HE.out]; rfl, T2.out⟩
        | true =>
          have HH2 := Lib.hid (HV2.out.resolve_right (fun h => Bool.noConfusion h.1)).2
          have N64 := Lib.hid (decP64 HH1.out)
          have D64 := Lib.hid (decP64 HH2.out)
          go_upto_region 13 with fail
          replace K := Lib.hid (K.out.new v v2)
          generalize w2.alloc (.cells #[.int .i64 v, .int .i64 v2] 23) = wm at *
          generalize w2.heap.size = g10 at *
          simp only [List.cons_append, List.nil_append] at K
          have HE0 := Lib.hid (HO2.out v v2 (by simp) HH1.out HH2.out)
          have HPR := Lib.hid (HPR.out v v2 N64.out D64.out)
          have HRI := Lib.hid (HRI.out v v2 N64.out D64.out)
          obtain ⟨p, hp⟩ : ∃ q, q = printR (v, v2) := ⟨_, rfl⟩
          obtain ⟨rr, hrr⟩ : ∃ q, q = rightR (v, v2) := ⟨_, rfl⟩
          rw [← hp] at HPR HE0
          rw [← hrr] at HRI HE0
          clear hp hrr
          obtain ⟨a1, b1⟩ := K.out.cells 1 rfl
          go_wp2_with fail
          refine (HRI.out _).mono ?_
          rintro e w8 ⟨rfl, hb⟩
          replace K := Lib.hid (K.out.step hb)
          clear hb a1 b1
          cases rr with
          | false =>
            have HE := Lib.hid (HE0.out.trans (if_neg (by simp)))
            have T1 := Lib.hid (rat_cells (K.out.l (w.heap.size, 0, 0) (by simp)) (.int .i64 0) (.int .i64 0))
            have T2 := Lib.hid ((K.out.below.setCell (p := ⟨w.heap.size, 0, none⟩) hle (.int .i64 0)).setCell (p := ⟨w.heap.size, 1, none⟩) hle (.int .i64 0))
            obtain ⟨z1, z2, z3, z4⟩ := cell_two (K.out.l (w.heap.size, 0, 0) (by simp))
            go_wp2
            refine bodyPost_ret (results_row_tmp (fn := Tryd.f43) rfl _ _ w.heap.size _ _ _ _ rfl T1.out Tryd.underlying23 rfl (by kernel_rfl)) rfl ?_
            exact ⟨by rw [HE.out]; rfl, T2.out⟩
          | true =>
            obtain ⟨a1, b1⟩ := K.out.cells 1 rfl
            go_wp2_with fail
            refine (HPR.out _ K.out.tab).mono ?_
            rintro e w9 ⟨rfl, hb⟩
            replace K := Lib.hid (K.out.step hb)
            clear hb a1 b1
            by_cases hps : p = s
            · have f1 : (p == s) = true := by simp [hps]
              have f2 : (p != s) = false := by simp [hps]
              have HE := Lib.hid (HE0.out.trans (if_pos ⟨by simp, hps⟩))
              clear hps HE0
              have T1 := Lib.hid (rat_cells (K.out.l (w.heap.size, 0, 0) (by simp)) (.int .i64 v) (.int .i64 v2))
              have T2 := Lib.hid ((K.out.below.setCell (p := ⟨w.heap.size, 0, none⟩) hle (.int .i64 v)).setCell (p := ⟨w.heap.size, 1, none⟩) hle (.int .i64 v2))
              obtain ⟨z1, z2, z3, z4⟩ := cell_two (K.out.l (w.heap.size, 0, 0) (by simp))
              obtain ⟨a1, b1⟩ := K.out.cells 1 rfl
              go_wp2
              refine bodyPost_ret (results_row_tmp (fn := Tryd.f43) rfl _ _ w.heap.size _ _ _ _ rfl T1.out Tryd.underlying23 rfl (by kernel_rfl)) rfl ?_
              exact ⟨by rw [HE.out]; rfl, T2.out⟩
            · have f1 : (p == s) = false := by simp [hps]
              have f2 : (p != s) = true := by simp [hps]
              have HE1 := Lib.hid (HE0.out.trans (if_neg (fun h => hps h.2)))
              clear hps HE0
              have HE := Lib.hid (HE1.out)
              have T1 := Lib.hid (rat_cells (K.out.l (w.heap.size, 0, 0) (by simp)) (.int .i64 0) (.int .i64 0))
              have T2 := Lib.hid ((K.out.below.setCell (p := ⟨w.heap.size, 0, none⟩) hle (.int .i64 0)).setCell (p := ⟨w.heap.size, 1, none⟩) hle (.int .i64 0))
              obtain ⟨z1, z2, z3, z4⟩ := cell_two (K.out.l (w.heap.size, 0, 0) (by simp))
              go_wp2
              refine bodyPost_ret (results_row_tmp (fn := Tryd.f43) rfl _ _ w.heap.size _ _ _ _ rfl T1.out Tryd.underlying23 rfl (by kernel_rfl)) rfl ?_
              exact ⟨by rw [HE.out]; rfl, T2.out⟩
    · have g3 : ¬ (m : Int) < (s.length : Int) := by omega
      have g4 : decide ((m : Int) < (s.length : Int)) = false := decide_eq_false g3
      rw [decide_eq_false hlt] at HO1
      clear hlt HO2 HN2
      cases b with
      | false =>
        have h1 := (HV.out.resolve_left (fun h => Bool.noConfusion h.1)).2
        have HH := Lib.hid (HN1.out h1)
        clear h1
        go_upto_region 13 with fail
        replace K := Lib.hid (K.out.new v 1)
        generalize w2.alloc (.cells #[.int .i64 v, .int .i64 1] 23) = wm at *
        generalize w2.heap.size = g10 at *
        simp only [List.cons_append, List.nil_append] at K
        have HE := Lib.hid (HH.out)
        have T1 := Lib.hid (rat_cells (K.out.l (w.heap.size, 0, 0) (by simp)) (.int .i64 0) (.int .i64 0))
        have T2 := Lib.hid ((K.out.below.setCell (p := ⟨w.heap.size, 0, none⟩) hle (.int .i64 0)).setCell (p := ⟨w.heap.size, 1, none⟩) hle (.int .i64 0))
        obtain ⟨z1, z2, z3, z4⟩ := cell_two (K.out.l (w.heap.size, 0, 0) (by simp))
        go_wp2
        refine bodyPost_ret (results_row_tmp (fn := Tryd.f43) rfl _ _ w.heap.size _ _ _ _ rfl T1.out Tryd.underlying23 rfl (by kernel_rfl)) rfl ?_
        exact ⟨by rw [HE.out]; rfl, T2.out⟩
      | true =>
        have HH1 := Lib.hid (HV.out.resolve_right (fun h => Bool.noConfusion h.1)).2
        have N64 := Lib.hid (decP64 HH1.out)
        go_upto_region 13 with fail
        replace K := Lib.hid (K.out.new v 1)
        generalize w2.alloc (.cells #[.int .i64 v, .int .i64 1] 23) = wm at *
        generalize w2.heap.size = g10 at *
        simp only [List.cons_append, List.nil_append] at K
        have HE0 := Lib.hid (HO1.out v (by simp) HH1.out)
        have HPR := Lib.hid (HPR.out v 1 N64.out (i64_of (by decide)))
        have HRI := Lib.hid (HRI.out v 1 N64.out (i64_of (by decide)))
        obtain ⟨p, hp⟩ : ∃ q, q = printR (v, 1) := ⟨_, rfl⟩
        obtain ⟨rr, hrr⟩ : ∃ q, q = rightR (v, 1) := ⟨_, rfl⟩
        rw [← hp] at HPR HE0
        rw [← hrr] at HRI HE0
        clear hp hrr
        obtain ⟨a1, b1⟩ := K.out.cells 1 rfl
        go_wp2_with fail
        refine (HRI.out _).mono ?_
        rintro e w8 ⟨rfl, hb⟩
        replace K := Lib.hid (K.out.step hb)
        clear hb a1 b1
        cases rr with
        | false =>
          have HE := Lib.hid (HE0.out.trans (if_neg (by simp)))
          have T1 := Lib.hid (rat_cells (K.out.l (w.heap.size, 0, 0) (by simp)) (.int .i64 0) (.int .i64 0))
          have T2 := Lib.hid ((K.out.below.setCell (p := ⟨w.heap.size, 0, none⟩) hle (.int .i64 0)).setCell (p := ⟨w.heap.size, 1, none⟩) hle (.int .i64 0))
          obtain ⟨z1, z2, z3, z4⟩ := cell_two (K.out.l (w.heap.size, 0, 0) (by simp))
          go_wp2
          refine bodyPost_ret (results_row_tmp (fn := Tryd.f43) rfl _ _ w.heap.size _ _ _ _ rfl T1.out Tryd.underlying23 rfl (by kernel_rfl)) rfl ?_
          exact ⟨by rw [HE.out]; rfl, T2.out⟩
        | true =>
          obtain ⟨a1, b1⟩ := K.out.cells 1 rfl
          go_wp2_with fail
          refine (HPR.out _ K.out.tab).mono ?_
          rintro e w9 ⟨rfl, hb⟩
          replace K := Lib.hid (K.out.step hb)
          clear hb a1 b1
          by_cases hps : p = s
          · have f1 : (p == s) = true := by simp [hps]
            have f2 : (p != s) = false := by simp [hps]
            have HE := Lib.hid (HE0.out.trans (if_pos ⟨by simp, hps⟩))
            clear hps HE0
            have T1 := Lib.hid (rat_cells (K.out.l (w.heap.size, 0, 0) (by simp)) (.int .i64 v) (.int .i64 1))
            have T2 := Lib.hid ((K.out.below.setCell (p := ⟨w.heap.size, 0, none⟩) hle (.int .i64 v)).setCell (p := ⟨w.heap.size, 1, none⟩) hle (.int .i64 1))
            obtain ⟨z1, z2, z3, z4⟩ := cell_two (K.out.l (w.heap.size, 0, 0) (by simp))
            obtain ⟨a1, b1⟩ := K.out.cells 1 rfl
            go_wp2
            refine bodyPost_ret (results_row_tmp (fn := Tryd.f43) rfl _ _ w.heap.size _ _ _ _ rfl T1.out Tryd.underlying23 rfl (by kernel_rfl)) rfl ?_
            exact ⟨by rw [HE.out]; rfl, T2.out⟩
          · have f1 : (p == s) = false := by simp [hps]
            have f2 : (p != s) = true := by simp [hps]
            have HE1 := Lib.hid (HE0.out.trans (if_neg (fun h => hps h.2)))
            clear hps HE0
            have HE := Lib.hid (HE1.out)
            have T1 := Lib.hid (rat_cells (K.out.l (w.heap.size, 0, 0) (by simp)) (.int .i64 0) (.int .i64 0))
            have T2 := Lib.hid ((K.out.below.setCell (p := ⟨w.heap.size, 0, none⟩) hle (.int .i64 0)).setCell (p := ⟨w.heap.size, 1, none⟩) hle (.int .i64 0))
            obtain ⟨z1, z2, z3, z4⟩ := cell_two (K.out.l (w.heap.size, 0, 0) (by simp))
            go_wp2
            refine bodyPost_ret (results_row_tmp (fn := Tryd.f43) rfl _ _ w.heap.size _ _ _ _ rfl T1.out Tryd.underlying23 rfl (by kernel_rfl)) rfl ?_
            exact ⟨by rw [HE.out]; rfl, T2.out⟩

end Go.Proofs.YtmgdhlcgbgpgpaaDoor

/- RatTexts: every fraction as a text, and every text. -/
namespace Go.Proofs.YtmgdhlcgbgpgpaaDoor
open Go Go.RowKit
set_option linter.unusedVariables false
set_option linter.unusedSimpArgs false

def tbTxt (g2 g5 g7 : Nat) (x y u1 u2 eu : Int) (p : List UInt8) : List (Nat × Nat × Value) :=
  [(0, 19, .bool true), (1, 20, .bool true), (2, 21, .agg #[.int .i64 x, .int .i64 y]), (3, 22, .string ⟨(p).toArray⟩), (4, 23, .agg #[.int .i64 x, .int .i64 y]), (5, 24, .string ⟨(p).toArray⟩), (6, 25, .bool true), (7, 26, .bool true), (8, 27, .bool true), (9, 28, .agg #[.int .i64 u1, .int .i64 u2]), (10, 29, .agg #[.int .i64 u1, .int .i64 u2]), (11, 30, .bool true), (12, 31, .bool true), (13, 32, .bool true), (14, 33, .int .i64 eu), (15, 34, .int .i64 eu), (16, 35, .bool true), (17, 36, .bool true), (18, 4, .bool true)]
def bsTxt (g2 g5 g7 : Nat) (x y u1 u2 eu : Int) (p : List UInt8) : List (Nat × Value) := [(2, .pointer (some ⟨g2, 0, none⟩)), (5, .pointer (some ⟨g5, 0, none⟩)), (6, .int .i64 eu), (7, .pointer (some ⟨g7, 0, none⟩)), (8, .int .i64 eu)]

set_option maxRecDepth 100000 in
set_option maxHeartbeats 8000000 in
theorem texts02_any (x y : Int) (s : List UInt8) (w : World) (hx : I64 x) (hy : I64 y) (hl : s.length ≤ 140737488351232) (ht : TabQ w) (h1 : SentQ "strconv.ErrSyntax" w) (h2 : SentQ "strconv.ErrRange" w) :
    Calls Tryd.prog 10 #[.agg #[.int .i64 x, .int .i64 y], .string ⟨s.toArray⟩] w fun e w' => e = .returned (.bool true) ∧ Below w.heap.size w w' := by
  have HP1 := Lib.hid (fun W hW => rprint_any x y hx hy W hW)
  have HP2 := Lib.hid (fun W hW => dprint_any x y hx hy W hW)
  have HA := Lib.hid (fun W a b c => rparse_any s hl W a b c)
  have HB := Lib.hid (fun W a => dparse_any s hl W a)
  obtain ⟨p, hp⟩ : ∃ q, q = printR (x, y) := ⟨_, rfl⟩
  obtain ⟨⟨⟨u1, u2⟩, eu⟩, hu⟩ : ∃ q, q = parseR s := ⟨_, rfl⟩
  rw [← hp] at HP1 HP2
  rw [← hu] at HA HB
  have HA : Hid (∀ W, TabQ W → SentQ "strconv.ErrSyntax" W → SentQ "strconv.ErrRange" W → Calls Tryd.prog 42 #[.string ⟨s.toArray⟩] W fun e w' => e = .returned (.tuple #[.agg #[.int .i64 u1, .int .i64 u2], .int .i64 eu]) ∧ Below W.heap.size W w') := HA
  have HB : Hid (∀ W, TabQ W → Calls Tryd.prog 43 #[.string ⟨s.toArray⟩] W fun e w' => e = .returned (.tuple #[.agg #[.int .i64 u1, .int .i64 u2], .int .i64 eu]) ∧ Below W.heap.size W w') := HB
  have S1 := Lib.hid h1
  have S2 := Lib.hid h2
  have K := Lib.hid ((RtL.start ht).one x y)
  clear hp hu h1 h2 ht hx hy
  go_enter Tryd.func10, Tryd.ntmps10
  go_upto_region 1 with fail
  generalize w.alloc (.cells #[.int .i64 x, .int .i64 y] 23) = w1 at *
  go_wp2_with fail
  refine (HA.out _ K.out.tab (S1.out.below K.out.below) (S2.out.below K.out.below)).mono ?_
  rintro e w2 ⟨rfl, hb⟩
  replace K := Lib.hid (K.out.step hb)
  clear hb HA
  go_upto_region 2 with fail
  replace K := Lib.hid (K.out.new u1 u2)
  generalize w2.alloc (.cells #[.int .i64 u1, .int .i64 u2] 23) = w3 at *
  generalize w2.heap.size = g5 at *
  simp only [List.cons_append, List.nil_append] at K
  go_wp2_with fail
  refine (HB.out _ K.out.tab).mono ?_
  rintro e w4 ⟨rfl, hb⟩
  replace K := Lib.hid (K.out.step hb)
  clear hb HB
  go_upto_region 3 with fail
  replace K := Lib.hid (K.out.new u1 u2)
  generalize w4.alloc (.cells #[.int .i64 u1, .int .i64 u2] 23) = w5 at *
  generalize w4.heap.size = g7 at *
  simp only [List.cons_append, List.nil_append] at K
  refine wp_region_tab (by kernel_rfl) [2, 5, 6, 7, 8, 19, 20, 21, 22, 23, 24, 25, 26, 27, 28, 29, 30, 31, 32, 33, 34, 35, 36, 4] [[], [0], [1], [1, 2], [1], [1, 3, 4], [1, 3, 5], [1, 6], [5, 7], [8], [8], [8, 9, 10], [8, 11], [8, 12], [13], [13], [13, 14, 15], [13, 16], [0, 1, 2, 3, 4, 5, 6, 7, 8, 9, 10, 11, 12, 13, 14, 15, 16, 17]]
    (fun L vals wx => RtL w [(w.heap.size, x, y), (g5, u1, u2), (g7, u1, u2)] wx ∧ TabR (tbTxt w.heap.size g5 g7 x y u1 u2 eu p) (bsTxt w.heap.size g5 g7 x y u1 u2 eu p) L vals) (by kernel_rfl) rfl ?_ ?_ ?_
  · exact ⟨K.out.drew, TabR.start (by simp [bsTxt])⟩
  · intro i hi a L vals wx E hJ hLi hn K hK hK0
    obtain ⟨hI, hT⟩ := hJ
    match i, hi with
    | 0, _ =>
      exact op_goG (args := #[]) rfl rfl rfl rfl Tryd.func14 (by kernel_rfl) rfl (by simp) (live02_any _ hI.tab) (fun w' hb => hK 19 _ _ (by decide) ⟨hI.step hb, hT.set 0 rfl (by kernel_rfl) (by kernel_rfl)⟩)
    | 1, _ => exact op_moveG rfl rfl rfl rfl ((E 19 (by decide)).trans (hT.val 0 rfl (hn 0 (by decide)))) (hK 20 _ _ (by decide) ⟨hI, hT.set 1 rfl (by kernel_rfl) (by kernel_rfl)⟩)
    | 2, _ => exact op_loadG rfl (want_on (d := 20) (b := true) rfl rfl ((E 20 (by decide)).trans (hT.val 1 rfl (hn 1 (by decide))))) rfl rfl Tryd.underlying23 rfl (by kernel_rfl) ((E 2 (by decide)).trans (hT.rd 0 rfl)) (hI.l (w.heap.size, x, y) (by simp)) (hK 21 _ _ (by decide) ⟨hI, hT.set 2 rfl (by kernel_rfl) (by kernel_rfl)⟩)
    | 3, _ =>
      have e1 := (E 21 (by decide)).trans (hT.val 2 rfl (hn 2 (by decide)))
      exact op_goG rfl (want_on (d := 20) (b := true) rfl rfl ((E 20 (by decide)).trans (hT.val 1 rfl (hn 1 (by decide))))) rfl rfl Tryd.func44 (by kernel_rfl) rfl (by simp only [List.map_toArray, List.map_cons, List.map_nil, e1]) (HP1.out _ hI.tab) (fun w' hb => hK 22 _ _ (by decide) ⟨hI.step hb, hT.set 3 rfl (by kernel_rfl) (by kernel_rfl)⟩)
    | 4, _ => exact op_loadG rfl (want_on (d := 20) (b := true) rfl rfl ((E 20 (by decide)).trans (hT.val 1 rfl (hn 1 (by decide))))) rfl rfl Tryd.underlying23 rfl (by kernel_rfl) ((E 2 (by decide)).trans (hT.rd 0 rfl)) (hI.l (w.heap.size, x, y) (by simp)) (hK 23 _ _ (by decide) ⟨hI, hT.set 4 rfl (by kernel_rfl) (by kernel_rfl)⟩)
    | 5, _ =>
      have e1 := (E 23 (by decide)).trans (hT.val 4 rfl (hn 4 (by decide)))
      exact op_goG rfl (want_on (d := 20) (b := true) rfl rfl ((E 20 (by decide)).trans (hT.val 1 rfl (hn 1 (by decide))))) rfl rfl Tryd.func45 (by kernel_rfl) rfl (by simp only [List.map_toArray, List.map_cons, List.map_nil, e1]) (HP2.out _ hI.tab) (fun w' hb => hK 24 _ _ (by decide) ⟨hI.step hb, hT.set 5 rfl (by kernel_rfl) (by kernel_rfl)⟩)
    | 6, _ =>
      have e1 := (E 22 (by decide)).trans (hT.val 3 rfl (hn 3 (by decide)))
      have e2 := (E 24 (by decide)).trans (hT.val 5 rfl (hn 5 (by decide)))
      refine op_valueG (w' := wx) (v := .bool true) rfl (want_on (d := 20) (b := true) rfl rfl ((E 20 (by decide)).trans (hT.val 1 rfl (hn 1 (by decide))))) rfl ?_ (hK 25 _ _ (by decide) ⟨hI, hT.set 6 rfl (by kernel_rfl) (by kernel_rfl)⟩)
      clear hK hK0 hT E
      revert e1 e2
      generalize a.eval = ρ
      intro e1 e2
      go_simp
    | 7, _ =>
      have e1 := (E 20 (by decide)).trans (hT.val 1 rfl (hn 1 (by decide)))
      have e2 := (E 25 (by decide)).trans (hT.val 6 rfl (hn 6 (by decide)))
      have c1 : a.eval (.const (Value.bool false)) = Value.bool false := rfl
      refine op_valueG (w' := wx) (v := .bool true) rfl rfl rfl ?_ (hK 26 _ _ (by decide) ⟨hI, hT.set 7 rfl (by kernel_rfl) (by kernel_rfl)⟩)
      clear hK hK0 hT E
      revert e1 e2 c1
      generalize a.eval = ρ
      intro e1 e2 c1
      go_simp
    | 8, _ => exact op_moveG rfl rfl rfl rfl ((E 26 (by decide)).trans (hT.val 7 rfl (hn 7 (by decide)))) (hK 27 _ _ (by decide) ⟨hI, hT.set 8 rfl (by kernel_rfl) (by kernel_rfl)⟩)
    | 9, _ => exact op_loadG rfl (want_on (d := 27) (b := true) rfl rfl ((E 27 (by decide)).trans (hT.val 8 rfl (hn 8 (by decide))))) rfl rfl Tryd.underlying23 rfl (by kernel_rfl) ((E 5 (by decide)).trans (hT.rd 1 rfl)) (hI.l (g5, u1, u2) (by simp)) (hK 28 _ _ (by decide) ⟨hI, hT.set 9 rfl (by kernel_rfl) (by kernel_rfl)⟩)
    | 10, _ => exact op_loadG rfl (want_on (d := 27) (b := true) rfl rfl ((E 27 (by decide)).trans (hT.val 8 rfl (hn 8 (by decide))))) rfl rfl Tryd.underlying23 rfl (by kernel_rfl) ((E 7 (by decide)).trans (hT.rd 3 rfl)) (hI.l (g7, u1, u2) (by simp)) (hK 29 _ _ (by decide) ⟨hI, hT.set 10 rfl (by kernel_rfl) (by kernel_rfl)⟩)
    | 11, _ =>
      have e1 := (E 28 (by decide)).trans (hT.val 9 rfl (hn 9 (by decide)))
      have e2 := (E 29 (by decide)).trans (hT.val 10 rfl (hn 10 (by decide)))
      refine op_valueG (w' := wx) (v := .bool true) rfl (want_on (d := 27) (b := true) rfl rfl ((E 27 (by decide)).trans (hT.val 8 rfl (hn 8 (by decide))))) rfl ?_ (hK 30 _ _ (by decide) ⟨hI, hT.set 11 rfl (by kernel_rfl) (by kernel_rfl)⟩)
      clear hK hK0 hT E
      revert e1 e2
      generalize a.eval = ρ
      intro e1 e2
      go_simp
    | 12, _ =>
      have e1 := (E 27 (by decide)).trans (hT.val 8 rfl (hn 8 (by decide)))
      have e2 := (E 30 (by decide)).trans (hT.val 11 rfl (hn 11 (by decide)))
      have c1 : a.eval (.const (Value.bool false)) = Value.bool false := rfl
      refine op_valueG (w' := wx) (v := .bool true) rfl rfl rfl ?_ (hK 31 _ _ (by decide) ⟨hI, hT.set 12 rfl (by kernel_rfl) (by kernel_rfl)⟩)
      clear hK hK0 hT E
      revert e1 e2 c1
      generalize a.eval = ρ
      intro e1 e2 c1
      go_simp
    | 13, _ => exact op_moveG rfl rfl rfl rfl ((E 31 (by decide)).trans (hT.val 12 rfl (hn 12 (by decide)))) (hK 32 _ _ (by decide) ⟨hI, hT.set 13 rfl (by kernel_rfl) (by kernel_rfl)⟩)
    | 14, _ => exact op_moveG rfl (want_on (d := 32) (b := true) rfl rfl ((E 32 (by decide)).trans (hT.val 13 rfl (hn 13 (by decide))))) rfl rfl ((E 6 (by decide)).trans (hT.rd 2 rfl)) (hK 33 _ _ (by decide) ⟨hI, hT.set 14 rfl (by kernel_rfl) (by kernel_rfl)⟩)
    | 15, _ => exact op_moveG rfl (want_on (d := 32) (b := true) rfl rfl ((E 32 (by decide)).trans (hT.val 13 rfl (hn 13 (by decide))))) rfl rfl ((E 8 (by decide)).trans (hT.rd 4 rfl)) (hK 34 _ _ (by decide) ⟨hI, hT.set 15 rfl (by kernel_rfl) (by kernel_rfl)⟩)
    | 16, _ =>
      have e1 := (E 33 (by decide)).trans (hT.val 14 rfl (hn 14 (by decide)))
      have e2 := (E 34 (by decide)).trans (hT.val 15 rfl (hn 15 (by decide)))
      refine op_valueG (w' := wx) (v := .bool true) rfl (want_on (d := 32) (b := true) rfl rfl ((E 32 (by decide)).trans (hT.val 13 rfl (hn 13 (by decide))))) rfl ?_ (hK 35 _ _ (by decide) ⟨hI, hT.set 16 rfl (by kernel_rfl) (by kernel_rfl)⟩)
      clear hK hK0 hT E
      revert e1 e2
      generalize a.eval = ρ
      intro e1 e2
      go_simp
    | 17, _ =>
      have e1 := (E 32 (by decide)).trans (hT.val 13 rfl (hn 13 (by decide)))
      have e2 := (E 35 (by decide)).trans (hT.val 16 rfl (hn 16 (by decide)))
      have c1 : a.eval (.const (Value.bool false)) = Value.bool false := rfl
      refine op_valueG (w' := wx) (v := .bool true) rfl rfl rfl ?_ (hK 36 _ _ (by decide) ⟨hI, hT.set 17 rfl (by kernel_rfl) (by kernel_rfl)⟩)
      clear hK hK0 hT E
      revert e1 e2 c1
      generalize a.eval = ρ
      intro e1 e2 c1
      go_simp
    | 18, _ => exact op_assignG rfl rfl rfl rfl ((E 36 (by decide)).trans (hT.val 17 rfl (hn 17 (by decide)))) (hK 4 _ _ (by decide) ⟨hI, hT.set 18 rfl (by kernel_rfl) (by kernel_rfl)⟩)
    | k + 19, h => exact absurd (show k + 19 < 19 from h) (by omega)
  · intro L vals wx hJ hall
    obtain ⟨hI, hT⟩ := hJ
    have HI := Lib.hid hI
    have v2 : vals 2 = .pointer (some ⟨w.heap.size, 0, none⟩) := hT.rd 0 rfl
    have v5 : vals 5 = .pointer (some ⟨g5, 0, none⟩) := hT.rd 1 rfl
    have v6 : vals 6 = .int .i64 eu := hT.rd 2 rfl
    have v7 : vals 7 = .pointer (some ⟨g7, 0, none⟩) := hT.rd 3 rfl
    have v8 : vals 8 = .int .i64 eu := hT.rd 4 rfl
    have v4 : vals 4 = .bool true := hT.val 18 rfl (hall 18 (by decide))
    simp only [overA, Act.put, List.setIfInBounds_toArray, List.set_cons_zero, List.set_cons_succ]
    rw [v2, v5, v6, v7, v8, v4]
    clear hI hT hall v2 v5 v6 v7 v8 v4
    go_wp2
    go_ret
    exact ⟨rfl, HI.out.below⟩

end Go.Proofs.YtmgdhlcgbgpgpaaDoor

/- Fractions in a row in memory: a copy with marked room behind its end; it is as it was. -/
namespace Go.Proofs.YtmgdhlcgbgpgpaaDoor
open Go Go.RowKit
set_option linter.unusedVariables false
set_option linter.unusedSimpArgs false

/-- A row of fractions lies there. -/
def RatsA (w : World) (A : Option Addr) (l : List (Int × Int)) : Prop :=
  ∀ j, j < l.length → ∃ b off, A = some ⟨b, off, none⟩ ∧ w.cell? ⟨b, off + j * 2, none⟩ = some (.int .i64 (l.getD j (0, 0)).1) ∧ w.cell? ⟨b, off + j * 2 + 1, none⟩ = some (.int .i64 (l.getD j (0, 0)).2)
theorem RatsA.below {w w' : World} {A : Option Addr} {l : List (Int × Int)} (h : RatsA w A l) (hb : Below w.heap.size w w') : RatsA w' A l := fun j hj => by
  obtain ⟨b, off, rfl, h1, h2⟩ := h j hj
  have hlt : ∀ o v, w.cell? ⟨b, o, none⟩ = some v → w'.cell? ⟨b, o, none⟩ = some v := fun o v hv => by
    have hl : b < w.heap.size := by
      rcases Nat.lt_or_ge b w.heap.size with h' | h'
      · exact h'
      · exfalso
        simp only [World.cell?] at hv
        rw [Array.getElem?_eq_none h'] at hv
        cases hv
    simp only [World.cell?] at hv ⊢
    rw [hb.block b hl]
    exact hv
  exact ⟨b, off, rfl, hlt _ _ h1, hlt _ _ h2⟩
/-- Block g begins with N fractions. -/
def QRow (w : World) (g : Nat) (e : TypeId) (N : Nat) (f : Nat → Int × Int) : Prop :=
  ∃ cur : Array Value, w.heap[g]? = some (.cells cur e (0, 0)) ∧ cur.size = N * 2 ∧ ∀ j, j < N → cur[j * 2]? = some (.int .i64 (f j).1) ∧ cur[j * 2 + 1]? = some (.int .i64 (f j).2)
section
variable {w w' : World} {g : Nat} {e : TypeId} {N : Nat} {f : Nat → Int × Int}
theorem QRow.lt (h : QRow w g e N f) : g < w.heap.size := by obtain ⟨cur, h1, _⟩ := h; exact (Array.getElem?_eq_some_iff.1 h1).1
theorem QRow.cell (h : QRow w g e N f) (j : Nat) (hj : j < N) : w.cell? ⟨g, j * 2, none⟩ = some (.int .i64 (f j).1) ∧ w.cell? ⟨g, j * 2 + 1, none⟩ = some (.int .i64 (f j).2) := by
  obtain ⟨cur, h1, _, h2⟩ := h
  obtain ⟨a, b⟩ := h2 j hj
  exact ⟨by simp [World.cell?, h1, a], by simp [World.cell?, h1, b]⟩
theorem QRow.frozen (h : QRow w g e N f) (o : Nat) : w.frozen? ⟨g, o, none⟩ = false := by
  obtain ⟨cur, h1, _⟩ := h
  simp [World.frozen?, h1]
theorem QRow.later (h : QRow w g e N f) (hb : Below w.heap.size w w') : QRow w' g e N f := by
  have hlt := h.lt
  obtain ⟨cur, h1, h2⟩ := h
  exact ⟨cur, (hb.block g hlt).trans h1, h2⟩
theorem QRow.drewN (h : QRow w g e N f) (q : Nat) : QRow (w.drewN q) g e N f := h
theorem QRow.congr {f' : Nat → Int × Int} (h : QRow w g e N f) (hf : ∀ j, j < N → f j = f' j) : QRow w g e N f' := by
  obtain ⟨cur, h1, h2, h3⟩ := h
  exact ⟨cur, h1, h2, fun j hj => by rw [← hf j hj]; exact h3 j hj⟩
theorem QRow.set (h : QRow w g e N f) (p : Nat) (hp : p < N) (x y : Int) :
    QRow ((w.setCell ⟨g, p * 2, none⟩ (.int .i64 x)).setCell ⟨g, p * 2 + 1, none⟩ (.int .i64 y)) g e N (fun j => if j = p then (x, y) else f j) := by
  obtain ⟨cur, h1, h2, h3⟩ := h
  refine ⟨(cur.setIfInBounds (p * 2) (.int .i64 x)).setIfInBounds (p * 2 + 1) (.int .i64 y), ?_, by simpa using h2, fun j hj => ?_⟩
  · simp [World.setCell, Array.getElem?_modify, h1]
  · obtain ⟨a, b⟩ := h3 j hj
    by_cases e : j = p
    · subst e
      simp only [if_true]
      refine ⟨?_, ?_⟩
      · rw [Array.getElem?_setIfInBounds, if_neg (by omega), Array.getElem?_setIfInBounds, if_pos rfl, if_pos (by omega)]
      · rw [Array.getElem?_setIfInBounds, if_pos rfl, if_pos (by simp; omega)]
    · simp only [if_neg e]
      refine ⟨?_, ?_⟩ <;>
        rw [Array.getElem?_setIfInBounds, if_neg (by omega), Array.getElem?_setIfInBounds, if_neg (by omega)] <;> assumption
theorem QRow.rats (h : QRow w g e N f) (l : List (Int × Int)) (hl : l.length ≤ N) (hf : ∀ j, j < l.length → f j = l.getD j (0, 0)) : RatsA w (some ⟨g, 0, none⟩) l := fun j hj => by
  obtain ⟨a, b⟩ := h.cell j (by omega)
  rw [hf j hj] at a b
  exact ⟨g, 0, rfl, by rw [Nat.zero_add]; exact a, by rw [Nat.zero_add]; exact b⟩
end
theorem infoQ : (Tryd.prog.info? 23).map (fun i => (i.zero, i.size, i.bytes)) = some (some (.agg #[.int .i64 0, .int .i64 0]), 2, 16) := by kernel_rfl
theorem info_partsQ {o : Option TypeInfo} {z : Value} {n b : Nat} (h : o.map (fun i => (i.zero, i.size, i.bytes)) = some (some z, n, b)) : ∃ i, o = some i ∧ i.zero = some z ∧ i.size = n ∧ i.bytes = b := by
  cases o with
  | none => cases h
  | some i =>
    simp only [Option.map_some, Option.some.injEq, Prod.mk.injEq] at h
    exact ⟨i, rfl, h.1, h.2.1, h.2.2⟩
theorem qrow_made (w : World) (e : TypeId) (N : Nat) : QRow (w.alloc (.cells (madeCells #[.int .i64 0, .int .i64 0] (N * 2)) e)) w.heap.size e N (fun _ => (0, 0)) := by
  refine ⟨_, heap_alloc_new _ _, by simp [madeCells], fun j hj => ?_⟩
  have h0 : j * 2 < N * 2 := by omega
  have h1 : j * 2 + 1 < N * 2 := by omega
  have e0 : j * 2 % 2 = 0 := by omega
  have e1 : (j * 2 + 1) % 2 = 1 := by omega
  simp [madeCells, h0, h1, e0, e1]

/-- The copy, and its marks. -/
def handQ (l : List (Int × Int)) (j : Nat) : Int × Int := if j < l.length then l.getD j (0, 0) else (-700 - j + l.length, 77)
/-- The first p places of it. -/
def handQp (l : List (Int × Int)) (p j : Nat) : Int × Int := if j < p then handQ l j else (0, 0)
def HandQ (w0 : World) (l : List (Int × Int)) (p : Nat) (wr : World) : Prop := Below w0.heap.size w0 wr ∧ QRow wr w0.heap.size 23 (l.length + 9) (handQp l p)
theorem HandQ.next {w0 wr : World} {l : List (Int × Int)} {p : Nat} (h : HandQ w0 l p wr) (hp : p < l.length + 9) (x y : Int) (hx : handQ l p = (x, y)) :
    HandQ w0 l (p + 1) ((wr.setCell ⟨w0.heap.size, p * 2, none⟩ (.int .i64 x)).setCell ⟨w0.heap.size, p * 2 + 1, none⟩ (.int .i64 y)) := by
  refine ⟨(h.1.setCell (p := ⟨w0.heap.size, _, none⟩) (Nat.le_refl _) _).setCell (p := ⟨w0.heap.size, _, none⟩) (Nat.le_refl _) _, (h.2.set p hp x y).congr fun j hj => ?_⟩
  unfold handQp
  by_cases e : j = p
  · subst e; rw [if_pos rfl, if_pos (by omega), hx]
  · rw [if_neg e]
    by_cases e2 : j < p
    · rw [if_pos e2, if_pos (by omega)]
    · rw [if_neg e2, if_neg (by omega)]

set_option maxHeartbeats 1000000 in
set_option maxRecDepth 100000 in
theorem handrats_any (A : Option Addr) (c : Nat) (l : List (Int × Int)) (w : World) (hI : RatsA w A l) (hmax : l.length ≤ 8796093022000) :
    Calls Tryd.prog 34 #[.slice A l.length c] w fun e w' => e = .returned (.slice (some ⟨w.heap.size, 0, none⟩) l.length (l.length + 9)) ∧ HandQ w l (l.length + 9) w' := by
  have HI := Lib.hid hI
  obtain ⟨i0, hi1, hz0, hz1, hz2⟩ := info_partsQ infoQ
  have hmk := fun w => run_make (P := Tryd.prog) w 37 23 i0 (.agg #[.int .i64 0, .int .i64 0]) Tryd.underlying37 hi1 hz0 .i64 .i64 ((l.length : Int) + 9) ((l.length : Int) + 9) (by omega) (Int.le_refl _) (by rw [hz2]; omega) (by omega)
  rw [hz1, show ((l.length : Int) + 9).toNat = l.length + 9 by omega] at hmk
  have HS := Lib.hid (show HandQ w l 0 (w.alloc (.cells (madeCells #[.int .i64 0, .int .i64 0] ((l.length + 9) * 2)) 23)) from ⟨(Below.refl _ _).alloc (Nat.le_refl _) _, (qrow_made w _ _).congr fun j _ => by unfold handQp; rw [if_neg (by omega)]⟩)
  clear hI hi1 hz0 hz1 hz2
  go_enter Tryd.func34, Tryd.ntmps34
  go_wp2
  generalize w.alloc (.cells (madeCells #[.int .i64 0, .int .i64 0] ((l.length + 9) * 2)) 23) = w1 at *
  go_loopg [4] l.length (fun g v wr => ∃ p : Nat, v = .int .i64 p ∧ Hid (HandQ w l p wr) ∧ Hid (p ≤ l.length ∧ g + p = l.length))
  case atStart => exact ⟨0, by simp, HS.out, by omega, by omega⟩
  case round =>
    clear HS
    obtain ⟨p, rfl, HR, HG⟩ := hrel
    by_cases hp : p < l.length
    · obtain ⟨b, off, rfl, c1, c2⟩ := HI.out.below HR.out.1 p hp
      obtain ⟨x, hx⟩ : ∃ x, x = l.getD p (0, 0) := ⟨_, rfl⟩
      rw [← hx] at c1 c2
      have HX := Lib.hid hx
      clear hx
      obtain ⟨xi, xj⟩ := x
      simp only at c1 c2
      obtain ⟨d1, d2⟩ := HR.out.2.cell p (by omega)
      have f1 := HR.out.2.frozen (p * 2)
      have f2 := HR.out.2.frozen (p * 2 + 1)
      have hpi : (p : Int) < (l.length : Int) + 9 := by omega
      have hlt := HR.out.2.lt
      have HN := Lib.hid (HR.out.next (by omega) xi xj (by unfold handQ; rw [if_pos hp, HX.out]))
      go_wp2
      go_roundg (gk - 1)
      case measure => have h := HG.out; omega
      case rel => exact ⟨p + 1, by go_num, HN.out, by omega, by have h := HG.out; omega⟩
    · have e : p = l.length := by have := HG.out.1; omega
      subst e
      have HR0 := Lib.hid HR.out
      clear HR HG
      go_wp2
      go_loopg [5] 9 (fun g v wr => ∃ p : Nat, v = .int .i64 p ∧ Hid (HandQ w l p wr) ∧ Hid (l.length ≤ p ∧ p ≤ l.length + 9 ∧ g + p = l.length + 9))
      case atStart => exact ⟨l.length, by simp, HR0.out, by omega, by omega, by omega⟩
      case round =>
        clear HR0
        obtain ⟨p, rfl, HR, HG⟩ := hrel
        by_cases hp : p < l.length + 9
        · obtain ⟨d1, d2⟩ := HR.out.2.cell p hp
          have f1 := HR.out.2.frozen (p * 2)
          have f2 := HR.out.2.frozen (p * 2 + 1)
          have hpi : (p : Int) < (l.length : Int) + 9 := by omega
          have hlt := HR.out.2.lt
          have g1 : IntKind.i64.wrap (-700 - (p : Int)) = -700 - (p : Int) := IntWalk.i64_in _ (by omega)
          have g2 : IntKind.i64.wrap (-700 - (p : Int) + (l.length : Int)) = -700 - (p : Int) + (l.length : Int) := IntWalk.i64_in _ (by omega)
          have HN := Lib.hid (HR.out.next hp (-700 - (p : Int) + (l.length : Int)) 77 (by unfold handQ; rw [if_neg (by have := HG.out.1; omega)]))
          go_wp2
          go_roundg (gk - 1)
          case measure => have h := HG.out; omega
          case rel => exact ⟨p + 1, by go_num, HN.out, by have h := HG.out; omega, by omega, by have h := HG.out; omega⟩
        · have e : p = l.length + 9 := by have := HG.out; omega
          subst e
          have hpi : ¬ (((l.length + 9 : Nat) : Int) < (l.length : Int) + 9) := by omega
          go_wp2
          go_ret
          exact ⟨by first | rfl | (congr 2; omega), HR.out⟩
theorem HandQ.rats {w0 w : World} {l : List (Int × Int)} (h : HandQ w0 l (l.length + 9) w) : RatsA w (some ⟨w0.heap.size, 0, none⟩) l :=
  h.2.rats l (by omega) fun j hj => by unfold handQp handQ; rw [if_pos (by omega), if_pos hj]
theorem HandQ.step {w0 w w' : World} {l : List (Int × Int)} {p : Nat} (h : HandQ w0 l p w) (hb : Below w.heap.size w w') : HandQ w0 l p w' := ⟨h.1.trans (hb.mono h.1.size), h.2.later hb⟩

set_option maxRecDepth 100000 in
set_option maxHeartbeats 1000000 in
theorem samerats_eq (A : Option Addr) (c : Nat) (B : Option Addr) (d : Nat) (l : List (Int × Int)) (w : World) (hI : RatsA w A l) (hI' : RatsA w B l) (hmax : l.length ≤ 8796093022000) :
    Calls Tryd.prog 66 #[.slice A l.length c, .slice B l.length d] w fun e w' => e = .returned (.bool true) ∧ Below w.heap.size w w' := by
  have HI := Lib.hid hI
  have HI' := Lib.hid hI'
  have t1 : ((l.length : Int) != (l.length : Int)) = false := by simp
  clear hI hI'
  go_enter Tryd.func66, Tryd.ntmps66
  go_wp2
  go_loopg [5] l.length (fun g v wr => ∃ p : Nat, v = .int .i64 p ∧ Hid (Below w.heap.size w wr) ∧ Hid (p ≤ l.length ∧ g + p = l.length))
  case atStart => exact ⟨0, by simp, Lib.hid (Below.refl _ _), by omega, by omega⟩
  case round =>
    obtain ⟨p, rfl, HB, HG⟩ := hrel
    by_cases hp : p < l.length
    · obtain ⟨b, off, rfl, c1, c2⟩ := HI.out.below HB.out p hp
      obtain ⟨b', off', rfl, d1, d2⟩ := HI'.out.below HB.out p hp
      have hpi : (p : Int) < (l.length : Int) := by omega
      obtain ⟨x, hx⟩ : ∃ x, x = l.getD p (0, 0) := ⟨_, rfl⟩
      rw [← hx] at c1 c2 d1 d2
      clear hx
      obtain ⟨xi, xj⟩ := x
      simp only at c1 c2 d1 d2
      go_wp2_with fail
      go_quiet (fail)
      go_wp2
      go_roundg (gk - 1)
      case measure => have h := HG.out; omega
      case rel => exact ⟨p + 1, by go_num, Lib.hid (belowN HB.out _), by omega, by have h := HG.out; omega⟩
    · have e : p = l.length := by have := HG.out.1; omega
      subst e
      go_wp2
      go_ret
      exact ⟨rfl, HB.out⟩

set_option maxRecDepth 100000 in
set_option maxHeartbeats 1000000 in
theorem keptrats_any (B : Option Addr) (d : Nat) (l : List (Int × Int)) (w0 : World) (w : World) (hh : HandQ w0 l (l.length + 9) w) (hI : RatsA w B l) (hmax : l.length ≤ 8796093022000) :
    Calls Tryd.prog 41 #[.slice (some ⟨w0.heap.size, 0, none⟩) l.length (l.length + 9), .slice B l.length d] w fun e w' => e = .returned (.bool true) ∧ Below w.heap.size w w' := by
  have HH := Lib.hid hh
  have HS := Lib.hid (samerats_eq (some ⟨w0.heap.size, 0, none⟩) (l.length + 9) B d l w hh.rats hI hmax)
  clear hh hI
  go_enter Tryd.func41, Tryd.ntmps41
  go_wp2_with fail
  refine HS.out.mono ?_
  rintro e w1 ⟨rfl, hb⟩
  have HT := Lib.hid (HH.out.2.later hb)
  have HB := Lib.hid hb
  clear HS HH hb
  go_wp2
  go_loopg [6] 9 (fun g v wr => ∃ p : Nat, v = .int .i64 p ∧ w1 = wr ∧ Hid (l.length ≤ p ∧ p ≤ l.length + 9 ∧ g + p = l.length + 9))
  case atStart => exact ⟨l.length, by simp, rfl, by omega, by omega, by omega⟩
  case round =>
    obtain ⟨p, rfl, rfl, HG⟩ := hrel
    by_cases hp : p < l.length + 9
    · obtain ⟨c1, c2⟩ := HT.out.cell p hp
      have hf : handQp l (l.length + 9) p = (-700 - (p : Int) + (l.length : Int), 77) := by
        unfold handQp handQ; rw [if_pos hp, if_neg (by have := HG.out.1; omega)]
      rw [hf] at c1 c2
      simp only at c1 c2
      have hpi : (p : Int) < (l.length : Int) + 9 := by omega
      have g1 : IntKind.i64.wrap (-700 - (p : Int)) = -700 - (p : Int) := IntWalk.i64_in _ (by omega)
      have g2 : IntKind.i64.wrap (-700 - (p : Int) + (l.length : Int)) = -700 - (p : Int) + (l.length : Int) := IntWalk.i64_in _ (by omega)
      clear hf
      go_wp2
      go_roundg (gk - 1)
      case measure => have h := HG.out; omega
      case rel => exact ⟨p + 1, by go_num, rfl, by have h := HG.out; omega, by omega, by have h := HG.out; omega⟩
    · have e : p = l.length + 9 := by have := HG.out; omega
      subst e
      have hpi : ¬ (((l.length + 9 : Nat) : Int) < (l.length : Int) + 9) := by omega
      go_wp2
      go_ret
      exact ⟨rfl, HB.out⟩

end Go.Proofs.YtmgdhlcgbgpgpaaDoor

/- Sums, the least and the greatest of a row of fractions: plain. -/
namespace Go.Proofs.YtmgdhlcgbgpgpaaDoor
set_option linter.unusedVariables false
set_option linter.unusedSimpArgs false

/-- The sum on from a fraction. -/
def sumOn : List (Int × Int) → Int × Int → (Int × Int) × Int
  | [], s => (s, 0)
  | r :: l, s => if (addP s r).2 = 0 then sumOn l (addP s r).1 else ((0, 0), (addP s r).2)
def sumLP (l : List (Int × Int)) : (Int × Int) × Int := match l with | [] => ((0, 1), 0) | r :: l => if rightR r = true then sumOn l r else ((0, 0), 7)
theorem sumOn_step (l : List (Int × Int)) (p : Nat) (hp : p < l.length) (s : Int × Int) : sumOn (l.drop p) s = if (addP s (l.getD p (0, 0))).2 = 0 then sumOn (l.drop (p + 1)) (addP s (l.getD p (0, 0))).1 else ((0, 0), (addP s (l.getD p (0, 0))).2) := by
  rw [List.drop_eq_getElem_cons hp]
  have e : l.getD p (0, 0) = l[p] := by rw [List.getD_eq_getElem?_getD, List.getElem?_eq_getElem hp]; rfl
  rw [e]
  rfl
theorem sumOn_end (l : List (Int × Int)) (s : Int × Int) : sumOn (l.drop l.length) s = (s, 0) := by rw [List.drop_length]; rfl
/-- The choice among the first p. -/
def bestUp (so : Int) (l : List (Int × Int)) : Nat → Int × Int
  | 0 => (0, 0)
  | p + 1 => if p = 0 ∨ cmpP (l.getD p (0, 0)) (bestUp so l p) = so then l.getD p (0, 0) else bestUp so l p
def choiceP (so : Int) (l : List (Int × Int)) : (Int × Int) × Bool := if l.all rightR = true then (bestUp so l l.length, decide (0 < l.length)) else ((0, 0), false)

end Go.Proofs.YtmgdhlcgbgpgpaaDoor

/- Sums of rows of fractions, as rat makes them. -/
namespace Go.Proofs.YtmgdhlcgbgpgpaaDoor
open Go Go.RowKit
set_option linter.unusedVariables false
set_option linter.unusedSimpArgs false

def All64 (l : List (Int × Int)) : Prop := ∀ j, j < l.length → I64 (l.getD j (0, 0)).1 ∧ I64 (l.getD j (0, 0)).2
theorem RtS.front {w0 wr : World} {L M : List (Nat × Int × Int)} (h : RtS w0 (L ++ M) wr) : RtS w0 L wr :=
  ⟨⟨h.r.below, fun t ht => h.r.l t (List.mem_append_left _ ht), h.r.tab⟩, (List.pairwise_append.1 h.s).1, fun t ht => h.lo t (List.mem_append_left _ ht), h.t0⟩
theorem RtS.one {w0 : World} (h : RtS w0 [] w0) (x y : Int) : RtS w0 [(w0.heap.size, x, y)] (w0.alloc (.cells #[.int .i64 x, .int .i64 y] 23)) := h.new x y
theorem RtS.told {w0 wr : World} {L : List (Nat × Int × Int)} (h : RtS w0 L wr) (j : Nat) {g : Nat} {x y : Int} (hj : L[j]? = some (g, x, y)) (u v : Int) :
    ((wr.setCell ⟨g, 0, none⟩ (.int .i64 u)).setCell ⟨g, 1, none⟩ (.int .i64 v)).heap[g]? = some (.cells #[.int .i64 u, .int .i64 v] 23) ∧ Below w0.heap.size w0 ((wr.setCell ⟨g, 0, none⟩ (.int .i64 u)).setCell ⟨g, 1, none⟩ (.int .i64 v)) := by
  have h2 := h.put j hj u v
  have hjl : j < L.length := (List.getElem?_eq_some_iff.1 hj).1
  exact ⟨h2.r.l (g, u, v) (List.mem_of_getElem? (i := j) (by rw [List.getElem?_set]; simp [hjl])), h2.r.below⟩

theorem RatsA.cells {w : World} {b off : Nat} {l : List (Int × Int)} (h : RatsA w (some ⟨b, off, none⟩) l) (j : Nat) (hj : j < l.length) : w.cell? ⟨b, off + j * 2, none⟩ = some (.int .i64 (l.getD j (0, 0)).1) ∧ w.cell? ⟨b, off + j * 2 + 1, none⟩ = some (.int .i64 (l.getD j (0, 0)).2) := by
  obtain ⟨b', off', e, h1, h2⟩ := h j hj
  simp only [Option.some.injEq, Addr.mk.injEq, and_true] at e
  obtain ⟨rfl, rfl⟩ := e
  exact ⟨h1, h2⟩

set_option maxRecDepth 100000 in
set_option maxHeartbeats 8000000 in
theorem rsum_any (A : Option Addr) (c : Nat) (l : List (Int × Int)) (w : World) (hI : RatsA w A l) (hmax : l.length ≤ 8796093022000) (h64 : All64 l) (hc : l.length ≤ c) (hc1 : ¬ c = 1) (ht : TabQ w) :
    Calls Tryd.prog 35 #[.slice A l.length c] w fun e w' => e = .returned (.tuple #[.agg #[.int .i64 (sumLP l).1.1, .int .i64 (sumLP l).1.2], .int .i64 (sumLP l).2]) ∧ Below w.heap.size w w' := by
  have HI := Lib.hid hI
  have H64 := Lib.hid h64
  have HL := Lib.hid hmax
  have K := Lib.hid ((RtS.start ht).one 0 0)
  obtain ⟨R, hR⟩ : ∃ q, q = sumLP l := ⟨_, rfl⟩
  rw [← hR]
  have HR := Lib.hid hR
  clear hR hI h64 hmax ht
  by_cases hl0 : l = []
  · subst hl0
    have HE : Hid (R = ((0, 1), 0)) := Lib.hid (by rw [HR.out]; rfl)
    clear HR HI H64 HL
    go_enter Tryd.func35, Tryd.ntmps35
    go_upto_region 1 with fail
    generalize w.alloc (.cells #[.int .i64 0, .int .i64 0] 23) = w1 at *
    go_wp2_with fail
    refine (rof2_any 0 _).mono ?_
    rintro e w2 ⟨rfl, hb⟩
    replace K := Lib.hid (K.out.step hb)
    clear hb
    obtain ⟨z1, z2, z3, z4⟩ := K.out.cells 0 rfl
    obtain ⟨t1, t2⟩ := K.out.told 0 rfl 0 1
    have T1 := Lib.hid t1
    have T2 := Lib.hid t2
    clear t1 t2
    go_wp2
    refine bodyPost_ret (results_row_tmp (fn := Tryd.f35) rfl _ _ w.heap.size _ _ _ _ rfl T1.out Tryd.underlying23 rfl (by kernel_rfl)) rfl ?_
    exact ⟨by rw [HE.out]; rfl, T2.out⟩
  · have hpos : 0 < l.length := by
      cases l with
      | nil => exact absurd rfl hl0
      | cons a t => simp
    obtain ⟨b, off, rfl, c1, c2⟩ := HI.out 0 hpos
    obtain ⟨r, hr⟩ : ∃ q, q = l.getD 0 (0, 0) := ⟨_, rfl⟩
    have hcons : l = r :: l.drop 1 := by
      cases l with
      | nil => exact absurd rfl hl0
      | cons a t => rw [hr]; rfl
    have HS : Hid (R = if rightR r = true then sumOn (l.drop 1) r else ((0, 0), 7)) := Lib.hid (by
      rw [HR.out]
      conv => lhs; rw [hcons]
      rfl)
    have hr64 := H64.out 0 hpos
    rw [← hr] at c1 c2 hr64
    obtain ⟨r1, r2⟩ := r
    have HRD := Lib.hid hr
    have R64 := Lib.hid hr64
    have HRI := Lib.hid (fun W => right_any r1 r2 hr64.1 hr64.2 W)
    obtain ⟨rb, hrb⟩ : ∃ q, q = rightR (r1, r2) := ⟨_, rfl⟩
    rw [← hrb] at HRI HS
    have hpi : (0 : Int) < (l.length : Int) := by omega
    have e0 : ((l.length : Int) == 0) = false := beq_eq_false_iff_ne.2 (by omega)
    clear hcons hr hr64 HR hl0 hrb
    go_enter Tryd.func35, Tryd.ntmps35
    go_upto_region 1 with fail
    have C1 := Lib.hid (HI.out.below K.out.r.below)
    generalize w.alloc (.cells #[.int .i64 0, .int .i64 0] 23) = w1 at *
    obtain ⟨d1, d2⟩ := C1.out.cells 0 hpos
    rw [← HRD.out] at d1 d2
    simp only [Nat.zero_mul, Nat.add_zero] at d1 d2
    clear c1 c2
    go_wp2_with fail
    refine (HRI.out _).mono ?_
    rintro e w2 ⟨rfl, hb⟩
    replace K := Lib.hid (K.out.step hb)
    have C2 := Lib.hid (C1.out.below hb)
    clear hb d1 d2 C1
    cases rb with
    | false =>
      have HE := Lib.hid (HS.out.trans (if_neg (by simp)))
      obtain ⟨z1, z2, z3, z4⟩ := K.out.cells 0 rfl
      obtain ⟨t1, t2⟩ := K.out.told 0 rfl 0 0
      have T1 := Lib.hid t1
      have T2 := Lib.hid t2
      clear t1 t2
      go_wp2
      refine bodyPost_ret (results_row_tmp (fn := Tryd.f35) rfl _ _ w.heap.size _ _ _ _ rfl T1.out Tryd.underlying23 rfl (by kernel_rfl)) rfl ?_
      exact ⟨by rw [HE.out]; rfl, T2.out⟩
    | true =>
      have HE := Lib.hid (HS.out.trans (if_pos (by simp)))
      obtain ⟨d1, d2⟩ := C2.out.cells 0 hpos
      rw [← HRD.out] at d1 d2
      simp only [Nat.zero_mul, Nat.add_zero] at d1 d2
      go_upto_region 6 with fail
      replace K := Lib.hid (K.out.new r1 r2)
      generalize w2.alloc (.cells #[.int .i64 r1, .int .i64 r2] 23) = w3 at *
      generalize w2.heap.size = g4 at *
      simp only [List.cons_append, List.nil_append] at K
      clear d1 d2
      have q1 : (1 : Int) ≤ (l.length : Int) := by omega
      have q2 : (l.length : Int) ≤ (c : Int) := by omega
      go_wp2
      go_loopg [24] l.length (fun g s24 wr => ∃ (i : Nat) (s : Int × Int), s24 = .int .i64 i ∧ Hid (RtS w [(w.heap.size, 0, 0), (g4, s.1, s.2)] wr) ∧ Hid (i + 1 ≤ l.length ∧ g + i = l.length ∧ I64 s.1 ∧ I64 s.2 ∧ sumOn (l.drop (i + 1)) s = R))
      case atStart => exact ⟨0, (r1, r2), by simp, K, Lib.hid ⟨by omega, by omega, R64.out.1, R64.out.2, HE.out.symm⟩⟩
      case round =>
        clear K
        obtain ⟨i, ⟨s1, s2⟩, rfl, K, HG⟩ := hrel
        by_cases hp : i + 1 < l.length
        · have hpi : (i : Int) < ((l.length - 1 : Nat) : Int) := by omega
          have C3 := Lib.hid (HI.out.below K.out.r.below)
          obtain ⟨d1, d2⟩ := C3.out.cells (i + 1) hp
          have x64 := H64.out (i + 1) hp
          have hst := sumOn_step l (i + 1) hp (s1, s2)
          obtain ⟨x, hx⟩ : ∃ q, q = l.getD (i + 1) (0, 0) := ⟨_, rfl⟩
          rw [← hx] at d1 d2 x64 hst
          obtain ⟨x1, x2⟩ := x
          obtain ⟨⟨⟨v1, v2⟩, ev⟩, hv⟩ : ∃ q, q = addP (s1, s2) (x1, x2) := ⟨_, rfl⟩
          have v64 := addP64 (s1, s2) (x1, x2)
          have HAD : Hid (∀ W, Calls Tryd.prog 24 #[.agg #[.int .i64 s1, .int .i64 s2], .agg #[.int .i64 x1, .int .i64 x2]] W fun e w' => e = .returned (.tuple #[.agg #[.int .i64 v1, .int .i64 v2], .int .i64 ev]) ∧ Below W.heap.size W w') := Lib.hid (fun W => by have h := add_any s1 s2 x1 x2 HG.out.2.2.1 HG.out.2.2.2.1 x64.1 x64.2 W; rw [← hv] at h; exact h)
          rw [← hv] at hst v64
          have HST : Hid (R = if ev = 0 then sumOn (l.drop (i + 1 + 1)) (v1, v2) else ((0, 0), ev)) := Lib.hid (by rw [← HG.out.2.2.2.2]; exact hst)
          have V64 := Lib.hid v64
          rw [show off + (i + 1) * 2 = off + 2 + i * 2 by omega] at d1 d2
          have w5 : IntKind.i64.wrap ((i : Int) + 1) = ((i + 1 : Nat) : Int) := by rw [IntWalk.i64_in _ (by have := HL.out; omega)]; omega
          clear hx hv hst v64 x64
          go_upto_region 9 with fail
          replace K := Lib.hid (K.out.new x1 x2)
          generalize wr.alloc (.cells #[.int .i64 x1, .int .i64 x2] 23) = w4 at *
          generalize wr.heap.size = g6 at *
          simp only [List.cons_append, List.nil_append] at K
          obtain ⟨y1, y2, _, _⟩ := K.out.cells 1 rfl
          obtain ⟨y3, y4, _, _⟩ := K.out.cells 2 rfl
          go_wp2_with fail
          refine (HAD.out _).mono ?_
          rintro e w5 ⟨rfl, hb⟩
          replace K := Lib.hid (K.out.step hb)
          clear hb y1 y2 y3 y4 d1 d2 C3 HAD
          obtain ⟨z1, z2, z3, z4⟩ := K.out.cells 1 rfl
          go_upto_region 11 with fail
          replace K := Lib.hid (K.out.put 1 rfl v1 v2)
          generalize (w5.setCell ⟨g4, 0, none⟩ (.int .i64 v1)).setCell ⟨g4, 1, none⟩ (.int .i64 v2) = w6 at *
          simp only [List.set_cons_zero, List.set_cons_succ] at K
          clear z1 z2 z3 z4
          by_cases hev : ev = 0
          · have HE2 := Lib.hid (HST.out.trans (if_pos hev))
            have f1 : (ev == 0) = true := by simp [hev]
            have f2 : (ev != 0) = false := by simp [hev]
            clear hev
            go_wp2
            go_roundg (gk - 1)
            case measure => have h := HG.out.2.1; omega
            case rel => exact ⟨i + 1, (v1, v2), by go_num, Lib.hid (RtS.front (M := [(g6, x1, x2)]) K.out), Lib.hid ⟨by omega, by have h := HG.out.2.1; omega, V64.out.1, V64.out.2, HE2.out.symm⟩⟩
          · have HE2 := Lib.hid (HST.out.trans (if_neg hev))
            have f1 : (ev == 0) = false := by simp [hev]
            have f2 : (ev != 0) = true := by simp [hev]
            clear hev
            obtain ⟨z1, z2, z3, z4⟩ := K.out.cells 0 rfl
            obtain ⟨t1, t2⟩ := K.out.told 0 rfl 0 0
            have T1 := Lib.hid t1
            have T2 := Lib.hid t2
            clear t1 t2
            go_wp2
            refine bodyPost_ret (results_row_tmp (fn := Tryd.f35) rfl _ _ w.heap.size _ _ _ _ rfl T1.out Tryd.underlying23 rfl (by kernel_rfl)) rfl ?_
            exact ⟨by rw [HE2.out]; rfl, T2.out⟩
        · have hpi : ¬ (i : Int) < ((l.length - 1 : Nat) : Int) := by omega
          have HE2 : Hid (R = ((s1, s2), 0)) := Lib.hid (by
            have h := HG.out.2.2.2.2
            rw [show i + 1 = l.length by have := HG.out.1; omega, sumOn_end] at h
            exact h.symm)
          obtain ⟨y1, y2, _, _⟩ := K.out.cells 1 rfl
          obtain ⟨z1, z2, z3, z4⟩ := K.out.cells 0 rfl
          obtain ⟨t1, t2⟩ := K.out.told 0 rfl s1 s2
          have T1 := Lib.hid t1
          have T2 := Lib.hid t2
          clear t1 t2
          go_wp2
          refine bodyPost_ret (results_row_tmp (fn := Tryd.f35) rfl _ _ w.heap.size _ _ _ _ rfl T1.out Tryd.underlying23 rfl (by kernel_rfl)) rfl ?_
          exact ⟨by rw [HE2.out]; rfl, T2.out⟩

end Go.Proofs.YtmgdhlcgbgpgpaaDoor
