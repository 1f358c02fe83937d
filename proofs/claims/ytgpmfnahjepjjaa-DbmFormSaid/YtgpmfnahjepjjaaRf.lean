/- The document's Of. -/
import Derived.Test.YtgpmfnahjepjjaaRe
import Derived.Test.YtgpmfnahjepjjaaMab
namespace Go.Proofs.Ytgpmfnahjepjjaa
open Go Go.RowKit
set_option linter.unusedVariables false
set_option linter.unusedSimpArgs false

theorem rright_yes (b : Int) (w : World) (h : rightB b = true) (h0 : -2147483648 ≤ b) (h1 : b ≤ 2147483647) : Calls Try.prog 48 #[.int .i32 b] w fun e w' => e = .returned (.bool true) ∧ w = w' :=
  (rright_any b w h0 h1).mono fun _ _ k => ⟨by rw [k.1, h], k.2⟩
theorem rright_no (b : Int) (w : World) (h : rightB b = false) (h0 : -2147483648 ≤ b) (h1 : b ≤ 2147483647) : Calls Try.prog 48 #[.int .i32 b] w fun e w' => e = .returned (.bool false) ∧ w = w' :=
  (rright_any b w h0 h1).mono fun _ _ k => ⟨by rw [k.1, h], k.2⟩

set_option maxRecDepth 100000 in
set_option maxHeartbeats 1000000 in
theorem rof_clock (n : Int) (A : Option Addr) (c : Nat) (cells : List Int) (w : World) (hn : ¬ (0 ≤ n ∧ n ≤ 8)) :
    Calls Try.prog 30 #[.int .i64 n, .slice A cells.length c] w (MakesR w n.toNat (ofP n cells)) := by
  have hz : ofP n cells = (none, 12) := by unfold ofP; rw [if_neg hn]
  rw [hz]
  clear hz
  by_cases h0 : n < 0
  · have d0 : decide (n < 0) = true := decide_eq_true h0
    go_enter Try.func30, Try.ntmps30
    go_wp2
    go_ret2
    exact ⟨Below.refl _ _, .pointer none, rfl, rfl⟩
  · have d0 : decide (n < 0) = false := decide_eq_false h0
    have h8 : 8 < n := by omega
    clear hn
    go_enter Try.func30, Try.ntmps30
    go_wp2
    go_ret2
    exact ⟨Below.refl _ _, .pointer none, rfl, rfl⟩

set_option maxRecDepth 100000 in
set_option maxHeartbeats 1000000 in
theorem rof_long (n : Nat) (A : Option Addr) (c : Nat) (cells : List Int) (w : World) (hn : n ≤ 8) (hlen : ¬ (cells.length : Int) = ((n : Int) + 1) * ((n : Int) + 1)) (hmax : cells.length ≤ 4611686018427387904) :
    Calls Try.prog 30 #[.int .i64 n, .slice A cells.length c] w (MakesR w n (ofP n cells)) := by
  have hz : ofP n cells = (none, 6) := by unfold ofP; rw [if_pos (by omega), if_neg hlen]
  rw [hz]
  clear hz
  have hm : ((n : Int) + 1) * ((n : Int) + 1) ≤ 9 * 9 := Int.mul_le_mul (by omega) (by omega) (by omega) (by omega)
  have hm0 : 0 ≤ ((n : Int) + 1) * ((n : Int) + 1) := Int.mul_nonneg (by omega) (by omega)
  have t1 : ((cells.length : Int) != ((n : Int) + 1) * ((n : Int) + 1)) = true := by simpa using hlen
  have d0 : decide ((n : Int) < 0) = false := decide_eq_false (by omega)
  clear hlen
  go_enter Try.func30, Try.ntmps30
  go_wp2
  go_ret2
  exact ⟨Below.refl _ _, .pointer none, rfl, rfl⟩

set_option maxRecDepth 100000 in
set_option maxHeartbeats 2000000 in
theorem rof_yes (n : Nat) (A : Option Addr) (c : Nat) (cells : List Int) (w : World) (hn : n ≤ 8) (hI : Ints w .i32 A cells) (hlen : (cells.length : Int) = ((n : Int) + 1) * ((n : Int) + 1))
    (hk : ∀ q, q < cells.length → -2147483648 ≤ cells.getD q 0 ∧ cells.getD q 0 ≤ 2147483647) :
    Calls Try.prog 30 #[.int .i64 n, .slice A cells.length c] w (MakesR w n (ofP n cells)) := by
  have hl81 : cells.length ≤ 81 := by
    have : ((n : Int) + 1) * ((n : Int) + 1) ≤ 9 * 9 := Int.mul_le_mul (by omega) (by omega) (by omega) (by omega)
    omega
  have hm : ((n : Int) + 1) * ((n : Int) + 1) ≤ 81 := by omega
  have hm0 : 0 ≤ ((n : Int) + 1) * ((n : Int) + 1) := by omega
  have HL := Lib.hid (show cells.length = (n + 1) * (n + 1) from by
    have : ((cells.length : Nat) : Int) = (((n + 1) * (n + 1) : Nat) : Int) := by rw [hlen]; simp
    omega)
  have HLI := Lib.hid hlen
  have HI := Lib.hid hI
  have HK := Lib.hid hk
  have t1 : ((cells.length : Int) != ((n : Int) + 1) * ((n : Int) + 1)) = false := by simp [hlen]
  have d0 : decide ((n : Int) < 0) = false := decide_eq_false (by omega)
  clear hlen hI hk
  go_enter Try.func30, Try.ntmps30
  go_wp2
  go_loopg [6] cells.length (fun g v wr => ∃ p : Nat, v = .int .i64 p ∧ w = wr ∧ Hid (p ≤ cells.length ∧ g + p = cells.length ∧ ∀ q, q < p → rightB (cells.getD q 0) = true))
  case atStart => exact ⟨0, by simp, rfl, by omega, by omega, fun q h => by omega⟩
  case round =>
    obtain ⟨p, rfl, rfl, HG⟩ := hrel
    by_cases hp : p < cells.length
    · obtain ⟨b, off, rfl, hc⟩ := HI.out p hp
      have hb := HK.out p hp
      obtain ⟨x, hx⟩ : ∃ x, x = cells.getD p 0 := ⟨_, rfl⟩
      rw [← hx] at hc hb
      have HX := Lib.hid hx
      clear hx
      obtain ⟨hb0, hb1⟩ := hb
      by_cases hr : rightB x = true
      · have HRR := Lib.hid hr
        clear hr
        go_wp2_with fail
        refine (rright_yes _ _ HRR.out hb0 hb1).mono ?_
        rintro e w' ⟨rfl, rfl⟩
        go_wp2
        go_roundg (gk - 1)
        case measure => have := HG.out; omega
        case rel =>
          refine ⟨p + 1, by go_num, rfl, by omega, by have := HG.out.2.1; omega, fun q hq => ?_⟩
          by_cases e : q = p
          · subst e; rw [← HX.out]; exact HRR.out
          · exact HG.out.2.2 q (by omega)
      · have hrf : rightB x = false := by simpa using hr
        have HRR := Lib.hid hrf
        clear hr hrf
        have hall : cells.all rightB = false := by
          rw [Bool.eq_false_iff]
          intro ha
          have := (all_getD cells rightB 0).1 ha p hp
          rw [← HX.out, HRR.out] at this
          cases this
        have hz : ofP n cells = (none, 7) := by
          unfold ofP; rw [if_pos (by omega), if_pos HLI.out, hall]; rfl
        have HZ := Lib.hid hz
        clear hz hall
        go_wp2_with fail
        refine (rright_no _ _ HRR.out hb0 hb1).mono ?_
        rintro e w' ⟨rfl, rfl⟩
        go_wp2
        go_ret2
        exact ⟨Below.refl _ _, .pointer none, by rw [HZ.out]; rfl, by rw [HZ.out]; rfl⟩
    · have e : p = cells.length := by have := HG.out.1; omega
      have hall : cells.all rightB = true := (all_getD cells rightB 0).2 (by rw [← e]; exact HG.out.2.2)
      have hr : ∀ q, q < (n + 1) * (n + 1) → rightB (cells.getD q 0) = true := fun q hq => HG.out.2.2 q (by rw [e, HL.out]; exact hq)
      have hz : ofP n cells = zoneP n (clUp (widM n cells) (n + 1)) := by
        unfold ofP; rw [if_pos (by omega), if_pos HLI.out, if_pos hall, Int.toNat_natCast, HL.out]
        exact (zoneP_agree (keep_wide hr)).symm
      have HZ := Lib.hid hz
      have HRR := Lib.hid hr
      clear hz hall hr e
      go_wp2_with fail
      refine (wide_any A c cells _ HI.out (by omega) HK.out).mono ?_
      rintro e w1 ⟨v, rfl, hw⟩
      have hown : OwnI w1 w.heap.size 2 .i64 v (widUp cells cells.length) := by
        unfold OwnI; rw [widUp_length]; exact hw.2.1
      obtain ⟨g, cp, hv, hge, hrow⟩ := hown.row (by rw [widUp_length, HL.out]; exact Nat.mul_pos (by omega) (by omega))
      rw [widUp_length] at hv
      have HW := Lib.hid hw.1
      have hrow2 : RowAt w1 g 2 .i64 (flat n (widM n cells)) := by
        rw [HL.out, widUp_flat] at hrow; exact hrow
      have HRow := Lib.hid hrow2
      clear hrow hrow2 hown hw
      rw [hv]
      clear hv
      go_wp2_with fail
      refine (made_any g n cells.length cp (widM n cells) _ hn HL.out HRow.out (widM_bd HRR.out) w.heap.size hge HW.out.size).mono ?_
      rintro e w2 ⟨hb, v2, rfl, hz2⟩
      have HB := Lib.hid hb
      have HZ2 := Lib.hid hz2
      clear hb hz2
      go_wp2
      go_ret2
      rw [HZ.out]
      exact ⟨HW.out.trans HB.out, v2, rfl, HZ2.out⟩

/-- The document's Of, whatever it is given. -/
theorem rof_any (n : Int) (A : Option Addr) (c : Nat) (cells : List Int) (w : World) (hI : Ints w .i32 A cells) (hmax : cells.length ≤ 4611686018427387904)
    (hk : ∀ q, q < cells.length → -2147483648 ≤ cells.getD q 0 ∧ cells.getD q 0 ≤ 2147483647) :
    Calls Try.prog 30 #[.int .i64 n, .slice A cells.length c] w (MakesR w n.toNat (ofP n cells)) := by
  by_cases hn : 0 ≤ n ∧ n ≤ 8
  · obtain ⟨k, rfl⟩ : ∃ k : Nat, n = k := ⟨n.toNat, by omega⟩
    by_cases hl : (cells.length : Int) = ((k : Int) + 1) * ((k : Int) + 1)
    · exact rof_yes k A c cells w (by omega) hI hl hk
    · exact rof_long k A c cells w (by omega) hl hmax
  · exact rof_clock n A c cells w hn

end Go.Proofs.Ytgpmfnahjepjjaa
