/- What DbmKeys tells. -/
import Derived.Test.YtgpmfnahjepjjaaLd
import Derived.Test.YtgpmfnahjepjjaaMky
import Derived.Deep.RegionWith
namespace Go.Proofs.Ytgpmfnahjepjjaa
open Go Go.RowKit
set_option linter.unusedVariables false
set_option linter.unusedSimpArgs false

theorem zoneP_ok {n : Nat} {M : Mat} : ((zoneP n M).2 = 0 ∧ ∃ z, (zoneP n M).1 = some z) ∨ ((zoneP n M).2 = 10 ∧ (zoneP n M).1 = none) := by
  unfold zoneP
  split
  · exact .inl ⟨rfl, _, rfl⟩
  · split
    · exact .inl ⟨rfl, _, rfl⟩
    · exact .inr ⟨rfl, rfl⟩
theorem ofP_ok {n : Int} {cells : List Int} : ((ofP n cells).2 = 0 ∧ ∃ z, (ofP n cells).1 = some z) ∨ ((ofP n cells).2 ≠ 0 ∧ (ofP n cells).1 = none) := by
  unfold ofP
  split
  · split
    · split
      · rcases zoneP_ok (n := n.toNat) (M := keepUp n.toNat cells cells.length) with h | h
        · exact .inl h
        · exact .inr ⟨by rw [h.1]; decide, h.2⟩
      · exact .inr ⟨by decide, rfl⟩
    · exact .inr ⟨by decide, rfl⟩
  · exact .inr ⟨by decide, rfl⟩
theorem zOf_ok {n : Int} {cells : List Int} (h : (ofP n cells).2 = 0) : ∃ m, zOf n cells = some (n.toNat, m) := by
  rcases ofP_ok (n := n) (cells := cells) with ⟨_, z, hz⟩ | ⟨h1, _⟩
  · exact ⟨z, by unfold zOf; rw [hz]; rfl⟩
  · exact absurd h h1

theorem mem_bd {xs : List Int} (h : ∀ q, q < xs.length → -2147483648 ≤ xs.getD q 0 ∧ xs.getD q 0 ≤ 2147483647) : ∀ c ∈ xs, -2147483648 ≤ c ∧ c ≤ 2147483647 := fun c hc => by
  obtain ⟨q, hq, rfl⟩ := List.getElem_of_mem hc
  have := h q hq
  rwa [List.getD_eq_getElem?_getD, List.getElem?_eq_getElem hq] at this

/-- A zone's key, as a text. -/
def keyS (n : Nat) (m : Mat) : ByteArray := strOfNums (keyL n (flat n m) (flat n m).length)
theorem key_conv {w : World} {base : Nat} {l : Value} {n : Nat} {m : Mat} (h : OwnI w base 5 .u8 l (keyZ (some (n, m)))) :
    ∃ g cap, l = .slice (some ⟨g, 0, none⟩) (keyZ (some (n, m))).length cap ∧ base ≤ g ∧ RowAt w g 5 .u8 (keyZ (some (n, m))) ∧
      ∀ w', RowAt w' g 5 .u8 (keyZ (some (n, m))) → (convert 47 9 (.slice (some ⟨g, 0, none⟩) (keyZ (some (n, m))).length cap)).run Try.prog w' = .ok (.string (keyS n m)) w' := by
  obtain ⟨g, cap, e, hg, hr⟩ := h.row (by show 0 < (keyL n (flat n m) (flat n m).length).length; rw [keyL_length]; omega)
  refine ⟨g, cap, e, hg, hr, fun w' h' => ?_⟩
  exact run_convert_bytes_arg w' 47 5 Try.underlying47 Try.underlying5 g 0 _ cap (keyZ (some (n, m))) rfl (fun i hi => by rw [Nat.zero_add]; exact h'.cell i hi) 9 Try.underlying9

set_option maxRecDepth 100000 in
set_option maxHeartbeats 2000000 in
theorem keys_law (n : Int) (A : Option Addr) (c : Nat) (cells : List Int) (B : Option Addr) (d : Nat) (other : List Int) (w : World) (hI : Ints w .i32 A cells) (hmax : cells.length ≤ 4611686018427387904)
    (hk : ∀ q, q < cells.length → -2147483648 ≤ cells.getD q 0 ∧ cells.getD q 0 ≤ 2147483647) (hI' : Ints w .i32 B other) (hmax' : other.length ≤ 4611686018427387904)
    (hk' : ∀ q, q < other.length → -2147483648 ≤ other.getD q 0 ∧ other.getD q 0 ≤ 2147483647) :
    Calls Try.prog 6 #[.int .i64 n, .slice A cells.length c, .slice B other.length d] w fun e w' => e = .returned (.bool true) ∧ Below w.heap.size w w' := by
  have HI := Lib.hid hI
  have HK := Lib.hid hk
  have HI' := Lib.hid hI'
  have HK' := Lib.hid hk'
  clear hI hk hI' hk'
  go_enter Try.func6, Try.ntmps6
  go_wp2_with fail
  refine (of_any n A c cells _ HI.out hmax HK.out).mono ?_
  rintro e w1 ⟨hb, v, rfl, hv⟩
  have HB1 := Lib.hid hb
  have HV1 := Lib.hid (show ZoneV 76 w1 v (zOf n cells) from hv)
  have HJ := Lib.hid (HI'.out.below hb)
  clear hb hv
  obtain ⟨ea, hea⟩ : ∃ ea, ea = (ofP n cells).2 := ⟨_, rfl⟩
  rw [← hea]
  have HEA := Lib.hid hea
  clear hea
  go_wp2_with fail
  refine (of_any n B d other _ HJ.out hmax' HK'.out).mono ?_
  rintro e w2 ⟨hb, u, rfl, hu⟩
  have HB2 := Lib.hid (HB1.out.trans (hb.mono HB1.out.size))
  have HV2 := Lib.hid (HV1.out.below hb)
  have HU2 := Lib.hid (show ZoneV 76 w2 u (zOf n other) from hu)
  clear hb hu HB1 HV1 HJ
  obtain ⟨eb, heb⟩ : ∃ eb, eb = (ofP n other).2 := ⟨_, rfl⟩
  rw [← heb]
  have HEB := Lib.hid heb
  clear heb
  by_cases h1 : ea = 0
  · by_cases h2 : eb = 0
    · have HZ := Lib.hid (zOf_shape HV2.out)
      have HO := Lib.hid (zOf_shape HU2.out)
      obtain ⟨m, hm⟩ := zOf_ok (HEA.out.symm.trans h1)
      obtain ⟨o, ho⟩ := zOf_ok (HEB.out.symm.trans h2)
      subst h1 h2
      rw [hm] at HZ HV2
      rw [ho] at HO HU2
      obtain ⟨k, hkn⟩ : ∃ k, k = n.toNat := ⟨_, rfl⟩
      rw [← hkn] at HZ HV2 HO HU2
      clear hm ho hkn HEA HEB
      have hk8 : k ≤ 8 := (HZ.out.2.1 k m rfl).1
      go_wp2_with fail
      refine (cells_any _ _ _ HV2.out).mono ?_
      rintro e w3 ⟨l1, rfl, hb, ho1⟩
      have HB3 := Lib.hid (HB2.out.trans (hb.mono HB2.out.size))
      have HV3 := Lib.hid (HV2.out.below hb)
      have HU3 := Lib.hid (HU2.out.below hb)
      have HO1 := Lib.hid (show OwnI w3 w2.heap.size 37 .i32 l1 (flat k m) from ho1)
      clear hb ho1 HB2 HV2 HU2
      go_wp2_with fail
      refine (cells_any _ _ _ HU3.out).mono ?_
      rintro e w4 ⟨l2, rfl, hb, ho2⟩
      have HB4 := Lib.hid (HB3.out.trans (hb.mono HB3.out.size))
      have HV4 := Lib.hid (HV3.out.below hb)
      have HU4 := Lib.hid (HU3.out.below hb)
      have ho1 := HO1.out.later hb
      have ho2 : OwnI w4 w3.heap.size 37 .i32 l2 (flat k o) := ho2
      obtain ⟨A1, c1, rfl, hi1⟩ := ho1.slice
      obtain ⟨A2, c2, rfl, hi2⟩ := ho2.slice
      clear ho1 ho2 HO1 hb HB3 HV3 HU3
      obtain ⟨N, hN⟩ : ∃ N, N = (k + 1) * (k + 1) := ⟨_, rfl⟩
      have hN81 : N ≤ 81 := by rw [hN]; have := Nat.mul_le_mul (show k + 1 ≤ 9 by omega) (show k + 1 ≤ 9 by omega); omega
      obtain ⟨xs, hxs⟩ : ∃ xs, xs = flat k m := ⟨_, rfl⟩
      obtain ⟨ys, hys⟩ : ∃ ys, ys = flat k o := ⟨_, rfl⟩
      have hlx : xs.length = N := by rw [hxs, hN, flat_length]
      have hly : ys.length = N := by rw [hys, hN, flat_length]
      rw [← hxs] at hi1 ⊢
      rw [← hys] at hi2 ⊢
      rw [hlx, hly]
      have HX := Lib.hid hi1
      have HY := Lib.hid hi2
      have HXS := Lib.hid hxs
      have HYS := Lib.hid hys
      have HLX := Lib.hid hlx
      have HLY := Lib.hid hly
      have hbx := mem_bd (xs := xs) (by rw [hxs]; exact HZ.out.2.2.2)
      have hby := mem_bd (xs := ys) (by rw [hys]; exact HO.out.2.2.2)
      obtain ⟨bq, hbq⟩ : ∃ bq, bq = decide (xs = ys) := ⟨_, rfl⟩
      have HEQ : Hid (equalP (some (k, m)) (some (k, o)) = bq) := Lib.hid (by
        rw [equal_law HZ.out.1 HO.out.1 (fun a b e => (HZ.out.2.1 a b e).1), hbq, hxs, hys]
        show (sameL (flat k m) (flat k o) && decide (k = k)) = _
        rw [decide_eq_true rfl, Bool.and_true]; rfl)
      have HKL := Lib.hid (key_less k hk8 xs ys (by rw [hlx, hly]) hbx hby)
      have HKS := Lib.hid (key_same k hk8 xs ys (by rw [hlx, hly]) hbx hby)
      rw [← hbq, hxs, hys] at HKS
      rw [show strOfNums (keyL k xs xs.length) = keyS k m by rw [hxs]; rfl, show strOfNums (keyL k ys ys.length) = keyS k o by rw [hys]; rfl] at HKL
      have HKS : Hid (((keyS k m).toList == (keyS k o).toList) = bq) := HKS
      clear hi1 hi2 hxs hys hlx hly hN hbx hby hbq
      go_wp2
      go_loopg [13, 14] N (fun g r i wr => ∃ p q : Nat, i = .int .i64 p ∧ r = .int .i64 (cmpUp xs ys p) ∧ wr = w4.drewN q ∧ Hid (p ≤ N ∧ g + p = N))
      case atStart => exact ⟨0, 0, by simp, by simp [cmpUp], rfl, by omega, by omega⟩
      case round =>
        obtain ⟨p, q, rfl, rfl, rfl, HG⟩ := hrel
        obtain ⟨r, hr⟩ : ∃ r, r = cmpUp xs ys p := ⟨_, rfl⟩
        rw [← hr]
        have hrb : -1 ≤ r ∧ r ≤ 1 := by rw [hr]; exact cmpUp_bd xs ys p
        have HR := Lib.hid hr
        clear hr
        by_cases hgo : p < N ∧ r = 0
        · obtain ⟨hp, hr0⟩ := hgo
          have HR0 := Lib.hid hr0
          subst hr0
          have hpi : (p : Int) < (N : Int) := by omega
          have hp81 : p < 81 := by omega
          obtain ⟨b1, o1, e1, hc1⟩ := HX.out p (by rw [HLX.out]; exact hp)
          obtain ⟨b2, o2, e2, hc2⟩ := HY.out p (by rw [HLY.out]; exact hp)
          subst e1 e2
          obtain ⟨x, hx⟩ : ∃ x, x = xs.getD p 0 := ⟨_, rfl⟩
          obtain ⟨y, hy⟩ : ∃ y, y = ys.getD p 0 := ⟨_, rfl⟩
          rw [← hx] at hc1
          rw [← hy] at hc2
          have hst : cmpUp xs ys (p + 1) = if x < y then -1 else if y < x then 1 else 0 := by
            show (if cmpUp xs ys p = 0 then (if xs.getD p 0 < ys.getD p 0 then (-1 : Int) else if ys.getD p 0 < xs.getD p 0 then 1 else 0) else cmpUp xs ys p) = _
            rw [← HR.out, if_pos rfl, ← hx, ← hy]
          have HST := Lib.hid hst
          clear hx hy hst
          by_cases l1 : x < y
          · have t1 : decide (x < y) = true := decide_eq_true l1
            have HL1 := Lib.hid l1
            clear l1
            go_wp2
            go_quiet (fail)
            go_wp2
            go_roundg (gk - 1)
            case measure => have h := HG.out; omega
            case rel => exact ⟨p + 1, _, by go_num, by rw [HST.out, if_pos HL1.out], rfl, by omega, by have h := HG.out.2; omega⟩
          · have t1 : decide (x < y) = false := decide_eq_false l1
            by_cases l2 : y < x
            · have t2 : decide (y < x) = true := decide_eq_true l2
              have HL1 := Lib.hid l1
              have HL2 := Lib.hid l2
              clear l1 l2
              go_wp2
              go_quiet (fail)
              go_wp2
              go_quiet (fail)
              go_wp2
              go_roundg (gk - 1)
              case measure => have h := HG.out; omega
              case rel => exact ⟨p + 1, _, by go_num, by rw [HST.out, if_neg (show ¬ x < y by have := HL1.out; omega), if_pos HL2.out], rfl, by omega, by have h := HG.out.2; omega⟩
            · have t2 : decide (y < x) = false := decide_eq_false l2
              have HL1 := Lib.hid l1
              have HL2 := Lib.hid l2
              clear l1 l2
              go_wp2
              go_quiet (fail)
              go_wp2
              go_quiet (fail)
              go_wp2
              go_roundg (gk - 1)
              case measure => have h := HG.out; omega
              case rel => exact ⟨p + 1, _, by go_num, by rw [HST.out, if_neg (show ¬ x < y by have := HL1.out; omega), if_neg (show ¬ y < x by have := HL2.out; omega)], rfl, by omega, by have h := HG.out.2; omega⟩
        · have hend : cmpUp xs ys xs.length = r := by
            rw [HLX.out]
            by_cases hp : p < N
            · have := cmpUp_stays (xs := xs) (ys := ys) (p := p) (by rw [← HR.out]; exact fun h => hgo ⟨hp, h⟩) (N - p)
              rw [show p + (N - p) = N by omega] at this
              rw [this, HR.out]
            · have : p = N := by have := HG.out.1; omega
              rw [← this, HR.out]
          have HKL' := Lib.hid (HKL.out.trans (by rw [hend]))
          clear hend
          have hor : (p < N ∧ (r == 0) = false) ∨ ¬ (p : Int) < (N : Int) := by
            by_cases hp : p < N
            · left; exact ⟨hp, by simp; exact fun h => hgo ⟨hp, h⟩⟩
            · right; omega
          clear hgo
          have HVq := Lib.hid (HV4.out.below (belowN (Below.refl _ _) q))
          have HUq := Lib.hid (HU4.out.below (belowN (Below.refl _ _) q))
          have HBq := Lib.hid (belowN HB4.out q)
          rcases hor with ⟨hp, t0⟩ | hnp
          all_goals
            first | (have hpi : (p : Int) < (N : Int) := by omega) | skip
            go_wp2_with fail
            generalize w4.drewN q = wq at *
            go_region_with (first
              | (go_at_call_of 27 v; refine (key_any v (some (k, m)) _ ?_).mono ?_; exact HVq.out; rintro e w6 ⟨l6, rfl, hb6, ho6⟩; have HB6 := Lib.hid ((Below.drew HBq.out).trans (hb6.mono HBq.out.size)); have HV6 := Lib.hid ((show ZoneV 76 wq.drew v (some (k, m)) from HVq.out).below hb6); have HU6 := Lib.hid ((show ZoneV 76 wq.drew u (some (k, o)) from HUq.out).below hb6); obtain ⟨g6, c6, rfl, hg6, hr6, hcv6⟩ := key_conv ho6; have hx6 := hcv6 w6 hr6; have HR6 := Lib.hid hr6; have HC6 := Lib.hid hcv6; clear hb6 ho6 hr6 hcv6)
              | (go_at_call_of 27 u; refine (key_any u (some (k, o)) _ ?_).mono ?_; exact HU6.out; rintro e w7 ⟨l7, rfl, hb7, ho7⟩; have HB7 := Lib.hid (HB6.out.trans (hb7.mono HB6.out.size)); have HV7 := Lib.hid (HV6.out.below hb7); have HU7 := Lib.hid (HU6.out.below hb7); obtain ⟨g7, c7, rfl, hg7, hr7, hcv7⟩ := key_conv ho7; have hx7 := hcv7 w7 hr7; have hx67 := HC6.out w7 (HR6.out.later hb7); clear hb7 ho7 hr7 hcv7))
            all_goals
              go_wp2_with fail
              refine (live_any _).mono ?_
              rintro e w8 ⟨rfl, hb⟩
              have HB8 := Lib.hid (HB7.out.trans (hb.mono HB7.out.size))
              have HV8 := Lib.hid (HV7.out.below hb)
              have HU8 := Lib.hid (HU7.out.below hb)
              clear hb hx6 hx7 hx67
              go_wp2_with fail
              refine (equal_any _ _ _ _ _ HV8.out HU8.out).mono ?_
              rw [HEQ.out]
              rintro e w9 ⟨rfl, hb⟩
              have HB9 := Lib.hid (HB8.out.trans (hb.mono HB8.out.size))
              clear hb
              have hks := HKS.out
              have hkl := HKL'.out
              go_wp2
              go_ret
              exact ⟨rfl, HB9.out⟩
    · have t1 : (eb != 0) = true := by simp [h2]
      subst h1
      clear h2
      go_wp2_with fail
      refine (live_any _).mono ?_
      rintro e w4 ⟨rfl, hb⟩
      have HB4 := Lib.hid (HB2.out.trans (hb.mono HB2.out.size))
      clear hb
      go_wp2
      go_ret
      exact ⟨rfl, HB4.out⟩
  · have t1 : (ea != 0) = true := by simp [h1]
    clear h1
    go_wp2_with fail
    refine (live_any _).mono ?_
    rintro e w4 ⟨rfl, hb⟩
    have HB4 := Lib.hid (HB2.out.trans (hb.mono HB2.out.size))
    clear hb
    go_wp2
    go_ret
    exact ⟨rfl, HB4.out⟩

end Go.Proofs.Ytgpmfnahjepjjaa
