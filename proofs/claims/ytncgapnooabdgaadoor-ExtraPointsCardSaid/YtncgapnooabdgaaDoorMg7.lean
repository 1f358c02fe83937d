/- Texts of ours, laid together: Op, Kl, Kb, Kw, Row, Row9. -/
import Derived.Deep.RegionHeld3
import Derived.Test.YtncgapnooabdgaaDoorRows
import Derived.WalkKit
import Derived.ProofKit
import Derived.OpenShut
import Derived.Carry
import Derived.Lib.SmallJoins
import Derived.SizedLaws
import Derived.Test.YtncgapnooabdgaaDoorMg6
/- Print of a zone that is not empty. -/
namespace Go.Proofs.YtncgapnooabdgaaDoor
open Go Go.RowKit
set_option linter.unusedVariables false
set_option linter.unusedSimpArgs false

theorem right_bits {x : Int} (h : rightB x = true) : -2147483648 ≤ x ∧ x ≤ 2147483647 := by
  unfold rightB at h
  have := of_decide_eq_true h
  omega
theorem rowT_len {n i : Nat} {m : Mat} (hn : n ≤ 8) (hi : i ≤ n) (hr : RightM n m) : ∀ j, j ≤ n + 1 → (rowT m i j).length ≤ j * 76
  | 0, _ => by simp [rowT]
  | j + 1, hj => by
    have h1 := rowT_len hn hi hr j (by omega)
    have hb := right_bits (hr i j hi (by omega))
    have h2 := cellL_len m i j (by omega) (by omega) hb.1 hb.2
    show (rowT m i j ++ cellL m i j).length ≤ _
    rw [List.length_append]
    omega
theorem zoneT_len {n : Nat} {m : Mat} (hn : n ≤ 8) (hr : RightM n m) : ∀ i, i ≤ n + 1 → (zoneT n m i).length ≤ 22 + i * 684
  | 0, _ => by
    have := itoa_len n hn
    show (Lib.itoa n ++ [58]).length ≤ _
    rw [List.length_append]
    simp
    omega
  | i + 1, hi => by
    have h1 := zoneT_len hn hr i (by omega)
    have h2 := rowT_len hn (show i ≤ n by omega) hr (n + 1) (Nat.le_refl _)
    have h3 : (n + 1) * 76 ≤ 684 := by omega
    show (zoneT n m i ++ rowT m i (n + 1)).length ≤ _
    rw [List.length_append]
    omega
theorem cellL_yes {m : Mat} {i j : Nat} (h : i ≠ j ∧ m i j ≠ 2147483647 ∧ (i ≠ 0 ∨ m i j < 1)) : cellL m i j = [32, 120] ++ Lib.itoa i ++ [45, 120] ++ Lib.itoa j ++ printL (m i j) := by unfold cellL; rw [if_pos h]
theorem cellL_no {m : Mat} {i j : Nat} (h : ¬ (i ≠ j ∧ m i j ≠ 2147483647 ∧ (i ≠ 0 ∨ m i j < 1))) : cellL m i j = [] := by unfold cellL; rw [if_neg h]
theorem rowT_no {m : Mat} {i j : Nat} {T S : List UInt8} (hs : S = T ++ rowT m i j) (h : ¬ (i ≠ j ∧ m i j ≠ 2147483647 ∧ (i ≠ 0 ∨ m i j < 1))) : S = T ++ rowT m i (j + 1) := by
  rw [hs, rowT, cellL_no h, List.append_nil]
theorem rowT_yes {m : Mat} {i j : Nat} {T S : List UInt8} (hs : S = T ++ rowT m i j) (h : i ≠ j ∧ m i j ≠ 2147483647 ∧ (i ≠ 0 ∨ m i j < 1)) :
    S ++ ([32, 120] ++ Lib.itoa i ++ [45, 120] ++ Lib.itoa j ++ printL (m i j)) = T ++ rowT m i (j + 1) := by
  rw [hs, rowT, cellL_yes h, List.append_assoc]

set_option maxHeartbeats 2000000 in
set_option maxRecDepth 100000 in
theorem zprint_full (b n : Nat) (m : Mat) (w : World) (hn : n ≤ 8) (hm : MatAt w b 88 .i32 n m) (hr : RightM n m) (he : ¬ m 0 0 < 1) (ht : Tab w) :
    Calls Tryd.prog 44 #[.pointer (some ⟨b, 0, none⟩)] w (Says w ⟨(printZ (some (n, m))).toArray⟩) := by
  have HM := Lib.hid hm
  have h0 := hm.head
  have HI := Lib.hid (fun (k : Nat) (hk : k ≤ 8) w ht => itoa_any k (by omega) (by omega) w ht)
  have HP := Lib.hid (fun x w ht => print_any x w ht)
  have HT := Lib.hid ht
  have HE := Lib.hid (show printZ (some (n, m)) = zoneT n m (n + 1) by show (if m 0 0 < 1 then Lib.itoa n ++ [58] ++ [32, 101, 109, 112, 116, 121] else zoneT n m (n + 1)) = _; rw [if_neg he])
  have HEM := Lib.hid (fun w hm => empty_zone b n m w hm)
  rw [decide_eq_false he] at HEM
  have HLI := Lib.hid itoa_len
  have HR := Lib.hid hr
  have HZ0 := Lib.hid (show zoneT n m 0 = Lib.itoa n ++ [58] from rfl)
  obtain ⟨L, hL⟩ : ∃ L, L = Lib.itoa n := ⟨_, rfl⟩
  have hl := itoa_len n hn
  rw [← hL] at hl HZ0
  have l1 : ¬ (9223372036854775807 < L.length + 1) := by omega
  have HI0 := Lib.hid (HI.out n hn)
  rw [← hL] at HI0
  clear hm he ht hr hL
  go_enter Tryd.func44, Tryd.ntmps44
  go_wp2_with fail
  refine (HI0.out _ HT.out).mono ?_
  rintro e w1 ⟨rfl, hb⟩
  have HB := Lib.hid hb
  have HM1 := Lib.hid (HM.out.later hb)
  clear hb
  go_wp2_with fail
  refine (HEM.out _ HM1.out).mono ?_
  rintro e w2 ⟨rfl, rfl⟩
  have HT1 := Lib.hid (HT.out.below HB.out)
  have hh := HM1.out.head
  clear HI0 HEM h0 HT
  go_wp2
  go_loopg [3, 26] (n + 1) (fun g v x wr => ∃ i : Nat, ∃ S : List UInt8, x = .int .i64 i ∧ v = .string ⟨S.toArray⟩ ∧ Hid (S = zoneT n m i) ∧ Hid (Below w.heap.size w wr ∧ Below w1.heap.size w1 wr) ∧ Hid (i ≤ n + 1 ∧ g + i = n + 1))
  case atStart => exact ⟨0, L ++ [58], by simp, by rw [← bytes_app], HZ0.out.symm, ⟨HB.out, Below.refl _ _⟩, by omega, by omega⟩
  case round =>
    clear hh l1
    obtain ⟨i, S, rfl, rfl, HS, HW, HG⟩ := hrel
    have hh := (HM1.out.later HW.out.2).head
    by_cases hi : i < n + 1
    · have hii : (i : Int) < (n : Int) + 1 := by omega
      go_wp2
      go_loopg [3, 35] (n + 1) (fun g v x wr => ∃ j : Nat, ∃ S : List UInt8, x = .int .i64 j ∧ v = .string ⟨S.toArray⟩ ∧ Hid (S = zoneT n m i ++ rowT m i j) ∧ Hid (Below w.heap.size w wr ∧ Below w1.heap.size w1 wr) ∧ Hid (j ≤ n + 1 ∧ g + j = n + 1))
      case atStart => exact ⟨0, S, by simp, rfl, by show _ = _; rw [HS.out, rowT, List.append_nil], HW.out, by omega, by omega⟩
      case round =>
        clear HS HW hh
        obtain ⟨j, S, rfl, rfl, HS, HW, HG2⟩ := hrel
        have hh := (HM1.out.later HW.out.2).head
        by_cases hj : j < n + 1
        · have hjj : (j : Int) < (n : Int) + 1 := by omega
          have i9 : (i : Int) < 9 := by omega
          have j9 : (j : Int) < 9 := by omega
          have c1 := (HM1.out.later HW.out.2).cell i j (by omega) (by omega)
          have HLS := Lib.hid (show S.length ≤ 22 + i * 684 + j * 76 by
            rw [HS.out, List.length_append]
            have a := zoneT_len hn HR.out i (by omega)
            have b := rowT_len hn (show i ≤ n by omega) HR.out j (by omega)
            omega)
          have HPL := Lib.hid (show (printL (m i j)).length ≤ 30 from printL_short _ (right_bits (HR.out i j (by omega) (by omega))).1 (right_bits (HR.out i j (by omega) (by omega))).2)
          obtain ⟨x, hx⟩ : ∃ x, x = m i j := ⟨_, rfl⟩
          rw [← hx] at c1 HPL
          have HX := Lib.hid hx
          clear hx
          by_cases a1 : i = j
          · subst a1
            have t1 : ((i : Int) != (i : Int)) = false := by simp
            have HS2 := Lib.hid (rowT_no HS.out (fun h => h.1 rfl))
            go_wp2
            go_roundg (gk - 1)
            case measure => have h := HG2.out; omega
            case rel => exact ⟨i + 1, S, by go_num, rfl, HS2.out, HW.out, by omega, by have h := HG2.out; omega⟩
          · have t1 : ((i : Int) != (j : Int)) = true := by simp; omega
            by_cases a2 : x = 2147483647
            · subst a2
              have HS2 := Lib.hid (rowT_no HS.out (fun h => h.2.1 HX.out.symm))
              clear a1
              go_wp2
              go_roundg (gk - 1)
              case measure => have h := HG2.out; omega
              case rel => exact ⟨j + 1, S, by go_num, rfl, HS2.out, HW.out, by omega, by have h := HG2.out; omega⟩
            · have t2 : (x != 2147483647) = true := by simp [a2]
              by_cases a3 : i ≠ 0 ∨ x < 1
              · have hyes : i ≠ j ∧ m i j ≠ 2147483647 ∧ (i ≠ 0 ∨ m i j < 1) := by rw [← HX.out]; exact ⟨a1, a2, a3⟩
                have HS2 := Lib.hid (rowT_yes HS.out hyes)
                have HT2 := Lib.hid (HT1.out.below HW.out.2)
                have HIi := Lib.hid (HI.out i (by omega))
                have HIj := Lib.hid (HI.out j (by omega))
                have li := itoa_len i (by omega)
                have lj := itoa_len j (by omega)
                have lx := HPL.out
                have ls := HLS.out
                have HPX := Lib.hid (HP.out x)
                rw [printB_L] at HPX
                rw [← HX.out] at HS2
                generalize Lib.itoa i = I at *
                generalize Lib.itoa j = J at *
                generalize printL x = P at *
                have k1 : ¬ (9223372036854775807 < 2 + I.length) := by omega
                have k2 : ¬ (9223372036854775807 < 2 + I.length + 2) := by omega
                have k3 : ¬ (9223372036854775807 < 2 + I.length + 2 + J.length) := by omega
                have k4 : ¬ (9223372036854775807 < 2 + I.length + 2 + J.length + P.length) := by omega
                have k5 : ¬ (9223372036854775807 < S.length + (2 + I.length + 2 + J.length + P.length)) := by omega
                clear HPL HLS hyes a1 a2 li lj lx ls
                rcases (show ((i : Int) != 0) = true ∨ (((i : Int) != 0) = false ∧ decide (x < 1) = true) by
                  by_cases z : i = 0
                  · subst z; right; exact ⟨rfl, decide_eq_true (by omega)⟩
                  · left; simp; omega) with t3 | ⟨t3, t4⟩
                all_goals
                  clear a3
                  go_wp2_with fail
                  refine (HIi.out _ HT2.out).mono ?_
                  rintro e w3 ⟨rfl, hb⟩
                  have HT3 := Lib.hid (HT2.out.below hb)
                  have HW3 := Lib.hid (And.intro (HW.out.1.trans (hb.mono HW.out.1.size)) (HW.out.2.trans (hb.mono HW.out.2.size)))
                  clear hb HT2
                  go_wp2_with fail
                  refine (HIj.out _ HT3.out).mono ?_
                  rintro e w4 ⟨rfl, hb⟩
                  have HT4 := Lib.hid (HT3.out.below hb)
                  have HW4 := Lib.hid (And.intro (HW3.out.1.trans (hb.mono HW3.out.1.size)) (HW3.out.2.trans (hb.mono HW3.out.2.size)))
                  clear hb HT3
                  go_wp2_with fail
                  refine (HPX.out _ HT4.out).mono ?_
                  rintro e w5 ⟨rfl, hb⟩
                  have HW5 := Lib.hid (And.intro (HW4.out.1.trans (hb.mono HW4.out.1.size)) (HW4.out.2.trans (hb.mono HW4.out.2.size)))
                  clear hb HT4
                  go_wp2
                  go_roundg (gk - 1)
                  case measure => have h := HG2.out; omega
                  case rel =>
                    refine ⟨j + 1, S ++ ([32, 120] ++ I ++ [45, 120] ++ J ++ P), by go_num, ?_, HS2.out, HW5.out, by omega, by have h := HG2.out; omega⟩
                    rw [← bytes_app, ← bytes_app, ← bytes_app, ← bytes_app, ← bytes_app]
              · have HS2 := Lib.hid (rowT_no HS.out (fun h => a3 (by have h2 := h.2.2; rw [← HX.out] at h2; exact h2)))
                have t3 : ((i : Int) != 0) = false := by simp; omega
                have t4 : decide (x < 1) = false := decide_eq_false (by omega)
                clear a1 a2 a3
                go_wp2
                go_roundg (gk - 1)
                case measure => have h := HG2.out; omega
                case rel => exact ⟨j + 1, S, by go_num, rfl, HS2.out, HW.out, by omega, by have h := HG2.out; omega⟩
        · have e : j = n + 1 := by have := HG2.out.1; omega
          subst e
          have hjj : ¬ ((n + 1 : Nat) : Int) < (n : Int) + 1 := by omega
          go_wp2
          go_roundg (n - i)
          case measure => have h := HG.out; omega
          case rel => exact ⟨i + 1, S, by go_num, rfl, HS.out, HW.out, by omega, by omega⟩
    · have e : i = n + 1 := by have := HG.out.1; omega
      subst e
      have hii : ¬ ((n + 1 : Nat) : Int) < (n : Int) + 1 := by omega
      go_wp2
      go_ret
      exact ⟨by rw [HE.out, ← HS.out]; rfl, HW.out.1⟩

/-- Print of any zone. -/
theorem zprint_any (v : Value) (z : Option (Nat × Mat)) (w : World) (h : ZoneV 88 w v z) (ht : Tab w) : Calls Tryd.prog 44 #[v] w (Says w ⟨(printZ z).toArray⟩) := by
  match z, h with
  | none, h =>
    have h : v = .pointer none := h
    subst h
    exact zprint_nil w
  | some (n, m), ⟨b, e, hn, hr, hm⟩ =>
    subst e
    by_cases he : m 0 0 < 1
    · exact zprint_empty b n m w hn hm he ht
    · exact zprint_full b n m w hn hm hr he ht

end Go.Proofs.YtncgapnooabdgaaDoor

/- What live tells of wider zones, whatever is asked. -/
namespace Go.Proofs.YtncgapnooabdgaaDoor
open Go Go.RowKit
set_option linter.unusedVariables false
set_option linter.unusedSimpArgs false

theorem some_of5 {r : Option Mat × Int} (h1 : r.1.isSome = true) (h2 : r.2 = 0) : r = (some (r.1.getD fun _ _ => 0), 0) := by
  obtain ⟨a, b⟩ := r
  cases a
  · cases h1
  · simp only at h2; subst h2; rfl
def lv0 : Mat := (limP 1 [(0, 1, -5), (1, 0, 15)]).1.getD fun _ _ => 0
theorem lv0_is : limP 1 [(0, 1, -5), (1, 0, 15)] = (some lv0, 0) := some_of5 (by decide +kernel) (by decide +kernel)
theorem lv0_closed : ClosedZ 1 lv0 := by
  have h1 : ∀ i, i < 2 → ∀ j, j < 2 → rightB (lv0 i j) = true := by decide +kernel
  have h2 : ∀ i, i < 2 → lv0 i i = 1 := by decide +kernel
  have h3 : ∀ j, j < 2 → lv0 0 j ≤ 1 := by decide +kernel
  have h4 : ∀ q, q < 2 → ∀ i, i < 2 → ∀ j, j < 2 → widW lv0 i j ≤ wsum (widW lv0 i q) (widW lv0 q j) := by decide +kernel
  exact ⟨⟨fun i j hi hj => h1 i (by omega) j (by omega), fun i hi => h2 i (by omega), fun j hj => h3 j (by omega)⟩, fun q hq i j hi hj => h4 q hq i (by omega) j (by omega)⟩
def lva : Mat := (luP 1 lv0 [5] [5]).1.getD fun _ _ => 0
theorem lva_is : luP 1 lv0 [5] [5] = (some lva, 0) := some_of5 (by decide +kernel) (by decide +kernel)
theorem lva_text : printZ (some (1, lva)) = [49, 58, 32, 120, 48, 45, 120, 49, 60, 61, 45, 51] := by decide +kernel
def lvb : Mat := (luP 1 lv0 [2] [2]).1.getD fun _ _ => 0
theorem lvb_is : luP 1 lv0 [2] [2] = (some lvb, 0) := some_of5 (by decide +kernel) (by decide +kernel)
theorem lvb_text : printZ (some (1, lvb)) = [49, 58, 32, 120, 48, 45, 120, 49, 60, 45, 50] := by decide +kernel

theorem lims_new2 (w : World) (e : TypeId) (a b c a' b' c' : Int) : Lims (w.alloc (.cells #[.int .i64 a, .int .i64 b, .int .i32 c, .int .i64 a', .int .i64 b', .int .i32 c'] e (0, 0))) (some ⟨w.heap.size, 0, none⟩) [(a, b, c), (a', b', c')] := by
  have h1 := heap_alloc_new w (.cells #[.int .i64 a, .int .i64 b, .int .i32 c, .int .i64 a', .int .i64 b', .int .i32 c'] e (0, 0))
  intro j hj
  have e0 : j = 0 ∨ j = 1 := by simp at hj; omega
  rcases e0 with rfl | rfl <;> refine ⟨w.heap.size, 0, rfl, ?_, ?_, ?_⟩ <;> (unfold World.cell?; rw [h1]; rfl)
theorem ints_new1 (w : World) (e : TypeId) (a : Int) : Ints (w.alloc (.cells #[.int .i64 a] e (0, 0))) .i64 (some ⟨w.heap.size, 0, none⟩) [a] := fun j hj => by
  have h0 : j = 0 := by simpa using hj
  subst h0
  refine ⟨w.heap.size, 0, rfl, ?_⟩
  have h1 := heap_alloc_new w (.cells #[.int .i64 a] e (0, 0))
  unfold World.cell?
  rw [h1]; rfl

set_option maxRecDepth 100000 in
set_option maxHeartbeats 2000000 in
theorem live05_any (w : World) (ht : Tab w) : Calls Tryd.prog 16 #[] w fun e w' => e = .returned (.bool true) ∧ Below w.heap.size w w' := by
  have HT := Lib.hid ht
  have HL := Lib.hid (fun A c w hI => limits_any 1 A c [(0, 1, -5), (1, 0, 15)] w hI (by simp) (fun q hq => by
    have : q = 0 ∨ q = 1 := by simp at hq; omega
    rcases this with rfl | rfl <;> decide))
  rw [lv0_is] at HL
  have HK := Lib.hid (show ∀ n m, some ((1 : Nat), lv0) = some (n, m) → GoneK n m from fun n m e => by cases e; exact .inr lv0_closed)
  have HA := Lib.hid (fun v A c w h hI => max_any v (some (1, lv0)) A c [5] w h HK.out hI (by simp))
  rw [show luA (some (1, lv0)) [5] [5] = (some lva, 0) from lva_is, show dimN (some (1, lv0)) = 1 from rfl] at HA
  have HB := Lib.hid (fun v A c w h hI => max_any v (some (1, lv0)) A c [2] w h HK.out hI (by simp))
  rw [show luA (some (1, lv0)) [2] [2] = (some lvb, 0) from lvb_is, show dimN (some (1, lv0)) = 1 from rfl] at HB
  have HP2 := Lib.hid (fun v w h ht => zprint_any v (some (1, lva)) w h ht)
  rw [lva_text] at HP2
  have HP3 := Lib.hid (fun v w h ht => zprint_any v (some (1, lvb)) w h ht)
  rw [lvb_text] at HP3
  clear ht
  go_enter Tryd.func16, Tryd.ntmps16
  go_wp2_with fail
  have HB0 := Lib.hid ((Below.refl w.heap.size w).alloc (Nat.le_refl _) (.cells #[.int .i64 0, .int .i64 1, .int .i32 (-5), .int .i64 1, .int .i64 0, .int .i32 15] 46))
  have HL0 := Lib.hid (lims_new2 w 46 0 1 (-5) 1 0 15)
  generalize w.alloc (.cells #[.int .i64 0, .int .i64 1, .int .i32 (-5), .int .i64 1, .int .i64 0, .int .i32 15] 46) = w0 at *
  refine (HL.out _ _ _ HL0.out).mono ?_
  rintro e w1 ⟨hb, v, rfl, hv⟩
  have HB1 := Lib.hid (HB0.out.trans (hb.mono HB0.out.size))
  have HV1 := Lib.hid (show ZoneV 88 w1 v (some (1, lv0)) from hv)
  obtain ⟨b1, e1, _⟩ := hv
  subst e1
  clear hb HB0 HL0
  go_wp2_with fail
  have HB2 := Lib.hid ((Below.refl w1.heap.size w1).alloc (Nat.le_refl _) (.cells #[.int .i64 5] 3))
  have HL2 := Lib.hid (ints_new1 w1 3 5)
  have HV2 := Lib.hid (HV1.out.below HB2.out)
  have HB2 := Lib.hid (HB1.out.trans (HB2.out.mono HB1.out.size))
  generalize w1.alloc (.cells #[.int .i64 5] 3) = w2 at *
  refine (HA.out _ _ _ _ HV2.out HL2.out).mono ?_
  rintro e w3 ⟨hb, v3, rfl, hv⟩
  have HB3 := Lib.hid (HB2.out.trans (hb.mono HB2.out.size))
  have HV3 := Lib.hid (HV2.out.below hb)
  have HA3 := Lib.hid (show ZoneV 88 w3 v3 (some (1, lva)) from hv)
  obtain ⟨b3, e3, _⟩ := hv
  subst e3
  clear hb HB2 HL2 HV2 HB1 HV1
  go_wp2_with fail
  have HB4 := Lib.hid ((Below.refl w3.heap.size w3).alloc (Nat.le_refl _) (.cells #[.int .i64 2] 3))
  have HL4 := Lib.hid (ints_new1 w3 3 2)
  have HV4 := Lib.hid (HV3.out.below HB4.out)
  have HA4 := Lib.hid (HA3.out.below HB4.out)
  have HB4 := Lib.hid (HB3.out.trans (HB4.out.mono HB3.out.size))
  generalize w3.alloc (.cells #[.int .i64 2] 3) = w4 at *
  refine (HB.out _ _ _ _ HV4.out HL4.out).mono ?_
  rintro e w5 ⟨hb, v5, rfl, hv⟩
  have HB5 := Lib.hid (HB4.out.trans (hb.mono HB4.out.size))
  have HA5 := Lib.hid (HA4.out.below hb)
  have HV5 := Lib.hid (show ZoneV 88 w5 v5 (some (1, lvb)) from hv)
  have HT5 := Lib.hid (HT.out.below HB5.out)
  obtain ⟨b5, e5, _⟩ := hv
  subst e5
  clear hb HB4 HL4 HV4 HA4 HB3 HV3 HA3
  go_wp2_with fail
  refine (HP2.out _ _ HA5.out HT5.out).mono ?_
  rintro e w6 ⟨rfl, hb⟩
  have HB6 := Lib.hid (HB5.out.trans (hb.mono HB5.out.size))
  have HV6 := Lib.hid (HV5.out.below hb)
  have HT6 := Lib.hid (HT5.out.below hb)
  clear hb
  go_wp2_with fail
  refine (HP3.out _ _ HV6.out HT6.out).mono ?_
  rintro e w7 ⟨rfl, hb⟩
  have HB7 := Lib.hid (HB6.out.trans (hb.mono HB6.out.size))
  clear hb
  go_wp2
  go_ret
  exact ⟨by first | rfl | decide, HB7.out⟩

end Go.Proofs.YtncgapnooabdgaaDoor

/- The laws of wider zones: a zone by both; what they share. -/
namespace Go.Proofs.YtncgapnooabdgaaDoor
open Go Go.RowKit
set_option linter.unusedVariables false
set_option linter.unusedSimpArgs false

/-- What both tells. -/
def Both5Ends (w0 : World) (n : Int) (cells : List Int) (e : Ending) (w' : World) : Prop :=
  Below w0.heap.size w0 w' ∧ ∃ v v', e = .returned (.tuple #[v, v']) ∧ ZoneV 88 w' v (zOf n cells) ∧ RefZ w' v' (zOf n cells)

set_option maxRecDepth 100000 in
set_option maxHeartbeats 1000000 in
theorem both05_any (n : Int) (A : Option Addr) (c : Nat) (cells : List Int) (w : World) (hI : Ints w .i32 A cells) (hmax : cells.length ≤ 4611686018427387904)
    (hk : ∀ q, q < cells.length → -2147483648 ≤ cells.getD q 0 ∧ cells.getD q 0 ≤ 2147483647) :
    Calls Tryd.prog 10 #[.int .i64 n, .slice A cells.length c] w (Both5Ends w n cells) := by
  have HI := Lib.hid hI
  have HK := Lib.hid hk
  clear hI hk
  go_enter Tryd.func10, Tryd.ntmps10
  go_wp2_with fail
  refine (of_any n A c cells _ HI.out hmax HK.out).mono ?_
  rintro e w1 ⟨hb, v, rfl, hv⟩
  have HB1 := Lib.hid hb
  have HV1 := Lib.hid (show ZoneV 88 w1 v (zOf n cells) from hv)
  clear hb hv
  obtain ⟨ec, hec⟩ : ∃ ec, ec = (ofP n cells).2 := ⟨_, rfl⟩
  have HR := Lib.hid (fun w hI => rof_any n A c cells w hI hmax HK.out)
  rw [← hec]
  go_wp2_with fail
  refine (HR.out _ (HI.out.below HB1.out)).mono ?_
  rintro e w2 ⟨hb, v', rfl, hv⟩
  have HV2 := Lib.hid (show RefZ w2 v' (zOf n cells) from hv)
  have HVZ := Lib.hid (HV1.out.below hb)
  have HBB := Lib.hid (HB1.out.trans (hb.mono HB1.out.size))
  rw [← hec]
  clear hb hv hec
  go_wp2
  go_ret2
  exact ⟨HBB.out, _, _, rfl, HVZ.out, HV2.out⟩

theorem stable_tab5 : Stable Tab := fun _ _ h hb => h.below hb
theorem stable_cellv (a : Addr) (v : Value) : Stable fun w => w.cell? a = some v := fun w _ h hb => (hb.cell (World.block_lt_of_cell? w _ h)).trans h
theorem kind5 (n : Int) (cells : List Int) : ∀ k m, zOf n cells = some (k, m) → GoneK k m := fun k m e => zone_closed e
theorem zone_short {T : TypeId} {w : World} {v : Value} {z : Option (Nat × Mat)} (h : ZoneV T w v z) : (cellsP z).length ≤ 81 :=
  cellsP_short _ fun k m e => by subst e; obtain ⟨_, _, hn, _⟩ := h; exact hn
theorem stable_hn (g : Nat) (l : List Int) : Stable fun w => HandN w g l := stable_handn g l
theorem sameints_own {w : World} {b b' : Nat} {e e' : TypeId} {v v' : Value} {xs : List Int} (h : OwnI w b e .i64 v xs) (h' : OwnI w b' e' .i64 v' xs) (hx : xs.length ≤ 4611686018427387904) :
    Calls Tryd.prog 25 #[v, v'] w fun e w' => e = .returned (.bool true) ∧ ∃ q, w' = w.drewN q := by
  obtain ⟨A, c, rfl, hi⟩ := h.slice
  obtain ⟨A', c', rfl, hi'⟩ := h'.slice
  exact sameints_eq A c A' c' xs w hi hi' hx
/-- The zone of an answer. -/
def ansZ (n : Nat) (r : Option Mat × Int) : Option (Nat × Mat) := r.1.map fun m => (n, m)

end Go.Proofs.YtncgapnooabdgaaDoor

/- What ExtraWidens tells. -/
namespace Go.Proofs.YtncgapnooabdgaaDoor
open Go Go.RowKit
set_option linter.unusedVariables false
set_option linter.unusedSimpArgs false

theorem pair_cells (w : World) (a b : Value) (t : TypeId) : (w.alloc (.cells #[a, b] t)).cell? ⟨w.heap.size, 0, none⟩ = some a ∧ (w.alloc (.cells #[a, b] t)).cell? ⟨w.heap.size, 1, none⟩ = some b := by
  have h := heap_alloc_new w (.cells #[a, b] t)
  constructor <;> (unfold World.cell?; rw [h]; rfl)

set_option maxRecDepth 100000 in
set_option maxHeartbeats 4000000 in
theorem widens_any (n : Int) (A : Option Addr) (c : Nat) (cells : List Int) (A0 : Option Addr) (c0 : Nat) (l0 : List Int) (A1 : Option Addr) (c1 : Nat) (l1 : List Int) (w : World) (hI : Ints w .i32 A cells) (hmax : cells.length ≤ 4611686018427387904)
    (hk : ∀ q, q < cells.length → -2147483648 ≤ cells.getD q 0 ∧ cells.getD q 0 ≤ 2147483647) (h0 : Ints w .i64 A0 l0) (h1 : Ints w .i64 A1 l1) (hm0 : l0.length ≤ 17592186043904) (hm1 : l1.length ≤ 17592186043904) (ht : Tab w) :
    Calls Tryd.prog 3 #[.int .i64 n, .slice A cells.length c, .agg #[.slice A0 l0.length c0, .slice A1 l1.length c1]] w fun e w' => e = .returned (.bool true) ∧ Below w.heap.size w w' := by
  have HK := Lib.hid hk
  obtain ⟨wb, hwb⟩ : ∃ wb, wb = w.alloc (.cells #[.slice A0 l0.length c0, .slice A1 l1.length c1] 24) := ⟨_, rfl⟩
  have hbw : Below w.heap.size w wb := by rw [hwb]; exact (Below.refl _ _).alloc (Nat.le_refl _) _
  have hpc := pair_cells w (.slice A0 l0.length c0) (.slice A1 l1.length c1) 24
  rw [← hwb] at hpc
  obtain ⟨bx, hbx⟩ : ∃ bx, bx = w.heap.size := ⟨_, rfl⟩
  rw [← hbx] at hpc
  have HG0 := Lib.hid ((((((Bag.start hbw).add (hI.below hbw) (stable_ints _ _ _)).add (ht.below hbw) stable_tab5).add (h0.below hbw) (stable_ints _ _ _)).add (h1.below hbw) (stable_ints _ _ _)).add hpc.1 (stable_cellv _ _) |>.add hpc.2 (stable_cellv _ _))
  have HWB := Lib.hid hwb
  have HBX := Lib.hid hbx
  have HKD := Lib.hid (kind5 n cells)
  have HBO := Lib.hid (fun W hI => both05_any n A c cells W hI hmax HK.out)
  unfold Both5Ends at HBO
  obtain ⟨z, hz⟩ : ∃ z, z = zOf n cells := ⟨_, rfl⟩
  rw [← hz] at HBO HKD
  clear hI hk h0 h1 ht hbw hpc hz hwb hbx
  go_enter Tryd.func3, Tryd.ntmps3
  go_wp2_with fail
  rw [← HWB.out, ← HBX.out]
  refine (HBO.out _ (HG0.out.at 5 rfl)).mono ?_
  rintro e w1 ⟨hb, v, v', rfl, hv, hv'⟩
  have HG1 := Lib.hid (((HG0.out.step hb).add hv (stable_zone _ _ _)).add hv' (stable_ref5 _ _))
  clear hb hv hv'
  have k := HG1.out.drew
  go_wp2_with fail
  go_region_held3 (fun w' => w'.cell? ⟨bx, 0, none⟩ = some (.slice A0 l0.length c0) ∧ w'.cell? ⟨bx, 1, none⟩ = some (.slice A1 l1.length c1)) (first | exact ⟨k.at 3 rfl, k.at 2 rfl⟩ | exact ⟨k.at 4 rfl, k.at 3 rfl⟩ | exact ⟨k.at 5 rfl, k.at 4 rfl⟩ | go_keep)
    (first | (go_at_call_of 11 A0; refine (hand_g A0 c0 l0 _ (k.at 5 rfl) hm0).mono ?_; rintro e w2 ⟨g0, rfl, hb, hh⟩; have k := (k.step hb).add hh (stable_hn _ _); clear hb hh) | (go_at_call_of 11 A1; refine (hand_g A1 c1 l1 _ (k.at 5 rfl) hm1).mono ?_; rintro e w3 ⟨g1, rfl, hb, hh⟩; have k := (k.step hb).add hh (stable_hn _ _); clear hb hh))
  have HG3 := Lib.hid k
  clear k
  have HLU := Lib.hid (fun W (k : Bag w [fun wx => HandN wx g1 l1, fun wx => HandN wx g0 l0, fun wx => RefZ wx v' z, fun wx => ZoneV 88 wx v z] W) => lu_any v z (some ⟨g0, 0, none⟩) (l0.length + 9) l0 (some ⟨g1, 0, none⟩) (l1.length + 9) l1 W (k.at 3 rfl) HKD.out (k.at 1 rfl : HandN W g0 l0).ints (k.at 0 rfl : HandN W g1 l1).ints (by omega) (by omega))
  have HMX := Lib.hid (fun W (hz : ZoneV 88 W v z) (hh : HandN W g0 l0) => max_any v z (some ⟨g0, 0, none⟩) (l0.length + 9) l0 W hz HKD.out hh.ints (by omega))
  have HLU5 := Lib.hid (fun W (hz : RefZ W v' z) (hi : Ints W .i64 A0 l0) (hj : Ints W .i64 A1 l1) => lu5_any v' z A0 c0 l0 A1 c1 l1 W hz HKD.out hi hj (by omega) (by omega))
  have HMX5 := Lib.hid (fun W (hz : RefZ W v' z) (hi : Ints W .i64 A0 l0) => max5_any v' z A0 c0 l0 W hz HKD.out hi (by omega))
  obtain ⟨U, hU⟩ : ∃ U, U = luA z l0 l1 := ⟨_, rfl⟩
  obtain ⟨V, hV⟩ : ∃ V, V = luA z l0 l0 := ⟨_, rfl⟩
  obtain ⟨d, hd⟩ : ∃ d, d = dimN z := ⟨_, rfl⟩
  rw [← hU, ← hd] at HLU HLU5
  rw [← hV, ← hd] at HMX HMX5
  obtain ⟨Um, Ue⟩ := U
  obtain ⟨Vm, Ve⟩ := V
  clear hU hV hd
  have HG3b := Lib.hid (show Bag w [fun wx => HandN wx g1 l1, fun wx => HandN wx g0 l0, fun wx => RefZ wx v' z, fun wx => ZoneV 88 wx v z] _ from ⟨HG3.out.below, fun P hP => HG3.out.all P (by simp only [List.mem_cons, List.not_mem_nil, or_false] at hP ⊢; rcases hP with rfl | rfl | rfl | rfl <;> simp)⟩)
  go_wp2_with fail
  refine (HLU.out _ HG3b.out).mono ?_
  rintro e w4 ⟨hb, a, rfl, ha⟩
  have HG4 := Lib.hid ((HG3.out.step hb).add (show ZoneV 88 w4 a (ansZ d (Um, Ue)) from ha) (stable_zone _ _ _))
  clear hb ha HG3 HG3b HLU
  have k0 := HG4.out.at 6 rfl
  have k1 := HG4.out.at 5 rfl
  go_wp2_with fail
  refine (HLU5.out _ (HG4.out.at 3 rfl) (HG4.out.at 8 rfl) (HG4.out.at 7 rfl)).mono ?_
  rintro e w5 ⟨hb, b, rfl, ha⟩
  have HG5 := Lib.hid ((HG4.out.step hb).add (show RefZ w5 b (ansZ d (Um, Ue)) from ha) (stable_ref5 _ _))
  clear hb ha HG4 HLU5 k0 k1
  go_wp2_with fail
  refine (HMX.out _ (HG5.out.at 5 rfl) (HG5.out.at 3 rfl)).mono ?_
  rintro e w6 ⟨hb, x, rfl, ha⟩
  have HG6 := Lib.hid ((HG5.out.step hb).add (show ZoneV 88 w6 x (ansZ d (Vm, Ve)) from ha) (stable_zone _ _ _))
  clear hb ha HG5 HMX
  have k0 := HG6.out.at 8 rfl
  go_wp2_with fail
  refine (HMX5.out _ (HG6.out.at 5 rfl) (HG6.out.at 10 rfl)).mono ?_
  rintro e w7 ⟨hb, y, rfl, ha⟩
  have HG7 := Lib.hid ((HG6.out.step hb).add (show RefZ w7 y (ansZ d (Vm, Ve)) from ha) (stable_ref5 _ _))
  clear hb ha HG6 HMX5 k0
  go_wp2_with fail
  refine (live05_any _ (HG7.out.at 12 rfl)).mono ?_
  rintro e w8 ⟨rfl, hb⟩
  have HG8 := Lib.hid (HG7.out.step hb)
  clear hb HG7
  go_wp2_with fail
  refine (cells_any _ _ _ (HG8.out.at 3 rfl)).mono ?_
  rintro e w9 ⟨la, rfl, hb, ho⟩
  have HSH := Lib.hid (zone_short (HG8.out.at 3 rfl))
  have HG9 := Lib.hid ((HG8.out.step hb).add ho (stable_own _ _ _ _ _))
  clear hb ho HG8
  go_wp2_with fail
  refine (rcells_any _ _ _ (HG9.out.at 3 rfl)).mono ?_
  rintro e w10 ⟨lb, rfl, hb, ho⟩
  have HG10 := Lib.hid ((HG9.out.step hb).add ho (stable_own _ _ _ _ _))
  clear hb ho HG9
  go_wp2_with fail
  refine (same_own (HG10.out.at 1 rfl) (HG10.out.at 0 rfl) (by have := HSH.out; omega)).mono ?_
  rintro e w11 ⟨rfl, q, rfl⟩
  have HG11 := Lib.hid (HG10.out.tail.tail.drewN q)
  have HSH2 := Lib.hid (zone_short (HG11.out.at 1 rfl))
  clear HG10
  go_wp2_with fail
  refine (cells_any _ _ _ (HG11.out.at 1 rfl)).mono ?_
  rintro e w12 ⟨la2, rfl, hb, ho⟩
  have HG12 := Lib.hid ((HG11.out.step hb).add ho (stable_own _ _ _ _ _))
  clear hb ho HG11
  go_wp2_with fail
  refine (rcells_any _ _ _ (HG12.out.at 1 rfl)).mono ?_
  rintro e w13 ⟨lb2, rfl, hb, ho⟩
  have HG13 := Lib.hid ((HG12.out.step hb).add ho (stable_own _ _ _ _ _))
  clear hb ho HG12
  go_wp2_with fail
  refine (same_own (HG13.out.at 1 rfl) (HG13.out.at 0 rfl) (by have := HSH2.out; omega)).mono ?_
  rintro e w14 ⟨rfl, q2, rfl⟩
  have HG14 := Lib.hid (HG13.out.tail.tail.drewN q2)
  clear HG13
  have k0 := HG14.out.at 9 rfl
  go_wp2_with fail
  refine (kept_g A0 c0 l0 g0 _ (HG14.out.at 5 rfl) (HG14.out.at 11 rfl) hm0).mono ?_
  rintro e w15 ⟨rfl, hb⟩
  have HG15 := Lib.hid (HG14.out.step hb)
  clear hb HG14 k0
  have k1 := HG15.out.at 8 rfl
  go_wp2_with fail
  refine (kept_g A1 c1 l1 g1 _ (HG15.out.at 4 rfl) (HG15.out.at 10 rfl) hm1).mono ?_
  rintro e w16 ⟨rfl, hb⟩
  have HG16 := Lib.hid (HG15.out.step hb)
  have HSH3 := Lib.hid (zone_short (HG16.out.at 7 rfl))
  clear hb HG15 k1
  go_wp2_with fail
  refine (cells_any _ _ _ (HG16.out.at 7 rfl)).mono ?_
  rintro e w17 ⟨la3, rfl, hb, ho⟩
  have HG17 := Lib.hid ((HG16.out.step hb).add ho (stable_own _ _ _ _ _))
  clear hb ho HG16
  go_wp2_with fail
  refine (rcells_any _ _ _ (HG17.out.at 7 rfl)).mono ?_
  rintro e w18 ⟨lb3, rfl, hb, ho⟩
  have HG18 := Lib.hid ((HG17.out.step hb).add ho (stable_own _ _ _ _ _))
  clear hb ho HG17
  go_wp2_with fail
  refine (same_own (HG18.out.at 1 rfl) (HG18.out.at 0 rfl) (by have := HSH3.out; omega)).mono ?_
  rintro e w19 ⟨rfl, q3, rfl⟩
  have HB := Lib.hid (HG18.out.drewN q3).below
  clear HG18
  go_wp2
  go_ret
  exact ⟨by simp, HB.out⟩

end Go.Proofs.YtncgapnooabdgaaDoor

/- How a law's call ends: it tells true, and what came in reads as before. -/
namespace Go.Proofs.YtncgapnooabdgaaDoor
open Go Go.ChangeShapes Go.WideShapes Go.ChangeAt Go.RowKit
set_option linter.unusedVariables false
set_option linter.unusedSimpArgs false

section
variable {H : Type} {enc : TypeId × Value → H} {P : Program} {W W' : World}
/-- All that came in reads as before, where below the old heap's size nothing has turned. -/
theorem stays_all (hl : laidOutB P = true) {sp : Nat → Bool} : ∀ {ts : List TypeId} {vs : List Value} {ds : List (DataW H)} {ps : List MemPlace},
    (∀ t ∈ ts, P.readableRec t = true ∧ t < P.types.size) → DataW.TrodAll enc P W 0 (fun _ => true) true ts vs ds ps → (∀ p ∈ ps, W.sameAt W' p) → (∀ p ∈ ps, sp p.block = true) →
    DataW.TrodAll enc P W' 0 sp true ts vs ds ps
  | [], [], [], _, _, h, _, _ => h
  | t :: _, _ :: _, _ :: _, _, ht, ⟨p, q, h1, h2, e⟩, hk, hs =>
    ⟨p, q, WideElems.Trod_stays hl (ht t (List.mem_cons.2 (.inl rfl))).1 (ht t (List.mem_cons.2 (.inl rfl))).2 h1 (fun x hx => hk x (by rw [e]; exact List.mem_append_left _ hx)) (fun x hx => hs x (by rw [e]; exact List.mem_append_left _ hx)),
      stays_all hl (fun t ht' => ht t (List.mem_cons.2 (.inr ht'))) h2 (fun x hx => hk x (by rw [e]; exact List.mem_append_right _ hx)) (fun x hx => hs x (by rw [e]; exact List.mem_append_right _ hx)), e⟩

/-- The post of a law's row, out of true and Below. -/
theorem law_post {f : Func} {s : ChangeSpec} {args : Array Value} {ds gs : List (DataW H)} {before : List MemPlace} {tb : TypeId} {apart fresh handsOn again : Bool}
    (hl : laidOutB P = true) (hr : ∀ t ∈ f.params.toList, P.readableRec t = true ∧ t < P.types.size) (hv : s.vars = [])
    (hres : f.resultTypes = #[tb]) (hb : P.underlying tb = some .bool) (hfn : s.fn H (ds ++ gs) = { results := [.lit (.bool true)], args := ds })
    (hW : DataW.Whole enc P f.params.toList s.vars apart W args.toList ds gs before) (hbel : Below W.heap.size W W') :
    s.post enc P f apart fresh handsOn again W args (.bool true) W' := by
  have hlt := hW.lt
  have hW' := hW
  obtain ⟨p, q, hA, hV, rfl, hz, hn⟩ := hW'
  rw [hv] at hV
  obtain ⟨rfl, rfl⟩ := trodVars_none hV
  simp only [List.append_nil] at hW hlt hz hn hfn
  have hargs : ∀ sp : Nat → Bool, (∀ x ∈ p, sp x.block = true) → DataW.TrodAll enc P W' 0 sp true f.params.toList args.toList ds p :=
    fun sp hs => stays_all hl hr hA (fun x hx => hbel.same (hlt x hx)) hs
  have hone : ∀ (b : Nat) (sp : Nat → Bool) (hd : Bool), DataW.TrodAll enc P W' b sp hd f.resultTypes.toList ((Value.bool true).resultList f.resultTypes.size) [.lit (.bool true)] [] := by
    intro b sp hd
    rw [hres]
    exact trodAll_mk1 (shut_bool hb true)
  have hvars : ∀ sp : Nat → Bool, DataW.TrodVars enc P W' sp s.vars ([] : List (DataW H)) [] := by
    intro sp
    rw [hv]
    rfl
  refine ⟨ds, [], p, [], p, [], hW, ?_, ?_, ?_, hbel.frame _, fun _ => ⟨ok_one hres rfl (okWide_bool_mk hb true), ?_⟩⟩
  · simp only [List.append_nil, hfn]; exact hone _ _ _
  · simp only [List.append_nil, hfn]; exact hargs _ (fun x hx => by simpa using hlt x hx)
  · simp only [List.append_nil, hfn]; exact hvars _
  · refine ⟨[.lit (.bool true)] ++ ds, [], [] ++ p, ⟨[] ++ p, [], trodAll_append (hargs _ (fun _ _ => rfl)) (hone _ _ _), hvars _, by simp, ?_, ?_⟩, ?_⟩
    · intro b off hp
      have hp' : MemPlace.cell b off ∈ p := by simpa using hp
      rw [hbel.frozen (p := ⟨b, off, none⟩) (hlt _ hp')]
      exact hz b off hp'
    · intro ha
      simpa using hn ha
    · intro x hx _
      simpa using hx

/-- A slice of numbers that came in. -/
theorem came_row {t e : TypeId} {k : IntKind} {v : Value} {d : DataW H} {ps : List MemPlace} {r : Reach} {base : Nat} (ht : P.underlying t = some (.slice e)) (he : P.underlying e = some (.int k)) (hc : P.cellsOf e = 1)
    (hval : Value.okWide P W r base t v) (h : DataW.Trod enc P W 0 (fun _ => true) true t v d ps) :
    ∃ A c xs, v = .slice A xs.length c ∧ Ints W k A xs ∧ (∀ n ∈ xs, (Lit.int k n).wf = true) ∧ (xs = [] ∨ ∃ el sp, d = .slice el sp ∧ el.length = xs.length) := by
  obtain ⟨a0, len, cap, rfl⟩ := okWide_slice ht hval
  obtain ⟨fuel, hf⟩ := h
  rcases open_ints ht he hc hf with ⟨hcs, hx⟩ | ⟨a, len', cap', zs, hcs, _, hle, hmax, hall, hx, hcell, hwf⟩
  · simp [Value.cells] at hcs
    obtain ⟨rfl, rfl, rfl⟩ := hcs
    exact ⟨none, 0, [], rfl, fun j hj => by simp at hj, by simp, .inl rfl⟩
  · simp [Value.cells] at hcs
    obtain ⟨rfl, rfl, rfl⟩ := hcs
    have hz : zs.length = cap := by simpa using hall
    simp only [Prod.mk.injEq] at hx
    refine ⟨some a, cap, zs.take len, by rw [List.length_take]; congr 1; omega, ?_, fun n hn => hwf n (List.mem_of_mem_take hn), .inr ⟨_, _, hx.1, by simp [lits]⟩⟩
    intro j hj
    rw [List.length_take] at hj
    obtain ⟨b, off, rfl, hcell'⟩ := ints_at hcell (by omega)
    refine ⟨b, off, rfl, ?_⟩
    rw [hcell' j (by omega)]
    congr 2
    simp [List.getD_eq_getElem?_getD, List.getElem?_take, show j < len by omega]
/-- Its length is within what the machine can hold. -/
theorem came_short {ts : List TypeId} {ds : List (DataW H)} {j : Nat} {t e : TypeId} {d : DataW H} {xs : List Int} {m : Nat} (hsz : (DataW.weightsEach P ts ds).all (· ≤ reachBytes) = true) (ht : ts[j]? = some t) (hd : ds[j]? = some d)
    (hu : P.underlying t = some (.slice e)) (hm : P.bytesOf e = m) (hm1 : 1 ≤ m) (h : xs = [] ∨ ∃ el sp, d = .slice el sp ∧ el.length = xs.length) : xs.length * m ≤ 140737488351232 := by
  rcases h with rfl | ⟨el, sp, rfl, he⟩
  · simp
  · have h1 := sized_slice hsz ht hd hu
    rw [hm] at h1
    have h2 : el.length * m ≤ (el.length + sp.length) * m := Nat.mul_le_mul_right _ (by omega)
    rw [← he]
    exact Nat.le_trans h2 h1
/-- The bounds of 32 bits. -/
theorem came_i32 {xs : List Int} (h : ∀ n ∈ xs, (Lit.int .i32 n).wf = true) : ∀ q, q < xs.length → -2147483648 ≤ xs.getD q 0 ∧ xs.getD q 0 ≤ 2147483647 := by
  intro q hq
  have h1 := h (xs.getD q 0) (by rw [List.getD_eq_getElem?_getD, List.getElem?_eq_getElem hq]; exact List.getElem_mem hq)
  exact bounds_i32 h1
/-- A pair of numbers that came in. -/
theorem came_pair {t e : TypeId} {k : IntKind} {v : Value} {d : DataW H} {ps : List MemPlace} {r : Reach} {base : Nat} (ht : P.underlying t = some (.array 2 e)) (he : P.underlying e = some (.int k)) (hc : P.cellsOf e = 1) (hct : P.cellsOf t = 2)
    (hval : Value.okWide P W r base t v) (h : DataW.Trod enc P W 0 (fun _ => true) true t v d ps) :
    ∃ x y, v = .agg #[.int k x, .int k y] ∧ (Lit.int k x).wf = true ∧ (Lit.int k y).wf = true := by
  obtain ⟨cs, rfl, hsz, _⟩ : ∃ cs, v = .agg cs ∧ cs.size = P.cellsOf t ∧ Row.okWide P W r base t cs := by
    simpa [Value.okWide, ht] using hval
  rw [hct] at hsz
  obtain ⟨l⟩ := cs
  match l, hsz with
  | [a, b], _ =>
    obtain ⟨fuel, hf⟩ := h
    obtain ⟨xs, m, _, hx, hlen, hn, hel⟩ := DataW.trod_array ht hf
    have h0 := hel 0 (by omega)
    have h1 := hel 1 (by omega)
    simp [Value.cells, hc] at h0 h1
    rw [List.getElem?_eq_getElem (by omega)] at h0 h1
    obtain ⟨x, e0, _, w0⟩ := DataW.trod_int he h0
    obtain ⟨y, e1, _, w1⟩ := DataW.trod_int he h1
    simp at e0 e1
    subst e0 e1
    exact ⟨x, y, rfl, w0, w1⟩
end

end Go.Proofs.YtncgapnooabdgaaDoor

/- How arrays of rows of numbers, and structs of rows and numbers, come in. -/
namespace Go.Proofs.YtncgapnooabdgaaDoor
open Go Go.ChangeShapes Go.WideShapes Go.ChangeAt Go.RowKit Go.Deep
set_option linter.unusedVariables false
set_option linter.unusedSimpArgs false

/-- What a row's datum says of its length. -/
def RowD {H : Type} (d : DataW H) (xs : List Int) : Prop := xs = [] ∨ ∃ el sp, d = .slice el sp ∧ el.length = xs.length
section
variable {H : Type} {enc : TypeId × Value → H} {P : Program} {W W' : World}
theorem row_opened {t e : TypeId} {k : IntKind} {v : Value} {fuel : Nat} {x : DataW H × List MemPlace} (ht : P.underlying t = some (.slice e)) (he : P.underlying e = some (.int k)) (hc : P.cellsOf e = 1)
    (h : DataW.trod enc P W 0 (fun _ => true) true fuel t [v] = some x) :
    ∃ A c xs, v = .slice A xs.length c ∧ Ints W k A xs ∧ (∀ n ∈ xs, (Lit.int k n).wf = true) ∧ RowD x.1 xs := by
  rcases open_ints ht he hc h with ⟨hcs, _⟩ | ⟨a, len, cap, zs, hcs, _, hle, hmax, hall, hx, hcell, hwf⟩
  · simp only [List.cons.injEq, and_true] at hcs
    subst hcs
    exact ⟨none, 0, [], rfl, fun j hj => by simp at hj, by simp, .inl rfl⟩
  · simp only [List.cons.injEq, and_true] at hcs
    subst hcs
    have hz : zs.length = cap := by simpa using hall
    have hlen : (zs.take len).length = len := by rw [List.length_take]; omega
    refine ⟨some a, cap, zs.take len, by rw [hlen], ?_, fun n hn => hwf n (List.mem_of_mem_take hn), .inr ⟨_, _, by rw [hx], by simp [lits]⟩⟩
    intro j hj
    rw [hlen] at hj
    obtain ⟨b, off, rfl, hcell'⟩ := ints_at hcell (by omega)
    refine ⟨b, off, rfl, ?_⟩
    rw [hcell' j (by omega)]
    congr 2
    simp [List.getD_eq_getElem?_getD, List.getElem?_take, hj]
theorem came_rows2 {t e f : TypeId} {k : IntKind} {v : Value} {d : DataW H} {ps : List MemPlace} {r : Reach} {base : Nat} (ht : P.underlying t = some (.array 2 e)) (he : P.underlying e = some (.slice f)) (hf : P.underlying f = some (.int k)) (hc : P.cellsOf e = 1) (hcf : P.cellsOf f = 1) (hct : P.cellsOf t = 2)
    (hval : Value.okWide P W r base t v) (h : DataW.Trod enc P W 0 (fun _ => true) true t v d ps) :
    ∃ A0 c0 l0 A1 c1 l1 d0 d1, v = .agg #[.slice A0 l0.length c0, .slice A1 l1.length c1] ∧ Ints W k A0 l0 ∧ Ints W k A1 l1 ∧ (∀ n ∈ l0, (Lit.int k n).wf = true) ∧ (∀ n ∈ l1, (Lit.int k n).wf = true) ∧ d = .agg [d0, d1] ∧ RowD d0 l0 ∧ RowD d1 l1 := by
  obtain ⟨cs, rfl, hsz, _⟩ : ∃ cs, v = .agg cs ∧ cs.size = P.cellsOf t ∧ Row.okWide P W r base t cs := by
    simpa [Value.okWide, ht] using hval
  rw [hct] at hsz
  obtain ⟨l⟩ := cs
  match l, hsz with
  | [a, b], _ =>
    obtain ⟨fuel, hfu⟩ := h
    obtain ⟨xs, m, _, hx, hlen, hn, hel⟩ := DataW.trod_array ht hfu
    have h0 := hel 0 (by omega)
    have h1 := hel 1 (by omega)
    simp [Value.cells, hc] at h0 h1
    rw [List.getElem?_eq_getElem (by omega)] at h0 h1
    obtain ⟨A0, c0, l0, e0, i0, w0, r0⟩ := row_opened he hf hcf h0
    obtain ⟨A1, c1, l1, e1, i1, w1, r1⟩ := row_opened he hf hcf h1
    subst e0 e1
    match xs, hn with
    | [y0, y1], _ =>
      simp only [Prod.mk.injEq] at hx
      exact ⟨A0, c0, l0, A1, c1, l1, y0.1, y1.1, rfl, i0, i1, w0, w1, hx.1, r0, r1⟩
theorem came_rows3 {t e f : TypeId} {k : IntKind} {v : Value} {d : DataW H} {ps : List MemPlace} {r : Reach} {base : Nat} (ht : P.underlying t = some (.array 3 e)) (he : P.underlying e = some (.slice f)) (hf : P.underlying f = some (.int k)) (hc : P.cellsOf e = 1) (hcf : P.cellsOf f = 1) (hct : P.cellsOf t = 3)
    (hval : Value.okWide P W r base t v) (h : DataW.Trod enc P W 0 (fun _ => true) true t v d ps) :
    ∃ A0 c0 l0 A1 c1 l1 A2 c2 l2 d0 d1 d2, v = .agg #[.slice A0 l0.length c0, .slice A1 l1.length c1, .slice A2 l2.length c2] ∧ Ints W k A0 l0 ∧ Ints W k A1 l1 ∧ Ints W k A2 l2 ∧ (∀ n ∈ l0, (Lit.int k n).wf = true) ∧ (∀ n ∈ l1, (Lit.int k n).wf = true) ∧ (∀ n ∈ l2, (Lit.int k n).wf = true) ∧ d = .agg [d0, d1, d2] ∧ RowD d0 l0 ∧ RowD d1 l1 ∧ RowD d2 l2 := by
  obtain ⟨cs, rfl, hsz, _⟩ : ∃ cs, v = .agg cs ∧ cs.size = P.cellsOf t ∧ Row.okWide P W r base t cs := by
    simpa [Value.okWide, ht] using hval
  rw [hct] at hsz
  obtain ⟨l⟩ := cs
  match l, hsz with
  | [a, b, c], _ =>
    obtain ⟨fuel, hfu⟩ := h
    obtain ⟨xs, m, _, hx, hlen, hn, hel⟩ := DataW.trod_array ht hfu
    have h0 := hel 0 (by omega)
    have h1 := hel 1 (by omega)
    have h2 := hel 2 (by omega)
    simp [Value.cells, hc] at h0 h1 h2
    rw [List.getElem?_eq_getElem (by omega)] at h0 h1 h2
    obtain ⟨A0, c0, l0, e0, i0, w0, r0⟩ := row_opened he hf hcf h0
    obtain ⟨A1, c1, l1, e1, i1, w1, r1⟩ := row_opened he hf hcf h1
    obtain ⟨A2, c2, l2, e2, i2, w2, r2⟩ := row_opened he hf hcf h2
    subst e0 e1 e2
    match xs, hn with
    | [y0, y1, y2], _ =>
      simp only [Prod.mk.injEq] at hx
      exact ⟨A0, c0, l0, A1, c1, l1, A2, c2, l2, y0.1, y1.1, y2.1, rfl, i0, i1, i2, w0, w1, w2, hx.1, r0, r1, r2⟩
theorem mem_all {e : TypeId} {d : DataW H} : ∀ {ds : List (DataW H)}, d ∈ ds → ∀ n ∈ DataW.weights P e d, n ∈ DataW.weightsAll P e ds
  | d' :: ds, h, n, hn => by
    simp only [DataW.weightsAll, List.mem_append]
    rcases List.mem_cons.1 h with rfl | h
    · exact .inl hn
    · exact .inr (mem_all h n hn)
theorem rowD_weight {e f : TypeId} {d : DataW H} {xs : List Int} {m : Nat} (he : P.underlying e = some (.slice f)) (hm : P.bytesOf f = m) (h : RowD d xs) {S : List Nat} (hS : ∀ n ∈ DataW.weights P e d, n ∈ S) (hs : S.all (· ≤ reachBytes) = true) : xs.length * m ≤ 140737488351232 := by
  rcases h with rfl | ⟨el, sp, rfl, hl⟩
  · simp
  · have h1 := List.all_eq_true.1 hs _ (hS ((el.length + sp.length) * P.bytesOf f) (by simp [DataW.weights, he]))
    rw [hm] at h1
    have h3 : el.length * m ≤ (el.length + sp.length) * m := Nat.mul_le_mul_right _ (by omega)
    rw [← hl]
    have h4 : (el.length + sp.length) * m ≤ 140737488351232 := of_decide_eq_true (p := (el.length + sp.length) * m ≤ 140737488351232) h1
    omega
theorem came_shortA {ts : List TypeId} {ds dd : List (DataW H)} {j q : Nat} {t e f : TypeId} {d : DataW H} {xs : List Int} {m : Nat} (hsz : (DataW.weightsEach P ts ds).all (· ≤ reachBytes) = true) (ht : ts[j]? = some t) (hd : ds[j]? = some (.agg dd))
    (hu : P.underlying t = some (.array q e)) (he : P.underlying e = some (.slice f)) (hm : P.bytesOf f = m) (hmem : d ∈ dd) (h : RowD d xs) : xs.length * m ≤ 140737488351232 :=
  rowD_weight he hm h (S := DataW.weightsEach P ts ds) (fun n hn => DataW.weights_mem_each ht hd _ (by simpa [DataW.weights, hu] using mem_all hmem n hn)) hsz

/-! ### structs of one-cell fields, by value -/
theorem open_fields {t : TypeId} {fs : Array Field} {v : Value} {d : DataW H} {ps : List MemPlace} {r : Reach} {base : Nat} (hs : P.underlying t = some (.struct fs)) (hone : oneCellFields P fs = true) (hC : P.cellsOf t = fs.size)
    (hval : Value.okWide P W r base t v) (h : DataW.Trod enc P W 0 (fun _ => true) true t v d ps) :
    ∃ (l : List Value) (ys : List (DataW H × List MemPlace)) (n : Nat), v = .agg l.toArray ∧ l.length = fs.size ∧ d = .agg (ys.map (·.1)) ∧ ys.length = fs.size ∧
      ∀ (j : Nat) (f : Field), fs[j]? = some f → ∃ c y, l[j]? = some c ∧ ys[j]? = some y ∧ DataW.trod enc P W 0 (fun _ => true) true n f.type [c] = some y := by
  obtain ⟨cs, rfl, hsz⟩ := okWide_struct hs hval
  obtain ⟨l⟩ := cs
  obtain ⟨fuel, hf⟩ := h
  obtain ⟨ys, n, _, hx, _, hlen, hg⟩ := DataW.trod_struct hs hf
  simp only [Prod.mk.injEq] at hx
  have hll : l.length = fs.size := hsz.trans hC
  refine ⟨l, ys, n, rfl, hll, hx.1, hlen, fun j f hj => ?_⟩
  have hjl : j < fs.size := (Array.getElem?_eq_some_iff.1 hj).1
  obtain ⟨o, k⟩ := hone_of hone j f hj
  have h1 := hg j f hj
  rw [o, k] at h1
  have e1 : (((Value.agg l.toArray).cells.toList).drop j).take 1 = [l[j]'(by omega)] := by
    show (l.drop j).take 1 = _
    rw [List.drop_eq_getElem_cons (by omega)]
    rfl
  refine ⟨l[j]'(by omega), ys[j]'(by omega), List.getElem?_eq_getElem _, List.getElem?_eq_getElem _, ?_⟩
  rw [← List.getElem?_eq_getElem (show j < ys.length by omega), ← h1, ← e1]
theorem came_shortF {ts : List TypeId} {ds : List (DataW H)} {ys : List (DataW H × List MemPlace)} {j q : Nat} {t : TypeId} {fs : Array Field} {g : Field} {f : TypeId} {y : DataW H × List MemPlace} {xs : List Int} {m : Nat} (hsz : (DataW.weightsEach P ts ds).all (· ≤ reachBytes) = true) (ht : ts[j]? = some t) (hd : ds[j]? = some (.agg (ys.map (·.1))))
    (hu : P.underlying t = some (.struct fs)) (hg : fs[q]? = some g) (hy : ys[q]? = some y) (he : P.underlying g.type = some (.slice f)) (hm : P.bytesOf f = m) (h : RowD y.1 xs) : xs.length * m ≤ 140737488351232 :=
  rowD_weight he hm h (S := DataW.weightsEach P ts ds) (fun n hn => DataW.weights_mem_each ht hd _ (by
    have := DataW.weights_mem_each (P := P) (ts := fs.toList.map (·.type)) (ds := ys.map (·.1)) (j := q) (t := g.type) (d := y.1) (by simp [hg]) (by simp [hy]) n hn
    simpa [DataW.weights, hu] using this)) hsz
end

end Go.Proofs.YtncgapnooabdgaaDoor
