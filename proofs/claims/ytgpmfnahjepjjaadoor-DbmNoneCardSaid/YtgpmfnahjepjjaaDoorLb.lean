/- The zones of one clock, and what live tells. -/
import Derived.Test.YtgpmfnahjepjjaaDoorSa
import Derived.Test.YtgpmfnahjepjjaaDoorDy
import Derived.Test.YtgpmfnahjepjjaaDoorDd
import Derived.Test.YtgpmfnahjepjjaaDoorDf
namespace Go.Proofs.YtgpmfnahjepjjaaDoor
open Go Go.RowKit
set_option linter.unusedVariables false
set_option linter.unusedSimpArgs false

/-- The zone of zeroes of one clock; that without limits. -/
def mz1 : Mat := (zerP 1).1.getD fun _ _ => 0
def mu1 : Mat := (limP 1 []).1.getD fun _ _ => 0
theorem zerP_one : zerP 1 = (some mz1, 0) := by
  have h1 : (zerP 1).1.isSome = true := by decide +kernel
  have h2 : (zerP 1).2 = 0 := by decide +kernel
  unfold mz1
  revert h1 h2
  generalize zerP 1 = r
  obtain ⟨a, b⟩ := r
  cases a <;> simp
theorem limP_one : limP 1 [] = (some mu1, 0) := by
  have h1 : (limP 1 []).1.isSome = true := by decide +kernel
  have h2 : (limP 1 []).2 = 0 := by decide +kernel
  unfold mu1
  revert h1 h2
  generalize limP 1 [] = r
  obtain ⟨a, b⟩ := r
  cases a <;> simp
theorem flat_mz1 : flat 1 mz1 = [1, 1, 1, 1] := by decide +kernel
theorem flat_mu1 : flat 1 mu1 = [1, 1, 2147483647, 1] := by decide +kernel
theorem incl_uz : inclP (some (1, mu1)) (some (1, mz1)) = true := by decide +kernel
theorem incl_zu : inclP (some (1, mz1)) (some (1, mu1)) = false := by decide +kernel

/-- Four numbers in a block that was just laid. -/
theorem ints_four (w : World) (e : TypeId) (a b c d : Int) : Ints (w.alloc (.cells #[.int .i32 a, .int .i32 b, .int .i32 c, .int .i32 d] e (0, 0))) .i32 (some ⟨w.heap.size, 0, none⟩) [a, b, c, d] := by
  exact RowAt.ints (e := e) ⟨#[.int .i32 a, .int .i32 b, .int .i32 c, .int .i32 d], heap_alloc_new _ _, by simp [vals]⟩

set_option maxRecDepth 100000 in
set_option maxHeartbeats 2000000 in
theorem live_any (w : World) : Calls Tryd.prog 6 #[] w fun e w' => e = .returned (.bool true) ∧ Below w.heap.size w w' := by
  go_enter Tryd.func6, Tryd.ntmps6
  go_wp2_with fail
  refine (zero_any 1 _).mono ?_
  rw [zerP_one]
  rintro e w1 ⟨hb, v, rfl, hv⟩
  have HB1 := Lib.hid hb
  have HV1 := Lib.hid (show ZoneV 44 w1 v (some (1, mz1)) from hv)
  obtain ⟨bz, ez, _⟩ := hv
  subst ez
  clear hb
  go_wp2_with fail
  refine (universe_any 1 _).mono ?_
  rw [limP_one]
  rintro e w2 ⟨hb, v, rfl, hv⟩
  have HB2 := Lib.hid (HB1.out.trans (hb.mono HB1.out.size))
  have HV2 := Lib.hid (HV1.out.below hb)
  have HU2 := Lib.hid (show ZoneV 44 w2 v (some (1, mu1)) from hv)
  obtain ⟨bu, eu, _⟩ := hv
  subst eu
  clear hb HB1 HV1
  go_wp2_with fail
  refine (cells_any _ _ _ HV2.out).mono ?_
  rintro e w3 ⟨l, rfl, hb3, ho3⟩
  have HB3 := Lib.hid (HB2.out.trans (hb3.mono HB2.out.size))
  have HV3 := Lib.hid (HV2.out.below hb3)
  have HU3 := Lib.hid (HU2.out.below hb3)
  obtain ⟨A3, c3, rfl, hi3⟩ := ho3.slice
  have HI3 := Lib.hid hi3
  clear hb3 ho3 hi3 HB2 HV2 HU2
  go_wp2_with fail
  have HJ3 := Lib.hid (ints_four w3 26 1 1 1 1)
  have HB4 := Lib.hid ((Below.refl w3.heap.size w3).alloc (Nat.le_refl _) (.cells #[.int .i32 1, .int .i32 1, .int .i32 1, .int .i32 1] 26))
  refine (same_any A3 c3 _ _ 4 [1, 1, 1, 1] _ (HI3.out.below HB4.out) HJ3.out (by rw [show cellsP (some (1, mz1)) = [1, 1, 1, 1] from flat_mz1]; decide) (by decide)).mono ?_
  rw [show cellsP (some (1, mz1)) = [1, 1, 1, 1] from flat_mz1, sameL_self]
  rintro e w5 ⟨rfl, q, rfl⟩
  have HB5 := Lib.hid (belowN HB4.out q)
  have HB6 := Lib.hid (HB3.out.trans (HB5.out.mono HB3.out.size))
  have HV6 := Lib.hid (HV3.out.below HB5.out)
  have HU6 := Lib.hid (HU3.out.below HB5.out)
  generalize (w3.alloc (.cells #[.int .i32 1, .int .i32 1, .int .i32 1, .int .i32 1] 26)).drewN q = w6 at *
  clear HB3 HV3 HU3 HI3 HB4 HJ3 HB5
  go_wp2_with fail
  refine (cells_any _ _ _ HU6.out).mono ?_
  rintro e w7 ⟨l, rfl, hb7, ho7⟩
  have HB7 := Lib.hid (HB6.out.trans (hb7.mono HB6.out.size))
  have HV7 := Lib.hid (HV6.out.below hb7)
  have HU7 := Lib.hid (HU6.out.below hb7)
  obtain ⟨A7, c7, rfl, hi7⟩ := ho7.slice
  have HI7 := Lib.hid hi7
  clear hb7 ho7 hi7 HB6 HV6 HU6
  go_wp2_with fail
  have HJ7 := Lib.hid (ints_four w7 26 1 1 2147483647 1)
  have HB8 := Lib.hid ((Below.refl w7.heap.size w7).alloc (Nat.le_refl _) (.cells #[.int .i32 1, .int .i32 1, .int .i32 2147483647, .int .i32 1] 26))
  refine (same_any A7 c7 _ _ 4 [1, 1, 2147483647, 1] _ (HI7.out.below HB8.out) HJ7.out (by rw [show cellsP (some (1, mu1)) = [1, 1, 2147483647, 1] from flat_mu1]; decide) (by decide)).mono ?_
  rw [show cellsP (some (1, mu1)) = [1, 1, 2147483647, 1] from flat_mu1, sameL_self]
  rintro e w9 ⟨rfl, q, rfl⟩
  have HB9 := Lib.hid (belowN HB8.out q)
  have HB10 := Lib.hid (HB7.out.trans (HB9.out.mono HB7.out.size))
  have HV10 := Lib.hid (HV7.out.below HB9.out)
  have HU10 := Lib.hid (HU7.out.below HB9.out)
  generalize (w7.alloc (.cells #[.int .i32 1, .int .i32 1, .int .i32 2147483647, .int .i32 1] 26)).drewN q = w10 at *
  clear HB7 HV7 HU7 HI7 HB8 HJ7 HB9
  go_wp2_with fail
  refine (includes_any _ _ _ _ _ HU10.out HV10.out).mono ?_
  rw [incl_uz]
  rintro e w11 ⟨rfl, hb⟩
  have HB11 := Lib.hid (HB10.out.trans (hb.mono HB10.out.size))
  have HV11 := Lib.hid (HV10.out.below hb)
  have HU11 := Lib.hid (HU10.out.below hb)
  clear hb HB10 HV10 HU10
  go_wp2_with fail
  refine (includes_any _ _ _ _ _ HV11.out HU11.out).mono ?_
  rw [incl_zu]
  rintro e w12 ⟨rfl, hb⟩
  have HB12 := Lib.hid (HB11.out.trans (hb.mono HB11.out.size))
  clear hb
  go_wp2
  go_ret
  exact ⟨rfl, HB12.out⟩

end Go.Proofs.YtgpmfnahjepjjaaDoor
