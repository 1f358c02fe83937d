/- What DbmCompares tells. -/
import Derived.Test.YtgpmfnahjepjjaaLb
import Derived.Test.YtgpmfnahjepjjaaPc
namespace Go.Proofs.Ytgpmfnahjepjjaa
open Go Go.RowKit
set_option linter.unusedVariables false
set_option linter.unusedSimpArgs false

theorem zOf_shape {T : TypeId} {w : World} {v : Value} {n : Int} {cells : List Int} (h : ZoneV T w v (zOf n cells)) :
    ShapeZ (zOf n cells) ∧ (∀ k m, zOf n cells = some (k, m) → k ≤ 8 ∧ (k : Int) = n) ∧ (cellsP (zOf n cells)).length ≤ 81 ∧ Bd32 (zOf n cells) := by
  have hs : ∀ k m, zOf n cells = some (k, m) → 0 ≤ n ∧ n ≤ 8 ∧ k = n.toNat ∧ Shape k m := fun k m e => by
    unfold zOf at e
    obtain ⟨m', h1, h2⟩ := Option.map_eq_some_iff.1 e
    simp only [Prod.mk.injEq] at h2
    obtain ⟨rfl, rfl⟩ := h2
    have := ofP_shape h1
    exact ⟨this.1, this.2.1, rfl, this.2.2⟩
  generalize zOf n cells = z at h hs
  match z, h, hs with
  | none, _, _ => exact ⟨trivial, (fun _ _ h => by cases h), (by simp [cellsP]), (fun q hq => by simp [cellsP] at hq)⟩
  | some (k, m), ⟨b, _, hn, hr, _⟩, hs =>
    obtain ⟨h1, h2, h3, h4⟩ := hs k m rfl
    refine ⟨⟨h4, hr⟩, fun k' m' e => ?_, cellsP_short _ fun k' m' e => ?_, fun q hq => ?_⟩
    · simp only [Option.some.injEq, Prod.mk.injEq] at e
      omega
    · simp only [Option.some.injEq, Prod.mk.injEq] at e
      omega
    · have hq : q < (flat k m).length := hq
      show -2147483648 ≤ (flat k m).getD q 0 ∧ (flat k m).getD q 0 ≤ 2147483647
      rw [flat_length] at hq
      rw [flat_getD _ _ _ hq]
      have a1 : q / (k + 1) < k + 1 := Nat.div_lt_of_lt_mul hq
      have a2 := Nat.mod_lt q (show 0 < k + 1 by omega)
      have := hr (q / (k + 1)) (q % (k + 1)) (by omega) (by omega)
      unfold rightB at this
      have := of_decide_eq_true this
      omega

/-- The zone of all valuations of n clocks. -/
def uOf (n : Int) : Option (Nat × Mat) := (limP n []).1.map fun m => (n.toNat, m)
theorem uOf_other {n k : Int} {cells : List Int} (h : ∀ a m, zOf n cells = some (a, m) → a ≤ 8 ∧ (a : Int) = n) (hk : 0 ≤ n → n ≤ 8 → k = n + 1) : ∀ a ma b mb, zOf n cells = some (a, ma) → uOf k = some (b, mb) → a ≠ b := fun a ma b mb e e' => by
  have h1 := h a ma e
  have h2 := hk (by omega) (by omega)
  unfold uOf at e'
  obtain ⟨m', _, h3⟩ := Option.map_eq_some_iff.1 e'
  simp only [Prod.mk.injEq] at h3
  omega

set_option maxRecDepth 100000 in
set_option maxHeartbeats 2000000 in
theorem compares_law (n : Int) (A : Option Addr) (c : Nat) (cells : List Int) (B : Option Addr) (d : Nat) (other : List Int) (w : World) (hI : Ints w .i32 A cells) (hmax : cells.length ≤ 4611686018427387904)
    (hk : ∀ q, q < cells.length → -2147483648 ≤ cells.getD q 0 ∧ cells.getD q 0 ≤ 2147483647) (hI' : Ints w .i32 B other) (hmax' : other.length ≤ 4611686018427387904)
    (hk' : ∀ q, q < other.length → -2147483648 ≤ other.getD q 0 ∧ other.getD q 0 ≤ 2147483647) :
    Calls Try.prog 9 #[.int .i64 n, .slice A cells.length c, .slice B other.length d] w fun e w' => e = .returned (.bool true) ∧ Below w.heap.size w w' := by
  have HI := Lib.hid hI
  have HK := Lib.hid hk
  have HI' := Lib.hid hI'
  have HK' := Lib.hid hk'
  clear hI hk hI' hk'
  go_enter Try.func9, Try.ntmps9
  go_wp2_with fail
  refine (both_any n A c cells _ HI.out hmax HK.out).mono ?_
  rintro e w1 ⟨hb, v, v', rfl, hv, hv'⟩
  have HB1 := Lib.hid hb
  have HV1 := Lib.hid hv
  have HR1 := Lib.hid hv'
  have HJ := Lib.hid (HI'.out.below hb)
  clear hb hv hv'
  go_wp2_with fail
  refine (both_any n B d other _ HJ.out hmax' HK'.out).mono ?_
  rintro e w2 ⟨hb, u, u', rfl, hu, hu'⟩
  have HB2 := Lib.hid (HB1.out.trans (hb.mono HB1.out.size))
  have HV2 := Lib.hid (HV1.out.below hb)
  have HR2 := Lib.hid (HR1.out.below hb)
  have HU2 := Lib.hid hu
  have HS2 := Lib.hid hu'
  clear hb hu hu' HB1 HV1 HR1 HJ
  have HZ := Lib.hid (zOf_shape HV2.out)
  have HO := Lib.hid (zOf_shape HU2.out)
  go_wp2_with fail
  refine (universe_any _ _).mono ?_
  rintro e w3 ⟨hb, t, rfl, ht⟩
  have HB3 := Lib.hid (HB2.out.trans (hb.mono HB2.out.size))
  have HV3 := Lib.hid (HV2.out.below hb)
  have HR3 := Lib.hid (HR2.out.below hb)
  have HU3 := Lib.hid (HU2.out.below hb)
  have HS3 := Lib.hid (HS2.out.below hb)
  have HT3 := Lib.hid (show ZoneV 76 w3 t (uOf (wrap64 (n + 1))) from ht)
  clear hb ht HB2 HV2 HR2 HU2 HS2
  obtain ⟨eu, heu⟩ : ∃ eu, eu = (limP (wrap64 (n + 1)) []).2 := ⟨_, rfl⟩
  rw [← heu]
  clear heu
  have HX := Lib.hid (other_dim (uOf_other (k := wrap64 (n + 1)) HZ.out.2.1 (fun h0 h8 => by unfold wrap64; omega)))
  go_wp2_with fail
  refine (live_any _).mono ?_
  rintro e w4 ⟨rfl, hb⟩
  have HB4 := Lib.hid (HB3.out.trans (hb.mono HB3.out.size))
  have HV4 := Lib.hid (HV3.out.below hb)
  have HR4 := Lib.hid (HR3.out.below hb)
  have HU4 := Lib.hid (HU3.out.below hb)
  have HS4 := Lib.hid (HS3.out.below hb)
  have HT4 := Lib.hid (HT3.out.below hb)
  clear hb HB3 HV3 HR3 HU3 HS3 HT3
  obtain ⟨r1, hr1⟩ : ∃ r1, r1 = inclP (zOf n cells) (zOf n other) := ⟨_, rfl⟩
  obtain ⟨r2, hr2⟩ : ∃ r2, r2 = equalP (zOf n cells) (zOf n other) := ⟨_, rfl⟩
  obtain ⟨r3, hr3⟩ : ∃ r3, r3 = meetsP (zOf n cells) (zOf n other) := ⟨_, rfl⟩
  have HR1' := Lib.hid (hr1.trans (incl_law HZ.out.1 HO.out.1))
  have HR2' := Lib.hid (hr2.trans (equal_law HZ.out.1 HO.out.1 (fun a m e => (HZ.out.2.1 a m e).1)))
  have HR3' := Lib.hid (hr3.trans (meet_law HZ.out.1 HO.out.1 (fun a m e => (HZ.out.2.1 a m e).1)))
  have HR1 := Lib.hid hr1
  have HR2 := Lib.hid hr2
  have HR3 := Lib.hid hr3
  clear hr1 hr2 hr3
  go_wp2_with fail
  refine (includes_any _ _ _ _ _ HV4.out HU4.out).mono ?_
  rw [← HR1.out]
  rintro e w5 ⟨rfl, hb⟩
  have HB5 := Lib.hid (HB4.out.trans (hb.mono HB4.out.size))
  have HV5 := Lib.hid (HV4.out.below hb)
  have HRR5 := Lib.hid (HR4.out.below hb)
  have HU5 := Lib.hid (HU4.out.below hb)
  have HS5 := Lib.hid (HS4.out.below hb)
  have HT5 := Lib.hid (HT4.out.below hb)
  clear hb HB4 HV4 HR4 HU4 HS4 HT4
  go_wp2_with fail
  refine (rincludes_any _ _ _ _ _ HRR5.out HS5.out).mono ?_
  rw [← HR1'.out]
  rintro e w6 ⟨rfl, q, rfl⟩
  have HB6 := Lib.hid (belowN HB5.out q)
  have HV6 := Lib.hid (HV5.out.below (belowN (Below.refl _ _) q))
  have HRR6 := Lib.hid (HRR5.out.below (belowN (Below.refl _ _) q))
  have HU6 := Lib.hid (HU5.out.below (belowN (Below.refl _ _) q))
  have HS6 := Lib.hid (HS5.out.below (belowN (Below.refl _ _) q))
  have HT6 := Lib.hid (HT5.out.below (belowN (Below.refl _ _) q))
  generalize w5.drewN q = w6 at *
  clear HB5 HV5 HRR5 HU5 HS5 HT5
  go_wp2_with fail
  refine (equal_any _ _ _ _ _ HV6.out HU6.out).mono ?_
  rw [← HR2.out]
  rintro e w7 ⟨rfl, hb⟩
  have HB7 := Lib.hid (HB6.out.trans (hb.mono HB6.out.size))
  have HV7 := Lib.hid (HV6.out.below hb)
  have HRR7 := Lib.hid (HRR6.out.below hb)
  have HU7 := Lib.hid (HU6.out.below hb)
  have HS7 := Lib.hid (HS6.out.below hb)
  have HT7 := Lib.hid (HT6.out.below hb)
  clear hb HB6 HV6 HRR6 HU6 HS6 HT6
  go_wp2_with fail
  refine (requal_any _ _ _ _ _ HRR7.out HS7.out HZ.out.2.2.1 HO.out.2.2.1).mono ?_
  rw [← HR2'.out]
  rintro e w8 ⟨rfl, hb⟩
  have HB8 := Lib.hid (HB7.out.trans (hb.mono HB7.out.size))
  have HV8 := Lib.hid (HV7.out.below hb)
  have HRR8 := Lib.hid (HRR7.out.below hb)
  have HU8 := Lib.hid (HU7.out.below hb)
  have HS8 := Lib.hid (HS7.out.below hb)
  have HT8 := Lib.hid (HT7.out.below hb)
  clear hb HB7 HV7 HRR7 HU7 HS7 HT7
  go_wp2_with fail
  refine (meets_any _ _ _ _ _ HV8.out HU8.out).mono ?_
  rw [← HR3.out]
  rintro e w9 ⟨rfl, hb⟩
  have HB9 := Lib.hid (HB8.out.trans (hb.mono HB8.out.size))
  have HV9 := Lib.hid (HV8.out.below hb)
  have HRR9 := Lib.hid (HRR8.out.below hb)
  have HS9 := Lib.hid (HS8.out.below hb)
  have HT9 := Lib.hid (HT8.out.below hb)
  clear hb HB8 HV8 HRR8 HU8 HS8 HT8
  go_wp2_with fail
  refine (rmeets_any _ _ _ _ _ HRR9.out HS9.out HZ.out.2.2.2 HO.out.2.2.2).mono ?_
  rw [← HR3'.out]
  rintro e w10 ⟨rfl, hb⟩
  have HB10 := Lib.hid (HB9.out.trans (hb.mono HB9.out.size))
  have HV10 := Lib.hid (HV9.out.below hb)
  have HT10 := Lib.hid (HT9.out.below hb)
  clear hb HB9 HV9 HRR9 HS9 HT9
  clear HR1 HR2 HR3 HR1' HR2' HR3'
  go_wp2_with fail
  refine (includes_any _ _ _ _ _ HV10.out HT10.out).mono ?_
  rw [HX.out.1]
  rintro e w11 ⟨rfl, hb⟩
  have HB11 := Lib.hid (HB10.out.trans (hb.mono HB10.out.size))
  have HV11 := Lib.hid (HV10.out.below hb)
  have HT11 := Lib.hid (HT10.out.below hb)
  clear hb HB10 HV10 HT10
  go_wp2_with fail
  refine (equal_any _ _ _ _ _ HV11.out HT11.out).mono ?_
  rw [HX.out.2.1]
  rintro e w12 ⟨rfl, hb⟩
  have HB12 := Lib.hid (HB11.out.trans (hb.mono HB11.out.size))
  have HV12 := Lib.hid (HV11.out.below hb)
  have HT12 := Lib.hid (HT11.out.below hb)
  clear hb HB11 HV11 HT11
  go_wp2_with fail
  refine (meets_any _ _ _ _ _ HV12.out HT12.out).mono ?_
  rw [HX.out.2.2]
  rintro e w13 ⟨rfl, hb⟩
  have HB13 := Lib.hid (HB12.out.trans (hb.mono HB12.out.size))
  clear hb
  go_wp2
  go_ret
  exact ⟨rfl, HB13.out⟩

end Go.Proofs.Ytgpmfnahjepjjaa
