/- What DbmOwn tells. -/
import Derived.Test.YtgpmfnahjepjjaaLd
import Derived.Test.YtgpmfnahjepjjaaKe
namespace Go.Proofs.Ytgpmfnahjepjjaa
open Go Go.RowKit
set_option linter.unusedVariables false
set_option linter.unusedSimpArgs false

/-- A row of so many numbers in a block that is new, whatever they are. -/
def FillR2 (w0 : World) (A : Option Addr) (e : TypeId) (k : IntKind) (N : Nat) (wr : World) : Prop :=
  Below w0.heap.size w0 wr ∧ (0 < N → ∃ g xs, A = some ⟨g, 0, none⟩ ∧ w0.heap.size ≤ g ∧ xs.length = N ∧ RowAt wr g e k xs)
theorem FillR2.start {w0 wr : World} {A : Option Addr} {e : TypeId} {k : IntKind} {N c : Nat} {xs : List Int} (hb : Below w0.heap.size w0 wr) (h : OwnI wr w0.heap.size e k (.slice A N c) xs) (hN : xs.length = N) : FillR2 w0 A e k N wr := by
  refine ⟨hb, fun hp => ?_⟩
  obtain ⟨g, cap, e1, h1, h2⟩ := h.row (by omega)
  simp only [Value.slice.injEq] at e1
  exact ⟨g, xs, e1.1, h1, hN, h2⟩
theorem FillR2.next {w0 wr : World} {A : Option Addr} {e : TypeId} {k : IntKind} {N : Nat} {g : Nat} {xs : List Int} (hb : Below w0.heap.size w0 wr) (hA : A = some ⟨g, 0, none⟩) (hg : w0.heap.size ≤ g) (hN : xs.length = N) (hr : RowAt wr g e k xs) (p q : Nat) (y : Int) :
    FillR2 w0 A e k N ((wr.drewN q).setCell ⟨g, p, none⟩ (.int k y)) :=
  ⟨(belowN hb q).setCell hg _, fun _ => ⟨g, xs.set p y, hA, hg, by simp [hN], (hr.drewN q).set p y⟩⟩

set_option maxRecDepth 100000 in
set_option maxHeartbeats 2000000 in
theorem own_law (n : Int) (A : Option Addr) (c : Nat) (cells : List Int) (w : World) (hI : Ints w .i32 A cells) (hmax : cells.length ≤ 4611686018427387904)
    (hk : ∀ q, q < cells.length → -2147483648 ≤ cells.getD q 0 ∧ cells.getD q 0 ≤ 2147483647) :
    Calls Try.prog 5 #[.int .i64 n, .slice A cells.length c] w fun e w' => e = .returned (.bool true) ∧ Below w.heap.size w w' := by
  have HI := Lib.hid hI
  have HK := Lib.hid hk
  clear hI hk
  go_enter Try.func5, Try.ntmps5
  go_wp2_with fail
  refine (both_any n A c cells _ HI.out hmax HK.out).mono ?_
  rintro e w1 ⟨hb, v, v', rfl, hv, hv'⟩
  have HB1 := Lib.hid hb
  have HV1 := Lib.hid hv
  clear hb hv hv'
  have HZ := Lib.hid (zOf_shape HV1.out)
  go_wp2_with fail
  refine (cells_any _ _ _ HV1.out).mono ?_
  rintro e w2 ⟨l1, rfl, hb, ho⟩
  have HB2 := Lib.hid (HB1.out.trans (hb.mono HB1.out.size))
  have HV2 := Lib.hid (HV1.out.below hb)
  have HO2 := Lib.hid ho
  clear hb ho HB1 HV1
  go_wp2_with fail
  refine (cells_any _ _ _ HV2.out).mono ?_
  rintro e w3 ⟨l2, rfl, hb, ho⟩
  obtain ⟨A3, c3, rfl, _⟩ := ho.slice
  obtain ⟨N, hN⟩ : ∃ N, N = (cellsP (zOf n cells)).length := ⟨_, rfl⟩
  rw [← hN] at ho ⊢
  have HF := Lib.hid (FillR2.start hb ho hN.symm)
  have hN81 : N ≤ 81 := by rw [hN]; exact HZ.out.2.2.1
  have HN := Lib.hid hN
  clear hb ho hN
  go_wp2
  go_loopg [10] N (fun g x wr => ∃ p : Nat, x = .int .i64 p ∧ Hid (FillR2 w2 A3 37 .i32 N wr) ∧ Hid (p ≤ N ∧ g + p = N))
  case atStart => exact ⟨0, by simp, HF.out, by omega, by omega⟩
  case round =>
    clear HF
    obtain ⟨p, rfl, HF, HG⟩ := hrel
    by_cases hp : p < N
    · have hpi : (p : Int) < (N : Int) := by omega
      obtain ⟨g, xs, rfl, hg, hxs, hr⟩ := HF.out.2 (by omega)
      have hc := hr.cell p (by omega)
      have hf := hr.frozen p
      have HX := Lib.hid (FillR2.next HF.out.1 rfl hg hxs hr p)
      clear hr hxs hg
      go_wp2
      go_roundg (gk - 1)
      case measure => have h := HG.out; omega
      case rel => exact ⟨p + 1, by go_num, HX.out 0 5, by omega, by have h := HG.out.2; omega⟩
    · have hpi : ¬ (p : Int) < (N : Int) := by omega
      have HB3 := Lib.hid (HB2.out.trans (HF.out.1.mono HB2.out.size))
      have HV3 := Lib.hid (HV2.out.below HF.out.1)
      have HO3 := Lib.hid (HO2.out.later HF.out.1)
      clear HF HG HB2 HV2 HO2
      go_wp2_with fail
      refine (key_any _ _ _ HV3.out).mono ?_
      rintro e w4 ⟨l3, rfl, hb, ho⟩
      obtain ⟨A4, c4, rfl, _⟩ := ho.slice
      obtain ⟨M, hM⟩ : ∃ M, M = (keyZ (zOf n cells)).length := ⟨_, rfl⟩
      rw [← hM] at ho ⊢
      have HF := Lib.hid (FillR2.start hb ho hM.symm)
      have hM81 : M ≤ 325 := by rw [hM]; exact keyZ_length HZ.out.2.2.1
      clear hb ho hM
      go_wp2
      go_loopg [12] M (fun g x wx => ∃ p : Nat, x = .int .i64 p ∧ Hid (FillR2 wr A4 5 .u8 M wx) ∧ Hid (p ≤ M ∧ g + p = M))
      case atStart => exact ⟨0, by simp, HF.out, by omega, by omega⟩
      case round =>
        clear HF
        obtain ⟨p, rfl, HF, HG⟩ := hrel
        by_cases hp : p < M
        · have hpi : (p : Int) < (M : Int) := by omega
          obtain ⟨g, xs, rfl, hg, hxs, hr⟩ := HF.out.2 (by omega)
          have hc := hr.cell p (by omega)
          have hf := hr.frozen p
          have HX := Lib.hid (FillR2.next HF.out.1 rfl hg hxs hr p)
          clear hr hxs hg
          go_wp2
          go_roundg (gk - 1)
          case measure => have h := HG.out; omega
          case rel => exact ⟨p + 1, by go_num, HX.out 0 5, by omega, by have h := HG.out.2; omega⟩
        · have hpi : ¬ (p : Int) < (M : Int) := by omega
          have HB5 := Lib.hid (HB3.out.trans (HF.out.1.mono HB3.out.size))
          have HV5 := Lib.hid (HV3.out.below HF.out.1)
          have HO5 := Lib.hid (HO3.out.later HF.out.1)
          clear HF HG HB3 HV3 HO3
          go_wp2_with fail
          refine (live_any _).mono ?_
          rintro e w6 ⟨rfl, hb⟩
          have HB6 := Lib.hid (HB5.out.trans (hb.mono HB5.out.size))
          have HV6 := Lib.hid (HV5.out.below hb)
          have HO6 := Lib.hid (HO5.out.later hb)
          clear hb HB5 HV5 HO5
          go_wp2_with fail
          refine (cells_any _ _ _ HV6.out).mono ?_
          rintro e w7 ⟨l7, rfl, hb, ho⟩
          have HB7 := Lib.hid (HB6.out.trans (hb.mono HB6.out.size))
          have HO7 := Lib.hid (HO6.out.later hb)
          have HP7 := Lib.hid ho
          clear hb ho HB6 HV6 HO6
          go_wp2_with fail
          refine (same_own HP7.out HO7.out (by have := HZ.out.2.2.1; omega)).mono ?_
          rintro e w8 ⟨rfl, q, rfl⟩
          go_wp2
          go_ret
          exact ⟨rfl, belowN HB7.out q⟩

end Go.Proofs.Ytgpmfnahjepjjaa
