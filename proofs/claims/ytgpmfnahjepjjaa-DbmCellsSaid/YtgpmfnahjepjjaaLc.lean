/- What DbmCells tells. -/
import Derived.Test.YtgpmfnahjepjjaaLb
namespace Go.Proofs.Ytgpmfnahjepjjaa
open Go Go.RowKit
set_option linter.unusedVariables false
set_option linter.unusedSimpArgs false

set_option maxRecDepth 100000 in
set_option maxHeartbeats 2000000 in
theorem cells_law (n : Int) (A : Option Addr) (c : Nat) (cells : List Int) (x y : Int) (w : World) (hI : Ints w .i32 A cells) (hmax : cells.length ≤ 4611686018427387904)
    (hk : ∀ q, q < cells.length → -2147483648 ≤ cells.getD q 0 ∧ cells.getD q 0 ≤ 2147483647) :
    Calls Try.prog 4 #[.int .i64 n, .slice A cells.length c, .agg #[.int .i64 x, .int .i64 y]] w fun e w' => e = .returned (.bool true) ∧ Below w.heap.size w w' := by
  have HI := Lib.hid hI
  have HK := Lib.hid hk
  clear hI hk
  have HB0 := Lib.hid ((Below.refl w.heap.size w).alloc (Nat.le_refl _) (.cells #[.int .i64 x, .int .i64 y] 43))
  go_enter Try.func4, Try.ntmps4
  go_wp2_with fail
  refine (both_any n A c cells _ (HI.out.below HB0.out) hmax HK.out).mono ?_
  rintro e w1 ⟨hb, v, v', rfl, hv, hv'⟩
  have HB1 := Lib.hid (HB0.out.trans (hb.mono HB0.out.size))
  have HV1 := Lib.hid hv
  have HR1 := Lib.hid hv'
  have k0 : w1.cell? ⟨w.heap.size, 0, none⟩ = some (.int .i64 x) := by
    rw [hb.cell (by simp)]
    rw [World.cell?, heap_alloc_new]
    rfl
  have k1 : w1.cell? ⟨w.heap.size, 1, none⟩ = some (.int .i64 y) := by
    rw [hb.cell (by simp)]
    rw [World.cell?, heap_alloc_new]
    rfl
  clear hb hv hv' HB0 HI
  go_wp2_with fail
  refine (cell_any v _ x y _ HV1.out).mono ?_
  rintro e w2 ⟨rfl, rfl⟩
  go_wp2_with fail
  refine (rcell_any v' _ x y _ HR1.out).mono ?_
  rintro e w3 ⟨rfl, q, rfl⟩
  have HB2 := Lib.hid (belowN HB1.out q)
  generalize w1.drewN q = w2 at *
  obtain ⟨r1, hr1⟩ : ∃ r1, r1 = (cellZ (zOf n cells) x y).1 := ⟨_, rfl⟩
  obtain ⟨r2, hr2⟩ : ∃ r2, r2 = (cellZ (zOf n cells) x y).2 := ⟨_, rfl⟩
  rw [← hr1, ← hr2]
  clear hr1 hr2
  go_wp2_with fail
  refine (live_any _).mono ?_
  rintro e w4 ⟨rfl, hb⟩
  have HB4 := Lib.hid (HB2.out.trans (hb.mono HB2.out.size))
  clear hb
  go_wp2
  go_ret
  exact ⟨rfl, HB4.out⟩

end Go.Proofs.Ytgpmfnahjepjjaa
