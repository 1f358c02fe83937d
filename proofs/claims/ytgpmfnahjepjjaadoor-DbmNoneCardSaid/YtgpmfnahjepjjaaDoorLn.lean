/- What DbmNone tells. -/
import Derived.Test.YtgpmfnahjepjjaaDoorLb
import Derived.Test.YtgpmfnahjepjjaaDoorDf
import Derived.Test.YtgpmfnahjepjjaaDoorDg
import Derived.Test.YtgpmfnahjepjjaaDoorDh
import Derived.Test.YtgpmfnahjepjjaaDoorKe
namespace Go.Proofs.YtgpmfnahjepjjaaDoor
open Go Go.RowKit
set_option linter.unusedVariables false
set_option linter.unusedSimpArgs false

theorem print_nil (w : World) : Calls Tryd.prog 14 #[.pointer none] w fun e w' => e = .returned (.string "".toByteArray) ∧ w = w' := by
  go_enter Tryd.func14, Tryd.ntmps14
  go_wp2
  go_ret
  exact ⟨rfl, rfl⟩

set_option maxRecDepth 100000 in
set_option maxHeartbeats 2000000 in
theorem none_law (i j : Int) (w : World) :
    Calls Tryd.prog 3 #[.int .i64 i, .int .i64 j] w fun e w' => e = .returned (.bool true) ∧ Below w.heap.size w w' := by
  go_enter Tryd.func3, Tryd.ntmps3
  go_wp2_with fail
  refine (universe_any 1 _).mono ?_
  rw [limP_one]
  rintro e w1 ⟨hb, v, rfl, hv⟩
  have HB1 := Lib.hid hb
  have HV1 := Lib.hid (show ZoneV 44 w1 v (some (1, mu1)) from hv)
  clear hb hv
  go_wp2_with fail
  refine (cell_nil i j _).mono ?_
  rintro e w2 ⟨rfl, rfl⟩
  go_wp2_with fail
  refine (live_any _).mono ?_
  rintro e w2 ⟨rfl, hb⟩
  have HB2 := Lib.hid (HB1.out.trans (hb.mono HB1.out.size))
  have HV2 := Lib.hid (HV1.out.below hb)
  clear hb HB1 HV1
  have hnil : ZoneV 44 w2 (.pointer none) none := rfl
  have HN2 := Lib.hid hnil
  clear hnil
  go_wp2_with fail
  refine (dim_nil _).mono ?_
  rintro e w3 ⟨rfl, rfl⟩
  go_wp2_with fail
  refine (empty_nil _).mono ?_
  rintro e w3 ⟨rfl, rfl⟩
  go_wp2_with fail
  refine (cells_nil _).mono ?_
  rintro e w3 ⟨rfl, rfl⟩
  go_wp2_with fail
  refine (includes_any _ _ _ _ _ HN2.out HV2.out).mono ?_
  rintro e w3 ⟨rfl, hb⟩
  have HB3 := Lib.hid (HB2.out.trans (hb.mono HB2.out.size))
  have HV3 := Lib.hid (HV2.out.below hb)
  have HN3 := Lib.hid (HN2.out.below hb)
  clear hb HB2 HV2 HN2
  rw [show inclP none (some (1, mu1)) = false from rfl]
  go_wp2_with fail
  refine (includes_any _ _ _ _ _ HV3.out HN3.out).mono ?_
  rintro e w4 ⟨rfl, hb⟩
  have HB4 := Lib.hid (HB3.out.trans (hb.mono HB3.out.size))
  have HV4 := Lib.hid (HV3.out.below hb)
  have HN4 := Lib.hid (HN3.out.below hb)
  clear hb HB3 HV3 HN3
  rw [show inclP (some (1, mu1)) none = false from rfl]
  go_wp2_with fail
  refine (equal_any _ _ _ _ _ HN4.out HN4.out).mono ?_
  rintro e w5 ⟨rfl, hb⟩
  have HB5 := Lib.hid (HB4.out.trans (hb.mono HB4.out.size))
  have HV5 := Lib.hid (HV4.out.below hb)
  have HN5 := Lib.hid (HN4.out.below hb)
  clear hb HB4 HV4 HN4
  rw [show equalP none none = false from rfl]
  go_wp2_with fail
  refine (meets_any _ _ _ _ _ HV5.out HN5.out).mono ?_
  rintro e w6 ⟨rfl, hb⟩
  have HB6 := Lib.hid (HB5.out.trans (hb.mono HB5.out.size))
  clear hb HB5 HV5 HN5
  rw [show meetsP (some (1, mu1)) none = false from rfl]
  go_wp2_with fail
  refine (key_nil _).mono ?_
  rintro e w7 ⟨rfl, rfl⟩
  go_wp2_with fail
  refine (print_nil _).mono ?_
  rintro e w7 ⟨rfl, rfl⟩
  go_wp2
  go_ret
  exact ⟨rfl, HB6.out⟩

end Go.Proofs.YtgpmfnahjepjjaaDoor
