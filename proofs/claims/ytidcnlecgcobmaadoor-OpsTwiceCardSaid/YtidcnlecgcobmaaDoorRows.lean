/-
  NARROWER THAN 'FOR EVERY INPUT', by the rows' own cells (each row's printed sentence says how): OpsLimits: laid · OpsTime: laid · OpsGuards: laid · OpsHull: laid · OpsJoins: laid · OpsCells: laid · OpsTwice: laid · OpsSets: laid · OpsPoints: laid · OpsNone: laid.
  DERIVED. THE GIVEN ROWS OF THIS SEAT. 10 by the template 'for every input the law returns true; each argument reads behind the call as it read before'; 0 by the template 'total and deterministic' (their statements: YtidcnlecgcobmaaDoorTotals.lean).
  GIVEN WITH THE SEED: the statements are not yours to turn. If you find one false, say at which input.
  Laid BY PROGRAM, IN A SANDBOX (cutbox-rows.mjs): the forced cells as the released guide's own fill.sh prints them over the translation 68daeb39e8fb7ab7… (all of the seat's roots in one cut). By AI agents, Wed Nov 11 2026. No macro, syntax, notation, axiom, sorry.
-/
import Derived.Test.YtidcnlecgcobmaaDoorChecked
import GoSem.Claim
import GoSem.ClaimJoined
import GoSem.ClaimMapViews
import Derived.JoinedTies
import Derived.KernelRfl
namespace Go.Proofs.YtidcnlecgcobmaaDoor
/- THE CELL 'sum', in the pinned program and in every row, IS THE sha256 OF THE DUMP (.gsa) THAT YtidcnlecgcobmaaDoorProg.lean LOADS. Nothing in Lean hashes anything: it is a label: what it is worth is what the hold of that sum in a sandbox is worth. -/
noncomputable def Tryd.pinned : Pinned := { name := "ytidcnlecgcobmaadoor", sum := "68daeb39e8fb7ab7238ff07ed8e03e2eba109e66c35f14a979410adfd3ad593b", checked := Tryd.checked }
namespace Rows
def none {H : Type} : Left H := { results := [], args := [] }

/- WHAT THE LISTED PACKAGE-LEVEL VARIABLES READ AS WHEN THE CALL BEGINS. Each datum BY PROGRAM (the guide's laid-datum.mjs) off the statement by which the dump's own 'gosem.cut.vars' lays the variable. In a bare row this is a premise. The card (YtidcnlecgcobmaaDoorCards.lean) ties it to the program's text. -/
def laid_math_bits_deBruijn32tab {H : Type} : DataW H := .agg [.lit (.int .u8 0), .lit (.int .u8 1), .lit (.int .u8 28), .lit (.int .u8 2), .lit (.int .u8 29), .lit (.int .u8 14), .lit (.int .u8 24), .lit (.int .u8 3), .lit (.int .u8 30), .lit (.int .u8 22), .lit (.int .u8 20), .lit (.int .u8 15), .lit (.int .u8 25), .lit (.int .u8 17), .lit (.int .u8 4), .lit (.int .u8 8), .lit (.int .u8 31), .lit (.int .u8 27), .lit (.int .u8 13), .lit (.int .u8 23), .lit (.int .u8 21), .lit (.int .u8 19), .lit (.int .u8 16), .lit (.int .u8 7), .lit (.int .u8 26), .lit (.int .u8 12), .lit (.int .u8 18), .lit (.int .u8 6), .lit (.int .u8 11), .lit (.int .u8 5), .lit (.int .u8 10), .lit (.int .u8 9)]
def laid_math_bits_deBruijn64tab {H : Type} : DataW H := .agg [.lit (.int .u8 0), .lit (.int .u8 1), .lit (.int .u8 56), .lit (.int .u8 2), .lit (.int .u8 57), .lit (.int .u8 49), .lit (.int .u8 28), .lit (.int .u8 3), .lit (.int .u8 61), .lit (.int .u8 58), .lit (.int .u8 42), .lit (.int .u8 50), .lit (.int .u8 38), .lit (.int .u8 29), .lit (.int .u8 17), .lit (.int .u8 4), .lit (.int .u8 62), .lit (.int .u8 47), .lit (.int .u8 59), .lit (.int .u8 36), .lit (.int .u8 45), .lit (.int .u8 43), .lit (.int .u8 51), .lit (.int .u8 22), .lit (.int .u8 53), .lit (.int .u8 39), .lit (.int .u8 33), .lit (.int .u8 30), .lit (.int .u8 24), .lit (.int .u8 18), .lit (.int .u8 12), .lit (.int .u8 5), .lit (.int .u8 63), .lit (.int .u8 55), .lit (.int .u8 48), .lit (.int .u8 27), .lit (.int .u8 60), .lit (.int .u8 41), .lit (.int .u8 37), .lit (.int .u8 16), .lit (.int .u8 46), .lit (.int .u8 35), .lit (.int .u8 44), .lit (.int .u8 21), .lit (.int .u8 52), .lit (.int .u8 32), .lit (.int .u8 23), .lit (.int .u8 11), .lit (.int .u8 54), .lit (.int .u8 26), .lit (.int .u8 40), .lit (.int .u8 15), .lit (.int .u8 34), .lit (.int .u8 20), .lit (.int .u8 31), .lit (.int .u8 10), .lit (.int .u8 25), .lit (.int .u8 14), .lit (.int .u8 19), .lit (.int .u8 9), .lit (.int .u8 13), .lit (.int .u8 8), .lit (.int .u8 7), .lit (.int .u8 6)]
def laid_internal_strconv_uint64pow10 {H : Type} : DataW H := .agg [.lit (.int .u64 1), .lit (.int .u64 10), .lit (.int .u64 100), .lit (.int .u64 1000), .lit (.int .u64 10000), .lit (.int .u64 100000), .lit (.int .u64 1000000), .lit (.int .u64 10000000), .lit (.int .u64 100000000), .lit (.int .u64 1000000000), .lit (.int .u64 10000000000), .lit (.int .u64 100000000000), .lit (.int .u64 1000000000000), .lit (.int .u64 10000000000000), .lit (.int .u64 100000000000000), .lit (.int .u64 1000000000000000), .lit (.int .u64 10000000000000000), .lit (.int .u64 100000000000000000), .lit (.int .u64 1000000000000000000), .lit (.int .u64 10000000000000000000)]

/-- 'gnomonlaw04.OpsLimits': WHATEVER THE INPUT: true; the input reads as it did. -/
def opsLimitsSpec : ChangeSpec := { name := "opsLimits", fn := fun _ => fun
  | [d1, d2, d3] => { results := [.lit (.bool true)], args := [d1, d2, d3] }
  | _ => none }
def opsLimitsRow : OpenClaim := { program := "ytidcnlecgcobmaadoor", sum := "68daeb39e8fb7ab7238ff07ed8e03e2eba109e66c35f14a979410adfd3ad593b", func := "gnomon/gnomonlaw04.OpsLimits", spec := "opsLimits", named := ["internal/strconv.uint64pow10", "math/bits.deBruijn32tab", "math/bits.deBruijn64tab"], apart := false, laid := [("math/bits.deBruijn32tab", laid_math_bits_deBruijn32tab), ("math/bits.deBruijn64tab", laid_math_bits_deBruijn64tab), ("internal/strconv.uint64pow10", laid_internal_strconv_uint64pow10)] }
def OpsLimitsSaid : Prop := opsLimitsRow.holds Tryd.pinned (OpenSpec.ofChange opsLimitsSpec)

/-- ITS FALSE NEIGHBOUR: 'it returns false'. Refute it at one input. -/
def opsLimitsWrong : ChangeSpec := { name := "opsLimits", fn := fun _ => fun
  | [d1, d2, d3] => { results := [.lit (.bool false)], args := [d1, d2, d3] }
  | _ => none }
def OpsLimitsWrongFalsely : Prop := opsLimitsRow.holds Tryd.pinned (OpenSpec.ofChange opsLimitsWrong)

/-- 'gnomonlaw04.OpsTime': WHATEVER THE INPUT: true; the input reads as it did. -/
def opsTimeSpec : ChangeSpec := { name := "opsTime", fn := fun _ => fun
  | [d1, d2] => { results := [.lit (.bool true)], args := [d1, d2] }
  | _ => none }
def opsTimeRow : OpenClaim := { program := "ytidcnlecgcobmaadoor", sum := "68daeb39e8fb7ab7238ff07ed8e03e2eba109e66c35f14a979410adfd3ad593b", func := "gnomon/gnomonlaw04.OpsTime", spec := "opsTime", named := ["internal/strconv.uint64pow10", "math/bits.deBruijn32tab", "math/bits.deBruijn64tab"], apart := false, laid := [("math/bits.deBruijn32tab", laid_math_bits_deBruijn32tab), ("math/bits.deBruijn64tab", laid_math_bits_deBruijn64tab), ("internal/strconv.uint64pow10", laid_internal_strconv_uint64pow10)] }
def OpsTimeSaid : Prop := opsTimeRow.holds Tryd.pinned (OpenSpec.ofChange opsTimeSpec)

/-- ITS FALSE NEIGHBOUR: 'it returns false'. Refute it at one input. -/
def opsTimeWrong : ChangeSpec := { name := "opsTime", fn := fun _ => fun
  | [d1, d2] => { results := [.lit (.bool false)], args := [d1, d2] }
  | _ => none }
def OpsTimeWrongFalsely : Prop := opsTimeRow.holds Tryd.pinned (OpenSpec.ofChange opsTimeWrong)

/-- 'gnomonlaw04.OpsGuards': WHATEVER THE INPUT: true; the input reads as it did. -/
def opsGuardsSpec : ChangeSpec := { name := "opsGuards", fn := fun _ => fun
  | [d1, d2, d3] => { results := [.lit (.bool true)], args := [d1, d2, d3] }
  | _ => none }
def opsGuardsRow : OpenClaim := { program := "ytidcnlecgcobmaadoor", sum := "68daeb39e8fb7ab7238ff07ed8e03e2eba109e66c35f14a979410adfd3ad593b", func := "gnomon/gnomonlaw04.OpsGuards", spec := "opsGuards", named := ["internal/strconv.uint64pow10", "math/bits.deBruijn32tab", "math/bits.deBruijn64tab"], apart := false, laid := [("math/bits.deBruijn32tab", laid_math_bits_deBruijn32tab), ("math/bits.deBruijn64tab", laid_math_bits_deBruijn64tab), ("internal/strconv.uint64pow10", laid_internal_strconv_uint64pow10)] }
def OpsGuardsSaid : Prop := opsGuardsRow.holds Tryd.pinned (OpenSpec.ofChange opsGuardsSpec)

/-- ITS FALSE NEIGHBOUR: 'it returns false'. Refute it at one input. -/
def opsGuardsWrong : ChangeSpec := { name := "opsGuards", fn := fun _ => fun
  | [d1, d2, d3] => { results := [.lit (.bool false)], args := [d1, d2, d3] }
  | _ => none }
def OpsGuardsWrongFalsely : Prop := opsGuardsRow.holds Tryd.pinned (OpenSpec.ofChange opsGuardsWrong)

/-- 'gnomonlaw04.OpsHull': WHATEVER THE INPUT: true; the input reads as it did. -/
def opsHullSpec : ChangeSpec := { name := "opsHull", fn := fun _ => fun
  | [d1, d2, d3] => { results := [.lit (.bool true)], args := [d1, d2, d3] }
  | _ => none }
def opsHullRow : OpenClaim := { program := "ytidcnlecgcobmaadoor", sum := "68daeb39e8fb7ab7238ff07ed8e03e2eba109e66c35f14a979410adfd3ad593b", func := "gnomon/gnomonlaw04.OpsHull", spec := "opsHull", named := ["internal/strconv.uint64pow10", "math/bits.deBruijn32tab", "math/bits.deBruijn64tab"], apart := false, laid := [("math/bits.deBruijn32tab", laid_math_bits_deBruijn32tab), ("math/bits.deBruijn64tab", laid_math_bits_deBruijn64tab), ("internal/strconv.uint64pow10", laid_internal_strconv_uint64pow10)] }
def OpsHullSaid : Prop := opsHullRow.holds Tryd.pinned (OpenSpec.ofChange opsHullSpec)

/-- ITS FALSE NEIGHBOUR: 'it returns false'. Refute it at one input. -/
def opsHullWrong : ChangeSpec := { name := "opsHull", fn := fun _ => fun
  | [d1, d2, d3] => { results := [.lit (.bool false)], args := [d1, d2, d3] }
  | _ => none }
def OpsHullWrongFalsely : Prop := opsHullRow.holds Tryd.pinned (OpenSpec.ofChange opsHullWrong)

/-- 'gnomonlaw04.OpsJoins': WHATEVER THE INPUT: true; the input reads as it did. -/
def opsJoinsSpec : ChangeSpec := { name := "opsJoins", fn := fun _ => fun
  | [d1, d2, d3] => { results := [.lit (.bool true)], args := [d1, d2, d3] }
  | _ => none }
def opsJoinsRow : OpenClaim := { program := "ytidcnlecgcobmaadoor", sum := "68daeb39e8fb7ab7238ff07ed8e03e2eba109e66c35f14a979410adfd3ad593b", func := "gnomon/gnomonlaw04.OpsJoins", spec := "opsJoins", named := ["internal/strconv.uint64pow10", "math/bits.deBruijn32tab", "math/bits.deBruijn64tab"], apart := false, laid := [("math/bits.deBruijn32tab", laid_math_bits_deBruijn32tab), ("math/bits.deBruijn64tab", laid_math_bits_deBruijn64tab), ("internal/strconv.uint64pow10", laid_internal_strconv_uint64pow10)] }
def OpsJoinsSaid : Prop := opsJoinsRow.holds Tryd.pinned (OpenSpec.ofChange opsJoinsSpec)

/-- ITS FALSE NEIGHBOUR: 'it returns false'. Refute it at one input. -/
def opsJoinsWrong : ChangeSpec := { name := "opsJoins", fn := fun _ => fun
  | [d1, d2, d3] => { results := [.lit (.bool false)], args := [d1, d2, d3] }
  | _ => none }
def OpsJoinsWrongFalsely : Prop := opsJoinsRow.holds Tryd.pinned (OpenSpec.ofChange opsJoinsWrong)

/-- 'gnomonlaw04.OpsCells': WHATEVER THE INPUT: true; the input reads as it did. -/
def opsCellsSpec : ChangeSpec := { name := "opsCells", fn := fun _ => fun
  | [d1, d2, d3] => { results := [.lit (.bool true)], args := [d1, d2, d3] }
  | _ => none }
def opsCellsRow : OpenClaim := { program := "ytidcnlecgcobmaadoor", sum := "68daeb39e8fb7ab7238ff07ed8e03e2eba109e66c35f14a979410adfd3ad593b", func := "gnomon/gnomonlaw04.OpsCells", spec := "opsCells", unfollowed := true, recurses := true, named := ["internal/strconv.uint64pow10", "math/bits.deBruijn32tab", "math/bits.deBruijn64tab"], apart := false, laid := [("math/bits.deBruijn32tab", laid_math_bits_deBruijn32tab), ("math/bits.deBruijn64tab", laid_math_bits_deBruijn64tab), ("internal/strconv.uint64pow10", laid_internal_strconv_uint64pow10)] }
def OpsCellsSaid : Prop := opsCellsRow.holds Tryd.pinned (OpenSpec.ofChange opsCellsSpec)

/-- ITS FALSE NEIGHBOUR: 'it returns false'. Refute it at one input. -/
def opsCellsWrong : ChangeSpec := { name := "opsCells", fn := fun _ => fun
  | [d1, d2, d3] => { results := [.lit (.bool false)], args := [d1, d2, d3] }
  | _ => none }
def OpsCellsWrongFalsely : Prop := opsCellsRow.holds Tryd.pinned (OpenSpec.ofChange opsCellsWrong)

/-- 'gnomonlaw04.OpsTwice': WHATEVER THE INPUT: true; the input reads as it did. -/
def opsTwiceSpec : ChangeSpec := { name := "opsTwice", fn := fun _ => fun
  | [d1, d2, d3] => { results := [.lit (.bool true)], args := [d1, d2, d3] }
  | _ => none }
def opsTwiceRow : OpenClaim := { program := "ytidcnlecgcobmaadoor", sum := "68daeb39e8fb7ab7238ff07ed8e03e2eba109e66c35f14a979410adfd3ad593b", func := "gnomon/gnomonlaw04.OpsTwice", spec := "opsTwice", unfollowed := true, recurses := true, named := ["internal/strconv.uint64pow10", "math/bits.deBruijn32tab", "math/bits.deBruijn64tab"], apart := false, laid := [("math/bits.deBruijn32tab", laid_math_bits_deBruijn32tab), ("math/bits.deBruijn64tab", laid_math_bits_deBruijn64tab), ("internal/strconv.uint64pow10", laid_internal_strconv_uint64pow10)] }
def OpsTwiceSaid : Prop := opsTwiceRow.holds Tryd.pinned (OpenSpec.ofChange opsTwiceSpec)

/-- ITS FALSE NEIGHBOUR: 'it returns false'. Refute it at one input. -/
def opsTwiceWrong : ChangeSpec := { name := "opsTwice", fn := fun _ => fun
  | [d1, d2, d3] => { results := [.lit (.bool false)], args := [d1, d2, d3] }
  | _ => none }
def OpsTwiceWrongFalsely : Prop := opsTwiceRow.holds Tryd.pinned (OpenSpec.ofChange opsTwiceWrong)

/-- 'gnomonlaw04.OpsSets': WHATEVER THE INPUT: true; the input reads as it did. -/
def opsSetsSpec : ChangeSpec := { name := "opsSets", fn := fun _ => fun
  | [d1, d2, d3] => { results := [.lit (.bool true)], args := [d1, d2, d3] }
  | _ => none }
def opsSetsRow : OpenClaim := { program := "ytidcnlecgcobmaadoor", sum := "68daeb39e8fb7ab7238ff07ed8e03e2eba109e66c35f14a979410adfd3ad593b", func := "gnomon/gnomonlaw04.OpsSets", spec := "opsSets", unfollowed := true, recurses := true, named := ["internal/strconv.uint64pow10", "math/bits.deBruijn32tab", "math/bits.deBruijn64tab"], apart := false, laid := [("math/bits.deBruijn32tab", laid_math_bits_deBruijn32tab), ("math/bits.deBruijn64tab", laid_math_bits_deBruijn64tab), ("internal/strconv.uint64pow10", laid_internal_strconv_uint64pow10)] }
def OpsSetsSaid : Prop := opsSetsRow.holds Tryd.pinned (OpenSpec.ofChange opsSetsSpec)

/-- ITS FALSE NEIGHBOUR: 'it returns false'. Refute it at one input. -/
def opsSetsWrong : ChangeSpec := { name := "opsSets", fn := fun _ => fun
  | [d1, d2, d3] => { results := [.lit (.bool false)], args := [d1, d2, d3] }
  | _ => none }
def OpsSetsWrongFalsely : Prop := opsSetsRow.holds Tryd.pinned (OpenSpec.ofChange opsSetsWrong)

/-- 'gnomonlaw04.OpsPoints': WHATEVER THE INPUT: true; the input reads as it did. -/
def opsPointsSpec : ChangeSpec := { name := "opsPoints", fn := fun _ => fun
  | [d1, d2, d3] => { results := [.lit (.bool true)], args := [d1, d2, d3] }
  | _ => none }
def opsPointsRow : OpenClaim := { program := "ytidcnlecgcobmaadoor", sum := "68daeb39e8fb7ab7238ff07ed8e03e2eba109e66c35f14a979410adfd3ad593b", func := "gnomon/gnomonlaw04.OpsPoints", spec := "opsPoints", unfollowed := true, recurses := true, named := ["internal/strconv.uint64pow10", "math/bits.deBruijn32tab", "math/bits.deBruijn64tab"], apart := false, laid := [("math/bits.deBruijn32tab", laid_math_bits_deBruijn32tab), ("math/bits.deBruijn64tab", laid_math_bits_deBruijn64tab), ("internal/strconv.uint64pow10", laid_internal_strconv_uint64pow10)] }
def OpsPointsSaid : Prop := opsPointsRow.holds Tryd.pinned (OpenSpec.ofChange opsPointsSpec)

/-- ITS FALSE NEIGHBOUR: 'it returns false'. Refute it at one input. -/
def opsPointsWrong : ChangeSpec := { name := "opsPoints", fn := fun _ => fun
  | [d1, d2, d3] => { results := [.lit (.bool false)], args := [d1, d2, d3] }
  | _ => none }
def OpsPointsWrongFalsely : Prop := opsPointsRow.holds Tryd.pinned (OpenSpec.ofChange opsPointsWrong)

/-- 'gnomonlaw04.OpsNone': WHATEVER THE INPUT: true; the input reads as it did. -/
def opsNoneSpec : ChangeSpec := { name := "opsNone", fn := fun _ => fun
  | [d1, d2, d3] => { results := [.lit (.bool true)], args := [d1, d2, d3] }
  | _ => none }
def opsNoneRow : OpenClaim := { program := "ytidcnlecgcobmaadoor", sum := "68daeb39e8fb7ab7238ff07ed8e03e2eba109e66c35f14a979410adfd3ad593b", func := "gnomon/gnomonlaw04.OpsNone", spec := "opsNone", unfollowed := true, recurses := true, named := ["internal/strconv.uint64pow10", "math/bits.deBruijn32tab", "math/bits.deBruijn64tab"], apart := false, laid := [("math/bits.deBruijn32tab", laid_math_bits_deBruijn32tab), ("math/bits.deBruijn64tab", laid_math_bits_deBruijn64tab), ("internal/strconv.uint64pow10", laid_internal_strconv_uint64pow10)] }
def OpsNoneSaid : Prop := opsNoneRow.holds Tryd.pinned (OpenSpec.ofChange opsNoneSpec)

/-- ITS FALSE NEIGHBOUR: 'it returns false'. Refute it at one input. -/
def opsNoneWrong : ChangeSpec := { name := "opsNone", fn := fun _ => fun
  | [d1, d2, d3] => { results := [.lit (.bool false)], args := [d1, d2, d3] }
  | _ => none }
def OpsNoneWrongFalsely : Prop := opsNoneRow.holds Tryd.pinned (OpenSpec.ofChange opsNoneWrong)

/- THE SECOND FORM. 'bulk': how many values and letters a reading holds, each counted each time it is reached (what is shared counts as often as it is met; a slice's spare places count too). A statement '..UptoSaid' is the law's where the arguments, and the package variables that the reading takes, are together of bulk at most 1048576: NARROWER than '..Said'. Prove '..Said' where nothing that the law and all that it calls make is longer than what came in: it says more and counts as full. Else prove '..UptoSaid'. A law counts once. -/
mutual
def uptoBulk {H : Type} : DataW H → Nat
  | .lit (.string bytes) => bytes.length + 1
  | .lit _ => 1
  | .nil => 1
  | .ptr d => uptoBulk d + 1
  | .slice elems spare => uptoBulkAll elems + uptoBulkAll spare + 1
  | .agg parts => uptoBulkAll parts + 1
  | .iface _ d => uptoBulk d + 1
  | .map entries => uptoBulkEntries entries + 1
  | .held _ => 1
def uptoBulkAll {H : Type} : List (DataW H) → Nat
  | [] => 0
  | d :: r => uptoBulk d + uptoBulkAll r
def uptoBulkEntries {H : Type} : List (Lit × DataW H) → Nat
  | [] => 0
  | x :: r => uptoBulkEntry x + uptoBulkEntries r
def uptoBulkEntry {H : Type} : Lit × DataW H → Nat
  | (.string bytes, d) => bytes.length + uptoBulk d + 1
  | (_, d) => uptoBulk d + 1
 end
def uptoSmall : (H : Type) → List (DataW H) → Bool := fun _ ds => decide (uptoBulkAll ds ≤ 1048576)
def OpenSpec.upto (s : _root_.Go.ChangeSpec) : _root_.Go.OpenSpec := { _root_.Go.OpenSpec.ofChange s with cond := some uptoSmall }

/-- 'gnomonlaw04.OpsLimits', WHERE WHAT IT READS IS OF BULK AT MOST 1048576: true; the input reads as it did. -/
def opsLimitsUptoRow : OpenClaim := { program := "ytidcnlecgcobmaadoor", sum := "68daeb39e8fb7ab7238ff07ed8e03e2eba109e66c35f14a979410adfd3ad593b", func := "gnomon/gnomonlaw04.OpsLimits", spec := "opsLimits", named := ["internal/strconv.uint64pow10", "math/bits.deBruijn32tab", "math/bits.deBruijn64tab"], apart := false, laid := [("math/bits.deBruijn32tab", laid_math_bits_deBruijn32tab), ("math/bits.deBruijn64tab", laid_math_bits_deBruijn64tab), ("internal/strconv.uint64pow10", laid_internal_strconv_uint64pow10)], narrowed := true }
def OpsLimitsUptoSaid : Prop := opsLimitsUptoRow.holds Tryd.pinned (OpenSpec.upto opsLimitsSpec)

/-- 'gnomonlaw04.OpsTime', WHERE WHAT IT READS IS OF BULK AT MOST 1048576: true; the input reads as it did. -/
def opsTimeUptoRow : OpenClaim := { program := "ytidcnlecgcobmaadoor", sum := "68daeb39e8fb7ab7238ff07ed8e03e2eba109e66c35f14a979410adfd3ad593b", func := "gnomon/gnomonlaw04.OpsTime", spec := "opsTime", named := ["internal/strconv.uint64pow10", "math/bits.deBruijn32tab", "math/bits.deBruijn64tab"], apart := false, laid := [("math/bits.deBruijn32tab", laid_math_bits_deBruijn32tab), ("math/bits.deBruijn64tab", laid_math_bits_deBruijn64tab), ("internal/strconv.uint64pow10", laid_internal_strconv_uint64pow10)], narrowed := true }
def OpsTimeUptoSaid : Prop := opsTimeUptoRow.holds Tryd.pinned (OpenSpec.upto opsTimeSpec)

/-- 'gnomonlaw04.OpsGuards', WHERE WHAT IT READS IS OF BULK AT MOST 1048576: true; the input reads as it did. -/
def opsGuardsUptoRow : OpenClaim := { program := "ytidcnlecgcobmaadoor", sum := "68daeb39e8fb7ab7238ff07ed8e03e2eba109e66c35f14a979410adfd3ad593b", func := "gnomon/gnomonlaw04.OpsGuards", spec := "opsGuards", named := ["internal/strconv.uint64pow10", "math/bits.deBruijn32tab", "math/bits.deBruijn64tab"], apart := false, laid := [("math/bits.deBruijn32tab", laid_math_bits_deBruijn32tab), ("math/bits.deBruijn64tab", laid_math_bits_deBruijn64tab), ("internal/strconv.uint64pow10", laid_internal_strconv_uint64pow10)], narrowed := true }
def OpsGuardsUptoSaid : Prop := opsGuardsUptoRow.holds Tryd.pinned (OpenSpec.upto opsGuardsSpec)

/-- 'gnomonlaw04.OpsHull', WHERE WHAT IT READS IS OF BULK AT MOST 1048576: true; the input reads as it did. -/
def opsHullUptoRow : OpenClaim := { program := "ytidcnlecgcobmaadoor", sum := "68daeb39e8fb7ab7238ff07ed8e03e2eba109e66c35f14a979410adfd3ad593b", func := "gnomon/gnomonlaw04.OpsHull", spec := "opsHull", named := ["internal/strconv.uint64pow10", "math/bits.deBruijn32tab", "math/bits.deBruijn64tab"], apart := false, laid := [("math/bits.deBruijn32tab", laid_math_bits_deBruijn32tab), ("math/bits.deBruijn64tab", laid_math_bits_deBruijn64tab), ("internal/strconv.uint64pow10", laid_internal_strconv_uint64pow10)], narrowed := true }
def OpsHullUptoSaid : Prop := opsHullUptoRow.holds Tryd.pinned (OpenSpec.upto opsHullSpec)

/-- 'gnomonlaw04.OpsJoins', WHERE WHAT IT READS IS OF BULK AT MOST 1048576: true; the input reads as it did. -/
def opsJoinsUptoRow : OpenClaim := { program := "ytidcnlecgcobmaadoor", sum := "68daeb39e8fb7ab7238ff07ed8e03e2eba109e66c35f14a979410adfd3ad593b", func := "gnomon/gnomonlaw04.OpsJoins", spec := "opsJoins", named := ["internal/strconv.uint64pow10", "math/bits.deBruijn32tab", "math/bits.deBruijn64tab"], apart := false, laid := [("math/bits.deBruijn32tab", laid_math_bits_deBruijn32tab), ("math/bits.deBruijn64tab", laid_math_bits_deBruijn64tab), ("internal/strconv.uint64pow10", laid_internal_strconv_uint64pow10)], narrowed := true }
def OpsJoinsUptoSaid : Prop := opsJoinsUptoRow.holds Tryd.pinned (OpenSpec.upto opsJoinsSpec)

/-- 'gnomonlaw04.OpsCells', WHERE WHAT IT READS IS OF BULK AT MOST 1048576: true; the input reads as it did. -/
def opsCellsUptoRow : OpenClaim := { program := "ytidcnlecgcobmaadoor", sum := "68daeb39e8fb7ab7238ff07ed8e03e2eba109e66c35f14a979410adfd3ad593b", func := "gnomon/gnomonlaw04.OpsCells", spec := "opsCells", unfollowed := true, recurses := true, named := ["internal/strconv.uint64pow10", "math/bits.deBruijn32tab", "math/bits.deBruijn64tab"], apart := false, laid := [("math/bits.deBruijn32tab", laid_math_bits_deBruijn32tab), ("math/bits.deBruijn64tab", laid_math_bits_deBruijn64tab), ("internal/strconv.uint64pow10", laid_internal_strconv_uint64pow10)], narrowed := true }
def OpsCellsUptoSaid : Prop := opsCellsUptoRow.holds Tryd.pinned (OpenSpec.upto opsCellsSpec)

/-- 'gnomonlaw04.OpsTwice', WHERE WHAT IT READS IS OF BULK AT MOST 1048576: true; the input reads as it did. -/
def opsTwiceUptoRow : OpenClaim := { program := "ytidcnlecgcobmaadoor", sum := "68daeb39e8fb7ab7238ff07ed8e03e2eba109e66c35f14a979410adfd3ad593b", func := "gnomon/gnomonlaw04.OpsTwice", spec := "opsTwice", unfollowed := true, recurses := true, named := ["internal/strconv.uint64pow10", "math/bits.deBruijn32tab", "math/bits.deBruijn64tab"], apart := false, laid := [("math/bits.deBruijn32tab", laid_math_bits_deBruijn32tab), ("math/bits.deBruijn64tab", laid_math_bits_deBruijn64tab), ("internal/strconv.uint64pow10", laid_internal_strconv_uint64pow10)], narrowed := true }
def OpsTwiceUptoSaid : Prop := opsTwiceUptoRow.holds Tryd.pinned (OpenSpec.upto opsTwiceSpec)

/-- 'gnomonlaw04.OpsSets', WHERE WHAT IT READS IS OF BULK AT MOST 1048576: true; the input reads as it did. -/
def opsSetsUptoRow : OpenClaim := { program := "ytidcnlecgcobmaadoor", sum := "68daeb39e8fb7ab7238ff07ed8e03e2eba109e66c35f14a979410adfd3ad593b", func := "gnomon/gnomonlaw04.OpsSets", spec := "opsSets", unfollowed := true, recurses := true, named := ["internal/strconv.uint64pow10", "math/bits.deBruijn32tab", "math/bits.deBruijn64tab"], apart := false, laid := [("math/bits.deBruijn32tab", laid_math_bits_deBruijn32tab), ("math/bits.deBruijn64tab", laid_math_bits_deBruijn64tab), ("internal/strconv.uint64pow10", laid_internal_strconv_uint64pow10)], narrowed := true }
def OpsSetsUptoSaid : Prop := opsSetsUptoRow.holds Tryd.pinned (OpenSpec.upto opsSetsSpec)

/-- 'gnomonlaw04.OpsPoints', WHERE WHAT IT READS IS OF BULK AT MOST 1048576: true; the input reads as it did. -/
def opsPointsUptoRow : OpenClaim := { program := "ytidcnlecgcobmaadoor", sum := "68daeb39e8fb7ab7238ff07ed8e03e2eba109e66c35f14a979410adfd3ad593b", func := "gnomon/gnomonlaw04.OpsPoints", spec := "opsPoints", unfollowed := true, recurses := true, named := ["internal/strconv.uint64pow10", "math/bits.deBruijn32tab", "math/bits.deBruijn64tab"], apart := false, laid := [("math/bits.deBruijn32tab", laid_math_bits_deBruijn32tab), ("math/bits.deBruijn64tab", laid_math_bits_deBruijn64tab), ("internal/strconv.uint64pow10", laid_internal_strconv_uint64pow10)], narrowed := true }
def OpsPointsUptoSaid : Prop := opsPointsUptoRow.holds Tryd.pinned (OpenSpec.upto opsPointsSpec)

/-- 'gnomonlaw04.OpsNone', WHERE WHAT IT READS IS OF BULK AT MOST 1048576: true; the input reads as it did. -/
def opsNoneUptoRow : OpenClaim := { program := "ytidcnlecgcobmaadoor", sum := "68daeb39e8fb7ab7238ff07ed8e03e2eba109e66c35f14a979410adfd3ad593b", func := "gnomon/gnomonlaw04.OpsNone", spec := "opsNone", unfollowed := true, recurses := true, named := ["internal/strconv.uint64pow10", "math/bits.deBruijn32tab", "math/bits.deBruijn64tab"], apart := false, laid := [("math/bits.deBruijn32tab", laid_math_bits_deBruijn32tab), ("math/bits.deBruijn64tab", laid_math_bits_deBruijn64tab), ("internal/strconv.uint64pow10", laid_internal_strconv_uint64pow10)], narrowed := true }
def OpsNoneUptoSaid : Prop := opsNoneUptoRow.holds Tryd.pinned (OpenSpec.upto opsNoneSpec)

end Rows
end Go.Proofs.YtidcnlecgcobmaaDoor
